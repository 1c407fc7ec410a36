/- One operation of the abstract program logic as a function, and that the model does the same: numbers, addresses, loads, stores, new memory. No Go text in it. -/
import Derived.Test.YtkjfdacjjogpcaaPiOps
import Derived.Laws.StructEq
import Derived.Laws.Pointers
import Derived.Laws.Cover3
set_option linter.unusedVariables false
set_option linter.unusedSimpArgs false
namespace Go.Proofs.YtkjfdacjjogpcaaPi
variable {P : Program}

def evalPV (st : ASt) : Operand → Option PV
 | .tmp t => eget st.env t
 | .const v => some (zeroPV v)
 | .func f => some (.fn f [])
 | .global _ => none
theorem zeroPV_rel (F : Fz) (bs : Bns) (fr : Frs) (v : Value) : VRel F bs fr (zeroPV v) v := by
 unfold zeroPV
 split <;> simp only [VRel, IRel]
theorem evalPV_rel {n : Nat} {F : Fz} {bs : Bns} {st : ASt} {a : Act} {w : World} (h : ARel n F bs st a w) {x : Operand} {y : PV} (he : evalPV st x = some y) : VRel F bs st.fr y (a.eval x) := by
 cases x with
 | tmp t => exact (h.env t y he).2
 | const v => simp only [evalPV, Option.some.injEq] at he; subst he; exact zeroPV_rel ..
 | global g => simp [evalPV] at he
 | func f =>
  simp only [evalPV, Option.some.injEq] at he
  subst he
  simp only [VRel, VRels]
  exact ⟨#[], rfl, rfl⟩

/-! ### numbers, bools, strings -/
def binInt (op : BinOp) (k : IntKind) (a b : Int) : Option Im :=
 match op with
 | .add => some (.int k (k.wrap (a + b)))
 | .sub => some (.int k (k.wrap (a - b)))
 | .mul => some (.int k (k.wrap (a * b)))
 | .quo => if b = 0 then none else some (.int k (k.wrap (a.tdiv b)))
 | .rem => if b = 0 then none else some (.int k (a.tmod b))
 | .and => some (.int k (bits .and k a b))
 | .or => some (.int k (bits .or k a b))
 | .xor => some (.int k (bits .xor k a b))
 | .andNot => some (.int k (bits .andNot k a b))
 | .eql => some (.bool (a == b))
 | .neq => some (.bool (a != b))
 | .lss => some (.bool (decide (a < b)))
 | .leq => some (.bool (decide (a ≤ b)))
 | .gtr => some (.bool (decide (b < a)))
 | .geq => some (.bool (decide (b ≤ a)))
 | _ => none
def binStr (op : BinOp) (a b : ByteArray) : Option Im :=
 match op with
 | .add => if a.size + b.size ≤ 9223372036854775807 then some (.str (a ++ b)) else none
 | .eql => some (.bool (a.toList == b.toList))
 | .neq => some (.bool !(a.toList == b.toList))
 | _ => none
def intT (P : Program) (t : TypeId) : Option IntKind := match P.underlying t with
 | some (.int k) => some k
 | _ => none
def stringT (P : Program) (t : TypeId) : Bool := match P.underlying t with
 | some .string => true
 | _ => false
/-! ### structs of numbers, bools and strings: equality -/
def scalT (P : Program) (t : TypeId) : Bool := match P.underlying t with
 | some (.int _) => true
 | some .bool => true
 | some .string => true
 | _ => false
def flatFs (P : Program) : Nat → List Field → Option (List TypeId)
 | _, [] => some []
 | i, f :: fs => if f.name ≠ "_" ∧ f.offset = i ∧ scalT P f.type = true then (flatFs P (i + 1) fs).map (f.type :: ·) else none
def eqsT (P : Program) (t : TypeId) : Option (List TypeId) := match P.underlying t with
 | some (.struct fs) => if P.stoodInHeld t = false ∧ P.eqGuardType P.depth t = false then flatFs P 0 fs.toList else none
 | _ => none
def boolT (P : Program) (t : TypeId) : Bool := match P.underlying t with
 | some .bool => true
 | _ => false
def eqIms (P : Program) : List TypeId → List PV → List PV → Option Bool
 | [], [], [] => some true
 | t :: ts, .im (.int k a) :: xs, .im (.int k' b) :: ys => if (intT P t).isSome ∧ k = k' then (eqIms P ts xs ys).map fun r => (a == b) && r else none
 | t :: ts, .im (.bool a) :: xs, .im (.bool b) :: ys => if boolT P t then (eqIms P ts xs ys).map fun r => (a == b) && r else none
 | t :: ts, .im (.str a) :: xs, .im (.str b) :: ys => if stringT P t then (eqIms P ts xs ys).map fun r => (a.toList == b.toList) && r else none
 | _, _, _ => none
theorem intT_some {t : TypeId} {k : IntKind} (h : intT P t = some k) : P.underlying t = some (.int k) := by
 unfold intT at h
 split at h
 ·rename_i hd; simp at h; subst h; exact hd
 ·simp at h
theorem boolT_some {t : TypeId} (h : boolT P t = true) : P.underlying t = some .bool := by
 unfold boolT at h
 split at h
 ·rename_i hd; exact hd
 ·simp at h
theorem stringT_is {t : TypeId} (h : stringT P t = true) : P.underlying t = some .string := by
 unfold stringT at h
 split at h
 ·rename_i hd; exact hd
 ·simp at h
theorem run_part_scal {t : TypeId} (h : scalT P t = true) (cs : Array Value) (off : Nat) (v : Value) (hv : cs[off]? = some v) (w : World) : (part t cs off).run P w = .ok v w := by
 have ha : (isAgg t).run P w = .ok false w := by
  unfold scalT at h
  split at h <;> first
   | (rename_i hd; simp [isAgg, run_underlying hd])
   | (rename_i k hd; simp [isAgg, run_underlying hd])
   | simp at h
 simp [part, ha, hv]
theorem eqFields_ok {F : Fz} {bs : Bns} {fr : Frs} (d : Nat) (va vb : Array Value) (w : World) : ∀ (fs : List Field) (i : Nat) (ts : List TypeId) (xs ys : List PV) (r : Bool), flatFs P i fs = some ts →
  VRels F bs fr xs (va.toList.drop i) → VRels F bs fr ys (vb.toList.drop i) → eqIms P ts xs ys = some r → (Op.eqFields (d + 1) va vb fs).run P w = .ok r w
 | [], i, ts, xs, ys, r, hf, hx, hy, h => by
  simp only [flatFs, Option.some.injEq] at hf
  subst hf
  cases xs <;> cases ys <;> simp [eqIms] at h
  subst h
  rfl
 | f :: fs, i, ts, xs, ys, r, hf, hx, hy, h => by
  simp only [flatFs] at hf
  split at hf
  ·rename_i hc
   obtain ⟨hc1, hc2, hc3⟩ := hc
   simp only [Option.map_eq_some_iff] at hf
   obtain ⟨ts', hf, rfl⟩ := hf
   have step : ∀ (x y : PV) (xs' ys' : List PV) (e : Bool) (r' : Bool), xs = x :: xs' → ys = y :: ys' → r = (e && r') → eqIms P ts' xs' ys' = some r' →
     (∀ u v, VRel F bs fr x u → VRel F bs fr y v → (Op.equalIn (d + 1) f.type u v).run P w = .ok e w) → (Op.eqFields (d + 1) va vb (f :: fs)).run P w = .ok r w := by
    rintro x y xs' ys' e r' rfl rfl rfl hr he
    simp only [VRels] at hx hy
    obtain ⟨u, us, hu, hu1, hu2⟩ := hx
    obtain ⟨v, vs, hv, hv1, hv2⟩ := hy
    have gu : va[i]? = some u := by
     have := congrArg (fun l => l[0]?) hu
     simpa using this
    have gv : vb[i]? = some v := by
     have := congrArg (fun l => l[0]?) hv
     simpa using this
    have ru : va.toList.drop (i + 1) = us := by rw [← List.tail_drop, hu]; rfl
    have rv : vb.toList.drop (i + 1) = vs := by rw [← List.tail_drop, hv]; rfl
    have ih := eqFields_ok (F := F) (bs := bs) (fr := fr) d va vb w fs (i + 1) ts' xs' ys' r' hf (by rw [ru]; exact hu2) (by rw [rv]; exact hv2) hr
    simp only [Op.eqFields, if_pos hc1, Sem.run_bind, hc2, run_part_scal hc3 va i u gu w, run_part_scal hc3 vb i v gv w, he u v hu1 hv1, Result.andThen_ok]
    cases e
    ·simp
    ·simpa using ih
   unfold eqIms at h
   split at h
   ·simp at *
   ·rename_i t ts1 k a xs1 k' b ys1 heq
    simp only [List.cons.injEq] at heq
    obtain ⟨rfl, rfl⟩ := heq
    split at h
    ·rename_i hs
     obtain ⟨hs, rfl⟩ := hs
     obtain ⟨kk, hk⟩ := Option.isSome_iff_exists.1 hs
     simp only [Option.map_eq_some_iff] at h
     obtain ⟨r', h1, h2⟩ := h
     refine step _ _ _ _ _ r' rfl rfl h2.symm h1 fun u v hu hv => ?_
     simp only [VRel, IRel] at hu hv
     subst hu hv
     exact run_equalIn_int w d _ k kk a b (intT_some hk)
    ·simp at h
   ·rename_i t ts1 a xs1 b ys1 heq
    simp only [List.cons.injEq] at heq
    obtain ⟨rfl, rfl⟩ := heq
    split at h
    ·rename_i hs
     simp only [Option.map_eq_some_iff] at h
     obtain ⟨r', h1, h2⟩ := h
     refine step _ _ _ _ _ r' rfl rfl h2.symm h1 fun u v hu hv => ?_
     simp only [VRel, IRel] at hu hv
     subst hu hv
     exact run_equalIn_bool' w d _ a b (boolT_some hs)
    ·simp at h
   ·rename_i t ts1 a xs1 b ys1 heq
    simp only [List.cons.injEq] at heq
    obtain ⟨rfl, rfl⟩ := heq
    split at h
    ·rename_i hs
     simp only [Option.map_eq_some_iff] at h
     obtain ⟨r', h1, h2⟩ := h
     refine step _ _ _ _ _ r' rfl rfl h2.symm h1 fun u v hu hv => ?_
     simp only [VRel, IRel] at hu hv
     subst hu hv
     exact run_equalIn_string w d _ a b (stringT_is hs)
    ·simp at h
   ·simp at h
  ·simp at hf
theorem equal_ok {F : Fz} {bs : Bns} {fr : Frs} {t : TypeId} {ts : List TypeId} {xs ys : List PV} {va vb : Array Value} {r : Bool} (ht : eqsT P t = some ts) (hx : VRels F bs fr xs va.toList) (hy : VRels F bs fr ys vb.toList) (h : eqIms P ts xs ys = some r) (w : World) :
  (Op.equalIn 10000 t (.agg va) (.agg vb)).run P w = .ok r w ∧ P.eqGuardType P.depth t = false := by
 unfold eqsT at ht
 split at ht
 ·rename_i fs hu
  split at ht
  ·rename_i hc
   have hfo : P.fieldsOf t = fs := by simp [Program.fieldsOf, hu]
   refine ⟨?_, hc.2⟩
   rw [show (10000 : Nat) = 9999 + 1 from rfl, run_equalIn_agg w 9999 t va vb (by rw [hfo]; exact hu) hc.1, hfo]
   exact eqFields_ok (F := F) (bs := bs) (fr := fr) 9998 va vb w fs.toList 0 ts xs ys r ht (by simpa using hx) (by simpa using hy) h
  ·simp at ht
 ·simp at ht
def ptrT (P : Program) (t : TypeId) : Bool := match P.underlying t with
 | some (.pointer _) => true
 | _ => false
theorem ptrT_some {t : TypeId} (h : ptrT P t = true) : P.underlying t = some (.pointer (P.pointee t)) := by
 unfold ptrT at h
 split at h
 ·rename_i e hd; simp [Program.pointee, hd]
 ·simp at h
def sliceT (P : Program) (t : TypeId) : Bool := match P.underlying t with
 | some (.slice _) => true
 | _ => false
def binPV (P : Program) (op : BinOp) (t : TypeId) (x y : PV) : Option PV :=
 match x, y with
 | .im (.int k a), .im (.int k' b) => match op with
  | .shl => if b < 0 then none else some (.im (.int k (k.wrap (a * 2 ^ (min b.toNat k.bits)))))
  | .shr => if b < 0 then none else some (.im (.int k (a.fdiv (2 ^ (min b.toNat k.bits)))))
  | op => if k = k' then (binInt op k a b).map .im else none
 | .im (.str a), .im (.str b) => (binStr op a b).map .im
 | .im (.bool a), .im (.bool b) => if boolT P t then (match op with
   | .eql => some (.im (.bool (a == b)))
   | .neq => some (.im (.bool (!(a == b))))
   | _ => none) else none
 | .im (.sl rows), .nils => if sliceT P t then (match op, rows with
   | .eql, [] => some .abool
   | .eql, _ :: _ => some (.im (.bool false))
   | .neq, [] => some .abool
   | .neq, _ :: _ => some (.im (.bool true))
   | _, _ => none) else none
 | .ptr _ _ _, .nilp => if ptrT P t then (match op with
   | .eql => some (.im (.bool false))
   | .neq => some (.im (.bool true))
   | _ => none) else none
 | .agg xs, .agg ys => (match eqsT P t, op with
  | some ts, .eql => (eqIms P ts xs ys).map fun b => .im (.bool b)
  | some ts, .neq => (eqIms P ts xs ys).map fun b => .im (.bool !b)
  | _, _ => none)
 | _, _ => none
theorem binInt_ok {op : BinOp} {k : IntKind} {a b : Int} {r : Im} {t : TypeId} (h : binInt op k a b = some r) (h1 : op ≠ .shl) (h2 : op ≠ .shr) (w : World) (F : Fz) :
  ∃ v, (binOp op t (.int k a) (.int k b)).run P w = .ok v w ∧ IRel F r v := by
 have e1 : IntKind.i64.max = 9223372036854775807 := by decide
 cases op <;> simp only [binInt, Option.some.injEq, reduceCtorEq, Option.ite_none_left_eq_some] at h h1 h2 <;> try contradiction
 all_goals first
  | (subst h; simp [binOp, Op.intArith, Op.intCmp, Op.intBits, bits, IRel])
  | (obtain ⟨h0, rfl⟩ := h; simp [binOp, Op.intDiv, h0, IRel])
  | (obtain ⟨h0, h⟩ := h; subst h; simp [binOp, Op.intDiv, h0, IRel])
theorem binStr_ok {op : BinOp} {a b : ByteArray} {r : Im} {t : TypeId} (h : binStr op a b = some r) (w : World) (F : Fz) :
  ∃ v, (binOp op t (.string a) (.string b)).run P w = .ok v w ∧ IRel F r v := by
 have e1 : IntKind.i64.max = 9223372036854775807 := by decide
 cases op <;> simp only [binStr, Option.some.injEq, reduceCtorEq, Option.ite_none_right_eq_some] at h
 ·obtain ⟨h0, rfl⟩ := h
  have h1 : ¬ (((a.size + b.size : Nat) : Int) > IntKind.i64.max) := by rw [e1]; omega
  simp only [binOp, Op.stringOp, h1, if_false]
  simp [IRel]
 ·subst h; simp [binOp, Op.stringOp, IRel]
 ·subst h; simp [binOp, Op.stringOp, IRel]
theorem run_eqGuard (op : BinOp) (t : TypeId) (x y : Operand) (a b : Value) (w : World) (h : a ≠ .nilIface) (h2 : ∀ c, a ≠ .agg c) : (eqGuard op t x y a b).run P w = .ok () w := by
 unfold eqGuard
 cases op <;> simp [pure] <;> (cases a <;> simp_all)
theorem IRel.plain {F : Fz} {x : Im} {v : Value} (h : IRel F x v) : v ≠ .nilIface ∧ ∀ c, v ≠ .agg c := by
 cases x <;> simp only [IRel] at h
 ·subst h; simp
 ·subst h; simp
 ·subst h; simp
 ·obtain ⟨A, c, rfl, _⟩ := h; simp
theorem bin_ok {op : BinOp} {t : TypeId} {x y z : PV} {F : Fz} {bs : Bns} {fr : Frs} {vx vy : Value} (ox oy : Operand) (h : binPV P op t x y = some z) (hx : VRel F bs fr x vx) (hy : VRel F bs fr y vy) (w : World) :
  ∃ v, (do eqGuard op t ox oy vx vy; binOp op t vx vy : Sem Value).run P w = .ok v w ∧ VRel F bs fr z v := by
 have hg : (eqGuard op t ox oy vx vy).run P w = .ok () w := by
  unfold binPV at h
  split at h <;> first
   | (simp only [VRel] at hx; exact run_eqGuard _ _ _ _ _ _ _ hx.plain.1 hx.plain.2)
   | skip
  ·simp only [VRel] at hx
   obtain ⟨b, k, cs, _, _, rfl⟩ := hx
   exact run_eqGuard _ _ _ _ _ _ _ (by simp) (by simp)
  ·simp only [VRel] at hx hy
   obtain ⟨va, rfl, hx⟩ := hx
   obtain ⟨vb, rfl, hy⟩ := hy
   split at h
   ·rename_i ts hts
    simp only [Option.map_eq_some_iff] at h
    obtain ⟨r, hr, rfl⟩ := h
    exact run_eqGuard_agg w _ t ox oy va vb (equal_ok hts hx hy hr w).2
   ·rename_i ts hts
    simp only [Option.map_eq_some_iff] at h
    obtain ⟨r, hr, rfl⟩ := h
    exact run_eqGuard_agg w _ t ox oy va vb (equal_ok hts hx hy hr w).2
   ·simp at h
  ·simp at h
 simp only [Sem.run_bind, hg, Result.andThen_ok]
 unfold binPV at h
 split at h
 ·rename_i k a k' b
  simp only [VRel, IRel] at hx hy
  subst hx hy
  split at h
  ·split at h
   ·simp at h
   ·rename_i hb
    simp only [Option.some.injEq] at h
    subst h
    exact ⟨.int k (k.wrap (a * 2 ^ (min b.toNat k.bits))), by simp [binOp, Op.shift, hb], by simp [VRel, IRel]⟩
  ·split at h
   ·simp at h
   ·rename_i hb
    simp only [Option.some.injEq] at h
    subst h
    exact ⟨.int k (a.fdiv (2 ^ (min b.toNat k.bits))), by simp [binOp, Op.shift, hb], by simp [VRel, IRel]⟩
  ·rename_i h1 h2
   split at h
   ·rename_i hk
    subst hk
    simp only [Option.map_eq_some_iff] at h
    obtain ⟨r, hr, rfl⟩ := h
    obtain ⟨v, h3, h4⟩ := binInt_ok (P := P) (t := t) hr (fun e => h1 e) (fun e => h2 e) w F
    exact ⟨v, h3, by simpa only [VRel] using h4⟩
   ·simp at h
 ·simp only [VRel, IRel] at hx hy
  subst hx hy
  simp only [Option.map_eq_some_iff] at h
  obtain ⟨r, hr, rfl⟩ := h
  obtain ⟨v, h3, h4⟩ := binStr_ok (P := P) (t := t) hr w F
  exact ⟨v, h3, by simpa only [VRel] using h4⟩
 ·simp only [VRel, IRel] at hx hy
  subst hx hy
  split at h
  ·rename_i hb
   have hu : P.underlying t = some .bool := by
    unfold boolT at hb
    split at hb
    ·rename_i hh; exact hh
    ·simp at hb
   split at h <;> simp only [Option.some.injEq, reduceCtorEq] at h
   ·subst h
    exact ⟨_, run_eql_bool w t _ _ hu, by simp [VRel, IRel]⟩
   ·subst h
    exact ⟨_, (by simp only [binOp, Sem.run_bind, run_equal_bool w t _ _ hu, Result.andThen_ok, Sem.run_pure]; rfl), by simp [VRel, IRel]⟩
  ·simp at h
 ·rename_i rows
  simp only [VRel, IRel] at hx hy
  obtain ⟨A, c, rfl, h1, h2⟩ := hx
  split at h
  ·rename_i hb
   have hu : ∃ e, P.underlying t = some (.slice e) := by
    unfold sliceT at hb
    split at hb
    ·rename_i e hh; exact ⟨e, hh⟩
    ·simp at hb
   obtain ⟨e, hu⟩ := hu
   subst hy
   have k1 := run_equal_slice_nil (P := P) w t e A rows.length c hu
   split at h <;> simp only [Option.some.injEq, reduceCtorEq] at h
   ·subst h
    exact ⟨_, (by simp only [binOp, Sem.run_bind, k1, Result.andThen_ok, Sem.run_pure]; rfl), by simp [VRel]⟩
   ·subst h
    obtain ⟨b, o, rfl, _⟩ := h2 (by simp)
    exact ⟨_, (by simp only [binOp, Sem.run_bind, k1, Result.andThen_ok, Sem.run_pure]; rfl), by simp [VRel, IRel]⟩
   ·subst h
    exact ⟨_, (by simp only [binOp, Sem.run_bind, k1, Result.andThen_ok, Sem.run_pure]; rfl), by simp [VRel]⟩
   ·subst h
    obtain ⟨b, o, rfl, _⟩ := h2 (by simp)
    exact ⟨_, (by simp only [binOp, Sem.run_bind, k1, Result.andThen_ok, Sem.run_pure]; rfl), by simp [VRel, IRel]⟩
  ·simp at h
 ·simp only [VRel] at hx hy
  obtain ⟨b, k, cs, _, _, rfl⟩ := hx
  subst hy
  split at h
  ·rename_i hp
   have k1 := fun p => run_equal_pointer_nil (P := P) w t p (ptrT_some hp)
   split at h <;> simp only [Option.some.injEq, reduceCtorEq] at h
   ·subst h
    exact ⟨_, (by simp only [binOp, Sem.run_bind, k1, Result.andThen_ok, Sem.run_pure]; rfl), by simp [VRel, IRel]⟩
   ·subst h
    exact ⟨_, (by simp only [binOp, Sem.run_bind, k1, Result.andThen_ok, Sem.run_pure]; rfl), by simp [VRel, IRel]⟩
  ·simp at h
 ·simp only [VRel] at hx hy
  obtain ⟨va, rfl, hx⟩ := hx
  obtain ⟨vb, rfl, hy⟩ := hy
  split at h
  ·rename_i ts hts
   simp only [Option.map_eq_some_iff] at h
   obtain ⟨r, hr, rfl⟩ := h
   exact ⟨.bool r, by rw [run_eql_struct, (equal_ok hts hx hy hr w).1]; rfl, by simp [VRel, IRel]⟩
  ·rename_i ts hts
   simp only [Option.map_eq_some_iff] at h
   obtain ⟨r, hr, rfl⟩ := h
   exact ⟨.bool (!r), by rw [run_neq_struct, (equal_ok hts hx hy hr w).1]; rfl, by simp [VRel, IRel]⟩
  ·simp at h
 ·simp at h

def unPV : UnOp → PV → Option PV
 | .neg, .im (.int k n) => some (.im (.int k (k.wrap (0 - n))))
 | .xor, .im (.int k n) => some (.im (.int k (bits .xor k (if k.signed then -1 else k.max) n)))
 | .not, .im (.bool b) => some (.im (.bool !b))
 | _, _ => none
theorem un_ok {op : UnOp} {x z : PV} {F : Fz} {bs : Bns} {fr : Frs} {vx : Value} (h : unPV op x = some z) (hx : VRel F bs fr x vx) (w : World) : ∃ v, (Op.unary op vx).run P w = .ok v w ∧ VRel F bs fr z v := by
 unfold unPV at h
 split at h <;> simp only [Option.some.injEq, reduceCtorEq] at h
 all_goals
  simp only [VRel, IRel] at hx
  subst hx h
 ·exact ⟨_, by simp [Op.unary, Op.intArith]; rfl, by simp [VRel, IRel]⟩
 ·exact ⟨_, by simp [Op.unary, Op.intBits]; rfl, by simp [VRel, IRel, bits]⟩
 ·exact ⟨_, by simp [Op.unary]; rfl, by simp [VRel, IRel]⟩
def convPV (P : Program) (src dst : TypeId) : PV → Option PV
 | .im (.int k n) => match P.underlying src with
  | some _ => (intT P dst).map (fun k' => .im (.int k' (k'.wrap n)))
  | none => none
 | .im (.str s) => match P.underlying src with
  | some .string => if stringT P dst then some (.im (.str s)) else none
  | _ => none
 | _ => none
theorem conv_ok {src dst : TypeId} {x z : PV} {F : Fz} {bs : Bns} {fr : Frs} {vx : Value} (h : convPV P src dst x = some z) (hx : VRel F bs fr x vx) (w : World) : ∃ v, (convert src dst vx).run P w = .ok v w ∧ VRel F bs fr z v := by
 unfold convPV at h
 split at h
 ·simp only [VRel, IRel] at hx
  subst hx
  split at h
  ·rename_i d hd
   simp only [Option.map_eq_some_iff] at h
   obtain ⟨k', hk, rfl⟩ := h
   have hu : P.underlying dst = some (.int k') := by
    unfold intT at hk
    split at hk
    ·rename_i hh; simp at hk; subst hk; exact hh
    ·simp at hk
   exact ⟨_, by simp [convert, run_underlying hd, run_underlying hu, Conv.intToInt]; rfl, by simp [VRel, IRel]⟩
  ·simp at h
 ·simp only [VRel, IRel] at hx
  subst hx
  split at h
  ·rename_i hd
   split at h
   ·rename_i hs
    simp only [Option.some.injEq] at h
    subst h
    have hu : P.underlying dst = some .string := by
     unfold stringT at hs
     split at hs
     ·rename_i hh; exact hh
     ·simp at hs
    exact ⟨_, by simp [convert, run_underlying hd, run_underlying hu]; rfl, by simp [VRel, IRel]⟩
   ·simp at h
  ·simp at h
 ·simp at h

/-! ### addresses -/
def fieldAddrPV (P : Program) (s : TypeId) (f : Nat) (x : PV) : Option PV :=
 match fieldT P s f with
 | some (o, n + 1) => (match x with
  | .ptr d j off => some (.ptr d j (off + o))
  | .rptr d j m i off => some (.rptr d j m i (off + o))
  | .iptr cs => some (.iptr (cs.drop o))
  | _ => none)
 | _ => none
theorem ICells.drop {F : Fz} {b : Nat} {cs : List Im} {o : Nat} (h : ICells F b o cs) (n : Nat) : ICells F b (o + n) (cs.drop n) :=
 ICells.mk (fun j x hx => by
  rw [List.getElem?_drop] at hx
  rw [Nat.add_assoc]
  exact h.get (n + j) x hx)
theorem run_fieldAt {s f o n : Nat} (h : fieldT P s f = some (o, n + 1)) (w : World) (p : Addr) (hp : p.spot = none) : (Instr.fieldAt s (.pointer (some p)) f).run P w = .ok (.pointer (some ⟨p.block, p.off + o, none⟩)) w := by
 unfold fieldT at h
 split at h
 ·rename_i fs hu
  split at h
  ·rename_i x hx
   simp only [Option.map_eq_some_iff, Prod.mk.injEq] at h
   obtain ⟨m, hm, rfl, rfl⟩ := h
   obtain ⟨b, q, sp⟩ := p
   simp only at hp
   subst hp
   simp [Instr.fieldAt, run_underlying hu, hx, Instr.sureAddr, fieldPlace, run_sizeT hm, add_none]
  ·simp at h
 ·simp at h
theorem fieldAddr_ok {s : TypeId} {f : Nat} {x z : PV} {F : Fz} {bs : Bns} {fr : Frs} {vx : Value} (h : fieldAddrPV P s f x = some z) (hx : VRel F bs fr x vx) (w : World) : ∃ v, (Instr.fieldAt s vx f).run P w = .ok v w ∧ VRel F bs fr z v := by
 unfold fieldAddrPV at h
 split at h
 ·rename_i o n hf
  split at h <;> simp only [Option.some.injEq, reduceCtorEq] at h
  ·subst h
   simp only [VRel] at hx
   obtain ⟨b, k, cs, h1, h2, rfl⟩ := hx
   exact ⟨_, run_fieldAt hf w _ rfl, by simp only [VRel]; exact ⟨b, k, cs, h1, h2, rfl⟩⟩
  ·subst h
   simp only [VRel] at hx
   obtain ⟨p, t, sz, rows, fz, a, rfl, h1, h2, h3, h4, h5⟩ := hx
   exact ⟨_, run_fieldAt hf w _ h1, by simp only [VRel]; exact ⟨_, t, sz, rows, fz, a, rfl, rfl, h2, h3, h4, fun e => by obtain ⟨b, h6, rfl⟩ := h5 e; exact ⟨b, h6, by simp [Nat.add_assoc]⟩⟩⟩
  ·subst h
   simp only [VRel] at hx
   obtain ⟨b, q, rfl, h1⟩ := hx
   exact ⟨_, run_fieldAt hf w _ rfl, by simp only [VRel]; exact ⟨b, q + o, rfl, h1.drop o⟩⟩
 ·simp at h
def indexAddrPV (P : Program) (fr : Frs) (t : TypeId) (x i : PV) : Option PV :=
 match i with
 | .im (.int _ i) => if 0 ≤ i then (match elemT P t with
   | some e => (match sizeT P e with
    | some sz => (match x with
     | .im (.sl rows) => (match rows[i.toNat]? with
      | some r => if r.length = sz then some (.iptr r) else none
      | none => none)
     | .full rows => (match rows[i.toNat]? with
      | some r => if r.length = sz then some (.iptr r) else none
      | none => none)
     | .ms d j n => (match look fr d j with
      | some (.row _ sz' rows _) => if rows.length = n ∧ sz' = sz ∧ i < (n : Int) then some (.rptr d j n i.toNat 0) else none
      | _ => none)
     | .bs d j n => if i < (n : Int) then some (.ptr d j (i.toNat * sz)) else none
     | .vs d j o n g => (match look fr d j with
      | some (.vec _ g' _) => if sz = 1 ∧ g = g' ∧ i < (n : Int) then some (.vp d j (o + i.toNat) g) else none
      | _ => none)
     | _ => none)
    | none => none)
   | none => (match arrT P t with
    | some (len, e) => (match sizeT P e with
     | some sz => if i < (len : Int) then (match x with
      | .ptr d j off => some (.ptr d j (off + i.toNat * sz))
      | .rptr d j n q off => some (.rptr d j n q (off + i.toNat * sz))
      | .iptr cs => some (.iptr (cs.drop (i.toNat * sz)))
      | _ => none) else none
     | none => none)
    | none => none)) else none
 | _ => none
theorem run_indexAt_ok {t e sz : Nat} (he : elemT P t = some e) (hs : sizeT P e = some sz) (w : World) (b o len cap : Nat) (k : IntKind) (i : Int) (h0 : 0 ≤ i) (h1 : i < (len : Int)) :
  (Instr.indexAt t (.slice (some ⟨b, o, none⟩) len cap) (.int k i)).run P w = .ok (.pointer (some ⟨b, o + i.toNat * sz, none⟩)) w := by
 simp [Instr.indexAt, asIntOf, run_underlying (elemT_some he), h0, h1, run_sizeT hs, add_none]
theorem run_indexAt_arr {t e len sz : Nat} (he : arrT P t = some (len, e)) (hs : sizeT P e = some sz) (w : World) (p : Addr) (hp : p.spot = none) (k : IntKind) (i : Int) (h0 : 0 ≤ i) (h1 : i < (len : Int)) :
  (Instr.indexAt t (.pointer (some p)) (.int k i)).run P w = .ok (.pointer (some ⟨p.block, p.off + i.toNat * sz, none⟩)) w := by
 obtain ⟨b, q, sp⟩ := p
 simp only at hp
 subst hp
 simp [Instr.indexAt, asIntOf, run_underlying (arrT_some he), Instr.sureAddr, h0, h1, run_sizeT hs, add_none]
theorem indexAddr_ok {t : TypeId} {x i z : PV} {F : Fz} {bs : Bns} {fr : Frs} {vx vi : Value} {w : World} (hm : MRel F bs fr w) (h : indexAddrPV P fr t x i = some z) (hx : VRel F bs fr x vx) (hi : VRel F bs fr i vi) : ∃ v, (Instr.indexAt t vx vi).run P w = .ok v w ∧ VRel F bs fr z v := by
 unfold indexAddrPV at h
 split at h
 ·rename_i k i
  simp only [VRel, IRel] at hi
  subst hi
  split at h
  ·rename_i h0
   split at h
   ·rename_i e he
    split at h
    ·rename_i sz hs
     split at h
     ·rename_i rows
      split at h
      ·rename_i r hr
       split at h
       ·rename_i hrl
        simp only [Option.some.injEq] at h
        subst h
        simp only [VRel, IRel] at hx
        obtain ⟨A, c, rfl, h2, h3⟩ := hx
        have hlt := (List.getElem?_eq_some_iff.1 hr).1
        obtain ⟨b, o, rfl, sz', h4⟩ := h3 (fun e => by rw [e] at hlt; simp at hlt)
        obtain ⟨h5, h6⟩ := h4.get _ _ hr
        have : sz' = sz := by omega
        subst this
        exact ⟨_, run_indexAt_ok he hs w b o _ c k i h0 (by omega), by simp only [VRel]; exact ⟨b, _, rfl, h6⟩⟩
       ·simp at h
      ·simp at h
     ·rename_i rows
      split at h
      ·rename_i r hr
       split at h
       ·rename_i hrl
        simp only [Option.some.injEq] at h
        subst h
        simp only [VRel] at hx
        obtain ⟨A, rfl, h3⟩ := hx
        have hlt := (List.getElem?_eq_some_iff.1 hr).1
        obtain ⟨b, o, rfl, sz', h4⟩ := h3 (fun e => by rw [e] at hlt; simp at hlt)
        obtain ⟨h5, h6⟩ := h4.get _ _ hr
        have : sz' = sz := by omega
        subst this
        exact ⟨_, run_indexAt_ok he hs w b o _ _ k i h0 (by omega), by simp only [VRel]; exact ⟨b, _, rfl, h6⟩⟩
       ·simp at h
      ·simp at h
     ·rename_i d j n
      split at h
      ·rename_i t' sz' rows fz hlk
       split at h
       ·rename_i hc
        obtain ⟨hc1, rfl, hc3⟩ := hc
        simp only [Option.some.injEq] at h
        subst h
        simp only [VRel] at hx
        obtain ⟨A, c, rfl, h2, t2, sz2, rows2, fz2, a, h3, h4, h5, h6⟩ := hx
        rw [hlk] at h3
        cases h3
        obtain ⟨h7, h8⟩ := h6 hc1
        subst h8
        cases ha : a.1 with
        | none =>
         obtain ⟨_, k2, _, _, k5, _⟩ := hm.obj d j _ _ hlk h4
         have := k5 ha
         omega
        | some b =>
         rw [ha] at h7
         subst h7
         exact ⟨_, run_indexAt_ok he hs w b 0 n _ k i h0 hc3, by simp only [VRel]; exact ⟨_, t', sz', rows, fz, a, rfl, rfl, hlk, h4, h5, fun _ => ⟨b, ha, by simp⟩⟩⟩
       ·simp at h
      ·simp at h
     ·rename_i d j n
      split at h
      ·rename_i hlt
       simp only [Option.some.injEq] at h
       subst h
       simp only [VRel] at hx
       obtain ⟨b, k', cs, c, h2, h3, rfl, h4⟩ := hx
       exact ⟨_, run_indexAt_ok he hs w b 0 n c k i h0 hlt, by simp only [VRel]; exact ⟨b, k', cs, h2, h3, by simp⟩⟩
      ·simp at h
     ·rename_i d j o n g
      split at h
      ·rename_i t' g' cs hlk
       split at h
       ·rename_i hc
        obtain ⟨rfl, hg, hc3⟩ := hc
        simp only [Option.some.injEq] at h
        subst h
        simp only [VRel] at hx
        obtain ⟨A, c, rfl, h2, t2, g2, cs2, a, h3, h4, h5, h6⟩ := hx
        rw [hlk] at h3
        cases h3
        obtain ⟨h7, h8, h9⟩ := h6 hg
        cases ha : a.1 with
        | none =>
         obtain ⟨_, _, k5, _⟩ := hm.obj d j _ _ hlk h4
         have := k5 ha
         omega
        | some b =>
         rw [h9 (by omega), ha]
         exact ⟨_, run_indexAt_ok he hs w b o n _ k i h0 hc3, by simp only [VRel]; exact ⟨_, t', g', cs, a, rfl, rfl, hlk, h4, h5, fun _ => ⟨by omega, b, ha, by simp⟩⟩⟩
       ·simp at h
      ·simp at h
     ·simp at h
    ·simp at h
   ·split at h
    ·rename_i len e he
     split at h
     ·rename_i sz hs
      split at h
      ·rename_i h1
       split at h <;> simp only [Option.some.injEq, reduceCtorEq] at h
       ·subst h
        simp only [VRel] at hx
        obtain ⟨b, k', cs, h2, h3, rfl⟩ := hx
        exact ⟨_, run_indexAt_arr he hs w _ rfl k i h0 h1, by simp only [VRel]; exact ⟨b, k', cs, h2, h3, rfl⟩⟩
       ·subst h
        simp only [VRel] at hx
        obtain ⟨p, t', sz', rows, fz, a, rfl, h2, h3, h4, h5, h6⟩ := hx
        exact ⟨_, run_indexAt_arr he hs w _ h2 k i h0 h1, by simp only [VRel]; exact ⟨_, t', sz', rows, fz, a, rfl, rfl, h3, h4, h5, fun e => by obtain ⟨b, h7, rfl⟩ := h6 e; exact ⟨b, h7, by simp [Nat.add_assoc]⟩⟩⟩
       ·subst h
        simp only [VRel] at hx
        obtain ⟨b, q, rfl, h2⟩ := hx
        exact ⟨_, run_indexAt_arr he hs w _ rfl k i h0 h1, by simp only [VRel]; exact ⟨b, _, rfl, h2.drop _⟩⟩
      ·simp at h
     ·simp at h
    ·simp at h
  ·simp at h
 ·simp at h

/-! ### new memory -/
theorem map_zeroPV_rel (F : Fz) (bs : Bns) (fr : Frs) (vs : List Value) : VRels F bs fr (vs.map zeroPV) vs :=
 VRels.mk (by simp) (fun j x v hx hv => by
  rw [List.getElem?_map, hv] at hx
  simp at hx
  subst hx
  exact zeroPV_rel ..)
theorem zeroT_run {t : TypeId} {z : List PV} (h : zeroT P t = some z) (w : World) : ∃ v, (zeroValue t).run P w = .ok v w ∧ (∀ F bs fr, VRels F bs fr z v.cells.toList) ∧ ∃ i, P.info? t = some i ∧ i.zero = some v := by
 simp only [zeroT, Option.bind_eq_some_iff, Option.map_eq_some_iff] at h
 obtain ⟨i, hi, v, hv, rfl⟩ := h
 exact ⟨v, by simp [zeroValue, typeInfo, hi, hv], fun F bs fr => map_zeroPV_rel F bs fr _, i, hi, hv⟩
def ASt.push (st : ASt) (o : AObj) : ASt := { st with loc := st.loc ++ [o] }
theorem push_ok {n : Nat} {F : Fz} {bs : Bns} {st : ASt} {a : Act} {w : World} (h : ARel n F bs st a w) (o : AObj) (arr : Array Value) (t : TypeId) (k : Nat)
  (ho : ∀ b0 bs', bs = b0 :: bs' → MObj F ((b0 ++ [(some w.heap.size, k)]) :: bs') (st.push o).fr (w.alloc (.cells arr t)) o (some w.heap.size, k)) :
  ∃ bs', MRel F bs' (st.push o).fr (w.alloc (.cells arr t)) ∧ CStep F bs st.fr w F bs' (st.push o).fr (w.alloc (.cells arr t)) ∧ bnd bs' 0 st.loc.length = some (some w.heap.size, k) ∧ look (st.push o).fr 0 st.loc.length = some o := by
 have hm := h.mem
 have hsh := hm.shape
 cases bs with
 | nil => simp [ASt.fr] at hsh
 | cons b0 bs =>
  simp only [ASt.fr, List.map_cons, List.cons.injEq] at hsh
  obtain ⟨h1, h2, h3⟩ := hm.push (F' := F) (w' := w.alloc (.cells arr t)) o (some w.heap.size, k) (fun b hb => heap_alloc_old w _ hb) (Fz.le_refl F) (fun _ _ _ => rfl)
   (fun b q v hb hq => by
    have := World.block_lt_of_cell? w _ (hm.fz b q v hq)
    simp at this
    omega) (fun b hb => by simp at hb; omega) (ho b0 bs rfl)
  refine ⟨_, h1, ⟨Fz.le_refl F, h2, ⟨rfl, rfl, rfl, by simp, fun b hb _ => heap_alloc_old w _ hb⟩, h3⟩, ?_, ?_⟩
  ·simp [hsh.1]
  ·simp [ASt.push, ASt.fr]
theorem unfrozen_new {n : Nat} {F : Fz} {bs : Bns} {st : ASt} {a : Act} {w : World} (h : ARel n F bs st a w) (o : Nat) : F w.heap.size o = none := by
 cases hq : F w.heap.size o with
 | none => rfl
 | some v =>
  have := World.block_lt_of_cell? w _ (h.mem.fz _ _ _ hq)
  simp at this
theorem box_ok {n : Nat} {F : Fz} {bs : Bns} {st : ASt} {a : Act} {w : World} (h : ARel n F bs st a w) (cs : List PV) (arr : Array Value) (t : TypeId) (hv : VRels F bs st.fr cs arr.toList) :
  ∃ bs', MRel F bs' (st.push (.box cs)).fr (w.alloc (.cells arr t)) ∧ CStep F bs st.fr w F bs' (st.push (.box cs)).fr (w.alloc (.cells arr t)) ∧ VRel F bs' (st.push (.box cs)).fr (.ptr 0 st.loc.length 0) (.pointer (some ⟨w.heap.size, 0, none⟩)) := by
 have hev : ∀ b0 bs', bs = b0 :: bs' → Evolve bs st.fr ((b0 ++ [(some w.heap.size, 0)]) :: bs') (st.push (.box cs)).fr := fun b0 bs' e d j o' a' h1 h2 => by
  subst e
  refine ⟨o', a', ?_, ?_, o'.becomes_refl a'⟩
  ·cases d with
   | zero => simp only [ASt.fr, ASt.push, look_zero] at h1 ⊢; rw [List.getElem?_append_left (List.getElem?_eq_some_iff.1 h1).1]; exact h1
   | succ d => simpa only [ASt.fr, ASt.push, look_succ] using h1
  ·cases d with
   | zero => simp only [look_zero] at h2 ⊢; rw [List.getElem?_append_left (List.getElem?_eq_some_iff.1 h2).1]; exact h2
   | succ d => simpa only [look_succ] using h2
 obtain ⟨bs', h1, h2, h3, h4⟩ := push_ok h (.box cs) arr t 0 (fun b0 bs' e => ⟨_, arr, t, rfl, heap_alloc_new w _, VRels.move (Fz.le_refl F) (hev b0 bs' e) hv, unfrozen_new h⟩)
 exact ⟨bs', h1, h2, by simp only [VRel]; exact ⟨_, 0, cs, h4, h3, rfl⟩⟩
def allocV (P : Program) (st : ASt) (t : TypeId) : Option (PV × ASt) := (zeroT P t).map fun z => (.ptr 0 st.loc.length 0, st.push (.box z))
theorem alloc_ok {n : Nat} {F : Fz} {bs : Bns} {st st' : ASt} {a : Act} {w : World} {t : TypeId} {z : PV} (h : ARel n F bs st a w) (ha : allocV P st t = some (z, st')) (old : Value) :
  ∃ v w' bs', (Instr.alloc t true old).run P w = .ok v w' ∧ MRel F bs' st'.fr w' ∧ CStep F bs st.fr w F bs' st'.fr w' ∧ VRel F bs' st'.fr z v := by
 simp only [allocV, Option.map_eq_some_iff, Prod.mk.injEq] at ha
 obtain ⟨zs, hz, rfl, rfl⟩ := ha
 obtain ⟨zv, h1, h2, _⟩ := zeroT_run hz w
 obtain ⟨bs', h3, h4, h5⟩ := box_ok h zs zv.cells t (h2 _ _ _)
 exact ⟨_, _, bs', by simp [Instr.alloc, h1, newVar, newRow], h3, h4, h5⟩
def boxV (st : ASt) (x : PV) : Option (PV × ASt) := (cellsPV x).map fun cs => (.ptr 0 st.loc.length 0, st.push (.box cs))
theorem boxV_ok {n : Nat} {F : Fz} {bs : Bns} {st st' : ASt} {a : Act} {w : World} {t : TypeId} {x z : PV} {vx : Value} (h : ARel n F bs st a w) (hx : VRel F bs st.fr x vx) (ha : boxV st x = some (z, st')) :
  ∃ v w' bs', (Instr.box t vx).run P w = .ok v w' ∧ MRel F bs' st'.fr w' ∧ CStep F bs st.fr w F bs' st'.fr w' ∧ VRel F bs' st'.fr z v := by
 simp only [boxV, Option.map_eq_some_iff, Prod.mk.injEq] at ha
 obtain ⟨cs, hc, rfl, rfl⟩ := ha
 obtain ⟨bs', h3, h4, h5⟩ := box_ok h cs vx.cells t (VRel.cells hc hx)
 exact ⟨_, _, bs', by simp [Instr.box, newVar, newRow], h3, h4, h5⟩

/-! ### structs and arrays built of parts -/
def fillPV (place : Nat → Option (Nat × Nat)) (cells : List PV) : List (Nat × PV) → Option (List PV)
 | [] => some cells
 | (i, x) :: rest => match place i, cellsPV x with
  | some (off, size), some cs => if cs.length = size ∧ off + size ≤ cells.length then fillPV place (splice cells off cs) rest else none
  | _, _ => none
theorem foldl_set (vs : List Value) : ∀ (k : Nat) (off : Nat) (arr : Array Value), off + k + vs.length ≤ arr.size →
  (vs.zipIdx k).foldl (fun (cs : Array Value) (cj : Value × Nat) => cs.setIfInBounds (off + cj.2) cj.1) arr = (splice arr.toList (off + k) vs).toArray := by
 induction vs with
 | nil => intro k off arr h; simp [splice]
 | cons v vs ih =>
  intro k off arr h
  simp only [List.length_cons] at h
  rw [List.zipIdx_cons, List.foldl_cons, ih (k + 1) off _ (by simp; omega)]
  congr 1
  apply List.ext_getElem?
  intro q
  rw [splice_get _ _ _ (by simp; omega), splice_get _ _ _ (by simp; omega)]
  simp only [Array.toList_setIfInBounds, List.getElem?_set, Array.length_toList]
  by_cases h1 : q < off + k
  ·rw [if_pos (by omega), if_neg (by omega), if_pos h1]
  ·by_cases h2 : q = off + k
   ·subst h2
    rw [if_pos (by omega), if_pos rfl, if_pos (by omega), if_neg (by omega), if_pos (by simp)]
    simp
   ·by_cases h3 : q < off + (k + 1) + vs.length
    ·rw [if_neg (by omega), if_pos h3, if_neg h1, if_pos (by simp; omega), show q - (off + k) = (q - (off + (k + 1))) + 1 by omega, List.getElem?_cons_succ]
    ·rw [if_neg (by omega), if_neg h3, if_neg (by omega), if_neg h1, if_neg (by simp; omega)]
theorem fill_ok {F : Fz} {bs : Bns} {fr : Frs} {place : Nat → Option (Nat × Nat)} : ∀ {ps : List (Nat × PV)} {vs : List (Nat × Value)} {cells out : List PV} {arr : Array Value}, fillPV place cells ps = some out →
  ps.length = vs.length → (∀ (i : Nat) (p : Nat × PV) (v : Nat × Value), ps[i]? = some p → vs[i]? = some v → v.1 = p.1 ∧ VRel F bs fr p.2 v.2) → VRels F bs fr cells arr.toList →
  ∃ arr', Instr.fill place arr vs = some arr' ∧ VRels F bs fr out arr'.toList
 | [], vs, cells, out, arr, h, hl, hv, hc => by
  have : vs = [] := List.eq_nil_of_length_eq_zero (by simpa using hl.symm)
  subst this
  simp only [fillPV, Option.some.injEq] at h
  subst h
  exact ⟨arr, rfl, hc⟩
 | (i, x) :: ps, vs, cells, out, arr, h, hl, hv, hc => by
  cases vs with
  | nil => simp at hl
  | cons v vs =>
   obtain ⟨i', v⟩ := v
   obtain ⟨h1, h2⟩ := hv 0 _ _ rfl rfl
   simp only at h1
   subst h1
   simp only [fillPV] at h
   split at h
   ·rename_i off size cs hp hcs
    split at h
    ·rename_i hcond
     have hr := VRel.cells hcs h2
     have hrl := hr.length
     have hal := hc.length
     simp only [Array.length_toList] at hrl hal
     have hfit : off + v.cells.size ≤ arr.size := by omega
     have he : (v.cells.zipIdx.foldl (fun cs (c, j) => cs.setIfInBounds (off + j) c) arr) = (splice arr.toList off v.cells.toList).toArray := by
      have := foldl_set v.cells.toList 0 off arr (by simpa using hfit)
      simp only [Nat.add_zero] at this
      rw [← this, ← Array.foldl_toList]
      simp
     obtain ⟨arr', h3, h4⟩ := fill_ok (arr := (splice arr.toList off v.cells.toList).toArray) h (by simpa using hl) (fun j p u h5 h6 => hv (j + 1) p u (by simpa using h5) (by simpa using h6)) (VRels.mk (by rw [splice_length _ _ _ (show off + cs.length ≤ cells.length by omega), List.toList_toArray, splice_length _ _ _ (show off + v.cells.toList.length ≤ arr.toList.length by simpa using hfit)]; simpa using hal) (fun q y u hq hu => by
      rw [splice_get _ _ _ (by omega)] at hq
      simp only [splice_get _ _ _ (show off + v.cells.toList.length ≤ arr.toList.length by simpa using hfit)] at hu
      simp only [Array.length_toList, hrl] at hu
      by_cases hq1 : q < off
      ·simp only [hq1, if_true] at hq hu; exact hc.get' hq hu
      ·by_cases hq2 : q < off + cs.length
       ·simp only [hq1, hq2, if_true, if_false] at hq hu; exact hr.get' hq hu
       ·simp only [hq1, hq2, if_false] at hq hu; exact hc.get' hq hu))
     refine ⟨arr', ?_, h4⟩
     simp only [Instr.fill, hp]
     rw [if_neg (by simp; omega), he]
     exact h3
    ·simp at h
   ·simp at h
end Go.Proofs.YtkjfdacjjogpcaaPi

