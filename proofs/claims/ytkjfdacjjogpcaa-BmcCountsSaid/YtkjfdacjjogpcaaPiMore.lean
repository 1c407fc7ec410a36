/- More operations of the abstract program logic: bytes and strings, maps. No Go text in it. -/
import Derived.Test.YtkjfdacjjogpcaaPiStepAll
import Derived.Laws.IdiomStrings
import Derived.MapKept
set_option linter.unusedVariables false
set_option linter.unusedSimpArgs false
namespace Go.Proofs.YtkjfdacjjogpcaaPi
variable {P : Program}

/-! ### bytes and strings -/
def u8T (P : Program) (t : TypeId) : Bool := match P.underlying t with
 | some (.slice e) => (match P.underlying e with
  | some (.int .u8) => true
  | _ => false)
 | _ => false
theorem u8T_some {t : TypeId} (h : u8T P t = true) : ∃ e, P.underlying t = some (.slice e) ∧ P.underlying e = some (.int .u8) := by
 unfold u8T at h
 split at h
 ·rename_i e he
  split at h
  ·rename_i h2; exact ⟨e, he, h2⟩
  ·simp at h
 ·simp at h
def byteRows (s : ByteArray) : List (List Im) := s.data.toList.map fun b => [.int .u8 b.toNat]
def strOf : List (List Im) → Option (List UInt8)
 | [] => some []
 | [.int .u8 n] :: rs => if 0 ≤ n ∧ n < 256 then (strOf rs).map (UInt8.ofNat n.toNat :: ·) else none
 | _ => none
theorem strOf_get : ∀ {rows : List (List Im)} {l : List UInt8}, strOf rows = some l → rows = l.map fun b => [Im.int .u8 b.toNat]
 | [], l, h => by simp only [strOf, Option.some.injEq] at h; subst h; rfl
 | [.int .u8 n] :: rs, l, h => by
  simp only [strOf] at h
  split at h
  ·rename_i hn
   simp only [Option.map_eq_some_iff] at h
   obtain ⟨l', h1, rfl⟩ := h
   rw [List.map_cons, ← strOf_get h1]
   congr 3
   simp only [UInt8.toNat_ofNat']
   omega
  ·simp at h
 | [] :: rs, l, h => by simp [strOf] at h
 | [.int .i8 n] :: rs, l, h => by simp [strOf] at h
 | [.int .i16 n] :: rs, l, h => by simp [strOf] at h
 | [.int .i32 n] :: rs, l, h => by simp [strOf] at h
 | [.int .i64 n] :: rs, l, h => by simp [strOf] at h
 | [.int .u16 n] :: rs, l, h => by simp [strOf] at h
 | [.int .u32 n] :: rs, l, h => by simp [strOf] at h
 | [.int .u64 n] :: rs, l, h => by simp [strOf] at h
 | [.bool b] :: rs, l, h => by simp [strOf] at h
 | [.str b] :: rs, l, h => by simp [strOf] at h
 | [.sl b] :: rs, l, h => by simp [strOf] at h
 | (x :: y :: z) :: rs, l, h => by simp [strOf] at h
def convM (P : Program) (st : ASt) (src dst : TypeId) (x : PV) : Option PV :=
 match x with
 | .im (.str s) => if stringT P src && u8T P dst then some (.im (.sl (byteRows s))) else none
 | x => if u8T P src && stringT P dst then ((rowsPV st.fr x).bind strOf).map fun l => .im (.str ⟨l.toArray⟩) else none
theorem bytes_ok {n : Nat} {F : Fz} {bs : Bns} {st : ASt} {a : Act} {w : World} {src dst : TypeId} {s : ByteArray} (h : ARel n F bs st a w) (hs : stringT P src = true) (hd : u8T P dst = true) :
  ∃ v w' F', (convert src dst (.string s)).run P w = .ok v w' ∧ MRel F' bs st.fr w' ∧ CStep F bs st.fr w F' bs st.fr w' ∧ IRel F' (.sl (byteRows s)) v := by
 obtain ⟨e, h1, h2⟩ := u8T_some hd
 have hrun := run_bytes_of_string (P := P) w src dst e s (stringT_some hs) h1 h2
 generalize hcap : grownCap w s.size 0 e = cap at hrun
 generalize hfz : ((bytesRow s cap).size, (bytesRow s cap).size + 1) = fz at hrun
 have hge : s.size ≤ cap := by rw [← hcap]; exact grownCap_ge w s.size 0 e
 have hnew : (w.drew.alloc (.cells (bytesRow s cap) e fz)).heap[w.heap.size]? = some (.cells (bytesRow s cap) e fz) := heap_alloc_new w.drew _
 have hnone : ∀ q, F w.heap.size q = none := fun q => unfrozen_new h q
 let F' : Fz := fun b q => if b = w.heap.size then (bytesRow s cap)[q]? else F b q
 have hle : Fz.le F F' := fun b q u hq => by
  show (if b = w.heap.size then _ else F b q) = some u
  rw [if_neg (fun e => by rw [e, hnone] at hq; simp at hq)]
  exact hq
 have hold : ∀ b, b < w.heap.size → (w.drew.alloc (.cells (bytesRow s cap) e fz)).heap[b]? = w.heap[b]? := fun b hb => heap_alloc_old w.drew _ hb
 refine ⟨_, _, F', hrun, ?_, ⟨hle, .refl _ _, ⟨rfl, rfl, rfl, by simp, fun b hb _ => hold b hb⟩, .refl _ _ _⟩, ?_⟩
 ·refine h.mem.change h.mem.shape hle (.refl _ _) (fun d j o a' h3 h4 => .inl ⟨h3, h4, fun b hb hl => ?_⟩) h.mem.inj (fun b q v hv => ?_)
  ·have hlt : b < w.heap.size := h.mem.own_lt (d := d) (j := j) ⟨o, a'.2, h3, hl, by rw [h4, ← hb]⟩
   exact ⟨hold b hlt, fun q => if_neg (by omega)⟩
  ·by_cases e : b = w.heap.size
   ·subst e
    simp only [F', if_true] at hv
    rw [cell_of_row (w.drew.alloc (.cells (bytesRow s cap) _ fz)) w.heap.size q (bytesRow s cap) _ fz hnew]
    exact hv
   ·have hv' : F b q = some v := by simpa only [F', e, if_false] using hv
    have hc := h.mem.fz b q v hv'
    have hlt := World.block_lt_of_cell? w _ hc
    rw [← hc]
    exact World.cell?_of_block (hold b hlt)
 ·have hl : (byteRows s).length = s.size := by simp only [byteRows, List.length_map, Array.length_toList]; rfl
  simp only [IRel]
  refine ⟨_, cap, by rw [hl], by omega, fun _ => ⟨w.heap.size, 0, rfl, 1, IRows.mk (fun i r hr => ?_)⟩⟩
  simp only [byteRows, List.getElem?_map, Option.map_eq_some_iff] at hr
  obtain ⟨b, hb, rfl⟩ := hr
  refine ⟨rfl, ICells.mk (fun j x hx => ?_)⟩
  cases j with
  | succ j => simp at hx
  | zero =>
   simp at hx
   subst hx
   have hi : i < s.data.size := by simpa using (List.getElem?_eq_some_iff.1 hb).1
   refine ⟨.int .u8 b.toNat, ?_, by simp [IRel]⟩
   simp only [F', if_true]
   rw [show 0 + i * 1 + 0 = i by omega, bytesRow, Array.getElem?_append_left (by simpa using hi)]
   have hb' : s.data[i]? = some b := by simpa using hb
   simp [hb']
theorem str_ok {F : Fz} {bs : Bns} {fr : Frs} {w : World} {src dst : TypeId} {x : PV} {v : Value} {rows : List (List Im)} {l : List UInt8} (hm : MRel F bs fr w) (hs : u8T P src = true) (hd : stringT P dst = true) (hr : rowsPV fr x = some rows) (hx : VRel F bs fr x v) (hl : strOf rows = some l) :
  (convert src dst v).run P w = .ok (.string ⟨l.toArray⟩) w := by
 obtain ⟨e, h1, h2⟩ := u8T_some hs
 have hrows := strOf_get hl
 have hsz : ∀ r ∈ rows, r.length = 1 := fun r hr => by
  rw [hrows] at hr
  simp only [List.mem_map] at hr
  obtain ⟨b, _, rfl⟩ := hr
  rfl
 obtain ⟨A, c, news, rfl, n1, n2, n3, n4, n5⟩ := src_ok hm hr hx hsz
 cases A with
 | none =>
  have := n3 rfl
  subst this
  simp only [strOf, Option.some.injEq] at hl
  subst hl
  rw [run_convert_bytes_string w src dst e none _ c h1 h2 (stringT_some hd)]
  simp [Conv.bytesToString]
  rfl
 | some A =>
  have hlen : rows.length = l.length := by rw [hrows]; simp
  have := run_convert_bytes_back (P := P) w src dst e A c l h1 h2 (stringT_some hd) (fun j hj => by
   have hg : rows[j]? = some [Im.int .u8 l[j].toNat] := by rw [hrows]; simp [hj]
   obtain ⟨h3, h4⟩ := n5 j _ hg
   obtain ⟨u, h5, h6⟩ := h4 0 _ rfl
   simp only [IRel] at h6
   subst h6
   have := n2 A rfl (j * 1 + 0) _ h5
   simpa using this)
  rw [hlen]
  exact this
theorem convM_ok {n : Nat} {st : ASt} {src dst : TypeId} {x : Operand} {u z : PV} (hu : evalPV st x = some u) (hk : convM P st src dst u = some z) : OpOk P n st (.convert src dst x) z st := fun F bs a w hr o ho => by
 have hv := evalPV_rel hr hu
 unfold convM at hk
 split at hk
 ·rename_i s
  split at hk
  ·rename_i hc
   simp only [Bool.and_eq_true] at hc
   simp only [Option.some.injEq] at hk
   subst hk
   simp only [VRel, IRel] at hv
   obtain ⟨v, w', F', h1, h2, h3, h4⟩ := bytes_ok (P := P) (s := s) hr hc.1 hc.2
   exact ⟨.value v, v, w', F', bs, by simp [execOp, ho, hv, h1], .inl rfl, h2, h3, by simpa only [VRel] using h4, rfl⟩
  ·simp at hk
 ·split at hk
  ·rename_i hc
   simp only [Bool.and_eq_true] at hc
   simp only [Option.map_eq_some_iff, Option.bind_eq_some_iff] at hk
   obtain ⟨l, ⟨rows, h1, h2⟩, rfl⟩ := hk
   have h3 := str_ok (P := P) hr.mem hc.1 hc.2 h1 hv h2
   exact ⟨.value (.string ⟨l.toArray⟩), .string ⟨l.toArray⟩, w, F, bs, by simp [execOp, ho, h3], .inl rfl, hr.mem, .refl _ _ _ _, by simp [VRel, IRel], rfl⟩
  ·simp at hk

/-! ### maps of numbers and strings -/
def mapT (P : Program) (t : TypeId) : Option (TypeId × TypeId) := match P.underlying t with
 | some (.map k e) => some (k, e)
 | _ => none
theorem mapT_some {t k e : TypeId} (h : mapT P t = some (k, e)) : P.underlying t = some (.map k e) := by
 unfold mapT at h
 split at h
 ·rename_i hd; simp at h; obtain ⟨rfl, rfl⟩ := h; exact hd
 ·simp at h
def keyOk (P : Program) (kt : TypeId) : Im → Bool
 | .str _ => stringT P kt
 | .int k _ => intT P kt == some k
 | _ => false
def zeroOne (P : Program) (t : TypeId) : Option Im := (P.info? t).bind fun i => i.zero.bind fun z => imPV [] (zeroPV z)
theorem zeroOne_run {t : TypeId} {z : Im} (h : zeroOne P t = some z) (w : World) : ∃ v, (zeroValue t).run P w = .ok v w ∧ ∀ F, IRel F z v := by
 simp only [zeroOne, Option.bind_eq_some_iff] at h
 obtain ⟨i, hi, v, hv, hz⟩ := h
 refine ⟨v, by simp [zeroValue, typeInfo, hi, hv], fun F => ?_⟩
 have hm : MRel F [] [] ({ w with heap := w.heap } : World) → True := fun _ => trivial
 have hr := zeroPV_rel F [] [] v
 generalize zeroPV v = p at hz hr
 cases p <;> simp only [imPV, reduceCtorEq, Option.some.injEq] at hz
 ·subst hz; simpa only [VRel] using hr
 ·subst hz
  simp only [VRel] at hr
  obtain ⟨A, h7, h8⟩ := hr
  simp only [IRel]
  exact ⟨A, _, h7, Nat.le_refl _, h8⟩
 ·simp [fget] at hz
 ·subst hz
  simp only [VRel] at hr
  subst hr
  simp only [IRel]
  exact ⟨none, 0, rfl, Nat.le_refl _, fun h => absurd rfl h⟩
def sameIm (P : Program) (kt : TypeId) : Im → Im → Option Bool
 | .str a, .str b => if stringT P kt then some (a == b) else none
 | .int k a, .int k' b => if (intT P kt).isSome then (if k = k' then some (a == b) else none) else none
 | _, _ => none
def findIm (P : Program) (kt : TypeId) (k : Im) : List (List Im × Im) → Nat → Option (Option (Nat × Im))
 | [], _ => some none
 | ([x], v) :: es, i => match sameIm P kt k x with
  | some true => some (some (i, v))
  | some false => findIm P kt k es (i + 1)
  | none => none
 | _ :: _, _ => none
theorem sameIm_ok {F : Fz} {kt : TypeId} {d : TypeDesc} (hd : P.underlying kt = some d) {a b : Im} {va vb : Value} {r : Bool} (h : sameIm P kt a b = some r) (ha : IRel F a va) (hb : IRel F b vb) : Instr.sameNow d va vb = some r := by
 unfold sameIm at h
 split at h
 ·split at h
  ·rename_i hs
   simp only [IRel] at ha hb
   subst ha hb
   rw [stringT_some hs] at hd
   cases hd
   simpa [Instr.sameNow] using h
  ·simp at h
 ·split at h
  ·rename_i hs
   obtain ⟨kk, hk⟩ := Option.isSome_iff_exists.1 hs
   simp only [IRel] at ha hb
   subst ha hb
   rw [intT_some hk] at hd
   cases hd
   simpa [Instr.sameNow] using h
  ·simp at h
 ·simp at h
theorem findIm_ok {F : Fz} {kt : TypeId} {d : TypeDesc} (hd : P.underlying kt = some d) {k : Im} {vk : Value} (hk : IRel F k vk) : ∀ (es : List (List Im × Im)) (ms : List MapEntry) (i : Nat) (r : Option (Nat × Im)), ms.length = es.length → (∀ (j : Nat) (e : List Im × Im) (m : MapEntry), es[j]? = some e → ms[j]? = some m → EntRel F e m) →
  findIm P kt k es i = some r → (match r with
   | none => Instr.findNow d vk ms i = some none
   | some (j, x) => ∃ v, Instr.findNow d vk ms i = some (some (j, v)) ∧ IRel F x v ∧ i ≤ j ∧ ∃ m, ms[j - i]? = some m ∧ Instr.sameNow d vk m.key = some true)
 | [], ms, i, r, hl, he, h => by
  simp only [findIm, Option.some.injEq] at h
  subst h
  have : ms = [] := List.eq_nil_of_length_eq_zero (by simpa using hl)
  subst this
  rfl
 | (ks, v) :: es, [], i, r, hl, he, h => by simp at hl
 | (ks, v) :: es, m :: ms, i, r, hl, he, h => by
  have h0 := he 0 (ks, v) m rfl rfl
  have hrest : ∀ (j : Nat) (e : List Im × Im) (m : MapEntry), es[j]? = some e → ms[j]? = some m → EntRel F e m := fun j e m' h1 h2 => he (j + 1) e m' (by simpa using h1) (by simpa using h2)
  match ks, h0, h with
  | [], _, h => simp [findIm] at h
  | x :: y :: z, _, h => simp [findIm] at h
  | [x], h0, h =>
   simp only [findIm] at h
   split at h
   ·rename_i hs
    simp only [Option.some.injEq] at h
    subst h
    have := sameIm_ok hd hs hk h0.1
    refine ⟨m.val, by simp [Instr.findNow, this], h0.2, Nat.le_refl _, m, by simp, this⟩
   ·rename_i hs
    have hf := sameIm_ok hd hs hk h0.1
    have ih := findIm_ok hd hk es ms (i + 1) r (by simpa using hl) hrest h
    cases r with
    | none => simpa [Instr.findNow, hf] using ih
    | some p =>
     obtain ⟨j, x'⟩ := p
     obtain ⟨u, h1, h2, h3, m', h4, h5⟩ := ih
     refine ⟨u, by simpa [Instr.findNow, hf] using h1, h2, by omega, m', ?_, h5⟩
     rw [show j - i = (j - (i + 1)) + 1 by omega]
     simpa using h4
   ·simp at h
theorem key_ok {kt : TypeId} {k : Im} {F : Fz} {vk : Value} (hk : keyOk P kt k = true) (hv : IRel F k vk) : ∃ d, P.underlying kt = some d ∧ MapKept.IsKey d vk := by
 cases k <;> simp only [keyOk, Bool.false_eq_true] at hk <;> simp only [IRel] at hv <;> subst hv
 ·have h := eq_of_beq hk
  exact ⟨_, intT_some h, by simp [MapKept.IsKey]⟩
 ·exact ⟨_, stringT_some hk, by simp [MapKept.IsKey]⟩
def lookupV (P : Program) (st : ASt) (t : TypeId) (m k : PV) (ok : Bool) : Option PV :=
 match m, imPV st.fr k, mapT P t with
 | .map d j, some k, some (kt, e) => (match look st.fr d j, zeroOne P e with
  | some (.map es), some z => if keyOk P kt k then ((findIm P kt k es 0).map fun r => match r with
    | some (_, v) => if ok then .tup [.im v, .im (.bool true)] else .im v
    | none => if ok then .tup [.im z, .im (.bool false)] else .im z) else none
  | _, _ => none)
 | _, _, _ => none
theorem lookup_ok {n : Nat} {F : Fz} {bs : Bns} {st : ASt} {a : Act} {w : World} {t : TypeId} {m k z : PV} {vm vk : Value} {ok : Bool} (h : ARel n F bs st a w) (hm : VRel F bs st.fr m vm) (hk : VRel F bs st.fr k vk) (hz : lookupV P st t m k ok = some z) :
  ∃ v, (Instr.lookup t vm vk ok).run P w = .ok v w ∧ VRel F bs st.fr z v := by
 unfold lookupV at hz
 split at hz
 ·rename_i d j k kt e hik hmt
  split at hz
  ·rename_i es zz hl hzz
   split at hz
   ·rename_i hko
    simp only [Option.map_eq_some_iff] at hz
    obtain ⟨r, hr, rfl⟩ := hz
    have hki := imPV_rel h.mem hik hk
    obtain ⟨dd, hdd, hisk⟩ := key_ok hko hki
    simp only [VRel] at hm
    obtain ⟨b, kk, es', h1, h2, rfl⟩ := hm
    rw [hl] at h1
    cases h1
    obtain ⟨b', arr, clock, h3, h4, h5, h6, _⟩ := h.mem.obj d j _ _ hl h2
    simp at h3
    subst h3
    have hchk := fun e => MapKept.run_checkKey (P := P) (w := w) hdd hisk e 9999
    have hf := findIm_ok (F := F) hdd hki es arr.toList 0 r (by simpa using h5) (fun j e m he hm => by
     obtain ⟨m', h7, h8⟩ := h6 j e he
     have : arr[j]? = some m := by simpa using hm
     rw [h7] at this
     cases this
     exact h8) hr
    obtain ⟨zv, hzr, hzi⟩ := zeroOne_run hzz w
    cases r with
    | none =>
     simp only at hf
     have hrun : (Instr.lookup t (.map (some b)) vk ok).run P w = .ok (if ok then .tuple #[zv, .bool false] else zv) w := by
      simp [Instr.lookup, run_underlying (mapT_some hmt), MapKept.run_getObj_map h4, hchk, MapKept.run_findKey hdd hf, hzr, Result.andThen]
     refine ⟨_, hrun, ?_⟩
     cases ok
     ·simpa [VRel] using hzi F
     ·simp only [VRel, VRels, if_true]
      exact ⟨_, rfl, zv, [.bool false], rfl, hzi F, .bool false, [], rfl, by simp [IRel], rfl⟩
    | some p =>
     obtain ⟨j', x⟩ := p
     obtain ⟨u, h7, h8, _⟩ := hf
     have hrun : (Instr.lookup t (.map (some b)) vk ok).run P w = .ok (if ok then .tuple #[u, .bool true] else u) w := by
      simp [Instr.lookup, run_underlying (mapT_some hmt), MapKept.run_getObj_map h4, hchk, MapKept.run_findKey hdd h7, Result.andThen]
     refine ⟨_, hrun, ?_⟩
     cases ok
     ·simpa [VRel] using h8
     ·simp only [VRel, VRels, if_true]
      exact ⟨_, rfl, u, [.bool true], rfl, h8, .bool true, [], rfl, by simp [IRel], rfl⟩
   ·simp at hz
  ·simp at hz
 ·simp at hz

def putIm (k v : Im) (es : List (List Im × Im)) : Option (Nat × Im) → List (List Im × Im)
 | none => es ++ [([k], v)]
 | some (j, _) => es.modify j fun _ => ([k], v)
def updateV (P : Program) (st : ASt) (t : TypeId) (m k v : PV) : Option ASt :=
 match m, imPV st.fr k, imPV st.fr v, mapT P t with
 | .map d j, some k, some v, some (kt, _) => (match look st.fr d j with
  | some (.map es) => if keyOk P kt k then ((findIm P kt k es 0).map fun r => st.setFr (fset st.fr d j (.map (putIm k v es r)))) else none
  | _ => none)
 | _, _, _, _ => none
theorem sameBits_of_now {d : TypeDesc} {a b : Value} (n : Nat) (hk : MapKept.IsKey d a) (h : Instr.sameNow d a b = some true) : Instr.sameBits n b a = true := by
 cases d <;> cases a <;> cases b <;> simp_all [MapKept.IsKey, Instr.sameNow, Instr.sameBits, MapKept.bytes_beq]
theorem mapPut_ok {F : Fz} {bs : Bns} {fr : Frs} {w : World} (hm : MRel F bs fr w) {d j b kk : Nat} {es es' : List (List Im × Im)} {arr' : Array MapEntry} {clock' : Nat} (hl : look fr d j = some (.map es)) (hb : bnd bs d j = some (some b, kk))
  (hsz : arr'.size = es'.length) (he : ∀ (i : Nat) (e : List Im × Im), es'[i]? = some e → ∃ m : MapEntry, arr'[i]? = some m ∧ EntRel F e m) :
  MRel F bs (fset fr d j (.map es')) { w with heap := w.heap.setIfInBounds b (.map arr' clock') } ∧ CStep F bs fr w F bs (fset fr d j (.map es')) { w with heap := w.heap.setIfInBounds b (.map arr' clock') } := by
 obtain ⟨b', arr, clock, h3, h4, h5, h6, h7⟩ := hm.obj d j _ _ hl hb
 simp at h3
 subst h3
 have hset := MapKept.heap_set (w := w) (r := b) (o' := .map arr' clock') h4
 have hbs : fset bs d j (some b, kk) = bs := fset_self bs d j _ hb
 have hput := hm.put (F' := F) (w' := { w with heap := w.heap.setIfInBounds b (.map arr' clock') }) (o' := .map es') (a' := (some b, kk)) hl hb
  (fun b' _ hne => hset.2 b' (fun e => by rcases hne with h | h; exact h (by rw [e]); exact h trivial)) (Fz.le_refl F) (fun _ _ _ _ => rfl)
  (fun b' q v hb' hq => by
   by_cases e : b' = b
   ·subst e; rw [h7 q] at hq; simp at hq
   ·have hc := hm.fz b' q v hq
    rw [← hc]
    exact World.cell?_of_block (hset.2 b' e))
  (fun b' hb' => .inr ⟨hb', trivial⟩) (by simp [AObj.becomes])
  (by exact ⟨b, arr', clock', rfl, hset.1, hsz, he, h7⟩)
 rw [hbs] at hput
 exact ⟨hput.1, Fz.le_refl F, hput.2.1, ⟨rfl, rfl, rfl, by simp, fun b' _ hno => hset.2 b' (fun e => hno d j ⟨_, kk, hl, trivial, by rw [hb, e]⟩)⟩, hput.2.2⟩
theorem update_ok {n : Nat} {st st1 : ASt} {t : TypeId} {xm xk xv : Operand} {m k v : PV} (hm : evalPV st xm = some m) (hk : evalPV st xk = some k) (hv : evalPV st xv = some v) (hz : updateV P st t m k v = some st1) : OpOk P n st (.mapUpdate t xm xk xv) .any st1 := fun F bs a w hr o ho => by
 have h1 := evalPV_rel hr hm
 have h2 := evalPV_rel hr hk
 have h3 := evalPV_rel hr hv
 unfold updateV at hz
 split at hz
 ·rename_i d j k v kt e hik hiv hmt
  split at hz
  ·rename_i es hl
   split at hz
   ·rename_i hko
    simp only [Option.map_eq_some_iff] at hz
    obtain ⟨r, hf0, rfl⟩ := hz
    have hki := imPV_rel hr.mem hik h2
    have hvi := imPV_rel hr.mem hiv h3
    obtain ⟨dd, hdd, hisk⟩ := key_ok hko hki
    simp only [VRel] at h1
    obtain ⟨b, kk, es', h4, h5, h6⟩ := h1
    rw [hl] at h4
    cases h4
    obtain ⟨b', arr, clock, h7, h8, h9, h10, _⟩ := hr.mem.obj d j _ _ hl h5
    simp at h7
    subst h7
    have hchk := fun e => MapKept.run_checkKey (P := P) (w := w) hdd hisk e 9999
    have hf := findIm_ok (F := F) hdd hki es arr.toList 0 r (by simpa using h9) (fun j e m he hm => by
     obtain ⟨m', h11, h12⟩ := h10 j e he
     have : arr[j]? = some m := by simpa using hm
     rw [h11] at this
     cases this
     exact h12) hf0
    have fin : ∀ (arr' : Array MapEntry) (clock' : Nat), arr'.size = (putIm k v es r).length → (∀ (i : Nat) (e : List Im × Im), (putIm k v es r)[i]? = some e → ∃ m : MapEntry, arr'[i]? = some m ∧ EntRel F e m) →
      (Instr.mapUpdate t (a.eval xm) (a.eval xk) (a.eval xv)).run P w = .ok () { w with heap := w.heap.setIfInBounds b (.map arr' clock') } →
      ∃ r' v' w' F' bs', (execOp a.eval o).run P w = .ok r' w' ∧ (r' = .value v' ∨ r' = .skip ∧ v' = undef) ∧
       MRel F' bs' (st.setFr (fset st.fr d j (.map (putIm k v es r)))).fr w' ∧ CStep F bs st.fr w F' bs' (st.setFr (fset st.fr d j (.map (putIm k v es r)))).fr w' ∧ VRel F' bs' (st.setFr (fset st.fr d j (.map (putIm k v es r)))).fr .any v' ∧ (st.setFr (fset st.fr d j (.map (putIm k v es r)))).env = st.env := fun arr' clock' g1 g2 g3 => by
     obtain ⟨g4, g5⟩ := mapPut_ok hr.mem (clock' := clock') hl h5 g1 g2
     rw [ASt.setFr_fset]
     exact ⟨.skip, undef, _, F, bs, by simp [execOp, ho, g3], .inr ⟨rfl, rfl⟩, g4, g5, by simp [VRel], ASt.setFr_env _ _⟩
    have hent : EntRel F ([k], v) { key := a.eval xk, val := a.eval xv, born := clock } := ⟨hki, hvi⟩
    cases r with
    | none =>
     simp only at hf
     refine fin (arr.push { key := a.eval xk, val := a.eval xv, born := clock }) (clock + 1) (by simp [putIm, h9]) (fun i e he => ?_) ?_
     ·simp only [putIm, List.getElem?_append] at he
      rw [Array.getElem?_push]
      split at he
      ·rename_i hi
       rw [if_neg (by omega)]
       exact h10 i e he
      ·rename_i hi
       have : i - es.length = 0 := by
        have := (List.getElem?_eq_some_iff.1 he).1
        simp at this
        omega
       rw [this] at he
       simp at he
       subst he
       exact ⟨_, by rw [if_pos (by omega)], hent⟩
     ·rw [h6]
      simp [Instr.mapUpdate, run_underlying (mapT_some hmt), MapKept.run_getObj_map h8, hchk, MapKept.run_findKey hdd hf, MapKept.run_setObj_map _ h8, Result.andThen]
    | some p =>
     obtain ⟨i0, x⟩ := p
     obtain ⟨u, h11, h12, _, m0, h13, h14⟩ := hf
     have hm0 : arr[i0]? = some m0 := by simpa using h13
     have hkeep : (Instr.keyThatStays (((arr[i0]?).map (·.key)).getD (a.eval xk)) (a.eval xk)).run P w = .ok (a.eval xk) w := by
      rw [hm0]
      simp [Instr.keyThatStays, sameBits_of_now 10000 hisk h14]
     refine fin (arr.modify i0 fun e => { e with key := a.eval xk, val := a.eval xv }) clock (by simp [putIm, h9]) (fun i e he => ?_) ?_
     ·simp only [putIm, List.getElem?_modify, Option.map_eq_map, Option.map_eq_some_iff] at he
      obtain ⟨e0, he0, he1⟩ := he
      obtain ⟨m, h15, h16⟩ := h10 i e0 he0
      rw [Array.getElem?_modify, h15]
      by_cases hi : i0 = i
      ·rw [if_pos hi] at he1 ⊢
       subst he1
       exact ⟨_, rfl, hki, hvi⟩
      ·rw [if_neg hi] at he1 ⊢
       subst he1
       exact ⟨_, rfl, h16⟩
     ·rw [h6]
      simp only [Instr.mapUpdate, run_underlying (mapT_some hmt), MapKept.run_getObj_map h8, hchk, MapKept.run_findKey hdd h11, Sem.run_bind, Result.andThen_ok, hkeep]
      exact MapKept.run_setObj_map _ h8
   ·simp at hz
  ·simp at hz
 ·simp at hz
/-! ### maps whose keys are structs -/
def findKs (P : Program) (ts : List TypeId) (k : List Im) : List (List Im × Im) → Nat → Option (Option (Nat × Im))
 | [], _ => some none
 | (x, v) :: es, i => match eqIms P ts (k.map .im) (x.map .im) with
  | some true => if 2 ≤ x.length then some (some (i, v)) else none
  | some false => if 2 ≤ x.length then findKs P ts k es (i + 1) else none
  | none => none
def KHit (F : Fz) : Option (Nat × Im) → Option (Nat × Value) → Prop
 | none, q => q = none
 | some (j, x), q => ∃ v, q = some (j, v) ∧ IRel F x v
theorem KRel.many {F : Fz} {ks : List Im} {v : Value} (h2 : 2 ≤ ks.length) (h : KRel F ks v) : ∃ vs : Array Value, v = .agg vs ∧ VRels F [] [] (ks.map .im) vs.toList := by
 match ks, h2, h with
 | a :: b :: c, h2, h =>
  obtain ⟨vs, rfl, hs, hr⟩ := h
  refine ⟨vs, rfl, VRels.mk (by simpa using hs) fun j x u hx hu => ?_⟩
  rw [List.getElem?_map, Option.map_eq_some_iff] at hx
  obtain ⟨y, hy, rfl⟩ := hx
  obtain ⟨u', h3, h4⟩ := hr j y hy
  have : u' = u := by
   have h5 : vs[j]? = some u := by simpa using hu
   rw [h3] at h5
   exact Option.some.inj h5
  subst this
  simpa only [VRel] using h4
theorem findKs_ok {F : Fz} {kt : TypeId} {ts : List TypeId} (ht : eqsT P kt = some ts) {k : List Im} {va : Array Value} (hk : VRels F [] [] (k.map .im) va.toList) (w : World) : ∀ (es : List (List Im × Im)) (ms : List MapEntry) (i : Nat) (r : Option (Nat × Im)), ms.length = es.length → (∀ (j : Nat) (e : List Im × Im) (m : MapEntry), es[j]? = some e → ms[j]? = some m → EntRel F e m) →
  findKs P ts k es i = some r → ∃ q, (Instr.findAsking kt (.agg va) ms i).run P w = .ok q w ∧ KHit F r q
 | [], ms, i, r, hl, he, h => by
  simp only [findKs, Option.some.injEq] at h
  subst h
  have : ms = [] := List.eq_nil_of_length_eq_zero (by simpa using hl)
  subst this
  exact ⟨none, rfl, rfl⟩
 | (ks, v) :: es, [], i, r, hl, he, h => by simp at hl
 | (ks, v) :: es, m :: ms, i, r, hl, he, h => by
  have h0 := he 0 (ks, v) m rfl rfl
  have hrest : ∀ (j : Nat) (e : List Im × Im) (m : MapEntry), es[j]? = some e → ms[j]? = some m → EntRel F e m := fun j e m' h1 h2 => he (j + 1) e m' (by simpa using h1) (by simpa using h2)
  simp only [findKs] at h
  split at h
  ·rename_i hs
   split at h
   ·rename_i h2
    simp only [Option.some.injEq] at h
    subst h
    obtain ⟨vb, hb1, hb2⟩ := KRel.many h2 h0.1
    have he := (equal_ok ht hk hb2 hs w).1
    refine ⟨some (i, m.val), ?_, m.val, rfl, h0.2⟩
    simp only [Instr.findAsking, Op.equal, Op.maxDepth, hb1, Sem.run_bind, he, Result.andThen_ok, if_true, Sem.run_pure]
   ·simp at h
  ·rename_i hs
   split at h
   ·rename_i h2
    obtain ⟨vb, hb1, hb2⟩ := KRel.many h2 h0.1
    have he := (equal_ok ht hk hb2 hs w).1
    obtain ⟨q, h3, h4⟩ := findKs_ok ht hk w es ms (i + 1) r (by simpa using hl) hrest h
    refine ⟨q, ?_, h4⟩
    simp only [Instr.findAsking, Op.equal, Op.maxDepth, hb1, Sem.run_bind, he, Result.andThen_ok, Bool.false_eq_true, if_false]
    exact h3
   ·simp at h
  ·simp at h
theorem findNow_struct {fs : Array Field} {k : Value} : ∀ (ms : List MapEntry) (i : Nat), Instr.findNow (.struct fs) k ms i = if ms = [] then some none else none
 | [], i => rfl
 | m :: ms, i => by simp [Instr.findNow, Instr.sameNow]
theorem findKey_struct {F : Fz} {kt : TypeId} {ts : List TypeId} (ht : eqsT P kt = some ts) {k : List Im} {va : Array Value} (hk : VRels F [] [] (k.map .im) va.toList) (w : World) (es : List (List Im × Im)) (ms : List MapEntry) (r : Option (Nat × Im)) (hl : ms.length = es.length) (he : ∀ (j : Nat) (e : List Im × Im) (m : MapEntry), es[j]? = some e → ms[j]? = some m → EntRel F e m)
  (h : findKs P ts k es 0 = some r) : ∃ q, (Instr.findKey kt (.agg va) ms).run P w = .ok q w ∧ KHit F r q := by
 obtain ⟨q, h1, h2⟩ := findKs_ok ht hk w es ms 0 r hl he h
 refine ⟨q, ?_, h2⟩
 have hu : ∃ fs, P.underlying kt = some (.struct fs) := by
  unfold eqsT at ht
  split at ht
  ·rename_i fs hu; exact ⟨fs, hu⟩
  ·simp at ht
 obtain ⟨fs, hu⟩ := hu
 simp only [Instr.findKey, Sem.run_bind, run_underlying hu, Result.andThen_ok, findNow_struct]
 cases ms with
 | nil =>
  simp only [Instr.findAsking, Sem.run_pure, Result.ok.injEq, and_true] at h1
  subst h1
  simp
 | cons m ms => simpa using h1
theorem checkKey_scal {t : TypeId} (h : scalT P t = true) (e : Bool) (n : Nat) (v : Value) (w : World) : (Instr.checkKey e (n + 1) t v).run P w = .ok () w := by
 unfold scalT at h
 unfold Instr.checkKey
 split at h <;> first
  | (rename_i hd; simp only [Sem.run_bind, run_underlying hd, Result.andThen_ok]; cases v <;> rfl)
  | (rename_i k hd; simp only [Sem.run_bind, run_underlying hd, Result.andThen_ok]; cases v <;> rfl)
  | simp at h
theorem checkKey_struct {F : Fz} {kt : TypeId} {ts : List TypeId} (ht : eqsT P kt = some ts) {k : List Im} {va : Array Value} (hk : VRels F [] [] (k.map .im) va.toList) (hl : k.length = ts.length) (e : Bool) (w : World) : (Instr.checkKey e 10000 kt (.agg va)).run P w = .ok () w := by
 have hsz := hk.length
 unfold eqsT at ht
 split at ht
 ·rename_i fs hu
  split at ht
  ·rw [show (10000 : Nat) = 9999 + 1 from rfl]
   unfold Instr.checkKey
   simp only [Sem.run_bind, run_underlying hu, Result.andThen_ok]
   rw [← Array.forIn_toList]
   have key : ∀ (l : List Field) (i : Nat) (ts : List TypeId), flatFs P i l = some ts → i + ts.length = va.size → Sem.run P (forIn l PUnit.unit fun f (_ : PUnit) => if f.name ≠ "_" then (do
      let x ← part f.type va f.offset
      Instr.checkKey e 9999 f.type x
      pure (ForInStep.yield PUnit.unit)) else (pure (ForInStep.yield PUnit.unit) : Sem (ForInStep PUnit))) w = .ok PUnit.unit w := by
    intro l
    induction l with
    | nil => intro i ts _ _; rfl
    | cons f l ih =>
     intro i ts hf hs
     simp only [flatFs] at hf
     split at hf
     ·rename_i hc
      obtain ⟨hc1, hc2, hc3⟩ := hc
      simp only [Option.map_eq_some_iff] at hf
      obtain ⟨ts', hf, rfl⟩ := hf
      simp only [List.length_cons] at hs
      have hg : va[i]? = some va[i] := Array.getElem?_eq_getElem (by omega)
      have ih' := ih (i + 1) ts' hf (by omega)
      simp only [List.forIn_cons, if_pos hc1, Sem.run_bind, hc2, run_part_scal hc3 va i _ hg w, Result.andThen_ok, show (9999 : Nat) = 9998 + 1 from rfl, checkKey_scal hc3, Sem.run_pure]
      exact ih'
     ·simp at hf
   rw [key fs.toList 0 ts ht (by simp only [List.length_map, Array.length_toList] at hsz; omega)]
   rfl
  ·simp at ht
 ·simp at ht
def lookupK (P : Program) (st : ASt) (t : TypeId) (m k : PV) (ok : Bool) : Option PV :=
 match m, k, mapT P t with
 | .map d j, .agg cs, some (kt, e) => (match imsPV st.fr cs, eqsT P kt, look st.fr d j, zeroOne P e with
  | some ks, some ts, some (.map es), some z => if ks.length = ts.length then ((findKs P ts ks es 0).map fun r => match r with
    | some (_, v) => if ok then .tup [.im v, .im (.bool true)] else .im v
    | none => if ok then .tup [.im z, .im (.bool false)] else .im z) else none
  | _, _, _, _ => none)
 | _, _, _ => none
theorem agg_key {F : Fz} {bs : Bns} {fr : Frs} {w : World} (hm : MRel F bs fr w) {cs : List PV} {ks : List Im} (hc : imsPV fr cs = some ks) {vs : Array Value} (hv : VRels F bs fr cs vs.toList) : VRels F [] [] (ks.map .im) vs.toList := by
 obtain ⟨h1, h2⟩ := imsPV_rel hm hc hv
 refine VRels.mk (by simpa [h1] using hv.length) fun j x u hx hu => ?_
 rw [List.getElem?_map, Option.map_eq_some_iff] at hx
 obtain ⟨y, hy, rfl⟩ := hx
 simpa only [VRel] using h2 j y u hy hu
theorem lookupK_ok {n : Nat} {F : Fz} {bs : Bns} {st : ASt} {a : Act} {w : World} {t : TypeId} {m k z : PV} {vm vk : Value} {ok : Bool} (h : ARel n F bs st a w) (hm : VRel F bs st.fr m vm) (hk : VRel F bs st.fr k vk) (hz : lookupK P st t m k ok = some z) :
  ∃ v, (Instr.lookup t vm vk ok).run P w = .ok v w ∧ VRel F bs st.fr z v := by
 unfold lookupK at hz
 split at hz
 ·rename_i d j cs kt e hmt
  split at hz
  ·rename_i ks ts es zz hc hts hl hzz
   split at hz
   ·rename_i hlen
    simp only [Option.map_eq_some_iff] at hz
    obtain ⟨r, hr, rfl⟩ := hz
    simp only [VRel] at hk
    obtain ⟨va, rfl, hk⟩ := hk
    have hki := agg_key h.mem hc hk
    simp only [VRel] at hm
    obtain ⟨b, kk, es', h1, h2, rfl⟩ := hm
    rw [hl] at h1
    cases h1
    obtain ⟨b', arr, clock, h3, h4, h5, h6, _⟩ := h.mem.obj d j _ _ hl h2
    simp at h3
    subst h3
    have hchk := fun e => checkKey_struct hts hki hlen e w
    obtain ⟨q, hf, hq⟩ := findKey_struct hts hki w es arr.toList r (by simpa using h5) (fun j e m he hm => by
     obtain ⟨m', h7, h8⟩ := h6 j e he
     have : arr[j]? = some m := by simpa using hm
     rw [h7] at this
     cases this
     exact h8) hr
    obtain ⟨zv, hzr, hzi⟩ := zeroOne_run hzz w
    cases r with
    | none =>
     simp only [KHit] at hq
     subst hq
     have hrun : (Instr.lookup t (.map (some b)) (.agg va) ok).run P w = .ok (if ok then .tuple #[zv, .bool false] else zv) w := by
      simp [Instr.lookup, run_underlying (mapT_some hmt), MapKept.run_getObj_map h4, hchk, hf, hzr, Result.andThen]
     refine ⟨_, hrun, ?_⟩
     cases ok
     ·simpa [VRel] using hzi F
     ·simp only [VRel, VRels, if_true]
      exact ⟨_, rfl, zv, [.bool false], rfl, hzi F, .bool false, [], rfl, by simp [IRel], rfl⟩
    | some p =>
     obtain ⟨j', x⟩ := p
     obtain ⟨u, rfl, h8⟩ := hq
     have hrun : (Instr.lookup t (.map (some b)) (.agg va) ok).run P w = .ok (if ok then .tuple #[u, .bool true] else u) w := by
      simp [Instr.lookup, run_underlying (mapT_some hmt), MapKept.run_getObj_map h4, hchk, hf, Result.andThen]
     refine ⟨_, hrun, ?_⟩
     cases ok
     ·simpa [VRel] using h8
     ·simp only [VRel, VRels, if_true]
      exact ⟨_, rfl, u, [.bool true], rfl, h8, .bool true, [], rfl, by simp [IRel], rfl⟩
   ·simp at hz
  ·simp at hz
 ·simp at hz
def updateK (P : Program) (st : ASt) (t : TypeId) (m k v : PV) : Option ASt :=
 match m, k, imPV st.fr v, mapT P t with
 | .map d j, .agg cs, some v, some (kt, _) => (match imsPV st.fr cs, eqsT P kt, look st.fr d j with
  | some ks, some ts, some (.map es) => if ks.length = ts.length ∧ 2 ≤ ks.length then (match findKs P ts ks es 0 with
   | some none => some (st.setFr (fset st.fr d j (.map (es ++ [(ks, v)]))))
   | _ => none) else none
  | _, _, _ => none)
 | _, _, _, _ => none
theorem updateK_ok {n : Nat} {st st1 : ASt} {t : TypeId} {xm xk xv : Operand} {m k v : PV} (hm : evalPV st xm = some m) (hk : evalPV st xk = some k) (hv : evalPV st xv = some v) (hz : updateK P st t m k v = some st1) : OpOk P n st (.mapUpdate t xm xk xv) .any st1 := fun F bs a w hr o ho => by
 have h1 := evalPV_rel hr hm
 have h2 := evalPV_rel hr hk
 have h3 := evalPV_rel hr hv
 unfold updateK at hz
 split at hz
 ·rename_i d j cs v kt e hiv hmt
  split at hz
  ·rename_i ks ts es hc hts hl
   split at hz
   ·rename_i hlen
    split at hz
    ·rename_i hf0
     simp only [Option.some.injEq] at hz
     subst hz
     simp only [VRel] at h2
     obtain ⟨va, hva, hk2⟩ := h2
     have hki := agg_key hr.mem hc hk2
     have hvi := imPV_rel hr.mem hiv h3
     simp only [VRel] at h1
     obtain ⟨b, kk, es', h4, h5, h6⟩ := h1
     rw [hl] at h4
     cases h4
     obtain ⟨b', arr, clock, h7, h8, h9, h10, _⟩ := hr.mem.obj d j _ _ hl h5
     simp at h7
     subst h7
     have hchk := fun e => checkKey_struct hts hki hlen.1 e w
     obtain ⟨q, hf, hq⟩ := findKey_struct hts hki w es arr.toList none (by simpa using h9) (fun j e m he hm => by
      obtain ⟨m', h11, h12⟩ := h10 j e he
      have : arr[j]? = some m := by simpa using hm
      rw [h11] at this
      cases this
      exact h12) hf0
     simp only [KHit] at hq
     subst hq
     have hkr : KRel F ks (.agg va) := by
      match ks, hlen.2, hki with
      | x :: y :: zs, _, hki =>
       refine ⟨va, rfl, by simpa using hki.length, fun j z hz => ?_⟩
       obtain ⟨u, h11, h12⟩ := hki.get j (.im z) (by rw [List.getElem?_map, hz]; rfl)
       exact ⟨u, by simpa using h11, by simpa only [VRel] using h12⟩
     have hent : EntRel F (ks, v) { key := .agg va, val := a.eval xv, born := clock } := ⟨hkr, hvi⟩
     obtain ⟨g4, g5⟩ := mapPut_ok hr.mem (arr' := arr.push { key := .agg va, val := a.eval xv, born := clock }) (es' := es ++ [(ks, v)]) (clock' := clock + 1) hl h5 (by simp [h9]) (fun i e he => by
      simp only [List.getElem?_append] at he
      rw [Array.getElem?_push]
      split at he
      ·rename_i hi
       rw [if_neg (by omega)]
       exact h10 i e he
      ·rename_i hi
       have : i - es.length = 0 := by
        have := (List.getElem?_eq_some_iff.1 he).1
        simp at this
        omega
       rw [this] at he
       simp at he
       subst he
       exact ⟨_, by rw [if_pos (by omega)], hent⟩)
     have hrun : (Instr.mapUpdate t (a.eval xm) (a.eval xk) (a.eval xv)).run P w = .ok () { w with heap := w.heap.setIfInBounds b (.map (arr.push { key := .agg va, val := a.eval xv, born := clock }) (clock + 1)) } := by
      rw [h6, hva]
      simp [Instr.mapUpdate, run_underlying (mapT_some hmt), MapKept.run_getObj_map h8, hchk, hf, MapKept.run_setObj_map _ h8, Result.andThen]
     rw [ASt.setFr_fset]
     exact ⟨.skip, undef, _, F, bs, by simp [execOp, ho, hrun], .inr ⟨rfl, rfl⟩, g4, g5, by simp [VRel], ASt.setFr_env _ _⟩
    ·simp at hz
   ·simp at hz
  ·simp at hz
 ·simp at hz

theorem makeMap_ok {n : Nat} {st : ASt} {t : TypeId} : OpOk P n st (.makeMap t none) (.map 0 st.loc.length) (st.push (.map [])) := fun F bs a w hr o ho => by
 have hm := hr.mem
 have hsh := hm.shape
 cases bs with
 | nil => simp [ASt.fr] at hsh
 | cons b0 bs =>
  simp only [ASt.fr, List.map_cons, List.cons.injEq] at hsh
  obtain ⟨h1, h2, h3⟩ := hm.push (F' := F) (w' := w.alloc (.map #[] 0)) (.map []) (some w.heap.size, 0) (fun b hb => heap_alloc_old w _ hb) (Fz.le_refl F) (fun _ _ _ => rfl)
   (fun b q v hb hq => by
    have := World.block_lt_of_cell? w _ (hm.fz b q v hq)
    simp at this
    omega) (fun b hb => by simp at hb; omega) ⟨w.heap.size, #[], 0, rfl, heap_alloc_new w _, rfl, fun i e he => by simp at he, unfrozen_new hr⟩
  have hrun : (Instr.makeMap t none).run P w = .ok (.map (some w.heap.size)) (w.alloc (.map #[] 0)) := rfl
  refine ⟨.value (.map (some w.heap.size)), .map (some w.heap.size), _, F, _, by simp [execOp, ho, hrun], .inl rfl, h1, ⟨Fz.le_refl F, h2, ⟨rfl, rfl, rfl, by simp, fun b hb _ => heap_alloc_old w _ hb⟩, h3⟩, ?_, rfl⟩
  simp only [VRel]
  exact ⟨w.heap.size, 0, [], by simp [ASt.push, ASt.fr], by simp [hsh.1], rfl⟩

/-! ### all operations -/
def stepX (P : Program) (st : ASt) (op : Op) : Option (PV × ASt) :=
 match stepV P st op with
 | some r => some r
 | none => match op with
  | .convert s t x => (evalPV st x).bind fun u => (convM P st s t u).map fun z => (z, st)
  | .lookup t m k ok => match evalPV st m, evalPV st k with
   | some u, some v => (match lookupV P st t u v ok with
    | some z => some (z, st)
    | none => (lookupK P st t u v ok).map fun z => (z, st))
   | _, _ => none
  | .mapUpdate t m k v => match evalPV st m, evalPV st k, evalPV st v with
   | some u, some x, some y => (match updateV P st t u x y with
    | some s => some (.any, s)
    | none => (updateK P st t u x y).map fun s => (.any, s))
   | _, _, _ => none
  | .makeMap t none => some (.map 0 st.loc.length, st.push (.map []))
  | _ => none
theorem stepX_ok {n : Nat} {st st1 : ASt} {op : Op} {z : PV} (hk : stepX P st op = some (z, st1)) : OpOk P n st op z st1 := by
 unfold stepX at hk
 split at hk
 ·rename_i r hr
  simp only [Option.some.injEq] at hk
  subst hk
  exact stepV_ok hr
 ·split at hk
  ·simp only [Option.bind_eq_some_iff, Option.map_eq_some_iff, Prod.mk.injEq] at hk
   obtain ⟨u, h1, v, h2, rfl, rfl⟩ := hk
   exact convM_ok h1 h2
  ·rename_i t m k ok
   split at hk
   ·rename_i u v h1 h2
    split at hk
    ·rename_i z h3
     simp only [Option.some.injEq, Prod.mk.injEq] at hk
     obtain ⟨rfl, rfl⟩ := hk
     intro F bs a w hr o ho
     obtain ⟨vv, h4, h5⟩ := lookup_ok (P := P) hr (evalPV_rel hr h1) (evalPV_rel hr h2) h3
     exact ⟨.value vv, vv, w, F, bs, by simp [execOp, ho, h4], .inl rfl, hr.mem, .refl _ _ _ _, h5, rfl⟩
    ·simp only [Option.map_eq_some_iff, Prod.mk.injEq] at hk
     obtain ⟨z, h3, rfl, rfl⟩ := hk
     intro F bs a w hr o ho
     obtain ⟨vv, h4, h5⟩ := lookupK_ok (P := P) hr (evalPV_rel hr h1) (evalPV_rel hr h2) h3
     exact ⟨.value vv, vv, w, F, bs, by simp [execOp, ho, h4], .inl rfl, hr.mem, .refl _ _ _ _, h5, rfl⟩
   ·simp at hk
  ·rename_i t m k v
   split at hk
   ·rename_i u x y h1 h2 h3
    split at hk
    ·rename_i s h4
     simp only [Option.some.injEq, Prod.mk.injEq] at hk
     obtain ⟨rfl, rfl⟩ := hk
     exact update_ok h1 h2 h3 h4
    ·simp only [Option.map_eq_some_iff, Prod.mk.injEq] at hk
     obtain ⟨s, h4, rfl, rfl⟩ := hk
     exact updateK_ok h1 h2 h3 h4
   ·simp at hk
  ·simp only [Option.some.injEq, Prod.mk.injEq] at hk
   obtain ⟨rfl, rfl⟩ := hk
   exact makeMap_ok
  ·simp at hk
end Go.Proofs.YtkjfdacjjogpcaaPi

