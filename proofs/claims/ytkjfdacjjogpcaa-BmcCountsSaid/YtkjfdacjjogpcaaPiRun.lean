/- How a function's text is run in the abstract program logic: the same rules with what comes next behind a name. No Go text in it. -/
import Derived.Test.YtkjfdacjjogpcaaPiMore
set_option linter.unusedVariables false
set_option linter.unusedSimpArgs false
namespace Go.Proofs.YtkjfdacjjogpcaaPi
variable {P : Program}

structure GO where
 dst : Option Nat
 op : Op
 guard : Option (Nat × Bool)
def goOf (ops : Array Oper) (o : Oper) : Option GO :=
 match o.guard with
 | none => some ⟨o.dst, o.op, none⟩
 | some (j, want) => ((ops[j]?).bind (·.dst)).map fun t => ⟨o.dst, o.op, some (t, want)⟩
def gosOf (ops : Array Oper) : List Oper → Option (List GO)
 | [] => some []
 | o :: l => match goOf ops o, gosOf ops l with
  | some g, some gs => some (g :: gs)
  | _, _ => none
def guardA (env : List (Nat × PV)) : Option (Nat × Bool) → Option Bool
 | none => some true
 | some (t, want) => match eget env t with
  | some (.im (.bool c)) => some (c == want)
  | some (.tup []) => some false
  | _ => none
def GOps (P : Program) (n : Nat) (l : List GO) (Q : Exit → ASt → Prop) (st : ASt) : Prop :=
 ∀ ops l', gosOf ops l' = some l → AOps P n ops l' Q st
theorem goOf_guard {ops : Array Oper} {o : Oper} {g : GO} (h : goOf ops o = some g) (env : List (Nat × PV)) : wantedA ops env o = guardA env g.guard ∧ g.dst = o.dst ∧ g.op = o.op := by
 unfold goOf at h
 split at h
 ·rename_i hg
  simp only [Option.some.injEq] at h
  subst h
  simp [wantedA, hg, guardA]
 ·rename_i j want hg
  simp only [Option.map_eq_some_iff] at h
  obtain ⟨t, ht, rfl⟩ := h
  refine ⟨?_, rfl, rfl⟩
  simp only [wantedA, hg, guardA, ht]
  cases eget env t with
  | none => rfl
  | some x =>
   cases x with
   | im y => cases y <;> rfl
   | tup cs => cases cs <;> rfl
   | _ => rfl
theorem gosOf_cons {ops : Array Oper} {l' : List Oper} {g : GO} {gs : List GO} (h : gosOf ops l' = some (g :: gs)) : ∃ o l, l' = o :: l ∧ goOf ops o = some g ∧ gosOf ops l = some gs := by
 cases l' with
 | nil => simp [gosOf] at h
 | cons o l =>
  simp only [gosOf] at h
  split at h
  ·rename_i g' gs' h1 h2
   simp only [Option.some.injEq, List.cons.injEq] at h
   obtain ⟨rfl, rfl⟩ := h
   exact ⟨o, l, rfl, h1, h2⟩
  ·simp at h
section
variable {n : Nat} {Q : Exit → ASt → Prop} {st : ASt} {g : GO} {gs l : List GO}
theorem GOps.nil (h : Q .normal st) : GOps P n [] Q st := fun ops l' hl => by
 cases l' with
 | nil => exact AOps.nil h
 | cons o l =>
  simp only [gosOf] at hl
  split at hl
  ·simp at hl
  ·simp at hl
def runOps (P : Program) (n : Nat) : List GO → ASt → ASt × List GO
 | [], st => (st, [])
 | g :: gs, st => match guardA st.env g.guard with
  | some true => match stepX P st g.op with
   | some (v, st1) => if okDst n g.dst then runOps P n gs (st1.put g.dst v) else (st, g :: gs)
   | none => (st, g :: gs)
  | some false => if okDst n g.dst then runOps P n gs (st.put g.dst (.tup [])) else (st, g :: gs)
  | none => (st, g :: gs)
theorem GOps.run : ∀ {l : List GO} {st : ASt}, GOps P n (runOps P n l st).2 Q (runOps P n l st).1 → GOps P n l Q st
 | [], st, h => h
 | g :: gs, st, h => by
  simp only [runOps] at h
  split at h
  ·rename_i hg
   split at h
   ·rename_i v st1 hs
    split at h
    ·rename_i hd
     intro ops l' hl
     obtain ⟨o, l, rfl, h1, h2⟩ := gosOf_cons hl
     obtain ⟨h3, h4, h5⟩ := goOf_guard h1 st.env
     refine AOps.step (h3.trans hg) (by rw [← h5]; exact stepX_ok hs) (by rw [← h4]; exact hd) ?_
     rw [← h4]
     exact (GOps.run h) ops l h2
    ·exact h
   ·exact h
  ·rename_i hg
   split at h
   ·rename_i hd
    intro ops l' hl
    obtain ⟨o, l, rfl, h1, h2⟩ := gosOf_cons hl
    obtain ⟨h3, h4, h5⟩ := goOf_guard h1 st.env
    refine AOps.skip (h3.trans hg) (by rw [← h4]; exact hd) ?_
    rw [← h4]
    exact (GOps.run h) ops l h2
   ·exact h
  ·exact h
theorem GOps.step {x : PV} {st1 : ASt} (hg : guardA st.env g.guard = some true) (hop : OpOk P n st g.op x st1) (hd : okDst n g.dst = true) (h : GOps P n gs Q (st1.put g.dst x)) : GOps P n (g :: gs) Q st := fun ops l' hl => by
 obtain ⟨o, l, rfl, h1, h2⟩ := gosOf_cons hl
 obtain ⟨h3, h4, h5⟩ := goOf_guard h1 st.env
 refine AOps.step (h3.trans hg) (by rw [← h5]; exact hop) (by rw [← h4]; exact hd) ?_
 rw [← h4]
 exact h ops l h2
theorem GOps.ghost {st1 : ASt} (hg : Ghost n st st1) (h : GOps P n l Q st1) : GOps P n l Q st := fun ops l' hl => (h ops l' hl).ghost hg
theorem GOps.call {f : Operand} {args : Array Operand} {ts : Array TypeId} {dst : Option Nat} {gd : Option (Nat × Bool)} {fid : FuncId} {cap xs : List PV}
  (hg : guardA st.env gd = some true) (hf : evalPV st f = some (.fn fid cap)) (hx : evalsPV st args.toList = some xs) (hd : okDst n dst = true) (hb : bodyB P fid = true)
  (h : ACalls P fid (solids ((frzs st.loc (xs ++ cap)) :: st.up) (xs ++ cap)) ((frzs st.loc (xs ++ cap)) :: st.up) fun pv fr' => ∃ l u, fr' = l :: u ∧ GOps P n gs Q ((⟨st.env, l, u⟩ : ASt).put dst pv)) :
  GOps P n (⟨dst, .call { callee := .value f, args, argTypes := ts }, gd⟩ :: gs) Q st := fun ops l' hl => by
 obtain ⟨o, l, rfl, h1, h2⟩ := gosOf_cons hl
 obtain ⟨h3, h4, h5⟩ := goOf_guard h1 st.env
 simp only at h3 h4 h5
 refine AOps.call (h3.trans hg) h5.symm hf hx (by rw [← h4]; exact hd) hb rfl rfl ?_
 rw [← h4]
 exact h.mono fun v u ⟨l1, u1, e, k⟩ => ⟨l1, u1, e, k ops l h2⟩
theorem AWp.region_k {ops : Array Oper} {id : Nat} {l : List GO} (hl : gosOf ops ops.toList = some l) (h : GOps P n l Q st) : AWp P n (.region id ops false) Q st := AWp.region (h ops _ hl)
end
theorem ACalls.body_k {f : FuncId} {fn : Func} {c : Code} {args : List PV} {up : Frs} {R : PV → Frs → Prop} (hf : P.funcs[f]? = some fn) (hb : fn.body = some c) (m : Nat) (hm : fn.ntmps = m) (hn : args.length ≤ m) (rs : List ResultVar) (hrs : fn.results.toList = rs)
  (h : ∀ Q : Exit → ASt → Prop, (∀ e s, RetQ P m rs R e s → Q e s) → AWp P m c Q ⟨argEnv 0 (ups args), [], up⟩) : ACalls P f args up R := by
 subst hm hrs
 exact ACalls.body hf hb hn (h _ fun _ _ h => h)
end Go.Proofs.YtkjfdacjjogpcaaPi

