/- The rules to run a function's code in the abstract program logic, with what comes next as a list of frames. No Go text in it. -/
import Derived.Test.YtkjfdacjjogpcaaPiPlan
set_option linter.unusedVariables false
set_option linter.unusedSimpArgs false
namespace Go.Proofs.YtkjfdacjjogpcaaPi
variable {P : Program}

theorem GOps.mono {n : Nat} {l : List GO} {Q Q' : Exit → ASt → Prop} {st : ASt} (h : GOps P n l Q st) (hm : ∀ e s, Q e s → Q' e s) : GOps P n l Q' st := fun ops l' hl F bs a w hr =>
 wpList_mono (fun e a' w' ⟨st', F2, bs2, h1, h2, h3⟩ => ⟨st', F2, bs2, hm _ _ h1, h2, h3⟩) (h ops l' hl F bs a w hr)
theorem DOps.mono {n : Nat} {deps : List (List Nat)} {l : List GO} {acc : List Met} {st : ASt} {K K' : ASt → Prop} (h : DOps P n deps l acc st K) (hm : ∀ s, K s → K' s) : DOps P n deps l acc st K' := by
 obtain ⟨as, st', h1, h2, h3⟩ := h
 exact ⟨as, st', h1, h2, hm _ h3⟩
inductive KF where
 | rest (c : Code)
 | blk (id : Nat)
 | lp (K : ASt → Prop)
def kq (P : Program) (n : Nat) : List KF → (Exit → ASt → Prop) → Exit → ASt → Prop
 | [], Q => Q
 | .rest c :: k, Q => thenQ (AWp P n c (kq P n k Q)) (kq P n k Q)
 | .blk id :: k, Q => inBlockQ id (kq P n k Q)
 | .lp K :: k, Q => thenQ K (kq P n k Q)
def Run (P : Program) (n : Nat) (Q : Exit → ASt → Prop) (k : List KF) (c : Code) (st : ASt) : Prop := AWp P n c (kq P n k Q) st
def End (P : Program) (n : Nat) (Q : Exit → ASt → Prop) (k : List KF) (st : ASt) : Prop := kq P n k Q .normal st
def popE (id : Nat) : List KF → Option (List KF)
 | [] => none
 | .rest _ :: k => popE id k
 | .lp _ :: k => popE id k
 | .blk id' :: k => if id = id' then some k else popE id k
section
variable {n : Nat} {Q : Exit → ASt → Prop} {k : List KF} {c x y : Code} {st s' : ASt}
theorem End.rest (h : Run P n Q k c st) : End P n Q (.rest c :: k) st := h
theorem End.blk {id : Nat} (h : End P n Q k st) : End P n Q (.blk id :: k) st := h
theorem End.lp {K : ASt → Prop} (h : K st) : End P n Q (.lp K :: k) st := h
theorem End.all (h : Q .normal st) : End P n Q [] st := h
theorem End.ghost (g : Ghost n st s') (h : Run P n Q k c s') : End P n Q (.rest c :: k) st := AWp.ghost g h
theorem End.keep (ks : List Nat) (h : Run P n Q k c { st with env := ekeep ks st.env }) : End P n Q (.rest c :: k) st := AWp.ghost (.keep ks) h
theorem popE_ok {id : Nat} : ∀ {k k' : List KF} {st : ASt}, popE id k = some k' → End P n Q k' st → kq P n k Q (.exit id) st
 | [], k', st, h, _ => by simp [popE] at h
 | .rest l :: k, k', st, h, hq => by simp only [popE] at h; simp only [kq, thenQ]; exact popE_ok h hq
 | .lp K :: k, k', st, h, hq => by simp only [popE] at h; simp only [kq, thenQ]; exact popE_ok h hq
 | .blk id' :: k, k', st, h, hq => by
  simp only [popE] at h
  simp only [kq, inBlockQ]
  split at h
  ·rename_i e
   simp only [Option.some.injEq] at h
   subst h
   rw [if_pos e]
   exact hq
  ·rename_i e
   rw [if_neg e]
   exact popE_ok h hq
theorem kq_ret : ∀ {k : List KF} {st : ASt}, Q .ret st → kq P n k Q .ret st
 | [], st, h => h
 | .rest l :: k, st, h => by simp only [kq, thenQ]; exact kq_ret h
 | .lp K :: k, st, h => by simp only [kq, thenQ]; exact kq_ret h
 | .blk id :: k, st, h => by simp only [kq, inBlockQ]; exact kq_ret h
theorem Run.seq (h : Run P n Q (.rest y :: k) x st) : Run P n Q k (.seq x y) st := AWp.seq h
theorem Run.skip (h : End P n Q k st) : Run P n Q k .skip st := AWp.skip h
theorem Run.exit {id : Nat} {k' : List KF} (hp : popE id k = some k') (h : End P n Q k' st) : Run P n Q k (.exit id) st := AWp.exit (popE_ok hp h)
theorem Run.ret (h : Q .ret st) : Run P n Q k .ret st := AWp.ret (kq_ret h)
theorem Run.ghost (g : Ghost n st s') (h : Run P n Q k c s') : Run P n Q k c st := AWp.ghost g h
theorem Run.keep (ks : List Nat) (h : Run P n Q k c { st with env := ekeep ks st.env }) : Run P n Q k c st := AWp.ghost (.keep ks) h
theorem Run.region {ops : Array Oper} {id : Nat} {l : List GO} (hl : gosOf ops ops.toList = some l) (h : ∀ K : ASt → Prop, (∀ s, End P n Q k s → K s) → GOps P n l (thenQ K fun _ _ => False) st) : Run P n Q k (.region id ops false) st :=
 AWp.region_k hl ((h (End P n Q k) fun _ h => h).mono fun e s hq => by
  cases e with
  | normal => exact hq
  | _ => exact hq.elim)
theorem GOps.done {K : ASt → Prop} (h : K st) : GOps P n [] (thenQ K fun _ _ => False) st := GOps.nil h
theorem Run.draw {ops : Array Oper} {id : Nat} {l : List GO} (deps : List (List Nat)) (hm : P.follows .mixedOrders = true) (hl : gosOf ops ops.toList = some l) (hd : depsOk ops deps = true) (hs : slotsB deps l = true)
  (h : ∀ K : ASt → Prop, (∀ s, End P n Q k s → K s) → DOps P n deps l [] st K) : Run P n Q k (.region id ops true) st :=
 AWp.draw_k hm hl hd hs (h _ fun _ h => h)
theorem Run.cond {cd : Operand} (b : Bool) (hc : evalPV st cd = some (.im (.bool b))) (h1 : b = true → Run P n Q k x st) (h2 : b = false → Run P n Q k y st) : Run P n Q k (.cond cd x y) st := AWp.cond hc (by
 cases b with
 | true => exact h1 rfl
 | false => exact h2 rfl)
theorem Run.cond_any {cd : Operand} (hc : evalPV st cd = some .abool) (h1 : Run P n Q k x st) (h2 : Run P n Q k y st) : Run P n Q k (.cond cd x y) st := AWp.cond_any hc h1 h2
theorem Run.block {id : Nat} (h : Run P n Q (.blk id :: k) x st) : Run P n Q k (.block id x) st := AWp.block h
theorem Run.loop (I : Nat → ASt → Prop) (m0 : Nat) (h0 : I m0 st) (h : ∀ m s, I m s → Run P n Q (.lp (fun s1 => ∃ m' s2, m' < m ∧ Ghost n s1 s2 ∧ I m' s2) :: k) x s) : Run P n Q k (.loop x) st := AWp.loop I m0 h0 h
theorem Run.mono {Q' : Exit → ASt → Prop} {k' : List KF} (h : Run P n Q k c st) (hm : ∀ e s, kq P n k Q e s → kq P n k' Q' e s) : Run P n Q' k' c st := AWp.mono h hm
end
theorem Run.retC {n : Nat} {Q : Exit → ASt → Prop} {k : List KF} {st : ASt} {m : Nat} {rs : List ResultVar} {R : PV → Frs → Prop} {xs : List PV} {y : PV} (hQ : ∀ e s, RetQ P m rs R e s → Q e s) (h1 : ressPV P st rs = some xs) (h2 : ((oneOrTup xs).solid (frzs st.loc [oneOrTup xs] :: st.up)).down = some y) (h3 : R y st.up) :
  Run P n Q k .ret st := Run.ret (hQ _ _ ⟨.inr rfl, xs, h1, y, h2, h3⟩)
theorem End.allC {n : Nat} {Q : Exit → ASt → Prop} {st : ASt} {m : Nat} {rs : List ResultVar} {R : PV → Frs → Prop} {xs : List PV} {y : PV} (hQ : ∀ e s, RetQ P m rs R e s → Q e s) (h1 : ressPV P st rs = some xs) (h2 : ((oneOrTup xs).solid (frzs st.loc [oneOrTup xs] :: st.up)).down = some y) (h3 : R y st.up) :
  End P n Q [] st := End.all (hQ _ _ ⟨.inl rfl, xs, h1, y, h2, h3⟩)
theorem ACalls.code {f : FuncId} {fn : Func} {c : Code} {args : List PV} {up : Frs} {R : PV → Frs → Prop} (hf : P.funcs[f]? = some fn) (hb : fn.body = some c) (m : Nat) (hm : fn.ntmps = m) (hn : args.length ≤ m) (rs : List ResultVar) (hrs : fn.results.toList = rs)
  (h : ∀ Q : Exit → ASt → Prop, (∀ e s, RetQ P m rs R e s → Q e s) → Run P m Q [] c ⟨argEnv 0 (ups args), [], up⟩) : ACalls P f args up R := ACalls.body_k hf hb m hm hn rs hrs h
end Go.Proofs.YtkjfdacjjogpcaaPi

