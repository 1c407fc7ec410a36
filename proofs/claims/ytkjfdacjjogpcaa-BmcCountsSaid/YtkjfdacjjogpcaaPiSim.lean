/- Running the first operations of a statement alone. No Go text in it. -/
import Derived.Test.YtkjfdacjjogpcaaPiGo
set_option linter.unusedVariables false
set_option linter.unusedSimpArgs false
namespace Go.Proofs.YtkjfdacjjogpcaaPi
variable {P : Program} {n : Nat} {Q : Exit → ASt → Prop}
theorem GOps.runA (l2 : List GO) : ∀ {l : List GO} {st : ASt}, (runOps P n l st).2 = [] → GOps P n l2 Q (runOps P n l st).1 → GOps P n (l ++ l2) Q st
 | [], st, _, h => h
 | g :: gs, st, h0, h => by
  simp only [runOps] at h h0
  split at h
  ·rename_i hg
   rw [hg] at h0
   simp only at h0
   split at h
   ·rename_i v st1 hs
    rw [hs] at h0
    simp only at h0
    split at h
    ·rename_i hd
     rw [if_pos hd] at h0
     intro ops l' hl
     obtain ⟨o, l, rfl, h1, h2⟩ := gosOf_cons hl
     obtain ⟨h3, h4, h5⟩ := goOf_guard h1 st.env
     refine AOps.step (h3.trans hg) (by rw [← h5]; exact stepX_ok hs) (by rw [← h4]; exact hd) ?_
     rw [← h4]
     exact (GOps.runA l2 h0 h) ops l h2
    ·rename_i hd; rw [if_neg hd] at h0; simp at h0
   ·rename_i hs; rw [hs] at h0; simp at h0
  ·rename_i hg
   rw [hg] at h0
   simp only at h0
   split at h
   ·rename_i hd
    rw [if_pos hd] at h0
    intro ops l' hl
    obtain ⟨o, l, rfl, h1, h2⟩ := gosOf_cons hl
    obtain ⟨h3, h4, h5⟩ := goOf_guard h1 st.env
    refine AOps.skip (h3.trans hg) (by rw [← h4]; exact hd) ?_
    rw [← h4]
    exact (GOps.runA l2 h0 h) ops l h2
   ·rename_i hd; rw [if_neg hd] at h0; simp at h0
  ·rename_i hg; rw [hg] at h0; simp at h0
theorem GOps.simK (k : Nat) {l l1 l2 : List GO} {st st' : ASt} (h : GOps P n l2 Q st') (h1 : l.take k = l1 := by rfl) (h2 : l.drop k = l2 := by rfl) (hr : runOps P n l1 st = (st', []) := by (try simp only [fx, lookupV, updateV, lookupK, updateK, slicePV, pe0, pe1, pe2, pe3, pe4, pe5, pe6, pe7, pr0, pr1, Nat.reduceAdd, Nat.reduceMul, Nat.reduceLeDiff, Nat.reduceLT, Nat.reduceEqDiff, Nat.reduceBEq, Nat.reduceSub, reduceCtorEq, reduceIte, Int.reduceToNat, Int.reduceLE, Int.reduceEq, Int.reduceNe, Int.reduceBEq, Int.reduceBNe, Int.reduceLT, Int.reduceGT, Int.reduceGE, Int.reduceNeg]); with_reducible rfl) : GOps P n l Q st := by
 have := GOps.runA (P := P) (n := n) (Q := Q) l2 (l := l1) (st := st) (by rw [hr]) (by rw [hr]; exact h)
 rw [← h1, ← h2, List.take_append_drop] at this
 exact this
end Go.Proofs.YtkjfdacjjogpcaaPi

