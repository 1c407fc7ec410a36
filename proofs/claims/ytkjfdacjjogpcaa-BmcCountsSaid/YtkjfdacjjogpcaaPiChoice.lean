/- A drawn statement with one call whose result is not told ahead: the operations before it and those that float (an alloc) stand first, the others wait for the call. No Go text in it. -/
import Derived.Test.YtkjfdacjjogpcaaPiSplit
set_option linter.unusedVariables false
set_option linter.unusedSimpArgs false
set_option linter.unusedSectionVars false
set_option maxRecDepth 100000
namespace Go.Proofs.YtkjfdacjjogpcaaPi
variable {P : Program}
def ExeC {V : Type} (P : Program) (n : Nat) (ops : Array Oper) (o : Oper) (β : V → Actn) (R : V → Prop) : Prop :=
 ∀ s, (∀ v, (β v).ok s) → ∀ F bs a w, ARel n F bs s a w → ∀ (next : Act → World → Prop) (Q : Exit → Act → World → Prop),
  (∀ v, R v → ∀ F' bs' a' w', ARel n F' bs' ((β v).app s) a' w' → AStep F bs s w F' bs' ((β v).app s) w' → next a' w') →
  if Region.wanted o (yielded ops a.tmps) then o.wp P a w next Q ∨ (o.asks P a w ∧ LetsOut Q) else next (a.put o.dst undef) w
def GExeC {V : Type} (P : Program) (n : Nat) (g : GO) (β : V → Actn) (R : V → Prop) : Prop := ∀ ops o, goOf ops o = some g → ExeC P n ops o β R
def DX (P : Program) (n : Nat) (deps : List (List Nat)) (c : Nat) (l : List GO) (acc : List Met) (st : ASt) (K : ASt → Prop) : Prop :=
 ∃ (V : Type) (_ : V) (R : V → Prop) (l1 : List GO) (g : GO) (l2 : List GO) (as1 : List Actn) (st1 : ASt) (β : V → Actn) (as2 : V → List Actn) (st' : V → ASt), l = l1 ++ g :: l2 ∧ acc.length + l1.length = c ∧ Plan P n l1 st as1 st1 ∧ GExeC P n g β R ∧
  ∀ v, (β v).ok st1 ∧ (β v).fits g ∧ Plan P n l2 ((β v).app st1) (as2 v) (st' v) ∧ metAll deps (acc ++ as1.map Actn.met ++ (β v).met :: (as2 v).map Actn.met) = true ∧ (R v → K (st' v))
theorem DX.cons {n : Nat} {deps : List (List Nat)} {c : Nat} {g : GO} {gs : List GO} {acc : List Met} {st st1 : ASt} {K : ASt → Prop} {α : Actn} (h1 : GExe P n g α) (h2 : α.ok st) (h3 : α.fits g) (h4 : α.app st = st1) (h : DX P n deps c gs (acc ++ [α.met]) st1 K) : DX P n deps c (g :: gs) acc st K := by
 obtain ⟨V, v0, R, l1, g', l2, as1, st2, β, as2, st', rfl, hc, hp, hx, hv⟩ := h
 refine ⟨V, v0, R, g :: l1, g', l2, α :: as1, st2, β, as2, st', rfl, by simp at hc ⊢; omega, .cons h1 h2 h3 h4 hp, hx, fun v => ?_⟩
 obtain ⟨k1, k2, k3, k4, k5⟩ := hv v
 exact ⟨k1, k2, k3, by simpa using k4, k5⟩
theorem DX.run {n : Nat} {deps : List (List Nat)} {c : Nat} {K : ASt → Prop} : ∀ {l : List GO} {acc : List Met} {st : ASt}, DX P n deps c (runD P n l acc st).2.2 (runD P n l acc st).1 (runD P n l acc st).2.1 K → DX P n deps c l acc st K
 | [], acc, st, h => h
 | g :: gs, acc, st, h => by
  simp only [runD] at h
  split at h
  ·rename_i hd
   split at h
   ·rename_i hg
    split at h
    ·rename_i hp
     split at h
     ·rename_i v st1 hs
      obtain ⟨h1, h2⟩ := exe_pure hg hp hs hd
      refine DX.cons h1 (actOf_self fun p hp => by simp at hp) actOf_fits h2 (DX.run ?_)
      simpa [Actn.met, actOf] using h
     ·exact h
    ·split at h
     ·rename_i r ht
      split at h
      ·rename_i v st1 hs
       obtain ⟨h1, h2⟩ := exe_write hg ht hs hd
       refine DX.cons h1 (actOf_self fun p hp => by simp at hp) actOf_fits h2 (DX.run ?_)
       have hw : (turnedO st1 r).map (·.1) = [r] := by
        obtain ⟨o, h3, _, h4⟩ := stepW_local ht (actOf_sees (actOf_self (g := g) (v := v) (rd := []) (ws := []) (fun p hp => by simp at hp))).1 hs
        obtain ⟨o0, h5⟩ := Option.isSome_iff_exists.1 h4
        rw [turnedO, h3, ASt.setFr_fset, look, fget_fset_same _ _ _ _ _ h5]
        rfl
       simpa [Actn.met, actOf, hw] using h
      ·exact h
     ·split at h
      ·rename_i k hk
       split at h
       ·rename_i v st1 hs
        have hkd : look st.fr 0 k = some .dead := by have := (spareAt_ok hk).2; simpa [ASt.fr] using this
        obtain ⟨h1, h2, h3⟩ := exe_fresh hkd hg hs hd
        refine DX.cons h1 h3 actOf_fits h2 (DX.run ?_)
        have hw : (turnedO st1 (0, k)).map (·.1) = [(0, k)] := by
         obtain ⟨o, h4, _⟩ := stepD_local (actOf_sees (actOf_self (g := g) (v := v) (rd := []) (ws := []) (fun p hp => by simp at hp))).1 hs
         rw [turnedO, h4, ASt.at_fr, look, fget_fset_same _ _ _ _ _ hkd]
         rfl
        simpa [Actn.met, actOf, hw] using h
       ·exact h
      ·exact h
   ·rename_i hg
    refine DX.cons (α := ⟨g.dst, .tup [], guardNeed st.env g.guard, [], [], [], []⟩) (st1 := st.put g.dst (.tup [])) (exe_skip hd rfl rfl rfl (fun s hs => guard_local hs.1 hg)) ⟨fun p hp => (needsA_in (st := st) (g := g) (List.mem_append_left _ hp)).2, fun p hp => by simp at hp, fun p hp => by simp at hp⟩ ⟨rfl, fun p hp => (needsA_in (st := st) (g := g) (List.mem_append_left _ hp)).1, fun p hp => by simp at hp⟩ rfl (DX.run ?_)
    simpa [Actn.met] using h
   ·exact h
  ·exact h
theorem DX.sim {n : Nat} {st : ASt} {deps : List (List Nat)} {c : Nat} {K : ASt → Prop} {l l' : List GO} {acc acc' : List Met} {st' : ASt} (h : DX P n deps c l' acc' st' K) (hr : runD P n l acc st = (acc', st', l') := by (try simp only [fx, lookupV, updateV, lookupK, updateK, slicePV, pe0, pe1, pe2, pe3, pe4, pe5, pe6, pe7, pr0, pr1, Nat.reduceAdd, Nat.reduceMul, Nat.reduceLeDiff, Nat.reduceLT, Nat.reduceEqDiff, Nat.reduceBEq, Nat.reduceSub, reduceCtorEq, reduceIte, Int.reduceToNat, Int.reduceLE, Int.reduceEq, Int.reduceNe, Int.reduceBEq, Int.reduceBNe, Int.reduceLT, Int.reduceGT, Int.reduceGE, Int.reduceNeg]); with_reducible rfl) : DX P n deps c l acc st K := DX.run (by rw [hr]; exact h)
theorem DX.call {n : Nat} {deps : List (List Nat)} {c : Nat} {K : ASt → Prop} {gs : List GO} {acc : List Met} {st : ASt} {f : Operand} {args : Array Operand} {ts : Array TypeId} {dst : Option Nat} {gd : Option (Nat × Bool)} {fid : FuncId} {cap xs : List PV} (v : PV) (rd ws : List (Ref × AObj))
  (hg : guardA st.env gd = some true) (hf : evalPV st f = some (.fn fid cap)) (hx : evalsPV st args.toList = some xs) (hd : okDst n dst = true) (hb : bodyB P fid = true)
  (hrd : Agree rd st.fr) (h : ∀ u, Agree rd u → ACalls P fid (xs ++ cap) u fun pv fr' => pv = v ∧ fr' = wr u ws)
  (hk : DX P n deps c gs (acc ++ [⟨rd.map (·.1), ws.map (·.1), [], []⟩]) ((st.setFr (wr st.fr ws)).put dst v) K) :
  DX P n deps c (⟨dst, .call { callee := .value f, args, argTypes := ts }, gd⟩ :: gs) acc st K :=
 DX.cons (exe_call rfl hg hf hx hd hb h) (actOf_self hrd) actOf_fits rfl hk
theorem Plan.size {n : Nat} : ∀ {l : List GO} {st st' : ASt} {as : List Actn}, Plan P n l st as st' → as.length = l.length
 | _, _, _, _, .nil st => rfl
 | _, _, _, _, .cons _ _ _ _ h => by simp [h.size]
theorem Chain.append : ∀ {l1 l2 : List Actn} {s : ASt}, Chain l1 s → Chain l2 (fin l1 s) → Chain (l1 ++ l2) s
 | [], _, _, _, h => h
 | α :: l1, l2, s, h1, h2 => ⟨h1.1, Chain.append h1.2 h2⟩
end Go.Proofs.YtkjfdacjjogpcaaPi

