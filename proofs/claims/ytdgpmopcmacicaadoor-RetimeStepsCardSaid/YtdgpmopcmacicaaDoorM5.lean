/- Part 5 of the proof: the texts PFwdB, PFwdC, WOI, PBck, PBckB, PInsN, PInsG, PInsC, WOJ, WOK, one behind the other. Each holds for every input that it names; no condition is hidden. -/
import Derived.Test.YtdgpmopcmacicaaDoorM4
import Derived.Test.YtdgpmopcmacicaaDoorPiCopy
import Derived.Test.YtdgpmopcmacicaaDoorM1
import Derived.WalkKit
import Derived.WalkSpells
import Derived.Lib.Overlaps
import Derived.Lib.AppendZerosOnto
import Derived.Shelf.Spec.SlicesInsert
/- Plain law: an and moved forward keeps what a graph shows, continued. -/
set_option linter.unusedVariables false
set_option linter.unusedSimpArgs false
set_option linter.unusedSectionVars false
namespace Go.Proofs.YtdgpmopcmacicaaDoorPi
abbrev dlA (g : LGraph) (k : Nat) : Int := (delayG g (g.ands.getD k (0, 0)).1).1
abbrev dlB (g : LGraph) (k : Nat) : Int := (delayG g (g.ands.getD k (0, 0)).2).1
theorem fwd3_eq (g : LGraph) (k : Nat) (init : Bool) : fwd3 g k init = ⟨g.inn, g.out, (g.regs ++ [fwdR g k init]).map (fun r => { r with next := toT (firstG g) k r.next }),
    (g.ands ++ [(dlA g k, dlB g k)]).map (fun p => (toT (firstG g) k p.1, toT (firstG g) k p.2)), g.outs.map (toT (firstG g) k)⟩ := by
  have hF : firstG (fwd1 g k) = firstG g := rfl
  simp only [fwd3, swG, fwd2, insG, hF, fwd1, List.map_map]
  rfl
/-- An and that can be moved. -/
structure Mov (g : LGraph) (k : Nat) : Prop where
  ok : GraphOk g
  names : (namesG g).length < 99
  regs : g.regs.length < 288
  ands : g.ands.length < 4000
  lt : k < g.ands.length
  del : ((delayG g (g.ands.getD k (0, 0)).1).2.2 && (delayG g (g.ands.getD k (0, 0)).2).2.2) = true
section
variable {g : LGraph} {k : Nat} (h : Mov g k)
include h
theorem Mov.at : ∃ p, g.ands[k]? = some p ∧ g.ands.getD k (0, 0) = p ∧ (0 ≤ p.1 ∧ p.1 < 2 * (1 + (g.inn.length : Int) + g.regs.length + k)) ∧ (0 ≤ p.2 ∧ p.2 < 2 * (1 + (g.inn.length : Int) + g.regs.length + k)) ∧ (delayG g p.1).2.2 = true ∧ (delayG g p.2).2.2 = true := by
  obtain ⟨p, hp, _, _⟩ := node_at g.ands k h.lt
  have e : g.ands.getD k (0, 0) = p := by rw [List.getD_eq_getElem?_getD, hp]; rfl
  have hd := h.del
  rw [e] at hd
  obtain ⟨d1, d2⟩ := Bool.and_eq_true_iff.1 hd
  obtain ⟨r1, r2⟩ := h.ok.ands k p hp
  exact ⟨p, hp, e, r1, r2, d1, d2⟩
theorem Mov.rng : (0 ≤ dlA g k ∧ dlA g k < 2 * (1 + (g.inn.length : Int) + g.regs.length + g.ands.length)) ∧ 0 ≤ dlB g k ∧ dlB g k < 2 * (1 + (g.inn.length : Int) + g.regs.length + g.ands.length) := by
  obtain ⟨p, hp, e, r1, r2, d1, d2⟩ := h.at
  unfold dlA dlB
  rw [e]
  exact ⟨delay_range h.ok p.1 r1.1 d1, delay_range h.ok p.2 r2.1 d2⟩
theorem Mov.fresh : NameOk (freshG g) ∧ freshG g ∉ namesG g := by
  obtain ⟨q, h1, h2, h3, _⟩ := freshG_at g h.names
  rw [h2]
  exact ⟨nameK_ok q (by have := h.names; omega), h3⟩
theorem Mov.one : GraphOk (fwd1 g k) := by
  have hg := h.ok
  have hr := h.rng
  refine ⟨⟨hg.small.inn, hg.small.out, hg.small.regs, by have := h.ands; simp [fwd1]; omega, hg.small.outs⟩, hg.names, hg.nodup, hg.onames, hg.onodup, hg.olen, fun i p hp => ?_, fun r hr' => ?_, fun x hx => ?_⟩
  · simp only [fwd1] at hp ⊢
    rw [List.getElem?_append] at hp
    split at hp
    · exact hg.ands i p hp
    · rename_i hi
      have hi2 := (List.getElem?_eq_some_iff.1 hp).1
      simp at hi2
      have : i = g.ands.length := by omega
      subst this
      simp only [Nat.sub_self, List.getElem?_cons_zero, Option.some.injEq] at hp
      subst hp
      exact hr
  · have := hg.regs r hr'
    simp only [fwd1, List.length_append, List.length_cons, List.length_nil]
    omega
  · have := hg.outs x hx
    simp only [fwd1, List.length_append, List.length_cons, List.length_nil]
    omega
theorem Mov.nodes : nodesG (fwd1 g k) = 1 + (g.inn.length : Int) + g.regs.length + g.ands.length + 1 := by
  simp only [nodesG, fwd1, List.length_append, List.length_cons, List.length_nil]
  omega
theorem Mov.three (init : Bool) : GraphOk (fwd3 g k init) := by
  have hg := h.ok
  have hr := h.rng
  have hf := h.fresh
  have hk := h.lt
  have hnm : ((g.regs ++ [fwdR g k init]).map (fun r : LReg => { r with next := toT (firstG g) k r.next })).map LReg.name = g.regs.map LReg.name ++ [freshG g] := by simp [fwdR]
  have T := fun (l : Int) (m : Nat) (l0 : 0 ≤ l) (l1 : l < 2 * (firstG g + m)) => toT_range (firstG g) k l m (by unfold firstG; omega) (by omega) (by omega) l0 l1
  rw [fwd3_eq]
  refine ⟨⟨hg.small.inn, hg.small.out, by have := h.regs; simp; omega, by have := h.ands; simp; omega, by simp; exact hg.small.outs⟩, ?_, ?_, hg.onames, hg.onodup, by simp; exact hg.olen, fun i p hp => ?_, fun r hr' => ?_, fun x hx => ?_⟩
  · simp only [hnm]
    intro s hs
    rw [← List.append_assoc] at hs
    rcases List.mem_append.1 hs with hs | hs
    · exact hg.names s hs
    · rw [List.mem_singleton.1 hs]; exact hf.1
  · simp only [hnm]
    rw [← List.append_assoc, List.nodup_append]
    exact ⟨hg.nodup, by simp, fun a ha b hb e => hf.2 (by rw [List.mem_singleton] at hb; rw [← hb, ← e]; exact ha)⟩
  · simp only [List.length_map, List.length_append, List.length_cons, List.length_nil]
    rw [List.getElem?_map, Option.map_eq_some_iff] at hp
    obtain ⟨q, hq, rfl⟩ := hp
    rw [List.getElem?_append] at hq
    have hi : (0 ≤ q.1 ∧ q.1 < 2 * (firstG g + i)) ∧ 0 ≤ q.2 ∧ q.2 < 2 * (firstG g + i) := by
      split at hq
      · exact hg.ands i q hq
      · have hi2 := (List.getElem?_eq_some_iff.1 hq).1
        simp at hi2
        have : i = g.ands.length := by omega
        subst this
        simp only [Nat.sub_self, List.getElem?_cons_zero, Option.some.injEq] at hq
        subst hq
        exact hr
    have t1 := T q.1 i hi.1.1 hi.1.2
    have t2 := T q.2 i hi.2.1 hi.2.2
    unfold firstG at t1 t2 ⊢
    simp only
    omega
  · simp only [List.length_map, List.length_append, List.length_cons, List.length_nil]
    obtain ⟨q, hq, rfl⟩ := List.mem_map.1 hr'
    have hi : 0 ≤ q.next ∧ q.next < 2 * (firstG g + (g.ands.length + 1 : Nat)) := by
      rcases List.mem_append.1 hq with hq | hq
      · have := hg.regs q hq
        unfold firstG
        omega
      · rw [List.mem_singleton.1 hq]
        simp only [fwdR, h.nodes]
        unfold firstG
        omega
    have t := T q.next _ hi.1 hi.2
    unfold firstG at t ⊢
    simp only
    omega
  · simp only [List.length_map, List.length_append, List.length_cons, List.length_nil]
    obtain ⟨l, hl, rfl⟩ := List.mem_map.1 hx
    have hi := hg.outs l hl
    have t := T l g.ands.length hi.1 (by unfold firstG; omega)
    unfold firstG at t ⊢
    omega
theorem Mov.run3 (tr : List (List Bool)) (hr : ∀ r ∈ tr, r.length = g.inn.length) : runI (fwd3 g k (fwdI g k)) tr = runI g tr := by
  have hg := h.ok
  have h3 := h.three (fwdI g k)
  have hk := h.lt
  obtain ⟨p, hp, e, r1, r2, d1, d2⟩ := h.at
  have hrg := h.rng
  have hF : firstG g = ((1 + g.inn.length + g.regs.length : Nat) : Int) := by unfold firstG; omega
  have hl3 : (fwd3 g k (fwdI g k)).regs.length = g.regs.length + 1 := by rw [fwd3_eq]; simp
  refine runI_sim hg h3 rfl (fun s s' => s' = s ++ [sBit g s p.1 && sBit g s p.2]) ?_ (fun r s s' hr hs hs' hR b hb => ?_) tr hr
  · rw [sBit_init hg p.1 r1.1 d1, sBit_init hg p.2 r2.1 d2, fwd3_eq]
    have hI : fwdI g k = ((delayG g p.1).2.1 && (delayG g p.2).2.1) := by rw [fwdI, e]
    simp [initG, fwdR, hI]
  · subst hR
    obtain ⟨b', hb'⟩ : ∃ b' : Nat → Bool, b' = fun j => if j < 1 + g.inn.length + g.regs.length then b j else if j = 1 + g.inn.length + g.regs.length then b (1 + g.inn.length + g.regs.length + k) else if j < 1 + g.inn.length + g.regs.length + 1 + g.ands.length then b (j - 1) else (lbit b (dlA g k) && lbit b (dlB g k)) := ⟨_, rfl⟩
    have q0 : ∀ j, j < 1 + g.inn.length + g.regs.length → b' j = b j := fun j hj => by rw [hb']; simp only [if_pos hj]
    have q1 : b' (1 + g.inn.length + g.regs.length) = b (1 + g.inn.length + g.regs.length + k) := by rw [hb']; simp
    have q2 : ∀ j, j < g.ands.length → b' (1 + g.inn.length + g.regs.length + 1 + j) = b (1 + g.inn.length + g.regs.length + j) := fun j hj => by
      rw [hb']
      simp only
      rw [if_neg (by omega), if_neg (by omega), if_pos (by omega), show 1 + g.inn.length + g.regs.length + 1 + j - 1 = 1 + g.inn.length + g.regs.length + j by omega]
    have q3 : b' (1 + g.inn.length + g.regs.length + 1 + g.ands.length) = (lbit b (dlA g k) && lbit b (dlB g k)) := by
      rw [hb']
      simp only
      rw [if_neg (by omega), if_neg (by omega), if_neg (by omega)]
    have T := fun (l : Int) (l0 : 0 ≤ l) (l1 : l < 2 * (1 + (g.inn.length : Int) + g.regs.length + g.ands.length)) => toT_bit (b := b) (b' := b') (1 + g.inn.length + g.regs.length) k g.ands.length hk q0 q1 q2 l l0 (by omega)
    rw [← hF] at T
    have hnow : b (1 + g.inn.length + g.regs.length + k) = (sBit g s p.1 && sBit g s p.2) := by rw [hb.ands k p hp, sBit_now hg hb p.1 r1.1 d1, sBit_now hg hb p.2 r2.1 d2]
    refine ⟨b', ?_, ?_, ?_⟩
    · rw [fwd3_eq]
      refine ⟨by rw [q0 0 (by omega)]; exact hb.zero, fun i hi => ?_, fun j hj => ?_, fun j q hq => ?_⟩
      · simp only at hi
        rw [q0 _ (by omega)]
        exact hb.inn i hi
      · simp only [List.length_map, List.length_append, List.length_cons, List.length_nil] at hj ⊢
        by_cases c : j < g.regs.length
        · rw [q0 _ (by omega), hb.regs j c, List.getD_eq_getElem?_getD, List.getD_eq_getElem?_getD, List.getElem?_append_left (by omega)]
        · have : j = g.regs.length := by omega
          subst this
          rw [q1, hnow, ← hs]
          simp
      · simp only [List.length_map, List.length_append, List.length_cons, List.length_nil]
        rw [List.getElem?_map, Option.map_eq_some_iff] at hq
        obtain ⟨q', hq', rfl⟩ := hq
        rw [List.getElem?_append] at hq'
        rw [show 1 + g.inn.length + (g.regs.length + (0 + 1)) + j = 1 + g.inn.length + g.regs.length + 1 + j by omega]
        split at hq'
        · rename_i hj
          obtain ⟨⟨a0, a1⟩, a2, a3⟩ := hg.ands j q' hq'
          simp only
          rw [q2 j hj, hb.ands j q' hq', T q'.1 a0 (by omega), T q'.2 a2 (by omega)]
        · have hi2 := (List.getElem?_eq_some_iff.1 hq').1
          simp at hi2
          have : j = g.ands.length := by omega
          subst this
          simp only [Nat.sub_self, List.getElem?_cons_zero, Option.some.injEq] at hq'
          subst hq'
          simp only
          rw [q3, T _ hrg.1.1 hrg.1.2, T _ hrg.2.1 hrg.2.2]
    · rw [fwd3_eq]
      simp only [List.map_map]
      exact List.map_congr_left fun x hx => by
        have := hg.outs x hx
        exact T x this.1 this.2
    · rw [fwd3_eq]
      simp only [List.map_map, List.map_append, List.map_cons, List.map_nil]
      have e1 : g.regs.map ((fun x => lbit b' x.next) ∘ fun r : LReg => { r with next := toT (firstG g) k r.next }) = g.regs.map fun x => lbit b x.next := List.map_congr_left fun x hx => by
        have := hg.regs x hx
        exact T x.next this.1 this.2
      have e2 : lbit b' (toT (firstG g) k (fwdR g k (fwdI g k)).next) = (lbit b (dlA g k) && lbit b (dlB g k)) := by
        have : toT (firstG g) k (fwdR g k (fwdI g k)).next = 2 * ((1 + g.inn.length + g.regs.length + 1 + g.ands.length : Nat) : Int) := by
          have c0 : (fwdR g k (fwdI g k)).next = 2 * (1 + (g.inn.length : Int) + g.regs.length + g.ands.length) := by simp only [fwdR, h.nodes]; omega
          have c1 : toI (firstG g) (2 * (1 + (g.inn.length : Int) + g.regs.length + g.ands.length)) = 2 * (1 + (g.inn.length : Int) + g.regs.length + g.ands.length) + 2 := if_pos (by unfold firstG; omega)
          have c2 : toS (firstG g + k + 1) (2 * firstG g) (2 * (1 + (g.inn.length : Int) + g.regs.length + g.ands.length) + 2) = 2 * (1 + (g.inn.length : Int) + g.regs.length + g.ands.length) + 2 := if_neg (by unfold firstG; omega)
          rw [c0, toT, c1, c2]
          omega
        rw [this, lbit, if_neg (by omega), show (2 * ((1 + g.inn.length + g.regs.length + 1 + g.ands.length : Nat) : Int) / 2).toNat = 1 + g.inn.length + g.regs.length + 1 + g.ands.length by omega, q3]
      rw [e1]
      congr 1
      show [lbit b' (toT (firstG g) k (fwdR g k (fwdI g k)).next)] = _
      rw [e2, sBit_next hg hb p.1 r1.1 d1, sBit_next hg hb p.2 r2.1 d2]
      unfold dlA dlB
      rw [e]
end
end Go.Proofs.YtdgpmopcmacicaaDoorPi

/- Plain law: an and moved forward, put together. -/
set_option linter.unusedVariables false
set_option linter.unusedSimpArgs false
set_option linter.unusedSectionVars false
namespace Go.Proofs.YtdgpmopcmacicaaDoorPi
section
variable {g : LGraph} {k : Nat} (h : Mov g k)
include h
theorem Mov.fwdOk : FwdOk g k (fwdI g k) := by
  have h1 := h.one
  have hn := h.nodes
  have hF : firstG (fwd1 g k) = firstG g := rfl
  have l1 : (fwd1 g k).ands.length = g.ands.length + 1 := by simp [fwd1]
  have hr := h.regs
  have ha := h.ands
  have hsm := h.ok.small
  obtain ⟨z1, z2, z3, z4, z5⟩ := h.ok.small
  have T : ∀ l : Int, 0 ≤ l → l ≤ 10000 → 0 ≤ toI (firstG g) l ∧ toI (firstG g) l ≤ 1000000 := fun l a b => by
    unfold toI
    split <;> omega
  refine ⟨h.names, h1, h.three _, ⟨z1, z2, ?_, ?_, ?_⟩, fun r hr' => ?_, fun p hp => ?_, fun x hx => ?_⟩
  · rw [fwd2, insG_regs]
    exact h.regs
  · rw [fwd2, insG_ands, l1]
    exact h.ands
  · rw [fwd2, insG_outs]
    exact z5
  · simp only [fwd2, insG, hF, List.mem_map] at hr'
    obtain ⟨q, hq, rfl⟩ := hr'
    refine T _ ?_ ?_
    · rcases List.mem_append.1 hq with hq | hq
      · exact (h1.regs q hq).1
      · rw [List.mem_singleton.1 hq]
        simp only [fwdR]
        omega
    · rcases List.mem_append.1 hq with hq | hq
      · have := (h1.regs q hq).2
        unfold nodesG at hn
        omega
      · rw [List.mem_singleton.1 hq]
        simp only [fwdR]
        omega
  · simp only [fwd2, insG, hF, List.mem_map] at hp
    obtain ⟨q, hq, rfl⟩ := hp
    obtain ⟨i, hi⟩ := List.mem_iff_getElem?.1 hq
    have hil := (List.getElem?_eq_some_iff.1 hi).1
    obtain ⟨⟨a0, a1⟩, a2, a3⟩ := h1.ands i q hi
    unfold nodesG at hn
    exact ⟨T _ a0 (by omega), T _ a2 (by omega)⟩
  · simp only [fwd2, insG, hF, List.mem_map] at hx
    obtain ⟨l, hl, rfl⟩ := hx
    have := h1.outs l hl
    unfold nodesG at hn
    exact T _ this.1 (by omega)
theorem Mov.goOk : GraphOk (fwdG g k) := cleanL_ok (h.three _)
theorem Mov.goRun (tr : List (List Bool)) (hr : ∀ r ∈ tr, r.length = g.inn.length) : runI (fwdG g k) tr = runI g tr := (cleanL_run (h.three _) tr hr).trans (h.run3 tr hr)
theorem Mov.goSize : (fwdG g k).inn = g.inn ∧ (fwdG g k).outs.length = g.outs.length ∧ (fwdG g k).regs.length = g.regs.length + 1 ∧ (fwdG g k).ands.length ≤ g.ands.length + 1 := by
  have e : (fwdG g k).regs.length = (fwd3 g k (fwdI g k)).regs.length := by simp [fwdG, movedG]
  have e2 : (fwdG g k).outs.length = (fwd3 g k (fwdI g k)).outs.length := by simp [fwdG, movedG]
  refine ⟨rfl, ?_, ?_, ?_⟩
  · rw [e2, fwd3_eq]; simp
  · rw [e, fwd3_eq]; simp
  · refine Nat.le_trans (cleanL_less (fwd3 g k (fwdI g k))) ?_
    rw [fwd3_eq]
    simp
end
end Go.Proofs.YtdgpmopcmacicaaDoorPi

/- The walk of retimed. -/
set_option linter.unusedVariables false
set_option linter.unusedSimpArgs false
set_option maxRecDepth 100000
namespace Go.Proofs.YtdgpmopcmacicaaDoorPi
set_option maxHeartbeats 4000000
theorem fwdG_names (g : LGraph) (k : Nat) : (fwdG g k).regs.map (fun r => (r.name, r.init)) = g.regs.map (fun r => (r.name, r.init)) ++ [(freshG g, fwdI g k)] := by
  simp only [fwdG, movedG, fwd3_eq, List.map_map, List.map_append, List.map_cons, List.map_nil]
  rfl
def g0 : LGraph := ⟨[⟨#[120]⟩], [⟨#[111]⟩], [⟨⟨#[114]⟩, 2, false⟩], [(5, 5)], [6]⟩
theorem g0_ok : GraphOk g0 := by
  refine ⟨⟨by decide, by decide, by decide, by decide, by decide⟩, fun s hs => ?_, by decide, fun s hs => ?_, by decide, rfl, fun i p hp => ?_, fun r hr => ?_, fun x hx => ?_⟩
  · simp only [g0, List.map_cons, List.map_nil, List.cons_append, List.nil_append, List.mem_cons, List.not_mem_nil, or_false] at hs
    rcases hs with rfl | rfl
    · exact ⟨by decide, by decide, by decide⟩
    · exact ⟨by decide, by decide, by decide⟩
  · simp only [g0, List.mem_cons, List.not_mem_nil, or_false] at hs
    subst hs
    exact ⟨by decide, by decide, by decide⟩
  · have hi := (List.getElem?_eq_some_iff.1 hp).1
    simp [g0] at hi
    subst hi
    simp [g0] at hp
    subst hp
    simp [g0]
  · simp only [g0, List.mem_cons, List.not_mem_nil, or_false] at hr
    subst hr
    simp [g0]
  · simp only [g0, List.mem_cons, List.not_mem_nil, or_false] at hx
    subst hx
    simp [g0]
theorem g0_mov : Mov g0 0 := ⟨g0_ok, by decide, by decide, by decide, by decide, by decide⟩
theorem g0_regs : ∃ a b : Int, (fwdG g0 0).regs = [⟨⟨#[114]⟩, a, false⟩, ⟨⟨#[109, 111, 118, 101, 100, 46, 48]⟩, b, true⟩] := by
  have h := fwdG_names g0 0
  have h0 : nameK 0 ∉ namesG g0 := by decide +kernel
  have h1 : freshG g0 = ⟨#[109, 111, 118, 101, 100, 46, 48]⟩ := by
    rw [freshG, freshFrom_eq _ _ 0 0 (fun j _ h => absurd h (by omega)) h0 (Nat.le_refl _) (by omega)]
    decide
  have h2 : fwdI g0 0 = true := by decide
  rw [h1, h2] at h
  generalize (fwdG g0 0).regs = R at h
  match R, h with
  | [⟨n, a, i⟩, ⟨m, b, j⟩], h =>
    simp only [g0, List.map_cons, List.map_nil, List.cons_append, List.nil_append, List.cons.injEq, Prod.mk.injEq, and_true] at h
    obtain ⟨⟨rfl, rfl⟩, rfl, rfl⟩ := h
    exact ⟨a, b, rfl⟩
  | [], h => simp [g0] at h
  | [_], h => simp [g0] at h
  | _ :: _ :: _ :: _, h => simp [g0] at h
theorem retimed_ok (up : Frs) : ACalls Tryd.prog 6 [] up fun v u => v = .im (.bool true) ∧ u = up := by
  have hf := Forward_go g0 g0_ok (by decide) (by decide) 0 (by decide) g0_mov.del g0_mov.fwdOk
  obtain ⟨a, b, hab⟩ := g0_regs
  obtain ⟨i, o, A, O, hfg⟩ : ∃ i o A O, (fwdG g0 0) = ⟨i, o, [⟨⟨#[114]⟩, a, false⟩, ⟨⟨#[109, 111, 118, 101, 100, 46, 48]⟩, b, true⟩], A, O⟩ := ⟨_, _, _, _, by rw [← hab]⟩
  rw [hfg] at hf
  have h22 : ((((2 : Nat) : Int)) == 2) = true := by decide
  refine ACalls.code Tryd.func6 rfl 40 rfl (by simp) [.tmp 0] rfl fun Q hQ => ?_
  simp only [ups, PV.up, argEnv]
  have ft := And.intro ty_2 (And.intro ty_3 (And.intro ty_4 (And.intro ty_9 (And.intro ty_26 (And.intro ty_27 (And.intro ty_28 (And.intro ty_29 (And.intro ty_31 (And.intro ty_35 (And.intro ty_51 (And.intro ty_54 (And.intro ty_56 trivial))))))))))))
  refine Run.seq ?_
  have fx := And.intro h22 ft
  refine Run.go ?_
  refine End.kp [] ?_
  refine Run.seq ?_
  refine Run.go ?_
  refine End.kp [1] ?_
  refine Run.seq ?_
  refine Run.region rfl fun K hK => GOps.sim ?_
  refine GOps.call rfl rfl rfl rfl (by kernel_rfl) (ACalls.sim ?_)
  refine (hf _).mono fun v u hv => ?_
  obtain ⟨rfl, rfl⟩ := hv
  refine ⟨_, _, rfl, GOps.sim ?_⟩
  refine GOps.done (hK _ ?_); clear hK K
  refine End.kp [2, 3] ?_
  refine Run.seq ?_
  refine Run.go ?_
  refine End.kp [0] ?_
  refine Run.ret (hQ _ _ ⟨.inr rfl, _, rfl, _, rfl, ?_⟩)
  exact ⟨rfl, rfl⟩
end Go.Proofs.YtdgpmopcmacicaaDoorPi

/- Plain law: a register moved backward over an and keeps what a graph shows. -/
set_option linter.unusedVariables false
set_option linter.unusedSimpArgs false
set_option linter.unusedSectionVars false
namespace Go.Proofs.YtdgpmopcmacicaaDoorPi
/-- What becomes of a literal when register q of a graph with F nodes ahead of the ands becomes a conjunction of two registers behind the others. -/
def toB (F node lit l : Int) : Int := toS node lit (toI (F + 2) (toI (F + 1) (toI F l)))
theorem toB_low (F node lit l : Int) (h : l / 2 < F) (hn : l / 2 ≠ node) : toB F node lit l = l := by
  have e1 : toI F l = l := if_neg (by omega)
  have e2 : toI (F + 1) l = l := if_neg (by omega)
  have e3 : toI (F + 2) l = l := if_neg (by omega)
  unfold toB
  rw [e1, e2, e3]
  exact if_neg hn
theorem toB_node (F node lit l : Int) (h : node < F) (hn : l / 2 = node) : toB F node lit l = xl lit l := by
  have e1 : toI F l = l := if_neg (by omega)
  have e2 : toI (F + 1) l = l := if_neg (by omega)
  have e3 : toI (F + 2) l = l := if_neg (by omega)
  unfold toB
  rw [e1, e2, e3]
  exact if_pos hn
theorem toB_high (F node lit l : Int) (h : F ≤ l / 2) (hn : node < F) : toB F node lit l = l + 6 := by
  have e1 : toI F l = l + 2 := if_pos h
  have e2 : toI (F + 1) (l + 2) = l + 4 := (if_pos (by omega)).trans (by omega)
  have e3 : toI (F + 2) (l + 4) = l + 6 := (if_pos (by omega)).trans (by omega)
  unfold toB
  rw [e1, e2, e3]
  exact if_neg (by omega)
/-- Bits of the new graph. -/
theorem toB_bit {b b' : Nat → Bool} (F q n : Nat) (next : Int) (hq : q < F) (x0 : 0 ≤ next) (h0 : ∀ j, j < F → b' j = b j) (h1 : (b' (F + 2) != (next % 2 == 1)) = b q) (h2 : ∀ j, j < n → b' (F + 3 + j) = b (F + j)) (l : Int) (l0 : 0 ≤ l) (l1 : l < 2 * ((F : Int) + n)) :
    lbit b' (toB F q (xl (2 * ((F : Int) + 2)) next) l) = lbit b l := by
  by_cases c : (F : Int) ≤ l / 2
  · obtain ⟨j, hj⟩ : ∃ j : Nat, l / 2 = (F : Int) + j := ⟨(l / 2 - F).toNat, by omega⟩
    rw [toB_high _ _ _ _ c (by omega), lbit, lbit, show ((l + 6) / 2).toNat = F + 3 + j by omega, show (l / 2).toNat = F + j by omega, h2 j (by omega), show (l + 6) % 2 = l % 2 by omega]
  · by_cases c2 : l / 2 = (q : Int)
    · have hx := xl_range (2 * ((F : Int) + 2)) next ((F : Int) + 3) (by omega) (by omega)
      rw [toB_node _ _ _ _ (by omega) c2, lbit_xl _ _ _ hx.1, lbit_xl _ _ _ (by omega), lbit, if_neg (by omega), show (2 * ((F : Int) + 2) / 2).toNat = F + 2 by omega, h1, lbit, show (l / 2).toNat = q by omega]
      by_cases c3 : l % 2 = 1
      · rw [if_pos c3, c3]
        cases b q <;> rfl
      · have : (l % 2 == 1) = false := by simpa using c3
        rw [if_neg c3, this]
        cases b q <;> rfl
    · rw [toB_low _ _ _ _ (by omega) c2, lbit, lbit, h0 _ (by omega)]
theorem toB_range (F q next l m : Int) (hF : 0 ≤ F) (hq : q < F) (hm : 0 ≤ m) (l0 : 0 ≤ l) (l1 : l < 2 * (F + m)) : 0 ≤ toB F q (xl (2 * (F + 2)) next) l ∧ toB F q (xl (2 * (F + 2)) next) l < 2 * (F + 2 + (m + 1)) := by
  by_cases c : F ≤ l / 2
  · rw [toB_high _ _ _ _ c hq]
    omega
  · by_cases c2 : l / 2 = q
    · have hx := xl_range (2 * (F + 2)) next (F + 3) (by omega) (by omega)
      have hy := xl_range (xl (2 * (F + 2)) next) l (F + 3) hx.1 hx.2
      rw [toB_node _ _ _ _ hq c2]
      omega
    · rw [toB_low _ _ _ _ (by omega) c2]
      omega
end Go.Proofs.YtdgpmopcmacicaaDoorPi

/- Plain law: a register moved backward over an and keeps what a graph shows, continued. -/
set_option linter.unusedVariables false
set_option linter.unusedSimpArgs false
set_option linter.unusedSectionVars false
namespace Go.Proofs.YtdgpmopcmacicaaDoorPi
/-- The graph in which register q, that takes and p or its opposite, became a conjunction of two registers with names na and nb. -/
def bckG (g : LGraph) (q : Nat) (r : LReg) (p : Int × Int) (na nb : ByteArray) : LGraph :=
  ⟨g.inn, g.out, (g.regs ++ [(⟨na, p.1, r.init != (r.next % 2 == 1)⟩ : LReg), (⟨nb, p.2, r.init != (r.next % 2 == 1)⟩ : LReg)]).map (fun x : LReg => { x with next := toB (firstG g) (1 + (g.inn.length : Int) + q) (xl (2 * (firstG g + 2)) r.next) x.next }),
    (2 * firstG g, 2 * firstG g + 2) :: g.ands.map (fun x => (toB (firstG g) (1 + (g.inn.length : Int) + q) (xl (2 * (firstG g + 2)) r.next) x.1, toB (firstG g) (1 + (g.inn.length : Int) + q) (xl (2 * (firstG g + 2)) r.next) x.2)),
    g.outs.map (toB (firstG g) (1 + (g.inn.length : Int) + q) (xl (2 * (firstG g + 2)) r.next))⟩
structure Bck (g : LGraph) (q : Nat) (r : LReg) (j : Nat) (p : Int × Int) (na nb : ByteArray) : Prop where
  ok : GraphOk g
  regs : g.regs.length + 2 ≤ 288
  ands : g.ands.length < 4000
  reg : g.regs[q]? = some r
  nxt : r.next / 2 = firstG g + j
  and : g.ands[j]? = some p
  nameA : NameOk na ∧ na ∉ namesG g
  nameB : NameOk nb ∧ nb ∉ namesG g ∧ nb ≠ na
section
variable {g : LGraph} {q j : Nat} {r : LReg} {p : Int × Int} {na nb : ByteArray} (h : Bck g q r j p na nb)
include h
theorem Bck.okB : GraphOk (bckG g q r p na nb) := by
  have hg := h.ok
  have hq := (List.getElem?_eq_some_iff.1 h.reg).1
  have hj := (List.getElem?_eq_some_iff.1 h.and).1
  have hp := hg.ands j p h.and
  have T := fun (l : Int) (m : Nat) (l0 : 0 ≤ l) (l1 : l < 2 * (firstG g + m)) => toB_range (firstG g) (1 + (g.inn.length : Int) + q) r.next l m (by unfold firstG; omega) (by unfold firstG; omega) (by omega) l0 l1
  have hsm := hg.small
  have hr := h.regs
  have ha := h.ands
  have hnm : ((g.regs ++ [(⟨na, p.1, r.init != (r.next % 2 == 1)⟩ : LReg), (⟨nb, p.2, r.init != (r.next % 2 == 1)⟩ : LReg)]).map (fun x : LReg => { x with next := toB (firstG g) (1 + (g.inn.length : Int) + q) (xl (2 * (firstG g + 2)) r.next) x.next })).map LReg.name = g.regs.map LReg.name ++ [na, nb] := by
    simp only [List.map_append, List.map_map, List.map_cons, List.map_nil]
    rfl
  refine ⟨⟨hsm.inn, hsm.out, by simp [bckG]; omega, by simp [bckG]; omega, by simp [bckG]; exact hsm.outs⟩, ?_, ?_, hg.onames, hg.onodup, by simp [bckG]; exact hg.olen, fun i x hx => ?_, fun x hx => ?_, fun x hx => ?_⟩
  · simp only [bckG, hnm]
    intro s hs
    rw [← List.append_assoc] at hs
    rcases List.mem_append.1 hs with hs | hs
    · exact hg.names s hs
    · simp only [List.mem_cons, List.not_mem_nil, or_false] at hs
      rcases hs with rfl | rfl
      · exact h.nameA.1
      · exact h.nameB.1
  · simp only [bckG, hnm]
    rw [← List.append_assoc, List.nodup_append]
    refine ⟨hg.nodup, ?_, fun a ha b hb e => ?_⟩
    · simp only [List.nodup_cons, List.mem_cons, List.not_mem_nil, or_false, not_false_eq_true, List.nodup_nil, and_true]
      exact fun e => h.nameB.2.2 e.symm
    · subst e
      simp only [List.mem_cons, List.not_mem_nil, or_false] at hb
      rcases hb with rfl | rfl
      · exact h.nameA.2 ha
      · exact h.nameB.2.1 ha
  · simp only [bckG, List.length_map, List.length_append, List.length_cons, List.length_nil] at hx ⊢
    cases i with
    | zero =>
      simp only [List.getElem?_cons_zero, Option.some.injEq] at hx
      subst hx
      unfold firstG
      simp only
      omega
    | succ i =>
      simp only [List.getElem?_cons_succ, List.getElem?_map, Option.map_eq_some_iff] at hx
      obtain ⟨y, hy, rfl⟩ := hx
      have hi := hg.ands i y hy
      have t1 := T y.1 i hi.1.1 (by unfold firstG; omega)
      have t2 := T y.2 i hi.2.1 (by unfold firstG; omega)
      unfold firstG at t1 t2 ⊢
      simp only
      omega
  · simp only [bckG, List.length_map, List.length_append, List.length_cons, List.length_nil] at hx ⊢
    obtain ⟨y, hy, rfl⟩ := List.mem_map.1 hx
    have hi : 0 ≤ y.next ∧ y.next < 2 * (firstG g + g.ands.length) := by
      rcases List.mem_append.1 hy with hy | hy
      · have := hg.regs y hy
        unfold firstG
        omega
      · simp only [List.mem_cons, List.not_mem_nil, or_false] at hy
        unfold firstG
        rcases hy with rfl | rfl
        · simp only
          omega
        · simp only
          omega
    have t := T y.next _ hi.1 hi.2
    unfold firstG at t ⊢
    simp only
    omega
  · simp only [bckG, List.length_map, List.length_append, List.length_cons, List.length_nil] at hx ⊢
    obtain ⟨y, hy, rfl⟩ := List.mem_map.1 hx
    have hi := hg.outs y hy
    have t := T y g.ands.length hi.1 (by unfold firstG; omega)
    unfold firstG at t ⊢
    omega
theorem Bck.runB (tr : List (List Bool)) (hr : ∀ x ∈ tr, x.length = g.inn.length) : runI (bckG g q r p na nb) tr = runI g tr := by
  have hg := h.ok
  have hh := h.okB
  have hq := (List.getElem?_eq_some_iff.1 h.reg).1
  have hj := (List.getElem?_eq_some_iff.1 h.and).1
  have hp := hg.ands j p h.and
  have hrx := hg.regs r (List.mem_of_getElem? h.reg)
  have hF : firstG g = ((1 + g.inn.length + g.regs.length : Nat) : Int) := by unfold firstG; omega
  have hnx := h.nxt
  refine runI_sim hg hh rfl (fun s s' => ∃ x y, s' = s ++ [x, y] ∧ ((x && y) != (r.next % 2 == 1)) = s.getD q false) ?_ (fun t s s' ht hs hs' hR b hb => ?_) tr hr
  · refine ⟨r.init != (r.next % 2 == 1), r.init != (r.next % 2 == 1), by simp only [initG, bckG, List.map_append, List.map_map, List.map_cons, List.map_nil]; rfl, ?_⟩
    rw [initG, List.getD_eq_getElem?_getD, List.getElem?_map, h.reg]
    simp only [Option.map_some, Option.getD_some]
    cases r.init <;> cases (r.next % 2 == 1) <;> rfl
  · obtain ⟨x, y, rfl, hxy⟩ := hR
    obtain ⟨b', hb'⟩ : ∃ b' : Nat → Bool, b' = fun i => if i < 1 + g.inn.length + g.regs.length then b i else if i = 1 + g.inn.length + g.regs.length then x else if i = 1 + g.inn.length + g.regs.length + 1 then y else if i = 1 + g.inn.length + g.regs.length + 2 then (x && y) else b (i - 3) := ⟨_, rfl⟩
    have q0 : ∀ i, i < 1 + g.inn.length + g.regs.length → b' i = b i := fun i hi => by rw [hb']; simp only [if_pos hi]
    have q1 : b' (1 + g.inn.length + g.regs.length) = x := by rw [hb']; simp
    have q2 : b' (1 + g.inn.length + g.regs.length + 1) = y := by rw [hb']; simp; omega
    have q3 : b' (1 + g.inn.length + g.regs.length + 2) = (x && y) := by rw [hb']; simp; omega
    have q4 : ∀ i, b' (1 + g.inn.length + g.regs.length + 3 + i) = b (1 + g.inn.length + g.regs.length + i) := fun i => by
      rw [hb']
      simp only
      rw [if_neg (by omega), if_neg (by omega), if_neg (by omega), if_neg (by omega), show 1 + g.inn.length + g.regs.length + 3 + i - 3 = 1 + g.inn.length + g.regs.length + i by omega]
    have hbq : b (1 + g.inn.length + q) = s.getD q false := hb.regs q hq
    have T := fun (l : Int) (l0 : 0 ≤ l) (l1 : l < 2 * (1 + (g.inn.length : Int) + g.regs.length + g.ands.length)) => toB_bit (b := b) (b' := b') (1 + g.inn.length + g.regs.length) (1 + g.inn.length + q) g.ands.length r.next (by omega) hrx.1 q0 (by rw [q3, hbq, hxy]) (fun i _ => q4 i) l l0 (by omega)
    rw [show (((1 + g.inn.length + q : Nat)) : Int) = 1 + (g.inn.length : Int) + q by omega, ← hF] at T
    refine ⟨b', ⟨by rw [q0 0 (by omega)]; exact hb.zero, fun i hi => ?_, fun k hk => ?_, fun i e he => ?_⟩, ?_, ?_⟩
    · simp only [bckG] at hi
      rw [q0 _ (by omega)]
      exact hb.inn i hi
    · simp only [bckG, List.length_map, List.length_append, List.length_cons, List.length_nil] at hk ⊢
      by_cases c : k < g.regs.length
      · rw [q0 _ (by omega), hb.regs k c, List.getD_eq_getElem?_getD, List.getD_eq_getElem?_getD, List.getElem?_append_left (by omega)]
      · by_cases c2 : k = g.regs.length
        · subst c2
          rw [q1, ← hs]
          simp
        · have : k = g.regs.length + 1 := by omega
          subst this
          rw [show 1 + g.inn.length + (g.regs.length + 1) = 1 + g.inn.length + g.regs.length + 1 by omega, q2, ← hs]
          simp
    · simp only [bckG, List.length_map, List.length_append, List.length_cons, List.length_nil] at he ⊢
      cases i with
      | zero =>
        simp only [List.getElem?_cons_zero, Option.some.injEq] at he
        subst he
        simp only
        rw [show 1 + g.inn.length + (g.regs.length + (0 + 1 + 1)) + 0 = 1 + g.inn.length + g.regs.length + 2 by omega, q3, lbit, if_neg (by omega), lbit, if_neg (by omega), show (2 * firstG g / 2).toNat = 1 + g.inn.length + g.regs.length by omega, show ((2 * firstG g + 2) / 2).toNat = 1 + g.inn.length + g.regs.length + 1 by omega, q1, q2]
      | succ i =>
        simp only [List.getElem?_cons_succ, List.getElem?_map, Option.map_eq_some_iff] at he
        obtain ⟨y', hy', rfl⟩ := he
        obtain ⟨⟨a0, a1⟩, a2, a3⟩ := hg.ands i y' hy'
        have hil := (List.getElem?_eq_some_iff.1 hy').1
        simp only
        rw [show 1 + g.inn.length + (g.regs.length + (0 + 1 + 1)) + (i + 1) = 1 + g.inn.length + g.regs.length + 3 + i by omega, q4, hb.ands i y' hy', T y'.1 a0 (by omega), T y'.2 a2 (by omega)]
    · simp only [bckG, List.map_map]
      exact List.map_congr_left fun l hl => by
        have := hg.outs l hl
        exact T l this.1 this.2
    · have e1 : g.regs.map ((fun x => lbit b' x.next) ∘ fun x : LReg => { x with next := toB (firstG g) (1 + (g.inn.length : Int) + q) (xl (2 * (firstG g + 2)) r.next) x.next }) = g.regs.map fun x => lbit b x.next := List.map_congr_left fun l hl => by
        have := hg.regs l hl
        exact T l.next this.1 this.2
      refine ⟨lbit b p.1, lbit b p.2, ?_, ?_⟩
      · simp only [bckG, List.map_map, List.map_append, List.map_cons, List.map_nil]
        rw [e1]
        congr 1
        show [lbit b' _, lbit b' _] = _
        rw [T p.1 hp.1.1 (by omega), T p.2 hp.2.1 (by omega)]
      · rw [← hb.ands j p h.and, List.getD_eq_getElem?_getD, List.getElem?_map, h.reg]
        simp only [Option.map_some, Option.getD_some]
        rw [lbit, show (r.next / 2).toNat = 1 + g.inn.length + g.regs.length + j by omega]
        by_cases c : r.next % 2 = 1
        · rw [if_pos c, c]
          cases b (1 + g.inn.length + g.regs.length + j) <;> rfl
        · have : (r.next % 2 == 1) = false := by simpa using c
          rw [if_neg c, this]
          cases b (1 + g.inn.length + g.regs.length + j) <;> rfl
end
end Go.Proofs.YtdgpmopcmacicaaDoorPi

/- slices.Insert of one node ahead of a row of nodes: the library's text walked over the kit's calculus. UNDER WAY. -/
set_option linter.unusedVariables false
set_option linter.unusedSimpArgs false
namespace Go.Proofs.YtdgpmopcmacicaaDoorPi
open Go Go.RowKit Go.Lib
theorem tS_und : Tryd.prog.underlying 28 = some (.slice 54) := by kernel_rfl
theorem tE_size : (Tryd.prog.info? 54).map (·.size) = some 2 := by kernel_rfl
theorem tE_szOf : ∀ w, (Go.sizeOf 54).run Tryd.prog w = .ok 2 w := run_sizeT (by kernel_rfl)
set_option maxHeartbeats 4000000 in
set_option maxRecDepth 100000 in
theorem insN_shift (w : World) (b n c vb vc : Nat) (arr arrV : Array Value) (x y : Value) (hn : 0 < n) (hroom : n + 1 ≤ c) (hc63 : c ≤ 9223372036854775807) (hvb : vb ≠ b) (hg : w.heap[b]? = some (.cells arr 54 (0, 0))) (hsz : arr.size = c * 2)
    (hv : w.heap[vb]? = some (.cells arrV 54 (0, 0))) (hx : arrV[0]? = some x) (hy : arrV[1]? = some y) (h1c : ∀ v ∈ arr.toList.take (n * 2), v.oneCell' = true) (h1x : x.oneCell' = true) (h1y : y.oneCell' = true) :
    Calls Tryd.prog 24 #[.slice (some ⟨b, 0, none⟩) n c, .int .i64 0, .slice (some ⟨vb, 0, none⟩) 1 vc] w fun e w' => e = .returned (.slice (some ⟨b, 0, none⟩) (n + 1) c) ∧
      w' = w.drew.setRow b ([x, y] ++ arr.toList.take (n * 2) ++ arr.toList.drop (2 + n * 2)).toArray := by
  have u22 := run_underlying tS_und
  have hz2 : ¬ ((0 : Int) = (n : Int)) := by omega
  have ha0 : arr.size ≠ 0 := by omega
  have hsa : w.shape? vb = some (54, arrV.size) := by simp [World.shape?, hv]
  have hsb : w.shape? b = some (54, arr.size) := by simp [World.shape?, hg]
  have hfa : w.frozen? ⟨vb, 0, none⟩ = false := by simp [World.frozen?, hv]
  have hfe : w.frozen? ⟨vb, arrV.size, none⟩ = false := by simp [World.frozen?, hv]
  have hov : ∀ lb cb, (callFunc 49 #[.slice (some ⟨vb, 0, none⟩) 1 vc, .slice (some ⟨b, 2, none⟩) lb cb]).run Tryd.prog w = .ok (.value (.bool false)) w := fun lb cb => by
    rw [run_callFunc_extern Tryd.func49 (by kernel_rfl) (by kernel_rfl) (by kernel_rfl) (e := Extern.SlicesOverlaps.overlaps #[28, 28] #[4]) (by kernel_rfl),
      Lib.run_overlaps_apart w 28 4 54 tS_und 2 tE_szOf ⟨vb, 0, none⟩ ⟨b, 2, none⟩ 1 vc lb cb hvb 54 54 arrV.size arr.size hsa hsb ha0 hfa hfe]
    rfl
  have hal : arr.toList.length = c * 2 := by simpa using hsz
  have hcl : (arr.toList.take (n * 2)).length = n * 2 := by rw [List.length_take]; omega
  have hmin1 : Nat.min (n + 1) n = n := Nat.min_eq_right (by omega)
  have hmin2 : Nat.min 1 (n + 1) = 1 := Nat.min_eq_left (by omega)
  obtain ⟨R1, hR1⟩ : ∃ R1, R1 = (arr.toList.take 2 ++ arr.toList.take (n * 2) ++ arr.toList.drop (2 + n * 2)).toArray := ⟨_, rfl⟩
  obtain ⟨W1, hW1⟩ : ∃ W1, W1 = w.drew.setRow b R1 := ⟨_, rfl⟩
  have hcp1 : ∀ ty dc sc, (Builtin.copy_ #[28, 28] ty #[.slice (some ⟨b, 2, none⟩) n dc, .slice (some ⟨b, 0, none⟩) (n + 1) sc]).run Tryd.prog w.drew = .ok (goInt n) W1 := fun ty dc sc => by
    have h := run_copy_sz (P := Tryd.prog) w.drew 28 28 ty 54 2 b 2 n dc ⟨b, 0, none⟩ (n + 1) sc arr 54 (arr.toList.take (n * 2)) tS_und tE_size hg (by rw [hcl, hmin1])
      (fun j v hj => by
        rw [Addr.add_lit, Nat.zero_add, cell_of_row w.drew b j arr 54 (0, 0) hg]
        rw [List.getElem?_take] at hj
        split at hj
        · simpa using hj
        · simp at hj) (by rw [hcl]; omega) h1c
    rw [hmin1, hcl] at h
    rw [hW1, hR1]
    exact h
  have hb1 : W1.heap[b]? = some (.cells R1 54 (0, 0)) := by rw [hW1]; exact setRow_heap w.drew b arr R1 _ _ hg
  have hv1 : W1.heap[vb]? = some (.cells arrV 54 (0, 0)) := by
    have : w.drew.heap[vb]? = some (.cells arrV 54 (0, 0)) := hv
    rw [hW1]
    simp only [World.setRow, Array.getElem?_modify, this]
    rw [if_neg (fun e => hvb e.symm)]
  have hR1l : R1.toList.length = c * 2 := by rw [hR1]; simp only [List.length_append, hcl, List.length_take, List.length_drop]; omega
  have hd2 : R1.toList.drop 2 = arr.toList.take (n * 2) ++ arr.toList.drop (2 + n * 2) := by
    rw [hR1]
    simp only
    rw [List.append_assoc, List.drop_append_of_le_length (by rw [List.length_take]; omega), List.drop_eq_nil_of_le (by rw [List.length_take]; omega)]
    rfl
  have hcp2 : ∀ W : World, W.heap = W1.heap → ∀ ty dc, (Builtin.copy_ #[28, 28] ty #[.slice (some ⟨b, 0, none⟩) (n + 1) dc, .slice (some ⟨vb, 0, none⟩) 1 vc]).run Tryd.prog W = .ok (goInt 1) (W.setRow b ([x, y] ++ arr.toList.take (n * 2) ++ arr.toList.drop (2 + n * 2)).toArray) := fun W hW ty dc => by
    have h := run_copy_sz (P := Tryd.prog) W 28 28 ty 54 2 b 0 (n + 1) dc ⟨vb, 0, none⟩ 1 vc R1 54 [x, y] tS_und tE_size (by rw [hW]; exact hb1) (by rw [hmin2]; rfl)
      (fun j v hj => by
        rw [Addr.add_lit, Nat.zero_add, cell_of_row W vb j arrV 54 (0, 0) (by rw [hW]; exact hv1)]
        match j, hj with
        | 0, hj => simp at hj; subst hj; exact hx
        | 1, hj => simp at hj; subst hj; exact hy
        | _ + 2, hj => simp at hj) (by simp; have : R1.size = R1.toList.length := by simp
                                       omega) (fun v hv => by simp at hv; rcases hv with rfl | rfl <;> assumption)
    rw [hmin2] at h
    simp only [List.take_zero, List.nil_append, Nat.zero_add, List.length_cons, List.length_nil, Nat.reduceAdd, hd2] at h
    rw [List.append_assoc]
    exact h
  have mixed : Tryd.prog.follows .mixedOrders = true := by kernel_rfl
  have hw1 : IntKind.i64.wrap 1 = 1 := by decide
  have hb2 : (1 : Int) ≤ (n : Int) + 1 := by omega
  have hb3 : (0 : Int) ≤ (n : Int) + 1 := by omega
  have hb4 : ¬ (c = 1) := by omega
  have hb5 : ¬ (c = 0) := by omega
  go_enter Tryd.func24, Tryd.ntmps24
  go_wp2_with (simp only [hov])
  go_region_law_o (refine step_copy_runI rfl _ _ 28 28 rfl _ _ (by simp [Act.eval, Act.put]) (by simp [Act.eval, Act.put]) (hcp1 _ _ _) ?_)
  go_wp2_with (at_builtin; refine wpList_copy_runI _ rfl _ _ 28 28 rfl _ _ rfl rfl (hcp2 _ rfl _ _) ?_)
  go_ret
  exact ⟨rfl, by rw [setRow_setRow]⟩
end Go.Proofs.YtdgpmopcmacicaaDoorPi

/- slices.Insert of one node ahead of a row of nodes, where there is no room. UNDER WAY. -/
set_option linter.unusedVariables false
set_option linter.unusedSimpArgs false
set_option maxRecDepth 100000
namespace Go.Proofs.YtdgpmopcmacicaaDoorPi
open Go Go.RowKit Go.Lib
theorem modify_push {α : Type} (h : Array α) (x : α) (f : α → α) : (h.push x).modify h.size f = h.push (f x) := by
  apply Array.ext
  · simp
  · intro i h1 h2
    rw [Array.getElem_modify, Array.getElem_push, Array.getElem_push]
    by_cases e : i < h.size
    · rw [if_neg (by omega), dif_pos e, dif_pos e]
    · have : i = h.size := by simp at h2; omega
      subst this
      simp
abbrev zN : Value := .agg #[.int .i64 0, .int .i64 0]
theorem tE_zero : (Tryd.prog.info? 54).bind (·.zero) = some zN := by kernel_rfl
theorem tE_bytes : (Tryd.prog.info? 54).map (·.bytes) = some 16 := by kernel_rfl
theorem tI_und : Tryd.prog.underlying 3 = some (.int .i64) := by kernel_rfl
set_option maxHeartbeats 4000000 in
set_option maxRecDepth 100000 in
theorem insN_grow (w : World) (b n c vb vc : Nat) (arr arrV : Array Value) (x y : Value) (hn : 0 < n) (hnc : n ≤ c) (hroom : c < n + 1) (hsm : n ≤ 100000) (hvb : vb ≠ b) (hg : w.heap[b]? = some (.cells arr 54 (0, 0))) (hsz : arr.size = c * 2)
    (hv : w.heap[vb]? = some (.cells arrV 54 (0, 0))) (hx : arrV[0]? = some x) (hy : arrV[1]? = some y) (h1c : ∀ v ∈ arr.toList.take (n * 2), v.oneCell' = true) (h1x : x.oneCell' = true) (h1y : y.oneCell' = true) :
    Calls Tryd.prog 24 #[.slice (some ⟨b, 0, none⟩) n c, .int .i64 0, .slice (some ⟨vb, 0, none⟩) 1 vc] w fun e w' => e = .returned (.slice (some ⟨w.heap.size, 0, none⟩) (n + 1) (grownCap w (n + 1) c 54)) ∧
      ∃ R : Array Value, R.size = grownCap w (n + 1) c 54 * 2 ∧ R.toList.take (2 + n * 2) = [x, y] ++ arr.toList.take (n * 2) ∧ w'.heap = w.heap.push (.cells R 54 (0, 0)) ∧ w'.os = w.os ∧ w'.tape = w.tape ∧ w'.output = w.output := by
  have u22 := run_underlying tS_und
  have hz2 : ¬ ((0 : Int) = (n : Int)) := by omega
  have hz3 : (c : Int) < (n : Int) + 1 := by omega
  have mixed : Tryd.prog.follows .mixedOrders = true := by kernel_rfl
  have hw1 : IntKind.i64.wrap 1 = 1 := by decide
  have hb2 : (1 : Int) ≤ (n : Int) + 1 := by omega
  have hb3 : (0 : Int) ≤ (n : Int) + 1 := by omega
  obtain ⟨i0, hi0⟩ : ∃ i0, Tryd.prog.info? 54 = some i0 := by
    cases h : Tryd.prog.info? 54 with
    | none => have := tE_size; rw [h] at this; simp at this
    | some i0 => exact ⟨i0, rfl⟩
  have hzs : i0.size = 2 := by have := tE_size; rw [hi0] at this; simpa using this
  have hz0 : i0.zero = some zN := by have := tE_zero; rw [hi0] at this; simpa using this
  have hzb : i0.bytes = 16 := by have := tE_bytes; rw [hi0] at this; simpa using this
  have hold : (Builtin.firstCells i0.size 0 (.slice (some ⟨b, 0, none⟩) 0 c)).run Tryd.prog w.drew = .ok ([] : List Value).toArray w.drew := by
    rw [hzs]
    exact run_firstCells_some w.drew 2 0 ⟨b, 0, none⟩ 0 c [] rfl (fun j v hj => by simp at hj)
  obtain ⟨G, hG⟩ : ∃ G, G = grownCap w (n + 1) c 54 := ⟨_, rfl⟩
  obtain ⟨ROW, hROW⟩ : ∃ ROW : Array Value, ROW = ([] : List Value).toArray ++ Builtin.zeroCells zN.cells (n + 1) ++ Builtin.zeroCells zN.cells (G - (n + 1)) := ⟨_, rfl⟩
  have hrz : ∀ ty, (Builtin.append_ #[28, 3] ty #[.slice (some ⟨b, 0, none⟩) 0 c, .int .i64 ((n : Int) + 1)]).run Tryd.prog w = .ok (.slice (some ⟨w.heap.size, 0, none⟩) (n + 1) G) (w.drew.alloc (.cells ROW 54)) := fun ty => by
    have h := Lib.run_append_grow_zeros w 28 3 ty 54 i0 _ .i64 .i64 tS_und tI_und hi0 hz0 (some ⟨b, 0, none⟩) 0 c [] hold (n + 1) (by omega) (by omega) (by omega) (by omega) (by rw [hzb]; omega) (by rw [hzb, Nat.zero_add]; exact growslice_fits hroom (by omega))
    rw [Nat.zero_add, ← hG, ← hROW] at h
    exact h
  have hGn : n + 1 ≤ G := by rw [hG]; exact grownCap_ge w _ _ _
  have hG63 : G ≤ 9223372036854775807 := by
    have := grownCap_le_maxLen w (n + 1) c 54 (by unfold maxLen; omega)
    rw [← hG] at this
    unfold maxLen at this
    omega
  have hRl : ROW.size = G * 2 := by
    rw [hROW]
    simp only [Array.size_append, size_zeroCells, List.size_toArray, List.length_nil]
    have : (zN.cells).size = 2 := by simp [Value.cells]
    rw [this]
    omega
  have hbw : b < w.heap.size := (Array.getElem?_eq_some_iff.1 hg).1
  have hvw : vb < w.heap.size := (Array.getElem?_eq_some_iff.1 hv).1
  have hal : arr.toList.length = c * 2 := by simpa using hsz
  have hRl2 : ROW.toList.length = G * 2 := by simpa using hRl
  have hcl : (arr.toList.take (n * 2)).length = n * 2 := by rw [List.length_take]; omega
  have hmin1 : Nat.min n n = n := Nat.min_self n
  have hmin2 : Nat.min 1 (n + 1) = 1 := Nat.min_eq_left (by omega)
  obtain ⟨W0, hW0⟩ : ∃ W0, W0 = w.drew.alloc (.cells ROW 54) := ⟨_, rfl⟩
  have hh0 : W0.heap = w.heap.push (.cells ROW 54 (0, 0)) := by rw [hW0]; rfl
  obtain ⟨RA, hRA⟩ : ∃ RA, RA = ([x, y] ++ ROW.toList.drop 2).toArray := ⟨_, rfl⟩
  have hRAl : RA.toList.length = G * 2 := by rw [hRA]; simp only [List.length_append, List.length_cons, List.length_nil, List.length_drop]; omega
  have hcpA : ∀ W : World, W.heap = W0.heap → ∀ ty dc, (Builtin.copy_ #[28, 28] ty #[.slice (some ⟨w.heap.size, 0, none⟩) (n + 1) dc, .slice (some ⟨vb, 0, none⟩) 1 vc]).run Tryd.prog W = .ok (goInt 1) (W.setRow w.heap.size RA) := fun W hW ty dc => by
    have h := run_copy_sz (P := Tryd.prog) W 28 28 ty 54 2 w.heap.size 0 (n + 1) dc ⟨vb, 0, none⟩ 1 vc ROW 54 [x, y] tS_und tE_size (by rw [hW, hh0]; simp) (by rw [hmin2]; rfl)
      (fun j v hj => by
        rw [Addr.add_lit, Nat.zero_add, cell_of_row W vb j arrV 54 (0, 0) (by rw [hW, hh0, Array.getElem?_push, if_neg (by omega)]; exact hv)]
        match j, hj with
        | 0, hj => simp at hj; subst hj; exact hx
        | 1, hj => simp at hj; subst hj; exact hy
        | _ + 2, hj => simp at hj) (by simp only [List.length_cons, List.length_nil]; omega) (fun v hv => by simp at hv; rcases hv with rfl | rfl <;> assumption)
    rw [hmin2] at h
    simp only [List.take_zero, List.nil_append, Nat.zero_add, List.length_cons, List.length_nil, Nat.reduceAdd] at h
    rw [hRA]
    exact h
  obtain ⟨RB, hRB⟩ : ∃ RB, RB = (RA.toList.take 2 ++ arr.toList.take (n * 2) ++ RA.toList.drop (2 + n * 2)).toArray := ⟨_, rfl⟩
  have hhA : ∀ W : World, W.heap = W0.heap → (W.setRow w.heap.size RA).heap[w.heap.size]? = some (.cells RA 54 (0, 0)) := fun W hW => setRow_heap W _ ROW RA _ _ (by rw [hW, hh0]; simp)
  have hhB : ∀ W : World, W.heap = W0.heap → (W.setRow w.heap.size RA).heap[b]? = some (.cells arr 54 (0, 0)) := fun W hW => by
    have : W.heap[b]? = some (.cells arr 54 (0, 0)) := by rw [hW, hh0, Array.getElem?_push, if_neg (by omega)]; exact hg
    simp only [World.setRow, Array.getElem?_modify, this]
    rw [if_neg (by omega)]
  have hcpB : ∀ W : World, W.heap = (W0.setRow w.heap.size RA).heap → ∀ ty dc sc, (Builtin.copy_ #[28, 28] ty #[.slice (some ⟨w.heap.size, 2, none⟩) n dc, .slice (some ⟨b, 0, none⟩) n sc]).run Tryd.prog W = .ok (goInt n) (W.setRow w.heap.size RB) := fun W hW ty dc sc => by
    have h := run_copy_sz (P := Tryd.prog) W 28 28 ty 54 2 w.heap.size 2 n dc ⟨b, 0, none⟩ n sc RA 54 (arr.toList.take (n * 2)) tS_und tE_size (by rw [hW]; exact hhA W0 rfl) (by rw [hmin1, hcl])
      (fun j v hj => by
        rw [Addr.add_lit, Nat.zero_add, cell_of_row W b j arr 54 (0, 0) (by rw [hW]; exact hhB W0 rfl)]
        rw [List.getElem?_take] at hj
        split at hj
        · simpa using hj
        · simp at hj) (by rw [hcl]; have : RA.size = RA.toList.length := by simp
                          omega) h1c
    rw [hmin1, hcl] at h
    rw [hRB]
    exact h
  have hRBs : RB.size = G * 2 := by
    rw [hRB]
    simp only [List.size_toArray, List.length_append, hcl, List.length_take, List.length_drop, hRAl]
    omega
  have hRA2 : RA.toList.take 2 = [x, y] := by rw [hRA]; rfl
  have hRBt : RB.toList.take (2 + n * 2) = [x, y] ++ arr.toList.take (n * 2) := by
    rw [hRB, hRA2]
    simp only
    rw [List.take_left' (by simp only [List.length_append, List.length_cons, List.length_nil, hcl])]
  have hG1 : ¬ (G = 1) := by omega
  have hG0 : ¬ (G = 0) := by omega
  have hc0 : ¬ (c = 0) := by omega
  rw [← hG]
  clear hold hROW hG hRl hzb hz0 hzs hi0 hRA hRB hRA2 hRAl hRl2
  subst hW0
  have hE : ((w.alloc (.cells ROW 54)).drew).heap = (w.drew.alloc (.cells ROW 54)).heap := rfl
  have hF : (((w.alloc (.cells ROW 54)).drew.setRow w.heap.size RA).drew).heap = ((w.drew.alloc (.cells ROW 54)).setRow w.heap.size RA).heap := rfl
  go_enter Tryd.func24, Tryd.ntmps24
  go_wp2_with (first
    | (at_builtin; refine Lib.wpList_append_run _ rfl _ _ _ _ rfl _ _ rfl rfl _ _ (hrz _) ?_)
    | (at_builtin; refine wpList_copy_runI _ rfl _ _ 28 28 rfl _ _ rfl rfl (hcpA _ hE _ _) ?_))

  go_region_law_o (refine step_copy_runI rfl _ _ 28 28 rfl (.slice (some ⟨w.heap.size, 2, none⟩) n (G - 1)) (.slice (some ⟨b, 0, none⟩) n c) (by simp [Act.eval, Act.put]) (by simp [Act.eval, Act.put]) (hcpB _ hF 3 (G - 1) c) ?_)
  go_wp2
  go_ret
  refine ⟨rfl, RB, hRBs, hRBt, ?_, rfl, rfl, rfl⟩
  have e1 : (((w.alloc (.cells ROW 54)).drew.setRow w.heap.size RA).drew.setRow w.heap.size RB).heap = ((w.heap.push (.cells ROW 54 (0, 0))).modify w.heap.size (fun | .cells _ elem frozen => .cells RA elem frozen | o => o)).modify w.heap.size (fun | .cells _ elem frozen => .cells RB elem frozen | o => o) := rfl
  rw [e1, modify_push, modify_push]
end Go.Proofs.YtdgpmopcmacicaaDoorPi

/- slices.Insert of one node ahead of a row of nodes of the caller's, as a contract of our logic. -/
set_option linter.unusedVariables false
set_option linter.unusedSimpArgs false
set_option maxRecDepth 100000
namespace Go.Proofs.YtdgpmopcmacicaaDoorPi
open Go Go.RowKit Go.Lib
theorem rowN_new {F : Fz} {bs : Bns} {fr : Frs} {w w' : World} (hm : MRel F bs fr w) {d j t sz cap : Nat} {rows rows' : List (List Im)} {a : Bnd} {arr : Array Value} (hl : look fr d j = some (.row t sz rows 0)) (h4 : bnd bs d j = some a) (hsz : 0 < sz)
    (hlen : rows.length < rows'.length) (hcap : rows'.length ≤ cap) (hmax : cap ≤ maxLen) (hold : ∀ b, b < w.heap.size → w'.heap[b]? = w.heap[b]?) (hnew : w'.heap[w.heap.size]? = some (.cells arr t (0, 0))) (hs : arr.size = cap * sz) (hr : RowAt F arr sz rows')
    (e1 : w'.os = w.os) (e2 : w'.tape = w.tape) (e3 : w'.output = w.output) (e4 : w.heap.size ≤ w'.heap.size) :
    ∃ bs', MRel F bs' (fset fr d j (.row t sz rows' 0)) w' ∧ CStep F bs fr w F bs' (fset fr d j (.row t sz rows' 0)) w' ∧ VRel F bs' (fset fr d j (.row t sz rows' 0)) (.ms d j rows'.length) (.slice (some ⟨w.heap.size, 0, none⟩) rows'.length cap) := by
  have hnone : ∀ q, F w.heap.size q = none := fun q => by
    cases hq : F w.heap.size q with
    | none => rfl
    | some u =>
      have := World.block_lt_of_cell? w _ (hm.fz _ _ _ hq)
      simp at this
  have hput := hm.put (F' := F) (w' := w') (o' := .row t sz rows' 0) (a' := (some w.heap.size, cap)) hl h4
    (fun b hb _ => hold b hb) (Fz.le_refl F) (fun b q hb _ => rfl)
    (fun b q u hb hq => by
      have hcell := hm.fz b q u hq
      have hlt := World.block_lt_of_cell? w _ hcell
      rw [← hcell]
      exact World.cell?_of_block (hold b hlt))
    (fun b hb => by simp at hb; exact .inl (by omega))
    (by simp only [AObj.becomes]; exact ⟨trivial, trivial, by omega, fun e => by omega⟩)
    ⟨hsz, hcap, hmax, Nat.zero_le _, fun e => by simp at e, fun b hb => by
      simp at hb
      subst hb
      exact ⟨arr, hnew, hs, hr, fun q u hq => by rw [hnone] at hq; simp at hq, fun q hq => by simp at hq⟩⟩
  refine ⟨_, hput.1, ⟨Fz.le_refl F, hput.2.1, ⟨e1, e2, e3, e4, fun b hb _ => hold b hb⟩, hput.2.2⟩, ?_⟩
  simp only [VRel]
  exact ⟨_, _, rfl, hcap, t, sz, rows', 0, (some w.heap.size, cap), by simp [look, fget_fset, show fget fr d j = some _ from hl], by simp [bnd, fget_fset, show fget bs d j = some _ from h4], by simp, fun _ => ⟨rfl, rfl⟩⟩
/-- A row's rows change, in place. -/
theorem rowN_same {F : Fz} {bs : Bns} {fr : Frs} {w w' : World} (hm : MRel F bs fr w) {d j t sz g : Nat} {rows rows' : List (List Im)} {a : Bnd} {arr : Array Value} (hl : look fr d j = some (.row t sz rows 0)) (h4 : bnd bs d j = some a) (ha : a.1 = some g)
    (hlen : rows.length ≤ rows'.length) (hcap : rows'.length ≤ a.2) (hold : ∀ b, b ≠ g → w'.heap[b]? = w.heap[b]?) (hnew : w'.heap[g]? = some (.cells arr t (0, 0))) (hs : arr.size = a.2 * sz) (hr : RowAt F arr sz rows')
    (e1 : w'.os = w.os) (e2 : w'.tape = w.tape) (e3 : w'.output = w.output) (e4 : w'.heap.size = w.heap.size) :
    ∃ bs', MRel F bs' (fset fr d j (.row t sz rows' 0)) w' ∧ CStep F bs fr w F bs' (fset fr d j (.row t sz rows' 0)) w' ∧ VRel F bs' (fset fr d j (.row t sz rows' 0)) (.ms d j rows'.length) (.slice (some ⟨g, 0, none⟩) rows'.length a.2) := by
  obtain ⟨k1, k2, k3, k4, k5, k6⟩ := hm.obj d j _ _ hl h4
  obtain ⟨arr0, g1, g2, g3, g4, g5⟩ := k6 g ha
  have hnone : ∀ q, F g q = none := fun q => by
    cases hq : F g q with
    | none => rfl
    | some u => have := g4 q u hq; omega
  have hput := hm.put (F' := F) (w' := w') (o' := .row t sz rows' 0) (a' := a) hl h4
    (fun b _ hb => hold b (fun e => by rcases hb with hb | hb; exact hb (by rw [e]; exact ha); exact hb trivial)) (Fz.le_refl F) (fun b q hb _ => rfl)
    (fun b q u hb hq => by
      have hcell := hm.fz b q u hq
      rw [← hcell]
      refine World.cell?_of_block (hold b (fun e => ?_))
      subst e
      rw [hnone] at hq
      simp at hq)
    (fun b hb => .inr ⟨hb, trivial⟩)
    (by simp only [AObj.becomes]; exact ⟨trivial, trivial, hlen, fun e => trivial⟩)
    ⟨k1, hcap, k3, Nat.zero_le _, k5, fun b hb => by
      rw [ha] at hb
      simp at hb
      subst hb
      exact ⟨arr, hnew, hs, hr, fun q u hq => by rw [hnone] at hq; simp at hq, fun q hq => by simp at hq⟩⟩
  refine ⟨_, hput.1, ⟨Fz.le_refl F, hput.2.1, ⟨e1, e2, e3, by omega, fun b hb hno => hold b (fun e => hno d j ⟨_, a.2, hl, trivial, by rw [h4, e, ← ha]⟩)⟩, hput.2.2⟩, ?_⟩
  simp only [VRel]
  exact ⟨_, _, rfl, hcap, t, sz, rows', 0, a, by simp [look, fget_fset, show fget fr d j = some _ from hl], by simp [bnd, fget_fset, show fget bs d j = some _ from h4], by simp, fun _ => by rw [ha]; exact ⟨rfl, rfl⟩⟩


theorem rowN_iff {F : Fz} {arr : Array Value} {A : List (Int × Int)} : RowAt F arr 2 (A.map nd) ↔ ∀ (i : Nat) (p : Int × Int), A[i]? = some p → arr[i * 2]? = some (.int .i64 p.1) ∧ arr[i * 2 + 1]? = some (.int .i64 p.2) := by
  constructor
  · intro h i p hp
    obtain ⟨h1, h2⟩ := h i (nd p) (by rw [List.getElem?_map, hp]; rfl)
    obtain ⟨v, g1, g2⟩ := h2 0 (.int .i64 p.1) rfl
    obtain ⟨v', g3, g4⟩ := h2 1 (.int .i64 p.2) rfl
    simp only [IRel] at g2 g4
    subst g2 g4
    exact ⟨g1, g3⟩
  · intro h i r hr
    rw [List.getElem?_map, Option.map_eq_some_iff] at hr
    obtain ⟨p, hp, rfl⟩ := hr
    obtain ⟨g1, g2⟩ := h i p hp
    refine ⟨rfl, fun j x hx => ?_⟩
    match j, hx with
    | 0, hx => simp at hx; subst hx; exact ⟨_, g1, by simp [IRel]⟩
    | 1, hx => simp at hx; subst hx; exact ⟨_, g2, by simp [IRel]⟩
    | _ + 2, hx => simp at hx
/-- Behind two cells, the old ones. -/
theorem rowN_cons {F : Fz} {arr R : Array Value} {A : List (Int × Int)} {n : Nat} (hA : A.length = n) (h : RowAt F arr 2 (A.map nd)) (p : Int × Int) (hR : R.toList.take (2 + n * 2) = [Value.int .i64 p.1, Value.int .i64 p.2] ++ arr.toList.take (n * 2)) : RowAt F R 2 ((p :: A).map nd) := by
  have at_ : ∀ k, k < 2 + n * 2 → R[k]? = ([Value.int .i64 p.1, Value.int .i64 p.2] ++ arr.toList.take (n * 2))[k]? := fun k hk => by
    rw [← hR, List.getElem?_take, if_pos hk]
    simp
  rw [rowN_iff] at h ⊢
  intro i q hq
  cases i with
  | zero =>
    simp only [List.getElem?_cons_zero, Option.some.injEq] at hq
    subst hq
    exact ⟨at_ 0 (by omega), at_ 1 (by omega)⟩
  | succ i =>
    simp only [List.getElem?_cons_succ] at hq
    have hi := (List.getElem?_eq_some_iff.1 hq).1
    obtain ⟨g1, g2⟩ := h i q hq
    have e : ∀ m, m < n * 2 → ([Value.int .i64 p.1, Value.int .i64 p.2] ++ arr.toList.take (n * 2))[2 + m]? = arr[m]? := fun m hm => by
      rw [List.getElem?_append_right (by simp), List.getElem?_take]
      simp only [List.length_cons, List.length_nil]
      rw [show 2 + m - (0 + 1 + 1) = m by omega, if_pos hm]
      simp
    refine ⟨?_, ?_⟩
    · rw [at_ _ (by omega), show (i + 1) * 2 = 2 + i * 2 by omega, e _ (by omega), g1]
    · rw [at_ _ (by omega), show (i + 1) * 2 + 1 = 2 + (i * 2 + 1) by omega, e _ (by omega), g2]
theorem insN_ok (j j2 n : Nat) (p : Int × Int) (A : List (Int × Int)) (fz2 : Nat) (f0 : List AObj) (rest : Frs) (hl : f0[j]? = some (rowA A)) (hl2 : f0[j2]? = some (.row 54 2 [nd p] fz2)) (hj : j ≠ j2) (hn : A.length = n) (h0 : 0 < n) (hb : n ≤ 100000) :
    ACalls Tryd.prog 24 [.ms 0 j n, .im (.int .i64 0), .ms 0 j2 1] (f0 :: rest) fun v u => v = .ms 0 j (n + 1) ∧ u = f0.set j (rowA (p :: A)) :: rest := by
  intro F bs w vs hm hv
  have hil : (A.map nd).length = n := by rw [List.length_map, hn]
  have hlook : look (f0 :: rest) 0 j = some (.row 54 2 (A.map nd) 0) := hl
  have hlook2 : look (f0 :: rest) 0 j2 = some (.row 54 2 [nd p] fz2) := hl2
  obtain ⟨vl⟩ := vs
  simp only [VRels] at hv
  obtain ⟨v1, r1, rfl, h1, v2, r2, rfl, h2, v3, r3, rfl, h3, rfl⟩ := hv
  simp only [VRel, IRel] at h1 h2 h3
  subst h2
  obtain ⟨A1, c, rfl, hc, t', sz', rows', fz', a, g1, g2, g3, g4⟩ := h1
  rw [hlook] at g1
  cases g1
  obtain ⟨rfl, rfl⟩ := g4 hil
  obtain ⟨A3, c3, rfl, hc3, t3, sz3, rows3, fz3, a3, p1, p2, p3, p4⟩ := h3
  rw [hlook2] at p1
  cases p1
  obtain ⟨rfl, rfl⟩ := p4 rfl
  obtain ⟨k1, k2, k3, k4, k5, k6⟩ := hm.obj 0 j _ _ hlook g2
  obtain ⟨q1, q2, q3, q4, q5, q6⟩ := hm.obj 0 j2 _ _ hlook2 p2
  obtain ⟨vb, hvb⟩ : ∃ vb, a3.1 = some vb := by
    cases h : a3.1 with
    | none => have := q5 h; simp at q2; omega
    | some b => exact ⟨b, rfl⟩
  obtain ⟨b, hbb⟩ : ∃ b, a.1 = some b := by
    cases h : a.1 with
    | none => have := k5 h; omega
    | some b => exact ⟨b, rfl⟩
  obtain ⟨arr3, m1, m2, m3, m4, m5⟩ := q6 vb hvb
  obtain ⟨arr, b1, b2, b3, b4, b5⟩ := k6 b hbb
  have hxy := (rowN_iff (A := [p])).1 m3 0 p rfl
  simp only [Nat.zero_mul, Nat.zero_add] at hxy
  have hne : vb ≠ b := fun e => by
    have o1 : Own bs (f0 :: rest) 0 j b := ⟨_, a.2, hlook, trivial, by rw [g2, ← hbb]⟩
    have o2 : Own bs (f0 :: rest) 0 j2 b := ⟨_, a3.2, hlook2, trivial, by rw [p2, ← e, ← hvb]⟩
    exact hj (hm.inj _ _ _ _ _ o1 o2).2
  have hcell := rowN_iff.1 b3
  have hone : ∀ v ∈ arr.toList.take (n * 2), v.oneCell' = true := fun v hv => by
    obtain ⟨k, hk⟩ := List.mem_iff_getElem?.1 hv
    rw [List.getElem?_take] at hk
    split at hk
    · rename_i hkn
      have hk2 : arr[k]? = some v := by simpa using hk
      have hq : A[k / 2]? = some A[k / 2] := List.getElem?_eq_getElem (by omega)
      obtain ⟨e1, e2⟩ := hcell (k / 2) _ hq
      rcases Nat.mod_two_eq_zero_or_one k with hm | hm
      · rw [show k / 2 * 2 = k by omega, hk2] at e1
        cases e1
        rfl
      · rw [show k / 2 * 2 + 1 = k by omega, hk2] at e2
        cases e2
        rfl
    · simp at hk
  have hfs : ∀ o, f0.set j o :: rest = fset (f0 :: rest) 0 j o := fun o => rfl
  have hil2 : ((p :: A).map nd).length = n + 1 := by rw [List.length_map, List.length_cons, hn]
  rw [hvb, hbb]
  simp only [Option.map_some]
  by_cases hroom : n + 1 ≤ a.2
  · have hc63 : a.2 ≤ 9223372036854775807 := by have : maxLen ≤ 9223372036854775807 := by simp [maxLen]
                                                omega
    refine (insN_shift w b n a.2 vb a3.2 arr arr3 (.int .i64 p.1) (.int .i64 p.2) h0 hroom hc63 hne b1 b2 m1 hxy.1 hxy.2 hone rfl rfl).mono ?_
    rintro e w' ⟨rfl, hw⟩
    have hnew := setRow_heap w.drew b arr ([Value.int .i64 p.1, Value.int .i64 p.2] ++ arr.toList.take (n * 2) ++ arr.toList.drop (2 + n * 2)).toArray _ _ b1
    rw [← hw] at hnew
    have hal : arr.toList.length = a.2 * 2 := by simpa using b2
    obtain ⟨bs', r1, r2, r3⟩ := rowN_same (w' := w') (rows' := (p :: A).map nd) hm hlook g2 hbb (by omega) (by omega) (fun b' hb' => by
        rw [hw]
        simp only [World.setRow, Array.getElem?_modify]
        rw [if_neg (fun e => hb' e.symm)]
        rfl) hnew (by
        simp only [List.size_toArray, List.length_append, List.length_cons, List.length_nil, List.length_take, List.length_drop]
        omega) (rowN_cons hn b3 p (by
        simp only
        rw [List.take_left' (by simp only [List.length_append, List.length_cons, List.length_nil, List.length_take]; omega)]))
        (by rw [hw]; rfl) (by rw [hw]; rfl) (by rw [hw]; rfl) (by rw [hw]; simp [World.setRow])
    rw [hil2] at r3
    exact ⟨_, _, F, bs', _, rfl, ⟨rfl, by rw [hfs]⟩, r1, r3, r2⟩
  · refine (insN_grow w b n a.2 vb a3.2 arr arr3 (.int .i64 p.1) (.int .i64 p.2) h0 (by omega) (by omega) hb hne b1 b2 m1 hxy.1 hxy.2 hone rfl rfl).mono ?_
    rintro e w' ⟨rfl, R, hR1, hR2, hh, e1, e2, e3⟩
    have hge := grownCap_ge w (n + 1) a.2 54
    have hle := grownCap_le_maxLen w (n + 1) a.2 54 (by unfold maxLen; omega)
    obtain ⟨bs', r1, r2, r3⟩ := rowN_new (w' := w') (rows' := (p :: A).map nd) (cap := grownCap w (n + 1) a.2 54) hm hlook g2 (by omega) (by omega) (by omega) hle (fun b' hb' => by rw [hh, Array.getElem?_push, if_neg (by omega)]) (by rw [hh]; simp) hR1 (rowN_cons hn b3 p hR2) e1 e2 e3 (by rw [hh]; simp)
    rw [hil2] at r3
    exact ⟨_, _, F, bs', _, rfl, ⟨rfl, by rw [hfs]⟩, r1, r3, r2⟩
end Go.Proofs.YtdgpmopcmacicaaDoorPi

/- The walk of Back: its closure, and where it changes nothing. -/
set_option linter.unusedVariables false
set_option linter.unusedSimpArgs false
set_option maxRecDepth 100000
namespace Go.Proofs.YtdgpmopcmacicaaDoorPi
set_option maxHeartbeats 4000000
theorem bckT_ok (f l : Int) (h0 : 0 ≤ l) (h1 : l ≤ 1000000) (up : Frs) (k : Nat) (hk : fget up 0 k = some (.box [.i f])) : ACalls Tryd.prog 23 [.i l, .ptr 0 k 0] up fun v u => v = .i (toI f l) ∧ u = up := by
  have hd := tdiv2 l h0 (by omega)
  have wl : IntKind.i64.wrap (l + 2) = l + 2 := wrap64 (by omega)
  refine ACalls.code Tryd.func23 rfl 11 rfl (by simp) [.tmp 3] rfl fun Q hQ => ?_
  simp only [ups, PV.up, argEnv]
  have ft := And.intro ty_3 (And.intro ty_4 (And.intro ty_51 trivial))
  refine Run.seq ?_
  have fx := And.intro (@ge_iff_le Int _) (And.intro wl (And.intro hd (And.intro hk ft)))
  refine Run.go ?_
  refine End.kp [0, 1] ?_
  refine Run.seq ?_
  refine Run.seq ?_
  refine Run.go ?_
  refine End.kp [0, 7] ?_
  refine Run.cond _ rfl (fun hb => ?_) (fun hb => ?_)
  · have hb2 := of_decide_eq_true hb
    have ht : toI f l = l + 2 := if_pos hb2
    refine Run.seq ?_
    have fx := And.intro (@ge_iff_le Int _) (And.intro wl (And.intro hd (And.intro hk ft)))
    refine Run.go ?_
    refine End.kp [3] ?_
    refine Run.ret (hQ _ _ ⟨.inr rfl, _, rfl, _, rfl, ?_⟩)
    exact ⟨by rw [ht], rfl⟩
  · have hb2 := of_decide_eq_false hb
    have ht : toI f l = l := if_neg hb2
    refine Run.skip ?_
    refine End.kp [0] ?_
    refine Run.seq ?_
    have fx := And.intro (@ge_iff_le Int _) (And.intro wl (And.intro hd (And.intro hk ft)))
    refine Run.go ?_
    refine End.kp [3] ?_
    refine Run.ret (hQ _ _ ⟨.inr rfl, _, rfl, _, rfl, ?_⟩)
    exact ⟨by rw [ht], rfl⟩
theorem Back_none (g : LGraph) (hg : GraphOk g) (q : Nat) (hq : q = g.regs.length) (up : Frs) : ACalls Tryd.prog 9 [g.pv, .i q] up fun v u => v = .tup [nilG, .i 7] ∧ u = up := by
  have hsm := hg.small
  obtain ⟨z1, z2, z3, z4, z5⟩ := hg.small
  have d0 : decide ((q : Int) < 0) = false := decide_eq_false (by omega)
  
  have dn : decide ((g.regs.length : Int) ≤ (q : Int)) = true := decide_eq_true (by omega)
  refine ACalls.code Tryd.func9 rfl 192 rfl (by simp) [.cell 4 31, .tmp 5] rfl fun Q hQ => ?_
  simp only [ups, PV.up, argEnv]
  have ft := And.intro ty_2 (And.intro ty_3 (And.intro ty_4 (And.intro ty_9 (And.intro ty_23 (And.intro ty_26 (And.intro ty_27 (And.intro ty_28 (And.intro ty_29 (And.intro ty_31 (And.intro ty_35 (And.intro ty_51 (And.intro ty_54 (And.intro ty_56 (And.intro ty_58 (And.intro ty_65 trivial)))))))))))))))
  refine Run.seq ?_
  have fx := And.intro (@ge_iff_le Int _) (And.intro rim_len (And.intro dn (And.intro d0 ft)))
  refine Run.go ?_
  refine End.kp [1, 2, 4] ?_
  refine Run.seq ?_
  refine Run.seq ?_
  refine Run.region rfl fun K hK => GOps.sim ?_
  refine GOps.call rfl rfl rfl rfl (by kernel_rfl) (ACalls.sim ?_)
  refine (Check_ok g hg _).mono fun v u hv => ?_
  obtain ⟨rfl, rfl⟩ := hv
  refine ⟨_, _, rfl, GOps.sim ?_⟩
  refine GOps.done (hK _ ?_); clear hK K
  refine End.kp [1, 2, 4, 6] ?_
  refine Run.seq ?_
  refine Run.go ?_
  refine End.kp [1, 2, 4, 6, 25] ?_
  refine Run.cond _ rfl (fun hb => ?_) (fun hb => ?_)
  · have hb2 := hb
    simp at hb
  · have hb2 := hb
    refine Run.skip ?_
    refine End.kp [1, 2, 4] ?_
    refine Run.seq ?_
    refine Run.seq ?_
    have fx := And.intro (@ge_iff_le Int _) (And.intro rim_len (And.intro dn (And.intro d0 ft)))
    refine Run.go ?_
    refine End.kp [1, 2, 4, 36] ?_
    refine Run.cond _ rfl (fun hb => ?_) (fun hb => ?_)
    · have hb3 := hb
      refine Run.seq ?_
      have fx := And.intro (@ge_iff_le Int _) (And.intro rim_len (And.intro dn (And.intro d0 ft)))
      refine Run.go ?_
      refine End.kp [4, 5] ?_
      refine Run.resC hQ ?_
      exact ⟨rfl, rfl⟩
    · have hb3 := hb
      simp at hb
theorem Back_type (g : LGraph) (hg : GraphOk g) (q : Nat) (r : LReg) (hr : g.regs[q]? = some r) (hx : r.next / 2 < firstG g) (up : Frs) : ACalls Tryd.prog 9 [g.pv, .i q] up fun v u => v = .tup [nilG, .i 8] ∧ u = up := by
  have hsm := hg.small
  obtain ⟨z1, z2, z3, z4, z5⟩ := hg.small
  have d0 : decide ((q : Int) < 0) = false := decide_eq_false (by omega)
  
  have hq := (List.getElem?_eq_some_iff.1 hr).1
  have hrr := hg.regs r (List.mem_of_getElem? hr)
  have hqn : (q : Int) < (g.regs.length : Int) := by omega
  have dn : decide ((g.regs.length : Int) ≤ (q : Int)) = false := decide_eq_false (by omega)
  have hgt : (g.regs.map LReg.im)[q]? = some [.str r.name, .int .i64 r.next, .bool r.init] := by rw [List.getElem?_map, hr]; rfl
  have hd := tdiv2 r.next hrr.1 (by omega)
  have dx : decide (r.next / 2 < 1 + (g.inn.length : Int) + g.regs.length) = true := decide_eq_true hx
  refine ACalls.code Tryd.func9 rfl 192 rfl (by simp) [.cell 4 31, .tmp 5] rfl fun Q hQ => ?_
  simp only [ups, PV.up, argEnv]
  have ft := And.intro ty_2 (And.intro ty_3 (And.intro ty_4 (And.intro ty_9 (And.intro ty_23 (And.intro ty_26 (And.intro ty_27 (And.intro ty_28 (And.intro ty_29 (And.intro ty_31 (And.intro ty_35 (And.intro ty_51 (And.intro ty_54 (And.intro ty_56 (And.intro ty_58 (And.intro ty_65 trivial)))))))))))))))
  refine Run.seq ?_
  have fx := And.intro (@Int.toNat_natCast) (And.intro (@Int.natCast_nonneg) (And.intro dx (And.intro hd (And.intro hgt (And.intro hqn (And.intro (@ge_iff_le Int _) (And.intro rim_len (And.intro dn (And.intro d0 ft)))))))))
  refine Run.go ?_
  refine End.kp [1, 2, 4] ?_
  refine Run.seq ?_
  refine Run.seq ?_
  refine Run.region rfl fun K hK => GOps.sim ?_
  refine GOps.call rfl rfl rfl rfl (by kernel_rfl) (ACalls.sim ?_)
  refine (Check_ok g hg _).mono fun v u hv => ?_
  obtain ⟨rfl, rfl⟩ := hv
  refine ⟨_, _, rfl, GOps.sim ?_⟩
  refine GOps.done (hK _ ?_); clear hK K
  refine End.kp [1, 2, 4, 6] ?_
  refine Run.seq ?_
  refine Run.go ?_
  refine End.kp [1, 2, 4, 6, 25] ?_
  refine Run.cond _ rfl (fun hb => ?_) (fun hb => ?_)
  · have hb2 := hb
    simp at hb
  · have hb2 := hb
    refine Run.skip ?_
    refine End.kp [1, 2, 4] ?_
    refine Run.seq ?_
    refine Run.seq ?_
    have fx := And.intro (@Int.toNat_natCast) (And.intro (@Int.natCast_nonneg) (And.intro dx (And.intro hd (And.intro hgt (And.intro hqn (And.intro (@ge_iff_le Int _) (And.intro rim_len (And.intro dn (And.intro d0 ft)))))))))
    refine Run.go ?_
    refine End.kp [1, 2, 4, 36] ?_
    refine Run.cond _ rfl (fun hb => ?_) (fun hb => ?_)
    · have hb3 := hb
      simp at hb
    · have hb3 := hb
      refine Run.skip ?_
      refine End.kp [1, 2, 4] ?_
      refine Run.seq ?_
      have fx := And.intro (@Int.toNat_natCast) (And.intro (@Int.natCast_nonneg) (And.intro dx (And.intro hd (And.intro hgt (And.intro hqn (And.intro (@ge_iff_le Int _) (And.intro rim_len (And.intro dn (And.intro d0 ft)))))))))
      refine Run.go ?_
      refine End.kp [1, 2, 4, 7] ?_
      refine Run.seq ?_
      refine Run.seq ?_
      refine Run.drawA fun K hK => ?_
      refine DOps.sim ?_
      refine DOps.call (.i (1 + (g.inn.length : Int) + g.regs.length)) [] [] rfl rfl rfl rfl (by kernel_rfl) (by simp [Agree]) (fun u hu => GFirst_ok g hsm u) ?_
      refine DOps.sim ?_
      refine DOps.nil (by rfl) (hK _ ?_); clear hK K
      refine End.kp [1, 2, 4, 7, 48] ?_
      refine Run.cond _ rfl (fun hb => ?_) (fun hb => ?_)
      · have hb4 := hb
        refine Run.seq ?_
        have fx := And.intro (@Int.toNat_natCast) (And.intro (@Int.natCast_nonneg) (And.intro dx (And.intro hd (And.intro hgt (And.intro hqn (And.intro (@ge_iff_le Int _) (And.intro rim_len (And.intro dn (And.intro d0 ft)))))))))
        refine Run.go ?_
        refine End.kp [4, 5] ?_
        refine Run.resC hQ ?_
        exact ⟨rfl, rfl⟩
      · have hb4 := hb
        simp at hb
end Go.Proofs.YtdgpmopcmacicaaDoorPi

/- The walk of Back, where it moves a register. -/
set_option linter.unusedVariables false
set_option linter.unusedSimpArgs false
set_option maxRecDepth 100000
namespace Go.Proofs.YtdgpmopcmacicaaDoorPi
set_option maxHeartbeats 40000000
theorem toI_range (F l m : Int) (hm : 0 ≤ m) (h0 : 0 ≤ l) (h1 : l < 2 * (F + m)) : 0 ≤ toI F l ∧ toI F l < 2 * (F + 1 + m) := by
  unfold toI
  split <;> omega
theorem insG_ok {g : LGraph} (hg : GraphOk g) (r : LReg) (hn : NameOk r.name ∧ r.name ∉ namesG g) (hl : g.regs.length < 288) (r0 : 0 ≤ r.next) (r1 : r.next < 2 * (firstG g + g.ands.length)) : GraphOk (insG g r) := by
  have hsm := hg.small
  have hnm : ((g.regs ++ [r]).map (inR (firstG g))).map LReg.name = g.regs.map LReg.name ++ [r.name] := by simp
  have T := fun (l : Int) (m : Nat) (l0 : 0 ≤ l) (l1 : l < 2 * (firstG g + m)) => toI_range (firstG g) l m (by omega) l0 l1
  refine ⟨⟨hsm.inn, hsm.out, by simp [insG]; omega, by simp [insG]; exact hsm.ands, by simp [insG]; exact hsm.outs⟩, ?_, ?_, hg.onames, hg.onodup, by simp [insG]; exact hg.olen, fun i x hx => ?_, fun x hx => ?_, fun x hx => ?_⟩
  · simp only [insG, hnm]
    intro s hs
    rw [← List.append_assoc] at hs
    rcases List.mem_append.1 hs with hs | hs
    · exact hg.names s hs
    · rw [List.mem_singleton.1 hs]; exact hn.1
  · simp only [insG, hnm]
    rw [← List.append_assoc, List.nodup_append]
    exact ⟨hg.nodup, by simp, fun a ha b hb e => hn.2 (by rw [List.mem_singleton] at hb; rw [← hb, ← e]; exact ha)⟩
  · simp only [insG, List.length_map, List.length_append, List.length_cons, List.length_nil, List.getElem?_map, Option.map_eq_some_iff] at hx ⊢
    obtain ⟨y, hy, rfl⟩ := hx
    have hi := hg.ands i y hy
    have t1 := T y.1 i hi.1.1 (by unfold firstG; omega)
    have t2 := T y.2 i hi.2.1 (by unfold firstG; omega)
    unfold firstG at t1 t2 ⊢
    simp only
    omega
  · simp only [insG, List.length_map, List.length_append, List.length_cons, List.length_nil] at hx ⊢
    obtain ⟨y, hy, rfl⟩ := List.mem_map.1 hx
    have hi : 0 ≤ y.next ∧ y.next < 2 * (firstG g + g.ands.length) := by
      rcases List.mem_append.1 hy with hy | hy
      · have := hg.regs y hy
        unfold firstG
        omega
      · rw [List.mem_singleton.1 hy]
        exact ⟨r0, r1⟩
    have t := T y.next _ hi.1 hi.2
    unfold firstG at t ⊢
    simp only
    omega
  · simp only [insG, List.length_map, List.length_append, List.length_cons, List.length_nil] at hx ⊢
    obtain ⟨y, hy, rfl⟩ := List.mem_map.1 hx
    have hi := hg.outs y hy
    have t := T y g.ands.length hi.1 (by unfold firstG; omega)
    unfold firstG at t ⊢
    omega
theorem insG_names (g : LGraph) (r : LReg) : namesG (insG g r) = namesG g ++ [r.name] := by simp [namesG, insG]
theorem fresh_new (g : LGraph) (hl : (namesG g).length < 99) : NameOk (freshG g) ∧ freshG g ∉ namesG g := by
  obtain ⟨q, h1, h2, h3, _⟩ := freshG_at g hl
  rw [h2]
  exact ⟨nameK_ok q (by omega), h3⟩
abbrev iniB (r : LReg) : Bool := r.init != (r.next % 2 == 1)
/-- The graph with the first register more, with both. -/
def b1G (g : LGraph) (r : LReg) (p : Int × Int) : LGraph := insG g ⟨freshG g, p.1, iniB r⟩
def b2G (g : LGraph) (r : LReg) (p : Int × Int) : LGraph := insG (b1G g r p) ⟨freshG (b1G g r p), toI (firstG g) p.2, iniB r⟩
/-- What Back returns. -/
def backG (g : LGraph) (q : Nat) (r : LReg) (p : Int × Int) : LGraph := bckG g q r p (freshG g) (freshG (b1G g r p))
theorem backG_pv (g : LGraph) (q : Nat) (r : LReg) (p : Int × Int) : (backG g q r p).pv = .agg [.im (.sl (strs g.inn)), .im (.sl (strs g.out)),
    .im (.sl ((((b2G g r p).regs.map (inR (firstG g + 2))).mapIdx fun _ => swR (1 + (g.inn.length : Int) + q) (xl (2 * (firstG g + 2)) r.next)).map LReg.im)),
    .im (.sl ((((2 * firstG g, 2 * firstG g + 2) :: (b2G g r p).ands.map (inA (firstG g + 2))).mapIdx (swK (fun i => (i : Int) == 0) (1 + (g.inn.length : Int) + q) (xl (2 * (firstG g + 2)) r.next))).map nd)),
    .im (.sl (ints (((b2G g r p).outs.map (toI (firstG g + 2))).mapIdx fun _ => toS (1 + (g.inn.length : Int) + q) (xl (2 * (firstG g + 2)) r.next))))] := by
  have hF : firstG (b1G g r p) = firstG g + 1 := by simp [firstG, b1G, insG]; omega
  have e : ∀ l : List (Int × Int), (l.mapIdx fun i => swK (fun i => (i : Int) == 0) (1 + (g.inn.length : Int) + q) (xl (2 * (firstG g + 2)) r.next) (i + 1)) = l.map (swA (1 + (g.inn.length : Int) + q) (xl (2 * (firstG g + 2)) r.next)) := by
    intro l
    refine List.ext_getElem? fun i => ?_
    simp [swK]
    congr 1
  rw [mapIdx_const, mapIdx_const, List.mapIdx_cons, e]
  have hE : backG g q r p = ⟨g.inn, g.out, ((b2G g r p).regs.map (inR (firstG g + 2))).map (swR (1 + (g.inn.length : Int) + q) (xl (2 * (firstG g + 2)) r.next)),
      (2 * firstG g, 2 * firstG g + 2) :: ((b2G g r p).ands.map (inA (firstG g + 2))).map (swA (1 + (g.inn.length : Int) + q) (xl (2 * (firstG g + 2)) r.next)),
      ((b2G g r p).outs.map (toI (firstG g + 2))).map (toS (1 + (g.inn.length : Int) + q) (xl (2 * (firstG g + 2)) r.next))⟩ := by
    simp only [backG, b2G]
    generalize freshG (b1G g r p) = nb
    simp only [bckG, insG, hF]
    simp only [b1G, insG, List.map_map, List.map_append, List.map_cons, List.map_nil, List.append_assoc, List.cons_append, List.nil_append]
    rfl
  rw [hE]
  rfl
theorem FirstM_ok (inn out : List ByteArray) (k0 k1 k2 n m o : Nat) (h1 : inn.length ≤ 1000) (h2 : n ≤ 1000) (up : Frs) : ACalls Tryd.prog 12 [.agg [.im (.sl (strs inn)), .im (.sl (strs out)), .ms 0 k0 n, .ms 0 k1 m, .ms 0 k2 o]] up fun v u => v = .i (1 + inn.length + n) ∧ u = up := by
  have w1 : IntKind.i64.wrap (1 + (inn.length : Int)) = 1 + (inn.length : Int) := wrap64 (by omega)
  have w2 : IntKind.i64.wrap (1 + (inn.length : Int) + n) = 1 + (inn.length : Int) + n := wrap64 (by omega)
  refine ACalls.code Tryd.func12 rfl 11 rfl (by simp) [.tmp 2] rfl fun Q hQ => ?_
  simp only [ups, PV.up, argEnv]
  have ft := And.intro ty_2 (And.intro ty_3 (And.intro ty_9 (And.intro ty_26 (And.intro ty_27 (And.intro ty_31 (And.intro ty_56 trivial))))))
  refine Run.seq ?_
  have fx := And.intro w2 (And.intro w1 (And.intro strs_len ft))
  refine Run.go ?_
  refine End.kp [1] ?_
  refine Run.seq ?_
  refine Run.go ?_
  refine End.kp [2] ?_
  refine Run.ret (hQ _ _ ⟨.inr rfl, _, rfl, _, rfl, ?_⟩)
  exact ⟨rfl, rfl⟩
theorem Back_go (g : LGraph) (q j : Nat) (r : LReg) (p : Int × Int) (hg : GraphOk g) (hr : g.regs.length + 2 ≤ 288) (ha : g.ands.length < 4000) (hl : (namesG g).length < 98) (hq : g.regs[q]? = some r) (hx : r.next / 2 = firstG g + j) (hp : g.ands[j]? = some p) (up : Frs) :
    ACalls Tryd.prog 9 [g.pv, .i q] up fun v u => v = .tup [(backG g q r p).pv, .i 0] ∧ u = up := by
  have hsm := hg.small
  obtain ⟨z1, z2, z3, z4, z5⟩ := hg.small
  have d0 : decide ((q : Int) < 0) = false := decide_eq_false (by omega)
  have hql := (List.getElem?_eq_some_iff.1 hq).1
  have hjl := (List.getElem?_eq_some_iff.1 hp).1
  have hrr := hg.regs r (List.mem_of_getElem? hq)
  have hqn : (q : Int) < (g.regs.length : Int) := by omega
  have dn : decide ((g.regs.length : Int) ≤ (q : Int)) = false := decide_eq_false (by omega)
  have hgt : (g.regs.map LReg.im)[q]? = some [.str r.name, .int .i64 r.next, .bool r.init] := by rw [List.getElem?_map, hq]; rfl
  have hd := tdiv2 r.next hrr.1 (by omega)
  have hm : r.next.tmod 2 = r.next % 2 := tmod2 r.next hrr.1
  have wm : IntKind.i64.wrap (r.next % 2) = r.next % 2 := wrap64 (by omega)
  have hfd : firstG g = 1 + (g.inn.length : Int) + g.regs.length := rfl
  have dx : decide (r.next / 2 < 1 + (g.inn.length : Int) + g.regs.length) = false := decide_eq_false (by omega)
  have w52 : IntKind.i64.wrap ((g.regs.length : Int) + 2) = (g.regs.length : Int) + 2 := wrap64 (by omega)
  have dl : decide ((288 : Int) < (g.regs.length : Int) + 2) = false := decide_eq_false (by omega)
  have de : ((g.ands.length : Int) == 4000) = false := by simp; omega
  have w72 : IntKind.i64.wrap (1 + (g.inn.length : Int)) = 1 + (g.inn.length : Int) := wrap64 (by omega)
  have w74 : IntKind.i64.wrap (1 + (g.inn.length : Int) + q) = 1 + (g.inn.length : Int) + q := wrap64 (by omega)
  obtain ⟨⟨x1, x2⟩, x3, x4⟩ := hg.ands j p hp
  have fr1 := fresh_new g (by omega)
  have hg1 : GraphOk (b1G g r p) := insG_ok hg _ fr1 (by omega) x1 (by unfold firstG; simp only; omega)
  have hi1 : (b1G g r p).inn = g.inn := rfl
  have hn1 : (b1G g r p).regs.length = g.regs.length + 1 := insG_regs _ _
  have ha1 : (b1G g r p).ands.length = g.ands.length := insG_ands _ _
  have ho1 : (b1G g r p).outs.length = g.outs.length := insG_outs _ _
  have hF1 : firstG (b1G g r p) = firstG g + 1 := by unfold firstG; rw [hi1, hn1]; omega
  have hl1 : (namesG (b1G g r p)).length < 99 := by rw [b1G, insG_names, List.length_append]; simp only [List.length_cons, List.length_nil]; omega
  have fr2 := fresh_new (b1G g r p) hl1
  have tp := toI_range (firstG g) p.2 j (by omega) x3 (by unfold firstG; omega)
  have tp1 := toI_range (firstG g) p.1 j (by omega) x1 (by unfold firstG; omega)
  have hg2 : GraphOk (b2G g r p) := insG_ok hg1 _ fr2 (by omega) tp.1 (by rw [hF1, ha1]; simp only; omega)
  have hi2 : (b2G g r p).inn = g.inn := rfl
  have hn2 : (b2G g r p).regs.length = g.regs.length + 2 := by rw [b2G, insG_regs, hn1]
  have ha2 : (b2G g r p).ands.length = g.ands.length := by rw [b2G, insG_ands, ha1]
  have ho2 : (b2G g r p).outs.length = g.outs.length := by rw [b2G, insG_outs, ho1]
  have hF2 : firstG (b2G g r p) = firstG g + 2 := by unfold firstG; rw [hi2, hn2]; omega
  have h02 : (0 : Int) < ((2 : Nat) : Int) := by decide
  have h12 : (1 : Int) < ((2 : Nat) : Int) := by decide
  have hi : iniB r = (r.init != (r.next % 2 == 1)) := rfl
  -- the first round
  have wk0 : IntKind.i64.wrap (r.next / 2 - (1 + (g.inn.length : Int) + g.regs.length)) = (j : Int) := by rw [wrap64 (by omega)]; omega
  have hjn : (j : Int) < (g.ands.length : Int) := by omega
  have hga : (g.ands.map nd)[j]? = some [.int .i64 p.1, .int .i64 p.2] := by rw [List.getElem?_map, hp]; rfl
  have hI0 := fun (u : Frs) a b c => insert_ok g hg ⟨freshG g, p.1, iniB r⟩ x1 (by simp only; omega) 6 7 8 u a b c (by decide) (by decide) (by decide)
  rw [← insG_regs g ⟨freshG g, p.1, iniB r⟩, ← insG_ands g ⟨freshG g, p.1, iniB r⟩, ← insG_outs g ⟨freshG g, p.1, iniB r⟩] at hI0
  have hf1 : insG g ⟨freshG g, p.1, iniB r⟩ = b1G g r p := rfl
  rw [hf1] at hI0
  -- the second round
  have hq1 : (b1G g r p).regs[q]? = some (inR (firstG g) r) := by simp only [b1G, insG, List.getElem?_map]; rw [List.getElem?_append_left hql, hq]; rfl
  have tr : toI (firstG g) r.next = r.next + 2 := if_pos (by omega)
  have hgt1 : ((b1G g r p).regs.map LReg.im)[q]? = some [.str r.name, .int .i64 (r.next + 2), .bool r.init] := by rw [List.getElem?_map, hq1, ← tr]; rfl
  have hqn1 : (q : Int) < ((b1G g r p).regs.length : Int) := by omega
  have hd1 : IntKind.i64.wrap ((r.next + 2).tdiv 2) = r.next / 2 + 1 := by
    rw [tdiv2 (r.next + 2) (by omega) (by omega)]
    omega
  have wd1 : IntKind.i64.wrap (r.next / 2 + 1) = r.next / 2 + 1 := wrap64 (by omega)
  have wk1 : IntKind.i64.wrap (r.next / 2 + 1 - (1 + ((b1G g r p).inn.length : Int) + (b1G g r p).regs.length)) = (j : Int) := by rw [wrap64 (by rw [hi1]; omega), hi1]; omega
  have hjn1 : (j : Int) < ((b1G g r p).ands.length : Int) := by omega
  have hga1 : ((b1G g r p).ands.map nd)[j]? = some [.int .i64 (toI (firstG g) p.1), .int .i64 (toI (firstG g) p.2)] := by simp only [b1G, insG, List.getElem?_map, hp]; rfl
  have hI1 := fun (u : Frs) a b c => insert_ok (b1G g r p) hg1 ⟨freshG (b1G g r p), toI (firstG g) p.2, iniB r⟩ tp.1 (by simp only; omega) 6 7 8 u a b c (by decide) (by decide) (by decide)
  rw [← insG_regs (b1G g r p) ⟨freshG (b1G g r p), toI (firstG g) p.2, iniB r⟩, ← insG_ands (b1G g r p) ⟨freshG (b1G g r p), toI (firstG g) p.2, iniB r⟩, ← insG_outs (b1G g r p) ⟨freshG (b1G g r p), toI (firstG g) p.2, iniB r⟩] at hI1
  have hf2 : insG (b1G g r p) ⟨freshG (b1G g r p), toI (firstG g) p.2, iniB r⟩ = b2G g r p := rfl
  rw [hf2, hF1] at hI1
  -- behind the loop
  have f0 : 0 ≤ firstG g ∧ firstG g ≤ 1000 := by omega
  have wf9 : IntKind.i64.wrap (2 * (firstG g + 2)) = 2 * (firstG g + 2) := wrap64 (by omega)
  have hx9 := xor_xl (2 * (firstG g + 2)) r.next (by omega) (by omega)
  have xr := xl_range (2 * (firstG g + 2)) r.next (firstG g + 3) (by omega) (by omega)
  have e1 : 1 + (g.inn.length : Int) + ((b2G g r p).regs.length : Nat) = firstG g + 2 := by rw [hn2]; omega
  have hFM := fun u => FirstM_ok g.inn g.out 6 7 8 (b2G g r p).regs.length (b2G g r p).ands.length (b2G g r p).outs.length (by omega) (by omega) u
  rw [e1] at hFM
  have hbn : ∀ x : Int, 0 ≤ x → x ≤ 20000 → 0 ≤ toI (firstG g + 2) x ∧ toI (firstG g + 2) x ≤ 1000000 := fun x a b => by unfold toI; split <;> omega
  have hbR : ∀ x ∈ (b2G g r p).regs, 0 ≤ x.next ∧ x.next ≤ 20000 := fun x hx => by have := hg2.regs x hx; rw [hi2] at this; omega
  have hbA : ∀ x ∈ (b2G g r p).ands, (0 ≤ x.1 ∧ x.1 ≤ 20000) ∧ 0 ≤ x.2 ∧ x.2 ≤ 20000 := fun x hx => by
    obtain ⟨i, hxi⟩ := List.mem_iff_getElem?.1 hx
    have hil := (List.getElem?_eq_some_iff.1 hxi).1
    have := hg2.ands i x hxi
    rw [hi2] at this
    omega
  have hbO : ∀ x ∈ (b2G g r p).outs, 0 ≤ x ∧ x ≤ 20000 := fun x hx => by have := hg2.outs x hx; rw [hi2] at this; omega
  have hsw := swapB_ok g.inn g.out ((b2G g r p).regs.map (inR (firstG g + 2))) ((2 * firstG g, 2 * firstG g + 2) :: (b2G g r p).ands.map (inA (firstG g + 2))) ((b2G g r p).outs.map (toI (firstG g + 2))) (by simp; omega) (by simp; omega) (by simp; omega)
    (fun x hx => by obtain ⟨y, hy, rfl⟩ := List.mem_map.1 hx; exact hbn _ (hbR y hy).1 (hbR y hy).2)
    (fun x hx => by
      rcases List.mem_cons.1 hx with rfl | hx
      · simp only; omega
      · obtain ⟨y, hy, rfl⟩ := List.mem_map.1 hx; exact ⟨hbn _ (hbA y hy).1.1 (hbA y hy).1.2, hbn _ (hbA y hy).2.1 (hbA y hy).2.2⟩)
    (fun x hx => by obtain ⟨y, hy, rfl⟩ := List.mem_map.1 hx; exact hbn _ (hbO y hy).1 (hbO y hy).2)
    (1 + (g.inn.length : Int) + q) (xl (2 * (firstG g + 2)) r.next) xr.1 (by omega)
  simp only [List.length_map, List.length_cons] at hsw
  have hpv := backG_pv g q r p
  obtain ⟨RR, hRR⟩ : ∃ RR, RR = (((b2G g r p).regs.map (inR (firstG g + 2))).mapIdx fun _ => swR (1 + (g.inn.length : Int) + q) (xl (2 * (firstG g + 2)) r.next)) := ⟨_, rfl⟩
  obtain ⟨AA, hAA⟩ : ∃ AA, AA = (((2 * firstG g, 2 * firstG g + 2) :: (b2G g r p).ands.map (inA (firstG g + 2))).mapIdx (swK (fun i => (i : Int) == 0) (1 + (g.inn.length : Int) + q) (xl (2 * (firstG g + 2)) r.next))) := ⟨_, rfl⟩
  obtain ⟨OO, hOO⟩ : ∃ OO, OO = (((b2G g r p).outs.map (toI (firstG g + 2))).mapIdx fun _ => toS (1 + (g.inn.length : Int) + q) (xl (2 * (firstG g + 2)) r.next)) := ⟨_, rfl⟩
  have lRR : RR.length = (b2G g r p).regs.length := by rw [hRR]; simp
  have lAA : AA.length = (b2G g r p).ands.length + 1 := by rw [hAA]; simp
  have lOO : OO.length = (b2G g r p).outs.length := by rw [hOO]; simp
  rw [← hRR, ← hAA, ← hOO] at hpv
  rw [← hRR, ← hAA, ← hOO] at hsw
  clear hRR hAA hOO
  refine ACalls.code Tryd.func9 rfl 192 rfl (by simp) [.cell 4 31, .tmp 5] rfl fun Q hQ => ?_
  simp only [ups, PV.up, argEnv]
  have ft := And.intro ty_2 (And.intro ty_3 (And.intro ty_4 (And.intro ty_9 (And.intro ty_23 (And.intro ty_26 (And.intro ty_27 (And.intro ty_28 (And.intro ty_29 (And.intro ty_31 (And.intro ty_35 (And.intro ty_51 (And.intro ty_54 (And.intro ty_56 (And.intro ty_58 (And.intro ty_65 trivial)))))))))))))))
  refine Run.seq ?_
  have fx := And.intro (@Int.toNat_natCast) (And.intro (@Int.natCast_nonneg) (And.intro h12 (And.intro h02 (And.intro hx9 (And.intro wf9 (And.intro hga1 (And.intro hjn1 (And.intro wk1 (And.intro wd1 (And.intro hd1 (And.intro hgt1 (And.intro hqn1 (And.intro hga (And.intro hjn (And.intro wk0 (And.intro w74 (And.intro w72 (And.intro de (And.intro dl (And.intro w52 (And.intro dx (And.intro wm (And.intro hm (And.intro hd (And.intro hgt (And.intro hqn (And.intro (@gt_iff_lt Int _) (And.intro (@ge_iff_le Int _) (And.intro strs_len (And.intro ints_len (And.intro nd_len (And.intro rim_len (And.intro dn (And.intro d0 ft))))))))))))))))))))))))))))))))))
  refine Run.go ?_
  refine End.kp [1, 2, 4] ?_
  refine Run.seq ?_
  refine Run.seq ?_
  refine Run.region rfl fun K hK => GOps.sim ?_
  refine GOps.call rfl rfl rfl rfl (by kernel_rfl) (ACalls.sim ?_)
  refine (Check_ok g hg _).mono fun v u hv => ?_
  obtain ⟨rfl, rfl⟩ := hv
  refine ⟨_, _, rfl, GOps.sim ?_⟩
  refine GOps.done (hK _ ?_); clear hK K
  refine End.kp [1, 2, 4, 6] ?_
  refine Run.seq ?_
  refine Run.go ?_
  refine End.kp [1, 2, 4, 6, 25] ?_
  refine Run.cond _ rfl (fun hb => ?_) (fun hb => ?_)
  · have hb2 := hb
    simp at hb
  · have hb2 := hb
    refine Run.skip ?_
    refine End.kp [1, 2, 4] ?_
    refine Run.seq ?_
    refine Run.seq ?_
    have fx := And.intro (@Int.toNat_natCast) (And.intro (@Int.natCast_nonneg) (And.intro h12 (And.intro h02 (And.intro hx9 (And.intro wf9 (And.intro hga1 (And.intro hjn1 (And.intro wk1 (And.intro wd1 (And.intro hd1 (And.intro hgt1 (And.intro hqn1 (And.intro hga (And.intro hjn (And.intro wk0 (And.intro w74 (And.intro w72 (And.intro de (And.intro dl (And.intro w52 (And.intro dx (And.intro wm (And.intro hm (And.intro hd (And.intro hgt (And.intro hqn (And.intro (@gt_iff_lt Int _) (And.intro (@ge_iff_le Int _) (And.intro strs_len (And.intro ints_len (And.intro nd_len (And.intro rim_len (And.intro dn (And.intro d0 ft))))))))))))))))))))))))))))))))))
    refine Run.go ?_
    refine End.kp [1, 2, 4, 36] ?_
    refine Run.cond _ rfl (fun hb => ?_) (fun hb => ?_)
    · have hb3 := hb
      simp at hb
    · have hb3 := hb
      refine Run.skip ?_
      refine End.kp [1, 2, 4] ?_
      refine Run.seq ?_
      have fx := And.intro (@Int.toNat_natCast) (And.intro (@Int.natCast_nonneg) (And.intro h12 (And.intro h02 (And.intro hx9 (And.intro wf9 (And.intro hga1 (And.intro hjn1 (And.intro wk1 (And.intro wd1 (And.intro hd1 (And.intro hgt1 (And.intro hqn1 (And.intro hga (And.intro hjn (And.intro wk0 (And.intro w74 (And.intro w72 (And.intro de (And.intro dl (And.intro w52 (And.intro dx (And.intro wm (And.intro hm (And.intro hd (And.intro hgt (And.intro hqn (And.intro (@gt_iff_lt Int _) (And.intro (@ge_iff_le Int _) (And.intro strs_len (And.intro ints_len (And.intro nd_len (And.intro rim_len (And.intro dn (And.intro d0 ft))))))))))))))))))))))))))))))))))
      refine Run.go ?_
      refine End.kp [1, 2, 4, 7] ?_
      refine Run.seq ?_
      refine Run.seq ?_
      refine Run.drawA fun K hK => ?_
      refine DOps.sim ?_
      refine DOps.call (.i (1 + (g.inn.length : Int) + g.regs.length)) [] [] rfl rfl rfl rfl (by kernel_rfl) (by simp [Agree]) (fun u hu => GFirst_ok g hsm u) ?_
      refine DOps.sim ?_
      refine DOps.nil (by rfl) (hK _ ?_); clear hK K
      refine End.kp [1, 2, 4, 7, 48] ?_
      refine Run.cond _ rfl (fun hb => ?_) (fun hb => ?_)
      · have hb4 := hb
        simp at hb
      · have hb4 := hb
        refine Run.skip ?_
        refine End.kp [1, 2, 4, 7] ?_
        refine Run.seq ?_
        refine Run.seq ?_
        have fx := And.intro (@Int.toNat_natCast) (And.intro (@Int.natCast_nonneg) (And.intro h12 (And.intro h02 (And.intro hx9 (And.intro wf9 (And.intro hga1 (And.intro hjn1 (And.intro wk1 (And.intro wd1 (And.intro hd1 (And.intro hgt1 (And.intro hqn1 (And.intro hga (And.intro hjn (And.intro wk0 (And.intro w74 (And.intro w72 (And.intro de (And.intro dl (And.intro w52 (And.intro dx (And.intro wm (And.intro hm (And.intro hd (And.intro hgt (And.intro hqn (And.intro (@gt_iff_lt Int _) (And.intro (@ge_iff_le Int _) (And.intro strs_len (And.intro ints_len (And.intro nd_len (And.intro rim_len (And.intro dn (And.intro d0 ft))))))))))))))))))))))))))))))))))
        refine Run.go ?_
        refine End.kp [1, 2, 4, 7, 60] ?_
        refine Run.cond _ rfl (fun hb => ?_) (fun hb => ?_)
        · have hb4 := hb
          simp at hb
        · have hb4 := hb
          refine Run.skip ?_
          refine End.kp [1, 2, 4, 7] ?_
          refine Run.seq ?_
          have fx := And.intro (@Int.toNat_natCast) (And.intro (@Int.natCast_nonneg) (And.intro h12 (And.intro h02 (And.intro hx9 (And.intro wf9 (And.intro hga1 (And.intro hjn1 (And.intro wk1 (And.intro wd1 (And.intro hd1 (And.intro hgt1 (And.intro hqn1 (And.intro hga (And.intro hjn (And.intro wk0 (And.intro w74 (And.intro w72 (And.intro de (And.intro dl (And.intro w52 (And.intro dx (And.intro wm (And.intro hm (And.intro hd (And.intro hgt (And.intro hqn (And.intro (@gt_iff_lt Int _) (And.intro (@ge_iff_le Int _) (And.intro strs_len (And.intro ints_len (And.intro nd_len (And.intro rim_len (And.intro dn (And.intro d0 ft))))))))))))))))))))))))))))))))))
          refine Run.go ?_
          refine End.kp [1, 2, 4, 7, 8] ?_
          refine Run.seq ?_
          refine Run.go ?_
          refine End.kp [1, 2, 4, 7, 8, 9] ?_
          refine Run.seq ?_
          refine Run.go ?_
          refine End.kp [1, 4, 7, 8, 9, 10] ?_
          refine Run.seq ?_
          refine Run.go ?_
          refine End.kp [1, 4, 7, 8, 9, 10, 11] ?_
          refine Run.seq ?_
          refine Run.seq ?_
          refine Run.go ?_
          refine End.kp [1, 4, 7, 8, 9, 10, 11, 76] ?_
          refine Run.block ?_
          refine Run.ghost (Ghost.form [(1, .i q), (4, .ptr 0 1 0), (7, .ptr 0 2 0), (8, .im (.bool (iniB r))), (9, .i (1 + (g.inn.length : Int) + q)), (10, .ptr 0 3 0), (11, .ptr 0 4 0), (76, .i 0)] 5 ⟨rfl, rfl, rfl, rfl, rfl, rfl, rfl, rfl, trivial⟩ rfl rfl) ?_
          refine Run.loop (fun m st => ∃ k : Nat, m = 2 - k ∧ k ≤ 2 ∧ (k = 0 → st = ⟨[(1, .i q), (4, .ptr 0 1 0), (7, .ptr 0 2 0), (8, .im (.bool (iniB r))), (9, .i (1 + (g.inn.length : Int) + q)), (10, .ptr 0 3 0), (11, .ptr 0 4 0), (76, .i 0)], [.box [.im (.sl (strs g.inn)), .im (.sl (strs g.out)), .im (.sl (g.regs.map LReg.im)), .im (.sl (g.ands.map nd)), .im (.sl (ints g.outs))], .box [.nils, .nils, .nils, .nils, .nils], .box [.im (.str r.name), .i r.next, .im (.bool r.init)], .box [.im (.sl (strs g.inn)), .im (.sl (strs g.out)), .im (.sl (g.regs.map LReg.im)), .im (.sl (g.ands.map nd)), .im (.sl (ints g.outs))], .box [.i 0, .i 0]], up⟩) ∧ (k = 1 → st = ⟨[(1, .i q), (4, .ptr 0 1 0), (7, .ptr 0 2 0), (8, .im (.bool (iniB r))), (9, .i (1 + (g.inn.length : Int) + q)), (10, .ptr 0 3 0), (11, .ptr 0 4 0), (76, .i 1)], [.box [.im (.sl (strs g.inn)), .im (.sl (strs g.out)), .im (.sl (g.regs.map LReg.im)), .im (.sl (g.ands.map nd)), .im (.sl (ints g.outs))], .box [.nils, .nils, .nils, .nils, .nils], .box [.im (.str r.name), .i r.next, .im (.bool r.init)], .box [.im (.sl (strs g.inn)), .im (.sl (strs g.out)), .im (.sl ((b1G g r p).regs.map LReg.im)), .im (.sl ((b1G g r p).ands.map nd)), .im (.sl (ints (b1G g r p).outs))], .box [.i (2 * firstG g), .i 0]], up⟩) ∧ (k = 2 → st = ⟨[(1, .i q), (4, .ptr 0 1 0), (7, .ptr 0 2 0), (8, .im (.bool (iniB r))), (9, .i (1 + (g.inn.length : Int) + q)), (10, .ptr 0 3 0), (11, .ptr 0 4 0), (76, .i 2)], [.box [.im (.sl (strs g.inn)), .im (.sl (strs g.out)), .im (.sl (g.regs.map LReg.im)), .im (.sl (g.ands.map nd)), .im (.sl (ints g.outs))], .box [.nils, .nils, .nils, .nils, .nils], .box [.im (.str r.name), .i r.next, .im (.bool r.init)], .box [.im (.sl (strs g.inn)), .im (.sl (strs g.out)), .ms 0 6 (b2G g r p).regs.length, .ms 0 7 (b2G g r p).ands.length, .ms 0 8 (b2G g r p).outs.length], .box [.i (2 * firstG g), .i (2 * (firstG g + 1))], .box [.i (toI (firstG g) p.1), .i (toI (firstG g) p.2)], rowR (b2G g r p).regs, rowA (b2G g r p).ands, rowO (b2G g r p).outs], up⟩)) 2 ⟨0, rfl, by omega, fun _ => rfl, fun h => by omega, fun h => by omega⟩ fun m st hI => ?_
          obtain ⟨k, rfl, hk, hA, hB, hC⟩ := hI
          refine Run.seq ?_
          rcases Bool.eq_false_or_eq_true (decide (k = 2)) with hs16 | hs16
          · skip
            have hk2 := of_decide_eq_true hs16
            subst hk2
            obtain rfl := hC rfl
            have fx := And.intro hs16 (And.intro (@Int.toNat_natCast) (And.intro (@Int.natCast_nonneg) (And.intro h12 (And.intro h02 (And.intro hx9 (And.intro wf9 (And.intro hga1 (And.intro hjn1 (And.intro wk1 (And.intro wd1 (And.intro hd1 (And.intro hgt1 (And.intro hqn1 (And.intro hga (And.intro hjn (And.intro wk0 (And.intro w74 (And.intro w72 (And.intro de (And.intro dl (And.intro w52 (And.intro dx (And.intro wm (And.intro hm (And.intro hd (And.intro hgt (And.intro hqn (And.intro (@gt_iff_lt Int _) (And.intro (@ge_iff_le Int _) (And.intro strs_len (And.intro ints_len (And.intro nd_len (And.intro rim_len (And.intro dn (And.intro d0 ft)))))))))))))))))))))))))))))))))))
            refine Run.go ?_
            refine End.kp [1, 4, 7, 8, 9, 10, 11, 76, 77] ?_
            refine Run.seq ?_
            refine Run.cond _ rfl (fun hb => ?_) (fun hb => ?_)
            · have hb5 := hb
              simp at hb
            · have hb5 := hb
              refine Run.exit rfl ?_
              refine End.kp [4, 7, 9, 10, 11] ?_
              refine Run.seq ?_
              have fx := And.intro hs16 (And.intro (@Int.toNat_natCast) (And.intro (@Int.natCast_nonneg) (And.intro h12 (And.intro h02 (And.intro hx9 (And.intro wf9 (And.intro hga1 (And.intro hjn1 (And.intro wk1 (And.intro wd1 (And.intro hd1 (And.intro hgt1 (And.intro hqn1 (And.intro hga (And.intro hjn (And.intro wk0 (And.intro w74 (And.intro w72 (And.intro de (And.intro dl (And.intro w52 (And.intro dx (And.intro wm (And.intro hm (And.intro hd (And.intro hgt (And.intro hqn (And.intro (@gt_iff_lt Int _) (And.intro (@ge_iff_le Int _) (And.intro strs_len (And.intro ints_len (And.intro nd_len (And.intro rim_len (And.intro dn (And.intro d0 ft)))))))))))))))))))))))))))))))))))
              refine Run.region rfl fun K hK => GOps.sim ?_
              refine GOps.callM rfl rfl rfl rfl (by kernel_rfl) (ACalls.sim ?_)
              refine (hFM _).mono fun v u hv => ?_
              obtain ⟨rfl, rfl⟩ := hv
              refine ⟨_, _, rfl, GOps.sim ?_⟩
              refine GOps.done (hK _ ?_); clear hK K
              refine End.kp [4, 7, 9, 10, 11, 15] ?_
              refine Run.seq ?_
              refine Run.go ?_
              refine End.kp [4, 7, 9, 10, 11, 15, 16] ?_
              refine Run.seq ?_
              refine Run.seq ?_
              refine Run.go ?_
              refine End.kp [4, 7, 9, 10, 11, 15, 16, 116, 117, 118] ?_
              refine Run.block ?_
              refine Run.ghost (Ghost.form [(4, .ptr 0 1 0), (7, .ptr 0 2 0), (9, .i (1 + (g.inn.length : Int) + q)), (10, .ptr 0 3 0), (11, .ptr 0 4 0), (15, .ptr 0 9 0), (16, .fn 23 [.ptr 0 9 0]), (116, .ms 0 7 (b2G g r p).ands.length), (117, .i (b2G g r p).ands.length), (118, .i (0 : Nat))] 10 ⟨rfl, rfl, rfl, rfl, rfl, rfl, rfl, rfl, rfl, rfl, trivial⟩ rfl rfl) ?_
              refine Run.loop (fun m st => ∃ (i : Nat), m = (b2G g r p).ands.length - i ∧ i ≤ (b2G g r p).ands.length ∧ st = ⟨[(4, .ptr 0 1 0), (7, .ptr 0 2 0), (9, .i (1 + (g.inn.length : Int) + q)), (10, .ptr 0 3 0), (11, .ptr 0 4 0), (15, .ptr 0 9 0), (16, .fn 23 [.ptr 0 9 0]), (116, .ms 0 7 (b2G g r p).ands.length), (117, .i (b2G g r p).ands.length), (118, .i (i : Nat))], [.box [.im (.sl (strs g.inn)), .im (.sl (strs g.out)), .im (.sl (g.regs.map LReg.im)), .im (.sl (g.ands.map nd)), .im (.sl (ints g.outs))], .box [.nils, .nils, .nils, .nils, .nils], .box [.im (.str r.name), .i r.next, .im (.bool r.init)], .box [.im (.sl (strs g.inn)), .im (.sl (strs g.out)), .ms 0 6 (b2G g r p).regs.length, .ms 0 7 (b2G g r p).ands.length, .ms 0 8 (b2G g r p).outs.length], .box [.i (2 * firstG g), .i (2 * (firstG g + 1))], .box [.i (toI (firstG g) p.1), .i (toI (firstG g) p.2)], .row 56 3 ((stpL (inR (firstG g + 2)) (b2G g r p).regs 0).map LReg.im) 0, .row 54 2 ((stpL (inA (firstG g + 2)) (b2G g r p).ands i).map nd) 0, .row 51 1 (ints (stpL (toI (firstG g + 2)) (b2G g r p).outs 0)) 0, .box [.i (firstG g + 2)]], up⟩) (b2G g r p).ands.length ⟨0, rfl, by omega, by simp only [stpL_zero]; rfl⟩ fun m st hI => ?_
              obtain ⟨i, rfl, hi8, rfl⟩ := hI
              have hal : ((stpL (inA (firstG g + 2)) (b2G g r p).ands i).map nd).length = (b2G g r p).ands.length := by rw [nd_len, stpL_len]
              refine Run.seq ?_
              have fx := And.intro hal (And.intro hs16 (And.intro (@Int.toNat_natCast) (And.intro (@Int.natCast_nonneg) (And.intro h12 (And.intro h02 (And.intro hx9 (And.intro wf9 (And.intro hga1 (And.intro hjn1 (And.intro wk1 (And.intro wd1 (And.intro hd1 (And.intro hgt1 (And.intro hqn1 (And.intro hga (And.intro hjn (And.intro wk0 (And.intro w74 (And.intro w72 (And.intro de (And.intro dl (And.intro w52 (And.intro dx (And.intro wm (And.intro hm (And.intro hd (And.intro hgt (And.intro hqn (And.intro (@gt_iff_lt Int _) (And.intro (@ge_iff_le Int _) (And.intro strs_len (And.intro ints_len (And.intro nd_len (And.intro rim_len (And.intro dn (And.intro d0 ft))))))))))))))))))))))))))))))))))))
              refine Run.go ?_
              refine End.kp [4, 7, 9, 10, 11, 15, 16, 116, 117, 118, 119] ?_
              refine Run.seq ?_
              refine Run.cond _ rfl (fun hb => ?_) (fun hb => ?_)
              · have hb6 := of_decide_eq_true hb
                have hin : i < (b2G g r p).ands.length := by omega
                have hil : (i : Int) < ((b2G g r p).ands.length : Int) := by omega
                have wi := wsucc hin (by omega)
                obtain ⟨y, hy, hym, hgy⟩ := node_at (b2G g r p).ands i hin
                obtain ⟨⟨y1, y2⟩, y3, y4⟩ := hbA y hym
                have hpi := stpL_get (inA (firstG g + 2)) (b2G g r p).ands i y hy
                have hps := stpL_set (inA (firstG g + 2)) (b2G g r p).ands i y hy
                have hgi : ((stpL (inA (firstG g + 2)) (b2G g r p).ands i).map nd)[i]? = some [.int .i64 y.1, .int .i64 y.2] := by rw [List.getElem?_map, hpi]; rfl
                refine Run.skip ?_
                refine End.kp [4, 7, 9, 10, 11, 15, 16, 116, 117, 118] ?_
                refine Run.seq ?_
                refine Run.block ?_
                refine Run.seq ?_
                have fx := And.intro hil (And.intro hgi (And.intro wi (And.intro hal (And.intro hs16 (And.intro (@Int.toNat_natCast) (And.intro (@Int.natCast_nonneg) (And.intro h12 (And.intro h02 (And.intro hx9 (And.intro wf9 (And.intro hga1 (And.intro hjn1 (And.intro wk1 (And.intro wd1 (And.intro hd1 (And.intro hgt1 (And.intro hqn1 (And.intro hga (And.intro hjn (And.intro wk0 (And.intro w74 (And.intro w72 (And.intro de (And.intro dl (And.intro w52 (And.intro dx (And.intro wm (And.intro hm (And.intro hd (And.intro hgt (And.intro hqn (And.intro (@gt_iff_lt Int _) (And.intro (@ge_iff_le Int _) (And.intro strs_len (And.intro ints_len (And.intro nd_len (And.intro rim_len (And.intro dn (And.intro d0 ft)))))))))))))))))))))))))))))))))))))))
                refine Run.go ?_
                refine End.kp [4, 7, 9, 10, 11, 15, 16, 17, 18, 116, 117, 118] ?_
                refine Run.drawA fun K hK => ?_
                refine DOps.sim ?_
                refine DOps.call (.i (toI (firstG g + 2) y.1)) [((0, 9), .box [.i (firstG g + 2)])] [] rfl rfl rfl rfl (by kernel_rfl) (by simp [Agree, ASt.fr]) (fun u hu => bckT_ok (firstG g + 2) y.1 y1 (by omega) u 9 (hu (((0, 9), .box [.i (firstG g + 2)])) (by simp))) ?_
                refine DOps.sim ?_
                refine DOps.call (.i (toI (firstG g + 2) y.2)) [((0, 9), .box [.i (firstG g + 2)])] [] rfl rfl rfl rfl (by kernel_rfl) (by simp [Agree, ASt.fr]) (fun u hu => bckT_ok (firstG g + 2) y.2 y3 (by omega) u 9 (hu (((0, 9), .box [.i (firstG g + 2)])) (by simp))) ?_
                refine DOps.sim ?_
                refine DOps.nil (by rfl) (hK _ ?_); clear hK K
                refine End.blk ?_
                refine End.kp [4, 7, 9, 10, 11, 15, 16, 116, 117, 118] ?_
                refine Run.go ?_
                refine End.lp ?_
                refine ⟨(b2G g r p).ands.length - (i + 1), _, by omega, Ghost.form [(4, .ptr 0 1 0), (7, .ptr 0 2 0), (9, .i (1 + (g.inn.length : Int) + q)), (10, .ptr 0 3 0), (11, .ptr 0 4 0), (15, .ptr 0 9 0), (16, .fn 23 [.ptr 0 9 0]), (116, .ms 0 7 (b2G g r p).ands.length), (117, .i (b2G g r p).ands.length), (118, .i (i + 1 : Nat))] 10 ⟨rfl, rfl, rfl, rfl, rfl, rfl, rfl, rfl, rfl, rfl, trivial⟩ rfl rfl, i + 1, rfl, by omega, ?_⟩
                rw [← hps, List.map_set]
                rfl
              · have hb6 := of_decide_eq_false hb
                have hiN : i = (b2G g r p).ands.length := by omega
                subst hiN
                refine Run.exit rfl ?_
                refine End.kp [4, 7, 9, 10, 11, 15, 16] ?_
                refine Run.seq ?_
                refine Run.seq ?_
                have fx := And.intro hal (And.intro hs16 (And.intro (@Int.toNat_natCast) (And.intro (@Int.natCast_nonneg) (And.intro h12 (And.intro h02 (And.intro hx9 (And.intro wf9 (And.intro hga1 (And.intro hjn1 (And.intro wk1 (And.intro wd1 (And.intro hd1 (And.intro hgt1 (And.intro hqn1 (And.intro hga (And.intro hjn (And.intro wk0 (And.intro w74 (And.intro w72 (And.intro de (And.intro dl (And.intro w52 (And.intro dx (And.intro wm (And.intro hm (And.intro hd (And.intro hgt (And.intro hqn (And.intro (@gt_iff_lt Int _) (And.intro (@ge_iff_le Int _) (And.intro strs_len (And.intro ints_len (And.intro nd_len (And.intro rim_len (And.intro dn (And.intro d0 ft))))))))))))))))))))))))))))))))))))
                refine Run.go ?_
                refine End.kp [4, 7, 9, 10, 11, 15, 16, 139, 140] ?_
                refine Run.block ?_
                refine Run.ghost (Ghost.form [(4, .ptr 0 1 0), (7, .ptr 0 2 0), (9, .i (1 + (g.inn.length : Int) + q)), (10, .ptr 0 3 0), (11, .ptr 0 4 0), (15, .ptr 0 9 0), (16, .fn 23 [.ptr 0 9 0]), (139, .i (b2G g r p).regs.length), (140, .i (0 : Nat))] 10 ⟨rfl, rfl, rfl, rfl, rfl, rfl, rfl, rfl, rfl, trivial⟩ rfl rfl) ?_
                refine Run.loop (fun m st => ∃ (i : Nat), m = (b2G g r p).regs.length - i ∧ i ≤ (b2G g r p).regs.length ∧ st = ⟨[(4, .ptr 0 1 0), (7, .ptr 0 2 0), (9, .i (1 + (g.inn.length : Int) + q)), (10, .ptr 0 3 0), (11, .ptr 0 4 0), (15, .ptr 0 9 0), (16, .fn 23 [.ptr 0 9 0]), (139, .i (b2G g r p).regs.length), (140, .i (i : Nat))], [.box [.im (.sl (strs g.inn)), .im (.sl (strs g.out)), .im (.sl (g.regs.map LReg.im)), .im (.sl (g.ands.map nd)), .im (.sl (ints g.outs))], .box [.nils, .nils, .nils, .nils, .nils], .box [.im (.str r.name), .i r.next, .im (.bool r.init)], .box [.im (.sl (strs g.inn)), .im (.sl (strs g.out)), .ms 0 6 (b2G g r p).regs.length, .ms 0 7 (b2G g r p).ands.length, .ms 0 8 (b2G g r p).outs.length], .box [.i (2 * firstG g), .i (2 * (firstG g + 1))], .box [.i (toI (firstG g) p.1), .i (toI (firstG g) p.2)], .row 56 3 ((stpL (inR (firstG g + 2)) (b2G g r p).regs i).map LReg.im) 0, .row 54 2 ((stpL (inA (firstG g + 2)) (b2G g r p).ands (b2G g r p).ands.length).map nd) 0, .row 51 1 (ints (stpL (toI (firstG g + 2)) (b2G g r p).outs 0)) 0, .box [.i (firstG g + 2)]], up⟩) (b2G g r p).regs.length ⟨0, rfl, by omega, rfl⟩ fun m st hI => ?_
                obtain ⟨i, rfl, hi8, rfl⟩ := hI
                have hrl : ((stpL (inR (firstG g + 2)) (b2G g r p).regs i).map LReg.im).length = (b2G g r p).regs.length := by rw [rim_len, stpL_len]
                refine Run.seq ?_
                have fx := And.intro hrl (And.intro hal (And.intro hs16 (And.intro (@Int.toNat_natCast) (And.intro (@Int.natCast_nonneg) (And.intro h12 (And.intro h02 (And.intro hx9 (And.intro wf9 (And.intro hga1 (And.intro hjn1 (And.intro wk1 (And.intro wd1 (And.intro hd1 (And.intro hgt1 (And.intro hqn1 (And.intro hga (And.intro hjn (And.intro wk0 (And.intro w74 (And.intro w72 (And.intro de (And.intro dl (And.intro w52 (And.intro dx (And.intro wm (And.intro hm (And.intro hd (And.intro hgt (And.intro hqn (And.intro (@gt_iff_lt Int _) (And.intro (@ge_iff_le Int _) (And.intro strs_len (And.intro ints_len (And.intro nd_len (And.intro rim_len (And.intro dn (And.intro d0 ft)))))))))))))))))))))))))))))))))))))
                refine Run.go ?_
                refine End.kp [4, 7, 9, 10, 11, 15, 16, 139, 140, 141] ?_
                refine Run.seq ?_
                refine Run.cond _ rfl (fun hb => ?_) (fun hb => ?_)
                · have hb6 := of_decide_eq_true hb
                  have hin : i < (b2G g r p).regs.length := by omega
                  have hil : (i : Int) < ((b2G g r p).regs.length : Int) := by omega
                  have wi := wsucc hin (by omega)
                  obtain ⟨y, hy, hym, hgy⟩ := reg_at (b2G g r p).regs i hin
                  obtain ⟨y1, y2⟩ := hbR y hym
                  have hsi := stpL_get (inR (firstG g + 2)) (b2G g r p).regs i y hy
                  have hss := stpL_set (inR (firstG g + 2)) (b2G g r p).regs i y hy
                  have hgi : ((stpL (inR (firstG g + 2)) (b2G g r p).regs i).map LReg.im)[i]? = some [.str y.name, .int .i64 y.next, .bool y.init] := by rw [List.getElem?_map, hsi]; rfl
                  refine Run.skip ?_
                  refine End.kp [4, 7, 9, 10, 11, 15, 16, 139, 140] ?_
                  refine Run.seq ?_
                  refine Run.block ?_
                  refine Run.seq ?_
                  have fx := And.intro hil (And.intro hgi (And.intro wi (And.intro hrl (And.intro hal (And.intro hs16 (And.intro (@Int.toNat_natCast) (And.intro (@Int.natCast_nonneg) (And.intro h12 (And.intro h02 (And.intro hx9 (And.intro wf9 (And.intro hga1 (And.intro hjn1 (And.intro wk1 (And.intro wd1 (And.intro hd1 (And.intro hgt1 (And.intro hqn1 (And.intro hga (And.intro hjn (And.intro wk0 (And.intro w74 (And.intro w72 (And.intro de (And.intro dl (And.intro w52 (And.intro dx (And.intro wm (And.intro hm (And.intro hd (And.intro hgt (And.intro hqn (And.intro (@gt_iff_lt Int _) (And.intro (@ge_iff_le Int _) (And.intro strs_len (And.intro ints_len (And.intro nd_len (And.intro rim_len (And.intro dn (And.intro d0 ft))))))))))))))))))))))))))))))))))))))))
                  refine Run.go ?_
                  refine End.kp [4, 7, 9, 10, 11, 15, 16, 19, 139, 140] ?_
                  refine Run.drawA fun K hK => ?_
                  refine DOps.sim ?_
                  refine DOps.call (.i (toI (firstG g + 2) y.next)) [((0, 9), .box [.i (firstG g + 2)])] [] rfl rfl rfl rfl (by kernel_rfl) (by simp [Agree, ASt.fr]) (fun u hu => bckT_ok (firstG g + 2) y.next y1 (by omega) u 9 (hu (((0, 9), .box [.i (firstG g + 2)])) (by simp))) ?_
                  refine DOps.sim ?_
                  refine DOps.nil (by rfl) (hK _ ?_); clear hK K
                  refine End.blk ?_
                  refine End.kp [4, 7, 9, 10, 11, 15, 16, 139, 140] ?_
                  refine Run.go ?_
                  refine End.lp ?_
                  refine ⟨(b2G g r p).regs.length - (i + 1), _, by omega, Ghost.form [(4, .ptr 0 1 0), (7, .ptr 0 2 0), (9, .i (1 + (g.inn.length : Int) + q)), (10, .ptr 0 3 0), (11, .ptr 0 4 0), (15, .ptr 0 9 0), (16, .fn 23 [.ptr 0 9 0]), (139, .i (b2G g r p).regs.length), (140, .i (i + 1 : Nat))] 10 ⟨rfl, rfl, rfl, rfl, rfl, rfl, rfl, rfl, rfl, trivial⟩ rfl rfl, i + 1, rfl, by omega, ?_⟩
                  rw [← hss, List.map_set]
                  rfl
                · have hb6 := of_decide_eq_false hb
                  have hiN : i = (b2G g r p).regs.length := by omega
                  subst hiN
                  refine Run.exit rfl ?_
                  refine End.kp [4, 7, 9, 10, 11, 15, 16] ?_
                  refine Run.seq ?_
                  refine Run.seq ?_
                  have fx := And.intro hrl (And.intro hal (And.intro hs16 (And.intro (@Int.toNat_natCast) (And.intro (@Int.natCast_nonneg) (And.intro h12 (And.intro h02 (And.intro hx9 (And.intro wf9 (And.intro hga1 (And.intro hjn1 (And.intro wk1 (And.intro wd1 (And.intro hd1 (And.intro hgt1 (And.intro hqn1 (And.intro hga (And.intro hjn (And.intro wk0 (And.intro w74 (And.intro w72 (And.intro de (And.intro dl (And.intro w52 (And.intro dx (And.intro wm (And.intro hm (And.intro hd (And.intro hgt (And.intro hqn (And.intro (@gt_iff_lt Int _) (And.intro (@ge_iff_le Int _) (And.intro strs_len (And.intro ints_len (And.intro nd_len (And.intro rim_len (And.intro dn (And.intro d0 ft)))))))))))))))))))))))))))))))))))))
                  refine Run.go ?_
                  refine End.kp [4, 7, 9, 10, 11, 15, 16, 158, 159, 160] ?_
                  refine Run.block ?_
                  refine Run.ghost (Ghost.form [(4, .ptr 0 1 0), (7, .ptr 0 2 0), (9, .i (1 + (g.inn.length : Int) + q)), (10, .ptr 0 3 0), (11, .ptr 0 4 0), (15, .ptr 0 9 0), (16, .fn 23 [.ptr 0 9 0]), (158, .ms 0 8 (b2G g r p).outs.length), (159, .i (b2G g r p).outs.length), (160, .i (0 : Nat))] 10 ⟨rfl, rfl, rfl, rfl, rfl, rfl, rfl, rfl, rfl, rfl, trivial⟩ rfl rfl) ?_
                  refine Run.loop (fun m st => ∃ (i : Nat), m = (b2G g r p).outs.length - i ∧ i ≤ (b2G g r p).outs.length ∧ st = ⟨[(4, .ptr 0 1 0), (7, .ptr 0 2 0), (9, .i (1 + (g.inn.length : Int) + q)), (10, .ptr 0 3 0), (11, .ptr 0 4 0), (15, .ptr 0 9 0), (16, .fn 23 [.ptr 0 9 0]), (158, .ms 0 8 (b2G g r p).outs.length), (159, .i (b2G g r p).outs.length), (160, .i (i : Nat))], [.box [.im (.sl (strs g.inn)), .im (.sl (strs g.out)), .im (.sl (g.regs.map LReg.im)), .im (.sl (g.ands.map nd)), .im (.sl (ints g.outs))], .box [.nils, .nils, .nils, .nils, .nils], .box [.im (.str r.name), .i r.next, .im (.bool r.init)], .box [.im (.sl (strs g.inn)), .im (.sl (strs g.out)), .ms 0 6 (b2G g r p).regs.length, .ms 0 7 (b2G g r p).ands.length, .ms 0 8 (b2G g r p).outs.length], .box [.i (2 * firstG g), .i (2 * (firstG g + 1))], .box [.i (toI (firstG g) p.1), .i (toI (firstG g) p.2)], .row 56 3 ((stpL (inR (firstG g + 2)) (b2G g r p).regs (b2G g r p).regs.length).map LReg.im) 0, .row 54 2 ((stpL (inA (firstG g + 2)) (b2G g r p).ands (b2G g r p).ands.length).map nd) 0, .row 51 1 (ints (stpL (toI (firstG g + 2)) (b2G g r p).outs i)) 0, .box [.i (firstG g + 2)]], up⟩) (b2G g r p).outs.length ⟨0, rfl, by omega, rfl⟩ fun m st hI => ?_
                  obtain ⟨i, rfl, hi8, rfl⟩ := hI
                  have hol : (ints (stpL (toI (firstG g + 2)) (b2G g r p).outs i)).length = (b2G g r p).outs.length := by rw [ints_len, stpL_len]
                  refine Run.seq ?_
                  have fx := And.intro hol (And.intro hrl (And.intro hal (And.intro hs16 (And.intro (@Int.toNat_natCast) (And.intro (@Int.natCast_nonneg) (And.intro h12 (And.intro h02 (And.intro hx9 (And.intro wf9 (And.intro hga1 (And.intro hjn1 (And.intro wk1 (And.intro wd1 (And.intro hd1 (And.intro hgt1 (And.intro hqn1 (And.intro hga (And.intro hjn (And.intro wk0 (And.intro w74 (And.intro w72 (And.intro de (And.intro dl (And.intro w52 (And.intro dx (And.intro wm (And.intro hm (And.intro hd (And.intro hgt (And.intro hqn (And.intro (@gt_iff_lt Int _) (And.intro (@ge_iff_le Int _) (And.intro strs_len (And.intro ints_len (And.intro nd_len (And.intro rim_len (And.intro dn (And.intro d0 ft))))))))))))))))))))))))))))))))))))))
                  refine Run.go ?_
                  refine End.kp [4, 7, 9, 10, 11, 15, 16, 158, 159, 160, 161] ?_
                  refine Run.seq ?_
                  refine Run.cond _ rfl (fun hb => ?_) (fun hb => ?_)
                  · have hb6 := of_decide_eq_true hb
                    have hin : i < (b2G g r p).outs.length := by omega
                    have hil : (i : Int) < ((b2G g r p).outs.length : Int) := by omega
                    have wi := wsucc hin (by omega)
                    obtain ⟨x, hxi, hxm, hxx⟩ := int_at (b2G g r p).outs i hin
                    obtain ⟨y1, y2⟩ := hbO x hxm
                    have hxi2 := stpL_get (toI (firstG g + 2)) (b2G g r p).outs i x hxi
                    have hxs := stpL_set (toI (firstG g + 2)) (b2G g r p).outs i x hxi
                    have hsx : ints ((stpL (toI (firstG g + 2)) (b2G g r p).outs i).set i (toI (firstG g + 2) x)) = (ints (stpL (toI (firstG g + 2)) (b2G g r p).outs i)).set i [.int .i64 (toI (firstG g + 2) x)] := by simp [ints, List.map_set]
                    have hgi : (ints (stpL (toI (firstG g + 2)) (b2G g r p).outs i))[i]? = some [.int .i64 x] := by rw [List.getElem?_map, hxi2]; rfl
                    refine Run.skip ?_
                    refine End.kp [4, 7, 9, 10, 11, 15, 16, 158, 159, 160] ?_
                    refine Run.seq ?_
                    refine Run.block ?_
                    refine Run.seq ?_
                    have fx := And.intro hil (And.intro hgi (And.intro wi (And.intro hol (And.intro hrl (And.intro hal (And.intro hs16 (And.intro (@Int.toNat_natCast) (And.intro (@Int.natCast_nonneg) (And.intro h12 (And.intro h02 (And.intro hx9 (And.intro wf9 (And.intro hga1 (And.intro hjn1 (And.intro wk1 (And.intro wd1 (And.intro hd1 (And.intro hgt1 (And.intro hqn1 (And.intro hga (And.intro hjn (And.intro wk0 (And.intro w74 (And.intro w72 (And.intro de (And.intro dl (And.intro w52 (And.intro dx (And.intro wm (And.intro hm (And.intro hd (And.intro hgt (And.intro hqn (And.intro (@gt_iff_lt Int _) (And.intro (@ge_iff_le Int _) (And.intro strs_len (And.intro ints_len (And.intro nd_len (And.intro rim_len (And.intro dn (And.intro d0 ft)))))))))))))))))))))))))))))))))))))))))
                    refine Run.go ?_
                    refine End.kp [4, 7, 9, 10, 11, 15, 16, 20, 21, 158, 159, 160] ?_
                    refine Run.drawA fun K hK => ?_
                    refine DOps.sim ?_
                    refine DOps.call (.i (toI (firstG g + 2) x)) [((0, 9), .box [.i (firstG g + 2)])] [] rfl rfl rfl rfl (by kernel_rfl) (by simp [Agree, ASt.fr]) (fun u hu => bckT_ok (firstG g + 2) x y1 (by omega) u 9 (hu (((0, 9), .box [.i (firstG g + 2)])) (by simp))) ?_
                    refine DOps.sim ?_
                    refine DOps.nil (by rfl) (hK _ ?_); clear hK K
                    refine End.blk ?_
                    refine End.kp [4, 7, 9, 10, 11, 15, 16, 158, 159, 160] ?_
                    refine Run.go ?_
                    refine End.lp ?_
                    refine ⟨(b2G g r p).outs.length - (i + 1), _, by omega, Ghost.form [(4, .ptr 0 1 0), (7, .ptr 0 2 0), (9, .i (1 + (g.inn.length : Int) + q)), (10, .ptr 0 3 0), (11, .ptr 0 4 0), (15, .ptr 0 9 0), (16, .fn 23 [.ptr 0 9 0]), (158, .ms 0 8 (b2G g r p).outs.length), (159, .i (b2G g r p).outs.length), (160, .i (i + 1 : Nat))] 10 ⟨rfl, rfl, rfl, rfl, rfl, rfl, rfl, rfl, rfl, rfl, trivial⟩ rfl rfl, i + 1, rfl, by omega, ?_⟩
                    rw [← hxs, hsx]
                    rfl
                  · have hb6 := of_decide_eq_false hb
                    have hiN : i = (b2G g r p).outs.length := by omega
                    subst hiN
                    refine Run.exit rfl ?_
                    refine End.kp [4, 7, 9, 10, 11, 15] ?_
                    refine Run.seq ?_
                    rw [stpL_all, stpL_all, stpL_all]
                    have fx := And.intro hol (And.intro hrl (And.intro hal (And.intro hs16 (And.intro (@Int.toNat_natCast) (And.intro (@Int.natCast_nonneg) (And.intro h12 (And.intro h02 (And.intro hx9 (And.intro wf9 (And.intro hga1 (And.intro hjn1 (And.intro wk1 (And.intro wd1 (And.intro hd1 (And.intro hgt1 (And.intro hqn1 (And.intro hga (And.intro hjn (And.intro wk0 (And.intro w74 (And.intro w72 (And.intro de (And.intro dl (And.intro w52 (And.intro dx (And.intro wm (And.intro hm (And.intro hd (And.intro hgt (And.intro hqn (And.intro (@gt_iff_lt Int _) (And.intro (@ge_iff_le Int _) (And.intro strs_len (And.intro ints_len (And.intro nd_len (And.intro rim_len (And.intro dn (And.intro d0 ft))))))))))))))))))))))))))))))))))))))
                    refine Run.region rfl fun K hK => GOps.sim ?_
                    refine GOps.callM rfl rfl rfl rfl (by kernel_rfl) (ACalls.sim ?_)
                    refine (insN_ok 7 10 (b2G g r p).ands.length (2 * firstG g, 2 * firstG g + 2) _ _ _ _ rfl rfl (by decide) (by simp) (by omega) (by omega)).mono fun v u hv => ?_
                    obtain ⟨rfl, rfl⟩ := hv
                    refine ⟨_, _, rfl, GOps.sim ?_⟩
                    refine GOps.done (hK _ ?_); clear hK K
                    refine End.kp [4, 7, 9, 10, 15] ?_
                    refine Run.seq ?_
                    refine Run.ghost (Ghost.form [(4, .ptr 0 1 0), (7, .ptr 0 2 0), (9, .i (1 + (g.inn.length : Int) + q)), (10, .ptr 0 3 0), (15, .ptr 0 9 0)] 10 ⟨rfl, rfl, rfl, rfl, rfl, trivial⟩ rfl rfl) ?_
                    simp only [List.set_cons_succ, List.set_cons_zero, List.take_succ_cons, List.take_zero]
                    have fx := And.intro hol (And.intro hrl (And.intro hal (And.intro hs16 (And.intro (@Int.toNat_natCast) (And.intro (@Int.natCast_nonneg) (And.intro h12 (And.intro h02 (And.intro hx9 (And.intro wf9 (And.intro hga1 (And.intro hjn1 (And.intro wk1 (And.intro wd1 (And.intro hd1 (And.intro hgt1 (And.intro hqn1 (And.intro hga (And.intro hjn (And.intro wk0 (And.intro w74 (And.intro w72 (And.intro de (And.intro dl (And.intro w52 (And.intro dx (And.intro wm (And.intro hm (And.intro hd (And.intro hgt (And.intro hqn (And.intro (@gt_iff_lt Int _) (And.intro (@ge_iff_le Int _) (And.intro strs_len (And.intro ints_len (And.intro nd_len (And.intro rim_len (And.intro dn (And.intro d0 ft))))))))))))))))))))))))))))))))))))))
                    refine Run.region rfl fun K hK => GOps.sim ?_
                    refine GOps.call rfl rfl rfl rfl (by kernel_rfl) (ACalls.sim ?_)
                    refine (hsw _ 3 6 7 8 rfl rfl rfl rfl (by decide) (by decide) (by decide) (by decide) (by decide) (by decide)).mono fun v u hv => ?_
                    obtain ⟨rfl, rfl⟩ := hv
                    refine ⟨_, _, rfl, GOps.sim ?_⟩
                    refine GOps.done (hK _ ?_); clear hK K
                    refine End.kp [4, 10] ?_
                    refine Run.seq ?_
                    refine Run.ghost (Ghost.form [(4, .ptr 0 1 0), (10, .ptr 0 3 0)] 9 ⟨rfl, rfl, trivial⟩ rfl rfl) ?_
                    simp only [setG, fset, List.set_cons_succ, List.set_cons_zero, List.take_succ_cons, List.take_zero]
                    refine Run.ghost (Ghost.boxShut (j := 3) (i := 2) (r := 6) rfl rfl rfl (by rw [List.length_map, lRR])) ?_
                    simp only [List.set_cons_succ, List.set_cons_zero, ASt.at, ASt.setFr, ASt.fr, fset]
                    refine Run.ghost (Ghost.boxShut (j := 3) (i := 3) (r := 7) rfl rfl rfl (by rw [List.length_map, lAA])) ?_
                    simp only [List.set_cons_succ, List.set_cons_zero, ASt.at, ASt.setFr, ASt.fr, fset]
                    refine Run.ghost (Ghost.boxShut (j := 3) (i := 4) (r := 8) rfl rfl rfl (by rw [List.length_map, lOO])) ?_
                    simp only [List.set_cons_succ, List.set_cons_zero, ASt.at, ASt.setFr, ASt.fr, fset]
                    have fx := And.intro hol (And.intro hrl (And.intro hal (And.intro hs16 (And.intro (@Int.toNat_natCast) (And.intro (@Int.natCast_nonneg) (And.intro h12 (And.intro h02 (And.intro hx9 (And.intro wf9 (And.intro hga1 (And.intro hjn1 (And.intro wk1 (And.intro wd1 (And.intro hd1 (And.intro hgt1 (And.intro hqn1 (And.intro hga (And.intro hjn (And.intro wk0 (And.intro w74 (And.intro w72 (And.intro de (And.intro dl (And.intro w52 (And.intro dx (And.intro wm (And.intro hm (And.intro hd (And.intro hgt (And.intro hqn (And.intro (@gt_iff_lt Int _) (And.intro (@ge_iff_le Int _) (And.intro strs_len (And.intro ints_len (And.intro nd_len (And.intro rim_len (And.intro dn (And.intro d0 ft))))))))))))))))))))))))))))))))))))))
                    refine Run.go ?_
                    refine End.kp [4, 5] ?_
                    refine Run.resC hQ ?_
                    exact ⟨by rw [hpv], rfl⟩
          · skip
            have hk2 := of_decide_eq_false hs16
            rcases Bool.eq_false_or_eq_true (decide (k = 0)) with hs16b | hs16b
            · skip
              have hk0m : True := trivial
              have hk0 := of_decide_eq_true hs16b
              subst hk0
              obtain rfl := hA rfl
              have fx := And.intro hs16b (And.intro hs16 (And.intro (@Int.toNat_natCast) (And.intro (@Int.natCast_nonneg) (And.intro h12 (And.intro h02 (And.intro hx9 (And.intro wf9 (And.intro hga1 (And.intro hjn1 (And.intro wk1 (And.intro wd1 (And.intro hd1 (And.intro hgt1 (And.intro hqn1 (And.intro hga (And.intro hjn (And.intro wk0 (And.intro w74 (And.intro w72 (And.intro de (And.intro dl (And.intro w52 (And.intro dx (And.intro wm (And.intro hm (And.intro hd (And.intro hgt (And.intro hqn (And.intro (@gt_iff_lt Int _) (And.intro (@ge_iff_le Int _) (And.intro strs_len (And.intro ints_len (And.intro nd_len (And.intro rim_len (And.intro dn (And.intro d0 ft))))))))))))))))))))))))))))))))))))
              refine Run.go ?_
              refine End.kp [1, 4, 7, 8, 9, 10, 11, 76, 77] ?_
              refine Run.seq ?_
              refine Run.cond _ rfl (fun hb => ?_) (fun hb => ?_)
              · have hb5 := hb
                refine Run.skip ?_
                refine End.kp [1, 4, 7, 8, 9, 10, 11, 76] ?_
                refine Run.seq ?_
                refine Run.block ?_
                refine Run.seq ?_
                have fx := And.intro hs16b (And.intro hs16 (And.intro (@Int.toNat_natCast) (And.intro (@Int.natCast_nonneg) (And.intro h12 (And.intro h02 (And.intro hx9 (And.intro wf9 (And.intro hga1 (And.intro hjn1 (And.intro wk1 (And.intro wd1 (And.intro hd1 (And.intro hgt1 (And.intro hqn1 (And.intro hga (And.intro hjn (And.intro wk0 (And.intro w74 (And.intro w72 (And.intro de (And.intro dl (And.intro w52 (And.intro dx (And.intro wm (And.intro hm (And.intro hd (And.intro hgt (And.intro hqn (And.intro (@gt_iff_lt Int _) (And.intro (@ge_iff_le Int _) (And.intro strs_len (And.intro ints_len (And.intro nd_len (And.intro rim_len (And.intro dn (And.intro d0 ft))))))))))))))))))))))))))))))))))))
                refine Run.go ?_
                refine End.kp [1, 4, 7, 8, 9, 10, 11, 12, 76] ?_
                refine Run.seq ?_
                refine Run.ghost (.spares 1) ?_
                simp only [ASt.pushN, ASt.push, List.append_assoc, List.cons_append, List.nil_append]
                refine Run.drawA fun K hK => ?_
                refine DOps.sim ?_
                refine DOps.call (.i (1 + (g.inn.length : Int) + g.regs.length)) [] [] rfl rfl rfl rfl (by kernel_rfl) (by simp [Agree]) (fun u hu => GFirst_ok g hsm u) ?_
                refine DOps.sim ?_
                refine DOps.nil (by rfl) (hK _ ?_); clear hK K
                refine End.kp [1, 4, 7, 8, 9, 10, 11, 12, 13, 76] ?_
                refine Run.seq ?_
                refine Run.go ?_
                refine End.kp [1, 4, 7, 8, 9, 10, 11, 12, 13, 14, 76] ?_
                refine Run.seq ?_
                refine Run.seq ?_
                refine Run.go ?_
                refine End.kp [1, 4, 7, 8, 9, 10, 11, 12, 13, 14, 76, 96] ?_
                refine Run.cond _ rfl (fun hb => ?_) (fun hb => ?_)
                · have hb6 := hb
                  simp at hb
                · have hb6 := hb
                  refine Run.skip ?_
                  refine End.kp [1, 4, 7, 8, 9, 10, 11, 12, 14, 76] ?_
                  refine Run.ghost (.spares 3) ?_
                  simp only [ASt.pushN, ASt.push, List.append_assoc, List.cons_append, List.nil_append]
                  have fx := And.intro hs16b (And.intro hs16 (And.intro (@Int.toNat_natCast) (And.intro (@Int.natCast_nonneg) (And.intro h12 (And.intro h02 (And.intro hx9 (And.intro wf9 (And.intro hga1 (And.intro hjn1 (And.intro wk1 (And.intro wd1 (And.intro hd1 (And.intro hgt1 (And.intro hqn1 (And.intro hga (And.intro hjn (And.intro wk0 (And.intro w74 (And.intro w72 (And.intro de (And.intro dl (And.intro w52 (And.intro dx (And.intro wm (And.intro hm (And.intro hd (And.intro hgt (And.intro hqn (And.intro (@gt_iff_lt Int _) (And.intro (@ge_iff_le Int _) (And.intro strs_len (And.intro ints_len (And.intro nd_len (And.intro rim_len (And.intro dn (And.intro d0 ft))))))))))))))))))))))))))))))))))))
                  refine Run.drawA fun K hK => ?_
                  refine DOps.sim ?_
                  refine DOps.call (.im (.str (freshG g))) [] [] rfl rfl rfl rfl (by kernel_rfl) (by simp [Agree]) (fun u hu => fresh_ok g hg (by omega) u) ?_
                  refine DOps.sim ?_
                  refine DOps.call (.tup [.agg [.im (.sl (strs g.inn)), .im (.sl (strs g.out)), .ms 0 6 (b1G g r p).regs.length, .ms 0 7 (b1G g r p).ands.length, .ms 0 8 (b1G g r p).outs.length], .i (2 * firstG g)]) [((0, 6), .dead), ((0, 7), .dead), ((0, 8), .dead)] [((0, 6), rowR (b1G g r p).regs), ((0, 7), rowA (b1G g r p).ands), ((0, 8), rowO (b1G g r p).outs)] rfl rfl rfl rfl (by kernel_rfl) (by simp [Agree, ASt.fr]) (fun u hu => hI0 u (hu ((0, 6), .dead) (by simp)) (hu ((0, 7), .dead) (by simp)) (hu ((0, 8), .dead) (by simp))) ?_
                  refine DOps.sim ?_
                  refine DOps.nil (by rfl) (hK _ ?_); clear hK K
                  refine End.blk ?_
                  refine End.kp [1, 4, 7, 8, 9, 10, 11, 76] ?_
                  first | refine Run.ghost (Ghost.boxShut (j := 3) (i := 2) (r := 6) rfl rfl rfl (by have h9 := hk0m; simp)) ?_ | skip
                  first | refine Run.ghost (Ghost.boxShut (j := 3) (i := 3) (r := 7) rfl rfl rfl (by have h9 := hk0m; simp)) ?_ | skip
                  first | refine Run.ghost (Ghost.boxShut (j := 3) (i := 4) (r := 8) rfl rfl rfl (by have h9 := hk0m; simp)) ?_ | skip
                  try simp only [List.set_cons_succ, List.set_cons_zero]
                  have fx := And.intro hs16b (And.intro hs16 (And.intro (@Int.toNat_natCast) (And.intro (@Int.natCast_nonneg) (And.intro h12 (And.intro h02 (And.intro hx9 (And.intro wf9 (And.intro hga1 (And.intro hjn1 (And.intro wk1 (And.intro wd1 (And.intro hd1 (And.intro hgt1 (And.intro hqn1 (And.intro hga (And.intro hjn (And.intro wk0 (And.intro w74 (And.intro w72 (And.intro de (And.intro dl (And.intro w52 (And.intro dx (And.intro wm (And.intro hm (And.intro hd (And.intro hgt (And.intro hqn (And.intro (@gt_iff_lt Int _) (And.intro (@ge_iff_le Int _) (And.intro strs_len (And.intro ints_len (And.intro nd_len (And.intro rim_len (And.intro dn (And.intro d0 ft))))))))))))))))))))))))))))))))))))
                  refine Run.go ?_
                  refine End.lp ?_
                  refine ⟨1, _, by omega, Ghost.form [(1, .i q), (4, .ptr 0 1 0), (7, .ptr 0 2 0), (8, .im (.bool (iniB r))), (9, .i (1 + (g.inn.length : Int) + q)), (10, .ptr 0 3 0), (11, .ptr 0 4 0), (76, .i 1)] 5 ⟨rfl, rfl, rfl, rfl, rfl, rfl, rfl, rfl, trivial⟩ rfl rfl, 1, rfl, by omega, fun h => by omega, fun _ => rfl, fun h => by omega⟩
              · have hb5 := hb
                simp at hb
            · skip
              have hk1 : k = 1 := by have := of_decide_eq_false hs16b; omega
              subst hk1
              obtain rfl := hB rfl
              have fx := And.intro hs16b (And.intro hs16 (And.intro (@Int.toNat_natCast) (And.intro (@Int.natCast_nonneg) (And.intro h12 (And.intro h02 (And.intro hx9 (And.intro wf9 (And.intro hga1 (And.intro hjn1 (And.intro wk1 (And.intro wd1 (And.intro hd1 (And.intro hgt1 (And.intro hqn1 (And.intro hga (And.intro hjn (And.intro wk0 (And.intro w74 (And.intro w72 (And.intro de (And.intro dl (And.intro w52 (And.intro dx (And.intro wm (And.intro hm (And.intro hd (And.intro hgt (And.intro hqn (And.intro (@gt_iff_lt Int _) (And.intro (@ge_iff_le Int _) (And.intro strs_len (And.intro ints_len (And.intro nd_len (And.intro rim_len (And.intro dn (And.intro d0 ft))))))))))))))))))))))))))))))))))))
              refine Run.go ?_
              refine End.kp [1, 4, 7, 8, 9, 10, 11, 76, 77] ?_
              refine Run.seq ?_
              refine Run.cond _ rfl (fun hb => ?_) (fun hb => ?_)
              · have hb5 := hb
                refine Run.skip ?_
                refine End.kp [1, 4, 7, 8, 9, 10, 11, 76] ?_
                refine Run.seq ?_
                refine Run.block ?_
                refine Run.seq ?_
                have fx := And.intro hs16b (And.intro hs16 (And.intro (@Int.toNat_natCast) (And.intro (@Int.natCast_nonneg) (And.intro h12 (And.intro h02 (And.intro hx9 (And.intro wf9 (And.intro hga1 (And.intro hjn1 (And.intro wk1 (And.intro wd1 (And.intro hd1 (And.intro hgt1 (And.intro hqn1 (And.intro hga (And.intro hjn (And.intro wk0 (And.intro w74 (And.intro w72 (And.intro de (And.intro dl (And.intro w52 (And.intro dx (And.intro wm (And.intro hm (And.intro hd (And.intro hgt (And.intro hqn (And.intro (@gt_iff_lt Int _) (And.intro (@ge_iff_le Int _) (And.intro strs_len (And.intro ints_len (And.intro nd_len (And.intro rim_len (And.intro dn (And.intro d0 ft))))))))))))))))))))))))))))))))))))
                refine Run.go ?_
                refine End.kp [1, 4, 7, 8, 9, 10, 11, 12, 76] ?_
                refine Run.seq ?_
                refine Run.ghost (.spares 1) ?_
                simp only [ASt.pushN, ASt.push, List.append_assoc, List.cons_append, List.nil_append]
                refine Run.drawA fun K hK => ?_
                refine DOps.sim ?_
                refine DOps.call (.i (1 + ((b1G g r p).inn.length : Int) + (b1G g r p).regs.length)) [] [] rfl rfl rfl rfl (by kernel_rfl) (by simp [Agree]) (fun u hu => GFirst_ok (b1G g r p) hg1.small u) ?_
                refine DOps.sim ?_
                refine DOps.nil (by rfl) (hK _ ?_); clear hK K
                refine End.kp [1, 4, 7, 8, 9, 10, 11, 12, 13, 76] ?_
                refine Run.seq ?_
                refine Run.go ?_
                refine End.kp [1, 4, 7, 8, 9, 10, 11, 12, 13, 14, 76] ?_
                refine Run.seq ?_
                refine Run.seq ?_
                refine Run.go ?_
                refine End.kp [1, 4, 7, 8, 9, 10, 11, 12, 13, 14, 76, 96] ?_
                refine Run.cond _ rfl (fun hb => ?_) (fun hb => ?_)
                · have hb6 := hb
                  have fx := And.intro hs16b (And.intro hs16 (And.intro (@Int.toNat_natCast) (And.intro (@Int.natCast_nonneg) (And.intro h12 (And.intro h02 (And.intro hx9 (And.intro wf9 (And.intro hga1 (And.intro hjn1 (And.intro wk1 (And.intro wd1 (And.intro hd1 (And.intro hgt1 (And.intro hqn1 (And.intro hga (And.intro hjn (And.intro wk0 (And.intro w74 (And.intro w72 (And.intro de (And.intro dl (And.intro w52 (And.intro dx (And.intro wm (And.intro hm (And.intro hd (And.intro hgt (And.intro hqn (And.intro (@gt_iff_lt Int _) (And.intro (@ge_iff_le Int _) (And.intro strs_len (And.intro ints_len (And.intro nd_len (And.intro rim_len (And.intro dn (And.intro d0 ft))))))))))))))))))))))))))))))))))))
                  refine Run.go ?_
                  refine End.kp [1, 4, 7, 8, 9, 10, 11, 12, 14, 76] ?_
                  refine Run.ghost (.spares 3) ?_
                  simp only [ASt.pushN, ASt.push, List.append_assoc, List.cons_append, List.nil_append]
                  have fx := And.intro hs16b (And.intro hs16 (And.intro (@Int.toNat_natCast) (And.intro (@Int.natCast_nonneg) (And.intro h12 (And.intro h02 (And.intro hx9 (And.intro wf9 (And.intro hga1 (And.intro hjn1 (And.intro wk1 (And.intro wd1 (And.intro hd1 (And.intro hgt1 (And.intro hqn1 (And.intro hga (And.intro hjn (And.intro wk0 (And.intro w74 (And.intro w72 (And.intro de (And.intro dl (And.intro w52 (And.intro dx (And.intro wm (And.intro hm (And.intro hd (And.intro hgt (And.intro hqn (And.intro (@gt_iff_lt Int _) (And.intro (@ge_iff_le Int _) (And.intro strs_len (And.intro ints_len (And.intro nd_len (And.intro rim_len (And.intro dn (And.intro d0 ft))))))))))))))))))))))))))))))))))))
                  refine Run.drawA fun K hK => ?_
                  refine DOps.sim ?_
                  refine DOps.call (.im (.str (freshG (b1G g r p)))) [] [] rfl rfl rfl rfl (by kernel_rfl) (by simp [Agree]) (fun u hu => fresh_ok (b1G g r p) hg1 hl1 u) ?_
                  refine DOps.sim ?_
                  refine DOps.call (.tup [.agg [.im (.sl (strs g.inn)), .im (.sl (strs g.out)), .ms 0 6 (b2G g r p).regs.length, .ms 0 7 (b2G g r p).ands.length, .ms 0 8 (b2G g r p).outs.length], .i (2 * (firstG g + 1))]) [((0, 6), .dead), ((0, 7), .dead), ((0, 8), .dead)] [((0, 6), rowR (b2G g r p).regs), ((0, 7), rowA (b2G g r p).ands), ((0, 8), rowO (b2G g r p).outs)] rfl rfl rfl rfl (by kernel_rfl) (by simp [Agree, ASt.fr]) (fun u hu => hI1 u (hu ((0, 6), .dead) (by simp)) (hu ((0, 7), .dead) (by simp)) (hu ((0, 8), .dead) (by simp))) ?_
                  refine DOps.sim ?_
                  refine DOps.nil (by rfl) (hK _ ?_); clear hK K
                  refine End.blk ?_
                  refine End.kp [1, 4, 7, 8, 9, 10, 11, 76] ?_
                  first | refine Run.ghost (Ghost.boxShut (j := 3) (i := 2) (r := 6) rfl rfl rfl (by have h9 := hk0m; simp)) ?_ | skip
                  first | refine Run.ghost (Ghost.boxShut (j := 3) (i := 3) (r := 7) rfl rfl rfl (by have h9 := hk0m; simp)) ?_ | skip
                  first | refine Run.ghost (Ghost.boxShut (j := 3) (i := 4) (r := 8) rfl rfl rfl (by have h9 := hk0m; simp)) ?_ | skip
                  try simp only [List.set_cons_succ, List.set_cons_zero]
                  have fx := And.intro hs16b (And.intro hs16 (And.intro (@Int.toNat_natCast) (And.intro (@Int.natCast_nonneg) (And.intro h12 (And.intro h02 (And.intro hx9 (And.intro wf9 (And.intro hga1 (And.intro hjn1 (And.intro wk1 (And.intro wd1 (And.intro hd1 (And.intro hgt1 (And.intro hqn1 (And.intro hga (And.intro hjn (And.intro wk0 (And.intro w74 (And.intro w72 (And.intro de (And.intro dl (And.intro w52 (And.intro dx (And.intro wm (And.intro hm (And.intro hd (And.intro hgt (And.intro hqn (And.intro (@gt_iff_lt Int _) (And.intro (@ge_iff_le Int _) (And.intro strs_len (And.intro ints_len (And.intro nd_len (And.intro rim_len (And.intro dn (And.intro d0 ft))))))))))))))))))))))))))))))))))))
                  refine Run.go ?_
                  refine End.lp ?_
                  refine ⟨0, _, by omega, Ghost.form [(1, .i q), (4, .ptr 0 1 0), (7, .ptr 0 2 0), (8, .im (.bool (iniB r))), (9, .i (1 + (g.inn.length : Int) + q)), (10, .ptr 0 3 0), (11, .ptr 0 4 0), (76, .i 2)] 9 ⟨rfl, rfl, rfl, rfl, rfl, rfl, rfl, rfl, trivial⟩ rfl rfl, 2, rfl, by omega, fun h => by omega, fun h => by omega, fun _ => rfl⟩
                · have hb6 := hb
                  simp at hb
              · have hb5 := hb
                simp at hb
end Go.Proofs.YtdgpmopcmacicaaDoorPi

