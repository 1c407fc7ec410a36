/- Part 4 of the proof: the texts PFrm, PRuns, PSolM, PBmc, PRing, WVA, WFA, WBM, WFB, one behind the other. Each holds for every input that it names; no condition is hidden. -/
import Derived.Test.YtkjfdacjjogpcaaM3
import Derived.Test.YtkjfdacjjogpcaaM2
import Derived.Test.YtkjfdacjjogpcaaM1
import Derived.Test.YtkjfdacjjogpcaaPiSim
import Derived.Test.YtkjfdacjjogpcaaPiLit
set_option linter.unusedVariables false
set_option linter.unusedSimpArgs false
set_option linter.unusedSectionVars false
namespace Go.Proofs.YtkjfdacjjogpcaaPi
abbrev regD (g : LGraph) (i : Nat) : LReg := g.regs.getD i ⟨ByteArray.empty, 0, false⟩
def regV (g : LGraph) (t i : Nat) : Int := ((t * varsN g : Nat) : Int) + 2 + g.inn.length + i
def regC (g : LGraph) (free : Bool) : Nat → Nat → List (List Int)
 | 0, i => if free = true then [] else if (regD g i).init = true then [[regV g 0 i]] else [[-(regV g 0 i)]]
 | t + 1, i => [[-(regV g (t + 1) i), ofL (regD g i).next ((t * varsN g : Nat) : Int)], [regV g (t + 1) i, -(ofL (regD g i).next ((t * varsN g : Nat) : Int))]]
def regsC (g : LGraph) (free : Bool) (t : Nat) : Nat → List (List Int)
 | 0 => []
 | i + 1 => regsC g free t i ++ regC g free t i
def frmC (g : LGraph) (free : Bool) : Nat → List (List Int)
 | 0 => []
 | t + 1 => frmC g free t ++ csN g ((t * varsN g : Nat) : Int) g.ands.length ++ regsC g free t g.regs.length
theorem regsC_mem (g : LGraph) (free : Bool) (t : Nat) (c : List Int) : ∀ k, c ∈ regsC g free t k ↔ ∃ i, i < k ∧ c ∈ regC g free t i
 | 0 => by simp [regsC]
 | k + 1 => by
  rw [regsC, List.mem_append, regsC_mem g free t c k]
  constructor
  ·rintro (⟨i, h1, h2⟩ | h)
   ·exact ⟨i, by omega, h2⟩
   ·exact ⟨k, by omega, h⟩
  ·rintro ⟨i, h1, h2⟩
   by_cases e : i = k
   ·subst e; exact .inr h2
   ·exact .inl ⟨i, by omega, h2⟩
theorem frmC_mem (g : LGraph) (free : Bool) (c : List Int) : ∀ k, c ∈ frmC g free k ↔ ∃ t, t < k ∧ (c ∈ csN g ((t * varsN g : Nat) : Int) g.ands.length ∨ ∃ i, i < g.regs.length ∧ c ∈ regC g free t i)
 | 0 => by simp [frmC]
 | k + 1 => by
  rw [frmC, List.mem_append, List.mem_append, frmC_mem g free c k, regsC_mem]
  constructor
  ·rintro ((⟨t, h1, h2⟩ | h) | h)
   ·exact ⟨t, by omega, h2⟩
   ·exact ⟨k, by omega, .inl h⟩
   ·exact ⟨k, by omega, .inr h⟩
  ·rintro ⟨t, h1, h2⟩
   by_cases e : t = k
   ·subst e
    rcases h2 with h2 | h2
    ·exact .inl (.inr h2)
    ·exact .inr h2
   ·exact .inl (.inl ⟨t, by omega, h2⟩)
theorem regC_len (g : LGraph) (free : Bool) (t i : Nat) : (regC g free t i).length ≤ 2 := by
 cases t with
 | zero =>
  rw [regC]
  split
  ·simp
  ·split <;> simp
 | succ t => simp [regC]
theorem regsC_len (g : LGraph) (free : Bool) (t : Nat) : ∀ k, (regsC g free t k).length ≤ 2 * k
 | 0 => by simp [regsC]
 | k + 1 => by
  rw [regsC, List.length_append]
  have := regC_len g free t k
  have := regsC_len g free t k
  omega
theorem frmC_len (g : LGraph) (free : Bool) : ∀ k, (frmC g free k).length ≤ k * (1 + 3 * g.ands.length + 2 * g.regs.length)
 | 0 => by simp [frmC]
 | k + 1 => by
  rw [frmC, List.length_append, List.length_append, csN_len]
  have := frmC_len g free k
  have := regsC_len g free k g.regs.length
  rw [show (k + 1) * (1 + 3 * g.ands.length + 2 * g.regs.length) = k * (1 + 3 * g.ands.length + 2 * g.regs.length) + (1 + 3 * g.ands.length + 2 * g.regs.length) from Nat.succ_mul _ _]
  omega
def insM (g : LGraph) (M : Nat → Bool) (t : Nat) : List Bool := (List.range g.inn.length).map fun i => nodeM M (t * varsN g) (1 + i)
def stsM (g : LGraph) (M : Nat → Bool) (t : Nat) : List Bool := (List.range g.regs.length).map fun i => nodeM M (t * varsN g) (1 + g.inn.length + i)
theorem range_getD {α : Type} (n : Nat) (f : Nat → α) (d : α) {i : Nat} (h : i < n) : ((List.range n).map f).getD i d = f i := by
 rw [List.getD_eq_getElem?_getD, List.getElem?_map, List.getElem?_range h]
 rfl
theorem insM_len (g : LGraph) (M : Nat → Bool) (t : Nat) : (insM g M t).length = g.inn.length := by simp [insM]
theorem stsM_len (g : LGraph) (M : Nat → Bool) (t : Nat) : (stsM g M t).length = g.regs.length := by simp [stsM]
theorem insM_get (g : LGraph) (M : Nat → Bool) (t : Nat) {i : Nat} (h : i < g.inn.length) : (insM g M t).getD i false = nodeM M (t * varsN g) (1 + i) := range_getD _ _ _ h
theorem stsM_get (g : LGraph) (M : Nat → Bool) (t : Nat) {i : Nat} (h : i < g.regs.length) : (stsM g M t).getD i false = nodeM M (t * varsN g) (1 + g.inn.length + i) := range_getD _ _ _ h
abbrev nxB (g : LGraph) (b : Nat → Bool) : List Bool := g.regs.map fun x => lbit b x.next
theorem ext_getD {α : Type} (d : α) {a b : List α} (h : a.length = b.length) (k : ∀ i, i < a.length → a.getD i d = b.getD i d) : a = b := by
 refine List.ext_getElem h fun i h1 h2 => ?_
 have := k i h1
 rw [List.getD_eq_getElem?_getD, List.getD_eq_getElem?_getD, List.getElem?_eq_getElem h1, List.getElem?_eq_getElem h2] at this
 exact this
theorem nxB_get (g : LGraph) (b : Nat → Bool) {i : Nat} (h : i < g.regs.length) : (nxB g b).getD i false = lbit b (regD g i).next := by
 rw [List.getD_eq_getElem?_getD, List.getElem?_map, getD_some (⟨ByteArray.empty, 0, false⟩ : LReg) h]
 rfl
theorem initG_get (g : LGraph) {i : Nat} (h : i < g.regs.length) : (initG g).getD i false = (regD g i).init := by
 rw [List.getD_eq_getElem?_getD, List.getElem?_map, getD_some (⟨ByteArray.empty, 0, false⟩ : LReg) h]
 rfl
structure FrmSat (g : LGraph) (free : Bool) (k : Nat) (M : Nat → Bool) : Prop where
 sat : ∀ t, t < k → Sat g (insM g M t) (stsM g M t) (nodeM M (t * varsN g))
 init : 0 < k → free = false → stsM g M 0 = initG g
 step : ∀ t, t + 1 < k → stsM g M (t + 1) = nxB g (nodeM M (t * varsN g))
theorem regV_hl {g : LGraph} {M : Nat → Bool} {t i : Nat} : hl M (regV g t i) ↔ nodeM M (t * varsN g) (1 + g.inn.length + i) = true := by
 unfold hl nodeM regV
 rw [show (((t * varsN g : Nat) : Int) + 2 + g.inn.length + i).natAbs = t * varsN g + 1 + (1 + g.inn.length + i) by omega, decide_eq_true (by omega)]
theorem regV_ne (g : LGraph) (t i : Nat) : regV g t i ≠ 0 := by unfold regV; omega
theorem regD_mem {g : LGraph} {i : Nat} (h : i < g.regs.length) : regD g i ∈ g.regs := gtD_mem h
theorem reg0_hold {g : LGraph} {M : Nat → Bool} {i : Nat} : (∀ c ∈ regC g false 0 i, HoldsC M c) ↔ nodeM M (0 * varsN g) (1 + g.inn.length + i) = (regD g i).init := by
 have h := regV_hl (g := g) (M := M) (t := 0) (i := i)
 have hn := hl_neg (M := M) (regV_ne g 0 i)
 rw [regC, if_neg (by simp)]
 cases (regD g i).init with
 | true => rw [if_pos rfl]; simp only [List.mem_singleton, forall_eq, HoldsC, exists_eq_left]; exact h
 | false =>
  rw [if_neg (by simp)]
  simp only [List.mem_singleton, forall_eq, HoldsC, exists_eq_left, hn, h]
  simp
theorem regS_hold {g : LGraph} (hg : GraphOk g) {free : Bool} {M : Nat → Bool} {t i : Nat} (hi : i < g.regs.length) : (∀ c ∈ regC g free (t + 1) i, HoldsC M c) ↔ nodeM M ((t + 1) * varsN g) (1 + g.inn.length + i) = lbit (nodeM M (t * varsN g)) (regD g i).next := by
 obtain ⟨n0, n1⟩ := hg.regs _ (regD_mem hi)
 have h := regV_hl (g := g) (M := M) (t := t + 1) (i := i)
 have hn := hl_neg (M := M) (regV_ne g (t + 1) i)
 have h2 := ofL_hl (M := M) (base := t * varsN g) n0
 have hn2 := hl_neg (M := M) (ofL_ne (base := t * varsN g) n0)
 rw [regC]
 generalize regV g (t + 1) i = v at h hn ⊢
 generalize ofL (regD g i).next ((t * varsN g : Nat) : Int) = w at h2 hn2 ⊢
 generalize nodeM M ((t + 1) * varsN g) (1 + g.inn.length + i) = A at h ⊢
 generalize lbit (nodeM M (t * varsN g)) (regD g i).next = C at h2 ⊢
 simp only [List.mem_cons, List.not_mem_nil, or_false, HoldsC, forall_eq_or_imp, forall_eq, exists_eq_or_imp, exists_eq_left, hn, hn2, h, h2]
 cases A <;> cases C <;> simp
theorem frm_sat {g : LGraph} (hg : GraphOk g) {free : Bool} {k : Nat} {M : Nat → Bool} : (∀ c ∈ frmC g free k, HoldsC M c) ↔ FrmSat g free k M := by
 constructor
 ·intro h
  refine ⟨fun t ht => (csN_sat hg).1 ⟨fun c hc => h c ((frmC_mem g free c k).2 ⟨t, ht, .inl hc⟩), fun i hi => (insM_get g M t hi).symm, fun i hi => (stsM_get g M t hi).symm⟩, fun hk hf => ?_, fun t ht => ?_⟩
  ·subst hf
   refine ext_getD false (by rw [stsM_len]; simp) fun i hi => ?_
   rw [stsM_len] at hi
   rw [stsM_get g M 0 hi, initG_get g hi]
   exact reg0_hold.1 (fun c hc => h c ((frmC_mem g false c k).2 ⟨0, hk, .inr ⟨i, hi, hc⟩⟩))
  ·refine ext_getD false (by rw [stsM_len]; simp) fun i hi => ?_
   rw [stsM_len] at hi
   rw [stsM_get g M _ hi, nxB_get g _ hi]
   exact (regS_hold hg hi).1 (fun c hc => h c ((frmC_mem g free c k).2 ⟨t + 1, ht, .inr ⟨i, hi, hc⟩⟩))
 ·intro h c hc
  obtain ⟨t, ht, hc | ⟨i, hi, hc⟩⟩ := (frmC_mem g free c k).1 hc
  ·exact ((csN_sat hg).2 (h.sat t ht)).1 c hc
  ·cases t with
   | zero =>
    cases free with
    | true => simp [regC] at hc
    | false =>
     refine reg0_hold.2 ?_ c hc
     rw [← stsM_get g M 0 hi, h.init ht rfl, initG_get g hi]
   | succ t =>
    refine (regS_hold hg hi).2 ?_ c hc
    rw [← stsM_get g M _ hi, h.step t ht, nxB_get g _ hi]
def runB (g : LGraph) : List Bool → List (List Bool) → List (List Bool)
 | _, [] => []
 | s, r :: t => g.outs.map (lbit (bitsG g r s)) :: runB g (nxB g (bitsG g r s)) t
theorem runB_eq (g : LGraph) : ∀ (tr : List (List Bool)) (s : List Bool), runG g (lanes0 s) tr = runB g s tr
 | [], _ => rfl
 | r :: t, s => by
  have eo : ∀ (v : List Int), laneB (outsG g v) = g.outs.map (lb v) := fun v => by
   rw [laneB_bit0]
   simp only [outsG, List.map_map]
   rfl
  have en : ∀ (v : List Int), laneB (nextsG g v) = g.regs.map fun x => lb v x.next := fun v => by
   rw [laneB_bit0]
   simp only [nextsG, List.map_map]
   rfl
  have elb : lb (graphVals g (lanes0 r) (lanes0 s)) = lbit (bitsG g r s) := funext fun l => lb_lbit _ l
  simp only [runG, runB]
  rw [runG_lane, eo, en, runB_eq g t, elb]
theorem bits_same {g : LGraph} (hg : GraphOk g) {r s : List Bool} {b b' : Nat → Bool} (h : Sat g r s b) (h' : Sat g r s b') : g.outs.map (lbit b) = g.outs.map (lbit b') ∧ nxB g b = nxB g b' := by
 have hu := sat_uniq hg h h'
 exact ⟨List.map_congr_left fun x hx => lbit_congr hu x (hg.outs x hx).1 (by have := (hg.outs x hx).2; omega), List.map_congr_left fun x hx => lbit_congr hu x.next (hg.regs x hx).1 (by have := (hg.regs x hx).2; omega)⟩
abbrev outsM (g : LGraph) (M : Nat → Bool) (t : Nat) : List Bool := g.outs.map (lbit (nodeM M (t * varsN g)))
theorem frm_runs {g : LGraph} (hg : GraphOk g) {free : Bool} {k : Nat} {M : Nat → Bool} (h : FrmSat g free k M) : ∀ (m t : Nat), t + m = k → runB g (stsM g M t) ((List.range m).map fun j => insM g M (t + j)) = (List.range m).map fun j => outsM g M (t + j)
 | 0, t, _ => rfl
 | m + 1, t, e => by
  have hs := h.sat t (by omega)
  obtain ⟨e1, e2⟩ := bits_same hg (sat_bits hg (insM_len g M t) (stsM_len g M t)) hs
  rw [List.range_succ_eq_map, List.map_cons, List.map_cons, List.map_map, List.map_map, runB, Nat.add_zero, e1, e2]
  congr 1
  cases m with
  | zero => rfl
  | succ m =>
   rw [← h.step t (by omega)]
   have := frm_runs hg h (m + 1) (t + 1) (by omega)
   have ej : ∀ j, t + (j + 1) = t + 1 + j := fun j => by omega
   have f1 : ((fun j => insM g M (t + j)) ∘ Nat.succ) = fun j => insM g M (t + 1 + j) := funext fun j => by show insM g M (t + (j + 1)) = _; rw [ej]
   have f2 : ((fun j => outsM g M (t + j)) ∘ Nat.succ) = fun j => outsM g M (t + 1 + j) := funext fun j => by show outsM g M (t + (j + 1)) = _; rw [ej]
   rw [f1, f2]
   exact this
def insK (g : LGraph) (k : Nat) (M : Nat → Bool) : List (List Bool) := (List.range k).map (insM g M)
theorem frm_run {g : LGraph} (hg : GraphOk g) {free : Bool} {k : Nat} {M : Nat → Bool} (h : FrmSat g free k M) : runB g (stsM g M 0) (insK g k M) = (List.range k).map (outsM g M) := by
 have := frm_runs hg h k 0 (by omega)
 simpa [insK] using this
def stB (g : LGraph) (s : List Bool) (tr : List (List Bool)) : Nat → List Bool
 | 0 => s
 | t + 1 => nxB g (bitsG g (tr.getD t []) (stB g s tr t))
theorem stB_len (g : LGraph) {s : List Bool} (h : s.length = g.regs.length) (tr : List (List Bool)) : ∀ t, (stB g s tr t).length = g.regs.length
 | 0 => h
 | t + 1 => by simp [stB]
def playM (g : LGraph) (s : List Bool) (tr : List (List Bool)) : Nat → Bool := fun v => bitsG g (tr.getD ((v - 1) / varsN g) []) (stB g s tr ((v - 1) / varsN g)) ((v - 1) % varsN g)
theorem play_node (g : LGraph) (s : List Bool) (tr : List (List Bool)) (t : Nat) {q : Nat} (h : q < varsN g) : nodeM (playM g s tr) (t * varsN g) q = bitsG g (tr.getD t []) (stB g s tr t) q := by
 have e1 : (t * varsN g + 1 + q - 1) / varsN g = t := by
  rw [show t * varsN g + 1 + q - 1 = q + t * varsN g by omega, Nat.add_mul_div_right _ _ (by omega), Nat.div_eq_of_lt h, Nat.zero_add]
 have e2 : (t * varsN g + 1 + q - 1) % varsN g = q := by
  rw [show t * varsN g + 1 + q - 1 = q + t * varsN g by omega, Nat.add_mul_mod_self_right, Nat.mod_eq_of_lt h]
 unfold nodeM playM
 rw [e1, e2]
theorem sat_congr {g : LGraph} (hg : GraphOk g) {r s : List Bool} {b b' : Nat → Bool} (h : Sat g r s b) (e : ∀ q, q < varsN g → b' q = b q) : Sat g r s b' := by
 have e' : ∀ q, q < 1 + g.inn.length + g.regs.length + g.ands.length → b' q = b q := e
 refine ⟨by rw [e' _ (by omega)]; exact h.zero, fun i hi => by rw [e' _ (by omega)]; exact h.inn i hi, fun i hi => by rw [e' _ (by omega)]; exact h.regs i hi, fun j p hp => ?_⟩
 have hj := (List.getElem?_eq_some_iff.1 hp).1
 obtain ⟨⟨p0, p1⟩, p2, p3⟩ := hg.ands j p hp
 rw [e' _ (by omega), lbit_congr e' p.1 p0 (by omega), lbit_congr e' p.2 p2 (by omega)]
 exact h.ands j p hp
theorem play_ins (g : LGraph) (s : List Bool) (tr : List (List Bool)) (hg : GraphOk g) (hs : s.length = g.regs.length) (t : Nat) (ht : (tr.getD t []).length = g.inn.length) : insM g (playM g s tr) t = tr.getD t [] ∧ stsM g (playM g s tr) t = stB g s tr t := by
 have hb := sat_bits hg ht (stB_len g hs tr t)
 constructor
 ·refine ext_getD false (by rw [insM_len, ht]) fun i hi => ?_
  rw [insM_len] at hi
  rw [insM_get g _ t hi, play_node g s tr t (by unfold varsN; omega), hb.inn i hi]
 ·refine ext_getD false (by rw [stsM_len, stB_len g hs]) fun i hi => ?_
  rw [stsM_len] at hi
  rw [stsM_get g _ t hi, play_node g s tr t (by unfold varsN; omega), hb.regs i hi]
theorem play_sat {g : LGraph} (hg : GraphOk g) {free : Bool} {k : Nat} {s : List Bool} {tr : List (List Bool)} (hs : s.length = g.regs.length) (hf : free = false → s = initG g) (ht : ∀ t, t < k → (tr.getD t []).length = g.inn.length) : FrmSat g free k (playM g s tr) := by
 have hb : ∀ t, t < k → Sat g (insM g (playM g s tr) t) (stsM g (playM g s tr) t) (nodeM (playM g s tr) (t * varsN g)) := fun t h => by
  obtain ⟨e1, e2⟩ := play_ins g s tr hg hs t (ht t h)
  rw [e1, e2]
  exact sat_congr hg (sat_bits hg (ht t h) (stB_len g hs tr t)) fun q hq => play_node g s tr t hq
 refine ⟨hb, fun h hf2 => ?_, fun t h => ?_⟩
 ·rw [(play_ins g s tr hg hs 0 (ht 0 h)).2]
  exact hf hf2
 ·obtain ⟨e1, e2⟩ := play_ins g s tr hg hs t (ht t (by omega))
  rw [(play_ins g s tr hg hs (t + 1) (ht _ h)).2, stB]
  have := hb t (by omega)
  rw [e1, e2] at this
  exact (bits_same hg (sat_bits hg (ht t (by omega)) (stB_len g hs tr t)) this).2
theorem frm_loc {g : LGraph} (hg : GraphOk g) {P : (Nat → Bool) → Prop} {S : Sol} {B k : Nat} {free : Bool} (h : Base P S B) (hh : S.head = S.tr.length) (hn : k * varsN g ≤ S.n) (hc : ∀ c ∈ frmC g free k, Cov S c) {t q : Nat} (ht : t < k) (hq : q < varsN g) (hno : ¬ (1 ≤ q ∧ q < 1 + g.inn.length)) (hfr : free = true → t = 0 → ¬ (1 + g.inn.length ≤ q ∧ q < 1 + g.inn.length + g.regs.length))
  (ih : ∀ v, 1 ≤ v → v < t * varsN g + 1 + q → S.val.getD v 0 ≠ 0) : S.val.getD (t * varsN g + 1 + q) 0 ≠ 0 := by
 have hk : (t + 1) * varsN g ≤ k * varsN g := Nat.mul_le_mul_right _ (by omega)
 rw [Nat.succ_mul] at hk
 by_cases c1 : q = 0 ∨ 1 + g.inn.length + g.regs.length ≤ q
 ·exact csN_loc hg h hh (by unfold varsN at *; omega) (fun c hc2 => hc c ((frmC_mem g free c k).2 ⟨t, ht, .inl hc2⟩)) hq c1 (fun p hp => ih _ (by omega) (by omega))
 ·obtain ⟨i, rfl⟩ : ∃ i, q = 1 + g.inn.length + i := ⟨q - (1 + g.inn.length), by omega⟩
  have hi : i < g.regs.length := by omega
  have cl : ∀ c, c ∈ regC g free t i → Cov S c := fun c hc2 => hc c ((frmC_mem g free c k).2 ⟨t, ht, .inr ⟨i, hi, hc2⟩⟩)
  have va : (regV g t i).natAbs = t * varsN g + 1 + (1 + g.inn.length + i) := by unfold regV; omega
  have v0 := regV_ne g t i
  have fin : ∀ z : Int, z.natAbs = (regV g t i).natAbs → S.is z = 1 → S.val.getD (t * varsN g + 1 + (1 + g.inn.length + i)) 0 ≠ 0 := fun z hz h1 => by
   have := is_val (S := S) (x := z) (by omega)
   rwa [hz, va] at this
  have one : ∀ z : Int, z ≠ 0 → z.natAbs = (regV g t i).natAbs → [z] ∈ regC g free t i → S.val.getD (t * varsN g + 1 + (1 + g.inn.length + i)) 0 ≠ 0 := fun z z0 hz hm => fin z hz (h.forced hh (cl _ hm) (taut_no (fun l hl hl2 => by
   rw [List.mem_singleton] at hl hl2
   omega)) (fun y hy hne => absurd (List.mem_singleton.1 hy) hne))
  cases t with
  | zero =>
   cases free with
   | true => exact absurd ⟨by omega, by omega⟩ (hfr rfl rfl)
   | false =>
    cases hI : (regD g i).init with
    | true => exact one _ v0 rfl (by rw [regC, if_neg (by simp), if_pos hI]; simp)
    | false => exact one (-(regV g 0 i)) (by omega) (by omega) (by rw [regC, if_neg (by simp), if_neg (by rw [hI]; simp)]; simp)
  | succ t =>
   obtain ⟨n0, n1⟩ := hg.regs _ (regD_mem hi)
   rw [Nat.succ_mul] at hk va fin ih ⊢
   rw [regC] at cl
   have hwa : (ofL (regD g i).next ((t * varsN g : Nat) : Int)).natAbs = t * varsN g + 1 + ((regD g i).next / 2).toNat := by unfold ofL; split <;> omega
   have hwb : ((regD g i).next / 2).toNat < varsN g := by unfold varsN; omega
   have hlo : LitOk S.n (ofL (regD g i).next ((t * varsN g : Nat) : Int)) := ⟨ofL_ne n0, by omega⟩
   have hv := val_is h.sw.len hlo (by rw [hwa]; exact ih _ (by omega) (by omega))
   generalize ofL (regD g i).next ((t * varsN g : Nat) : Int) = w at cl hlo hv hwa
   generalize regV g (t + 1) i = v at cl va v0 fin
   rcases hv with hv | hv
   ·refine fin v rfl (h.forced hh (cl [v, -w] (by simp)) (taut_no (fun l hl hl2 => ?_)) (fun z hz hne => ?_))
    ·have w0 := hlo.1
     simp only [List.mem_cons, List.not_mem_nil, or_false] at hl hl2
     omega
    ·simp only [List.mem_cons, List.not_mem_nil, or_false] at hz
     rcases hz with rfl | rfl
     ·exact absurd rfl hne
     ·rw [is_neg' S hlo.1, hv]
   ·refine fin (-v) (by omega) (h.forced hh (cl [-v, w] (by simp)) (taut_no (fun l hl hl2 => ?_)) (fun z hz hne => ?_))
    ·have w0 := hlo.1
     simp only [List.mem_cons, List.not_mem_nil, or_false] at hl hl2
     omega
    ·simp only [List.mem_cons, List.not_mem_nil, or_false] at hz
     rcases hz with rfl | rfl
     ·exact absurd rfl hne
     ·exact hv
theorem frm_in {g : LGraph} (hg : GraphOk g) {free : Bool} {k : Nat} {c : List Int} (h : c ∈ frmC g free k) : 0 < c.length ∧ c.length ≤ 12 ∧ ∀ l ∈ c, LitOk (k * varsN g) l := by
 obtain ⟨t, ht, h2⟩ := (frmC_mem g free c k).1 h
 have hk : (t + 1) * varsN g ≤ k * varsN g := Nat.mul_le_mul_right _ (by omega)
 rw [Nat.succ_mul] at hk
 have lowb : ∀ (b : Nat) (l : Int), 0 ≤ l → (l / 2).toNat < varsN g → b + varsN g ≤ k * varsN g → LitOk (k * varsN g) (ofL l (b : Int)) := fun b l l0 l1 hb => by
  unfold ofL
  split
  ·exact ⟨by omega, by omega⟩
  ·exact ⟨by omega, by omega⟩
 have neg : ∀ {z : Int}, LitOk (k * varsN g) z → LitOk (k * varsN g) (-z) := fun {z} h => ⟨by have := h.1; omega, by rw [Int.natAbs_neg]; exact h.2⟩
 rcases h2 with hc | ⟨i, hi, hc⟩
 ·rcases (csN_mem g _ c _).1 hc with rfl | ⟨i, hi, hc⟩
  ·exact ⟨by simp, by simp, fun l hl => by rw [List.mem_singleton] at hl; subst hl; exact ⟨by omega, by unfold varsN at hk ⊢; omega⟩⟩
  ·have hp : g.ands[i]? = some (g.ands.getD i (0, 0)) := getD_some _ hi
   obtain ⟨⟨p0, p1⟩, p2, p3⟩ := hg.ands i _ hp
   have hn := and_node g (t * varsN g) i
   unfold and3 at hc
   generalize g.ands.getD i (0, 0) = p at p0 p1 p2 p3 hc
   have a1 := lowb (t * varsN g) p.1 p0 (by unfold varsN; omega) hk
   have b1 := lowb (t * varsN g) p.2 p2 (by unfold varsN; omega) hk
   have n1 : LitOk (k * varsN g) (andN g ((t * varsN g : Nat) : Int) i) := ⟨by omega, by unfold varsN at hk hn ⊢; omega⟩
   generalize ofL p.1 ((t * varsN g : Nat) : Int) = x at a1 hc
   generalize ofL p.2 ((t * varsN g : Nat) : Int) = y at b1 hc
   generalize andN g ((t * varsN g : Nat) : Int) i = n at n1 hc
   simp only [List.mem_cons, List.not_mem_nil, or_false] at hc
   rcases hc with rfl | rfl | rfl
   ·exact ⟨by simp, by simp, fun l hl => by
     simp only [List.mem_cons, List.not_mem_nil, or_false] at hl
     rcases hl with rfl | rfl
     ·exact neg n1
     ·exact a1⟩
   ·exact ⟨by simp, by simp, fun l hl => by
     simp only [List.mem_cons, List.not_mem_nil, or_false] at hl
     rcases hl with rfl | rfl
     ·exact neg n1
     ·exact b1⟩
   ·exact ⟨by simp, by simp, fun l hl => by
     simp only [List.mem_cons, List.not_mem_nil, or_false] at hl
     rcases hl with rfl | rfl | rfl
     ·exact n1
     ·exact neg a1
     ·exact neg b1⟩
 ·have hv : LitOk (k * varsN g) (regV g t i) := ⟨regV_ne g t i, by unfold regV varsN at *; omega⟩
  cases t with
  | zero =>
   rw [regC] at hc
   split at hc
   ·simp at hc
   ·split at hc
    ·rw [List.mem_singleton] at hc; subst hc; exact ⟨by simp, by simp, fun l hl => by rw [List.mem_singleton] at hl; subst hl; exact hv⟩
    ·rw [List.mem_singleton] at hc; subst hc; exact ⟨by simp, by simp, fun l hl => by rw [List.mem_singleton] at hl; subst hl; exact neg hv⟩
  | succ t =>
   obtain ⟨n0, n1⟩ := hg.regs _ (regD_mem hi)
   have hw := lowb (t * varsN g) (regD g i).next n0 (by unfold varsN; omega) (by rw [Nat.succ_mul] at hk; omega)
   rw [regC] at hc
   generalize ofL (regD g i).next ((t * varsN g : Nat) : Int) = w at hc hw
   generalize regV g (t + 1) i = v at hc hv
   simp only [List.mem_cons, List.not_mem_nil, or_false] at hc
   rcases hc with rfl | rfl
   ·exact ⟨by simp, by simp, fun l hl => by
     simp only [List.mem_cons, List.not_mem_nil, or_false] at hl
     rcases hl with rfl | rfl
     ·exact neg hv
     ·exact hw⟩
   ·exact ⟨by simp, by simp, fun l hl => by
     simp only [List.mem_cons, List.not_mem_nil, or_false] at hl
     rcases hl with rfl | rfl
     ·exact hv
     ·exact neg hw⟩

def inV (g : LGraph) (q : Nat) : Nat := 1 + q / g.inn.length * varsN g + 1 + q % g.inn.length
theorem flat_lt {t k i n : Nat} (h1 : t < k) (h2 : i < n) : t * n + i < n * k := by
 have : (t + 1) * n ≤ k * n := Nat.mul_le_mul_right _ (by omega)
 rw [Nat.succ_mul] at this
 rw [Nat.mul_comm n k]
 omega
theorem flat_div {t i n : Nat} (h : i < n) : (t * n + i) / n = t ∧ (t * n + i) % n = i := by
 constructor
 ·rw [Nat.add_comm, Nat.add_mul_div_right _ _ (by omega), Nat.div_eq_of_lt h, Nat.zero_add]
 ·rw [Nat.add_comm, Nat.add_mul_mod_self_right, Nat.mod_eq_of_lt h]
theorem split_var {n v k : Nat} (hn : 0 < n) (h1 : 1 ≤ v) (h2 : v ≤ k * n) : ∃ t q, t < k ∧ q < n ∧ v = t * n + 1 + q := by
 refine ⟨(v - 1) / n, (v - 1) % n, Nat.div_lt_of_lt_mul (by rw [Nat.mul_comm]; omega), Nat.mod_lt _ hn, ?_⟩
 have := Nat.div_add_mod (v - 1) n
 rw [Nat.mul_comm] at this
 omega

def Sol.cntF (S : Sol) (F : List Nat) : Nat → Nat
 | 0 => 0
 | t + 1 => Sol.cntF S F t + if (S.lit t).natAbs ∈ F then 1 else 0
theorem cntF_congr {S S' : Sol} (F : List Nat) : ∀ (t : Nat), (∀ i, i < t → S'.lit i = S.lit i) → S'.cntF F t = S.cntF F t
 | 0, _ => rfl
 | t + 1, h => by rw [Sol.cntF, Sol.cntF, cntF_congr F t (fun i hi => h i (by omega)), h t (by omega)]
theorem cntF_mono (S : Sol) (F : List Nat) {t t' : Nat} (h : t ≤ t') : S.cntF F t ≤ S.cntF F t' := by
 induction t' with
 | zero => rw [Nat.le_zero.1 h]; exact Nat.le_refl _
 | succ k ih =>
  by_cases e : t = k + 1
  ·rw [e]; exact Nat.le_refl _
  ·have := ih (by omega)
   rw [Sol.cntF]
   omega
theorem cntF_skip (S : Sol) (F : List Nat) (v : Nat) : ∀ (t : Nat), (∀ i, i < t → (S.lit i).natAbs ≠ v) → S.cntF (F.erase v) t = S.cntF F t
 | 0, _ => rfl
 | t + 1, h => by
  rw [Sol.cntF, Sol.cntF, cntF_skip S F v t (fun i hi => h i (by omega))]
  simp only [List.mem_erase_of_ne (h t (by omega))]
theorem cntF_le {S : Sol} {B : Nat} (h : SW S B) : ∀ (t : Nat) (F : List Nat), t ≤ S.tr.length → S.cntF F t ≤ F.length
 | 0, F, _ => Nat.zero_le _
 | t + 1, F, ht => by
  rw [Sol.cntF]
  by_cases e : (S.lit t).natAbs ∈ F
  ·rw [if_pos e, ← cntF_skip S F (S.lit t).natAbs t (fun i hi e2 => by have := lit_inj h (by omega) (by omega) e2; omega)]
   have := cntF_le h t (F.erase (S.lit t).natAbs) (by omega)
   rw [List.length_erase_of_mem e] at this
   have := List.length_pos_of_mem e
   omega
  ·rw [if_neg e]
   have := cntF_le h t F (by omega)
   omega
def Sol.potF (S : Sol) (F : List Nat) : Nat := (S.st.map fun s => 2 ^ (F.length - S.cntF F s - 1)).sum + 2 ^ (F.length - S.cntF F S.tr.length)
theorem potF_pos (S : Sol) (F : List Nat) : 1 ≤ S.potF F := by
 unfold Sol.potF
 have := Nat.one_le_two_pow (n := F.length - S.cntF F S.tr.length)
 omega
theorem sum_congr {α : Type} {l : List α} {f g : α → Nat} (h : ∀ x ∈ l, f x = g x) : (l.map f).sum = (l.map g).sum := by rw [List.map_congr_left h]
theorem Ext.potF {S S' : Sol} (h : Ext S S') (F : List Nat) (hst : ∀ s ∈ S.st, s < S.tr.length) : S'.potF F ≤ S.potF F := by
 unfold Sol.potF
 rw [h.st, sum_congr (g := fun s => 2 ^ (F.length - S.cntF F s - 1)) (fun s hs => by rw [cntF_congr F s (fun i hi => h.lits i (by have := hst s hs; omega))])]
 have h1 := cntF_mono S' F h.trp
 rw [cntF_congr F S.tr.length (fun i hi => h.lits i hi)] at h1
 have := Nat.pow_le_pow_right (n := 2) (by decide) (show F.length - S'.cntF F S'.tr.length ≤ F.length - S.cntF F S.tr.length by omega)
 omega
theorem decide_potF {S : Sol} {B p : Nat} (F : List Nat) (hS : SW ((S.start p).set (-(p : Int)) (-1)) B) (hp : p ∈ F) (hst : ∀ s ∈ S.st, s < S.tr.length) : ((S.start p).set (-(p : Int)) (-1)).potF F = S.potF F := by
 have hl : ∀ i, i < S.tr.length → ((S.start p).set (-(p : Int)) (-1)).lit i = S.lit i := fun i hi => by rw [lit_set, if_pos (show i < (S.start p).tr.length from hi)]; rfl
 have hl2 : ((S.start p).set (-(p : Int)) (-1)).lit S.tr.length = -(p : Int) := by rw [lit_set, if_neg (show ¬ S.tr.length < (S.start p).tr.length from Nat.lt_irrefl _), if_pos (show S.tr.length = (S.start p).tr.length from rfl)]
 have htl : ((S.start p).set (-(p : Int)) (-1)).tr.length = S.tr.length + 1 := by simp [Sol.set, Sol.start]
 have hs : ((S.start p).set (-(p : Int)) (-1)).st = S.st ++ [S.tr.length] := rfl
 have hle := cntF_le hS (S.tr.length + 1) F (by rw [htl]; exact Nat.le_refl _)
 have e1 : ((S.start p).set (-(p : Int)) (-1)).cntF F (S.tr.length + 1) = S.cntF F S.tr.length + 1 := by
  rw [Sol.cntF, cntF_congr F S.tr.length hl, hl2, Int.natAbs_neg, Int.natAbs_natCast, if_pos hp]
 rw [e1] at hle
 unfold Sol.potF
 rw [hs, htl, e1, List.map_append, List.sum_append, sum_congr (g := fun s => 2 ^ (F.length - S.cntF F s - 1)) (fun s hs => by rw [cntF_congr F s (fun i hi => hl i (by have := hst s hs; omega))])]
 simp only [List.map_cons, List.map_nil, List.sum_cons, List.sum_nil, Nat.add_zero]
 rw [cntF_congr F S.tr.length hl]
 have e : 2 ^ (F.length - S.cntF F S.tr.length) = 2 ^ (F.length - S.cntF F S.tr.length - 1) + 2 ^ (F.length - S.cntF F S.tr.length - 1) := by
  have : F.length - S.cntF F S.tr.length = F.length - S.cntF F S.tr.length - 1 + 1 := by omega
  rw [this, Nat.pow_succ]
  simp only [Nat.add_sub_cancel]
  omega
 rw [e, Nat.sub_add_eq]
 omega
theorem heed_lit {S : Sol} {c : List Int} {i : Nat} : (S.heed c).lit i = if i < S.tr.length then S.lit i else if i = S.tr.length then c.getD 0 0 else 0 := by
 unfold Sol.heed
 split
 ·exact lit_set (S := S.add c)
 ·exact lit_set
theorem heed_st (S : Sol) (c : List Int) : (S.heed c).st = S.st ∧ (S.heed c).tr.length = S.tr.length + 1 ∧ (S.heed c).n = S.n := by
 unfold Sol.heed
 split <;> simp [Sol.set, Sol.add]
theorem refuted_first {S : Sol} (h : 0 < S.st.length) : S.refuted.getD 0 0 = -(S.lit (S.st.getD (S.st.length - 1) 0)) := by
 have e := refuted_next S 0 h
 rw [List.take_zero, List.nil_append] at e
 have : S.refuted.getD 0 0 = (S.refuted.take 1).getD 0 0 := (take_gtD _ _ (by omega)).symm
 rw [this, show (1 : Nat) = 0 + 1 from rfl, e]
 rfl
theorem back_potF {S : Sol} {c : List Int} {d : Nat} (F : List Nat) (hs : ∀ i j, i < j → j < S.st.length → S.st.getD i 0 < S.st.getD j 0) (hd : d + 1 = S.st.length) (hst : ∀ s ∈ S.st, s < S.tr.length) (hb : Bk S d (S.back d)) (hc : (c.getD 0 0).natAbs ∈ F) : ((S.back d).heed c).potF F + 1 ≤ S.potF F := by
 obtain ⟨f1, f2, f3⟩ := heed_st (S.back d) c
 have hl : ∀ i, i < S.st.getD d 0 → ((S.back d).heed c).lit i = S.lit i := fun i hi => by
  rw [heed_lit, if_pos (by rw [hb.trl]; exact hi), hb.lits i (by rw [hb.trl]; exact hi)]
 have hl2 : ((S.back d).heed c).lit (S.st.getD d 0) = c.getD 0 0 := by rw [heed_lit, hb.trl, if_neg (Nat.lt_irrefl _), if_pos rfl]
 have e1 : ((S.back d).heed c).cntF F (S.st.getD d 0 + 1) = S.cntF F (S.st.getD d 0) + 1 := by
  rw [Sol.cntF, cntF_congr F _ hl, hl2, if_pos hc]
 unfold Sol.potF
 rw [f1, f2, hb.trl, e1, hb.st]
 have hlt : ∀ s ∈ S.st.take d, s < S.st.getD d 0 := fun s h => by
  obtain ⟨q, hq, e⟩ := mem_getD (d := 0) h
  have hq2 : q < d := by have : q < (S.st.take d).length := hq; simp at this; omega
  rw [take_gtD _ _ hq2] at e
  rw [← e]
  exact hs q d hq2 (by omega)
 rw [sum_congr (g := fun s => 2 ^ (F.length - S.cntF F s - 1)) (fun s h => by rw [cntF_congr F s (fun i hi => hl i (by have := hlt s h; omega))])]
 have h2 : S.st = S.st.take d ++ [S.st.getD d 0] := by
  have h1 : S.st.drop d = [S.st.getD d 0] := by rw [drop_gtD 0 (by omega), List.drop_of_length_le (by omega)]
  rw [← h1, List.take_append_drop]
 have h3 : (S.st.map fun s => 2 ^ (F.length - S.cntF F s - 1)).sum = ((S.st.take d).map fun s => 2 ^ (F.length - S.cntF F s - 1)).sum + 2 ^ (F.length - S.cntF F (S.st.getD d 0) - 1) := by
  conv => lhs; rw [h2]
  simp
 rw [h3, Nat.sub_add_eq]
 have := Nat.one_le_two_pow (n := F.length - S.cntF F S.tr.length)
 omega
def DetF (P : (Nat → Bool) → Prop) (n : Nat) (cs : List (List Int)) (F : List Nat) : Prop :=
 ∀ S B p, Base P S B → S.n = n → S.head = S.tr.length → (∀ c ∈ cs, Cov S c) → 1 ≤ p → p ≤ n → (∀ v, 1 ≤ v → v < p → S.val.getD v 0 ≠ 0) → S.val.getD p 0 = 0 → p ∈ F
structure KeepF (n : Nat) (F : List Nat) (S : Sol) (q : Nat) : Prop where
 n : S.n = n
 st : ∀ s ∈ S.st, s < S.tr.length ∧ (S.lit s).natAbs ∈ F
 pot : q + S.potF F ≤ 2 ^ F.length
theorem KeepF.ext {n q : Nat} {F : List Nat} {S S' : Sol} (h : KeepF n F S q) (k : Ext S S') : KeepF n F S' q :=
 ⟨k.n.trans h.n, fun s hs => by
  rw [k.st] at hs
  obtain ⟨h1, h2⟩ := h.st s hs
  exact ⟨Nat.lt_of_lt_of_le h1 k.trp, by rw [k.lits s h1]; exact h2⟩, by have := k.potF F (fun s hs => (h.st s hs).1); have := h.pot; omega⟩
theorem KeepF.decide {P : (Nat → Bool) → Prop} {n q B : Nat} {cs : List (List Int)} {F : List Nat} {S : Sol} (hdet : DetF P n cs F) (hB : Base P S B) (hSn : S.n = n) (hh : S.head = S.tr.length) (hc : ∀ c ∈ cs, Cov S c) (h : KeepF n F S q) (hd : S.decide.2 = true) : KeepF n F S.decide.1 q := by
 obtain ⟨p, p1, p2, e, hp, sw, calm, htr⟩ := (decide_calm hB.sw hB.calm hB.hst hB.n1 hB.n2).2 hd
 have hnx : S.decide.1.next = p := by rw [e]; rfl
 have hpf : p ∈ F := hdet S B p hB hSn hh hc p1 (by omega) (fun v v1 v2 => by
  have h1 := calm.inv.nxt v v1 (by omega)
  rw [e] at h1
  have h2 : (S.val.set (-(p : Int)).natAbs (Sol.sgn (-(p : Int)))).getD v 0 ≠ 0 := h1
  rw [Int.natAbs_neg, Int.natAbs_natCast, getD_set _ _ _ _ _ (by rw [hB.sw.len.val]; omega), if_neg (by omega)] at h2
  exact h2) hp
 rw [e] at sw ⊢
 refine ⟨hSn, fun s hs => ?_, by rw [decide_potF F sw hpf hB.hst]; exact h.pot⟩
 have htl : ((S.start p).set (-(p : Int)) (-1)).tr.length = S.tr.length + 1 := by simp [Sol.set, Sol.start]
 rw [htl]
 rcases List.mem_append.1 (show s ∈ S.st ++ [S.tr.length] from hs) with h5 | h5
 ·obtain ⟨h1, h2⟩ := h.st s h5
  exact ⟨by omega, by rw [lit_set, if_pos (show s < (S.start p).tr.length from h1)]; exact h2⟩
 ·rw [List.mem_singleton.1 h5]
  exact ⟨by omega, by rw [lit_set, if_neg (show ¬ S.tr.length < (S.start p).tr.length from Nat.lt_irrefl _), if_pos (show S.tr.length = (S.start p).tr.length from rfl), Int.natAbs_neg, Int.natAbs_natCast]; exact hpf⟩
theorem KeepF.heed {P : (Nat → Bool) → Prop} {n q B k : Nat} {F : List Nat} {S : Sol} {c : List Int} {d : Nat} (hB : Bad P S B k) (h : KeepF n F S q) (hL : Lesson S c d) (h1 : c = S.refuted) (h2 : d = S.st.length - 1) : KeepF n F ((S.back d).heed c) (q + 1) := by
 have hdl := hL.dl
 have hb : Bk S d (S.back d) := (back_calm hB.sw hB.con.inv hB.con.wat hB.con.pro hB.hst hB.hsh hdl).2
 obtain ⟨f1, f2, f3⟩ := heed_st (S.back d) c
 have hcF : (c.getD 0 0).natAbs ∈ F := by
  rw [h1, refuted_first (by omega), Int.natAbs_neg]
  exact (h.st _ (gtD_mem (by omega))).2
 refine ⟨f3.trans (hb.n.trans h.n), fun s hs => ?_, by have := back_potF (c := c) F hB.con.inv.sts (by omega) (fun s hs => (h.st s hs).1) hb hcF; have := h.pot; omega⟩
 rw [f1, hb.st] at hs
 obtain ⟨r, hr, e⟩ := mem_getD (d := 0) hs
 have hr2 : r < d := by have : r < (S.st.take d).length := hr; simp at this; omega
 rw [take_gtD _ _ hr2] at e
 have hlt := hB.con.inv.sts r d hr2 hdl
 rw [e] at hlt
 rw [f2, hb.trl]
 refine ⟨by omega, ?_⟩
 rw [heed_lit, hb.trl, if_pos hlt, hb.lits s (by rw [hb.trl]; exact hlt)]
 exact (h.st s (List.mem_of_mem_take hs)).2
theorem KeepF.zero {n : Nat} {F : List Nat} {S : Sol} (h1 : S.n = n) (h2 : S.st = []) : KeepF n F S 0 := by
 refine ⟨h1, fun s hs => by rw [h2] at hs; simp at hs, ?_⟩
 unfold Sol.potF
 rw [h2]
 have := Nat.pow_le_pow_right (n := 2) (by decide) (Nat.sub_le F.length (S.cntF F S.tr.length))
 simp only [List.map_nil, List.sum_nil]
 omega

def negC (g : LGraph) (o : Int) (m : Nat) : List (List Int) := (List.range m).map fun t => [-(ofL o ((t * varsN g : Nat) : Int))]
theorem negC_next (g : LGraph) (o : Int) (m : Nat) : negC g o (m + 1) = negC g o m ++ [[-(ofL o ((m * varsN g : Nat) : Int))]] := by simp [negC, List.range_succ]
def preC (g : LGraph) (o : Int) (free : Bool) (k m : Nat) : List (List Int) := frmC g free k ++ if free = true then negC g o m else []
def withC (g : LGraph) (o : Int) (free : Bool) (k : Nat) : List (List Int) := preC g o free k (k - 1) ++ [[ofL o (((k - 1) * varsN g : Nat) : Int)]]
theorem withC_mem {g : LGraph} {o : Int} {free : Bool} {k : Nat} {c : List Int} : c ∈ withC g o free k ↔ c ∈ frmC g free k ∨ (free = true ∧ ∃ t, t < k - 1 ∧ c = [-(ofL o ((t * varsN g : Nat) : Int))]) ∨ c = [ofL o (((k - 1) * varsN g : Nat) : Int)] := by
 unfold withC preC negC
 rw [List.mem_append, List.mem_append, List.mem_singleton, or_assoc]
 refine or_congr Iff.rfl (or_congr ?_ Iff.rfl)
 split
 ·rename_i h
  rw [List.mem_map]
  constructor
  ·rintro ⟨t, h1, h2⟩
   exact ⟨h, t, List.mem_range.1 h1, h2.symm⟩
  ·rintro ⟨_, t, h1, h2⟩
   exact ⟨t, List.mem_range.2 h1, h2.symm⟩
 ·rename_i h
  constructor
  ·intro h2; simp at h2
  ·rintro ⟨h2, _⟩; exact absurd h2 h
theorem withC_len (g : LGraph) (o : Int) (free : Bool) (k : Nat) : (withC g o free k).length ≤ k * (1 + 3 * g.ands.length + 2 * g.regs.length) + k + 1 := by
 unfold withC preC negC
 have := frmC_len g free k
 simp only [List.length_append, List.length_singleton]
 split
 ·simp only [List.length_map, List.length_range]; omega
 ·simp; omega
theorem lit_one {M : Nat → Bool} {base : Nat} {o : Int} (h : 0 ≤ o) : HoldsC M [ofL o (base : Int)] ↔ lbit (nodeM M base) o = true := by
 simp only [HoldsC, List.mem_singleton, exists_eq_left]
 exact ofL_hl h
theorem lit_non {M : Nat → Bool} {base : Nat} {o : Int} (h : 0 ≤ o) : HoldsC M [-(ofL o (base : Int))] ↔ lbit (nodeM M base) o = false := by
 simp only [HoldsC, List.mem_singleton, exists_eq_left]
 rw [hl_neg (ofL_ne h), ofL_hl h]
 simp
theorem with_sat {g : LGraph} (hg : GraphOk g) {o : Int} (ho : 0 ≤ o) {free : Bool} {k : Nat} {M : Nat → Bool} : (∀ c ∈ withC g o free k, HoldsC M c) ↔ FrmSat g free k M ∧ (free = true → ∀ t, t < k - 1 → lbit (nodeM M (t * varsN g)) o = false) ∧ lbit (nodeM M ((k - 1) * varsN g)) o = true := by
 constructor
 ·intro h
  exact ⟨(frm_sat hg).1 fun c hc => h c (withC_mem.2 (.inl hc)), fun hf t ht => (lit_non ho).1 (h _ (withC_mem.2 (.inr (.inl ⟨hf, t, ht, rfl⟩)))), (lit_one ho).1 (h _ (withC_mem.2 (.inr (.inr rfl))))⟩
 ·rintro ⟨h1, h2, h3⟩ c hc
  rcases withC_mem.1 hc with hc | ⟨hf, t, ht, rfl⟩ | rfl
  ·exact (frm_sat hg).2 h1 c hc
  ·exact (lit_non ho).2 (h2 hf t ht)
  ·exact (lit_one ho).2 h3
theorem withC_in {g : LGraph} (hg : GraphOk g) {o : Int} (ho : 0 ≤ o) (ho2 : o < 2 * ((varsN g : Nat) : Int)) {free : Bool} {k : Nat} (hk : 0 < k) {c : List Int} (h : c ∈ withC g o free k) : 0 < c.length ∧ c.length ≤ 12 ∧ ∀ x ∈ c, LitOk (k * varsN g) x := by
 have lit : ∀ t, t < k → LitOk (k * varsN g) (ofL o ((t * varsN g : Nat) : Int)) := fun t ht => by
  have hk2 : (t + 1) * varsN g ≤ k * varsN g := Nat.mul_le_mul_right _ (by omega)
  rw [Nat.succ_mul] at hk2
  unfold ofL
  split
  ·exact ⟨by omega, by omega⟩
  ·exact ⟨by omega, by omega⟩
 rcases withC_mem.1 h with hc | ⟨hf, t, ht, rfl⟩ | rfl
 ·exact frm_in hg hc
 ·refine ⟨by simp, by simp, fun x hx => ?_⟩
  rw [List.mem_singleton] at hx
  subst hx
  have := lit t (by omega)
  exact ⟨by have := this.1; omega, by rw [Int.natAbs_neg]; exact this.2⟩
 ·refine ⟨by simp, by simp, fun x hx => ?_⟩
  rw [List.mem_singleton] at hx
  subst hx
  exact lit _ (by omega)
def freeV (g : LGraph) (free : Bool) (k : Nat) : List Nat := (List.range (g.inn.length * k)).map (inV g) ++ if free = true then (List.range g.regs.length).map fun i => 2 + g.inn.length + i else []
theorem freeV_len (g : LGraph) (free : Bool) (k : Nat) : (freeV g free k).length = g.inn.length * k + if free = true then g.regs.length else 0 := by
 unfold freeV
 rw [List.length_append]
 split <;> simp
theorem with_det {g : LGraph} (hg : GraphOk g) {o : Int} {P : (Nat → Bool) → Prop} {free : Bool} {k : Nat} : DetF P (k * varsN g) (withC g o free k) (freeV g free k) := fun S B p hB hSn hh hc p1 p2 hlow hp => by
 obtain ⟨t, q, ht, hq, rfl⟩ := split_var (n := varsN g) (by unfold varsN; omega) p1 p2
 by_cases e : 1 ≤ q ∧ q < 1 + g.inn.length
 ·obtain ⟨i, rfl⟩ : ∃ i, q = 1 + i := ⟨q - 1, by omega⟩
  have hi : i < g.inn.length := by omega
  have hv : inV g (t * g.inn.length + i) = t * varsN g + 1 + (1 + i) := by unfold inV; rw [(flat_div hi).1, (flat_div hi).2]; omega
  exact List.mem_append.2 (.inl (List.mem_map.2 ⟨t * g.inn.length + i, List.mem_range.2 (flat_lt ht hi), hv⟩))
 ·by_cases e2 : free = true ∧ t = 0 ∧ 1 + g.inn.length ≤ q ∧ q < 1 + g.inn.length + g.regs.length
  ·obtain ⟨e3, e4, e5, e6⟩ := e2
   subst e4
   refine List.mem_append.2 (.inr ?_)
   rw [if_pos e3]
   exact List.mem_map.2 ⟨q - (1 + g.inn.length), List.mem_range.2 (by omega), by omega⟩
  ·exact absurd hp (frm_loc hg hB hh (by omega) (fun c hc2 => hc c (withC_mem.2 (.inl hc2))) ht hq e (fun h1 h2 h3 => e2 ⟨h1, h2, h3⟩) (fun v v1 v2 => hlow v v1 v2))
def hitB (g : LGraph) (out : Nat) (s : List Bool) (tr : List (List Bool)) : Prop := ((runB g s tr).getD (tr.length - 1) []).getD out false = true
abbrev Rows (g : LGraph) (tr : List (List Bool)) : Prop := ∀ r ∈ tr, r.length = g.inn.length
def Reach (g : LGraph) (out t : Nat) : Prop := ∃ tr, tr.length = t ∧ Rows g tr ∧ hitB g out (initG g) tr
abbrev outL (g : LGraph) (out : Nat) : Int := g.outs.getD out 0
theorem outL_ok {g : LGraph} (hg : GraphOk g) {out : Nat} (h : out < g.outs.length) : 0 ≤ outL g out ∧ outL g out < 2 * ((varsN g : Nat) : Int) := by
 have := hg.outs _ (gtD_mem (d := 0) h)
 unfold varsN
 exact ⟨this.1, by have := this.2; unfold outL; omega⟩
theorem insK_rows (g : LGraph) (k : Nat) (M : Nat → Bool) : (insK g k M).length = k ∧ Rows g (insK g k M) := by
 refine ⟨by simp [insK], fun r hr => ?_⟩
 obtain ⟨t, _, rfl⟩ := List.mem_map.1 hr
 exact insM_len g M t
theorem outsM_get {g : LGraph} (M : Nat → Bool) (t : Nat) {out : Nat} (h : out < g.outs.length) : (outsM g M t).getD out false = lbit (nodeM M (t * varsN g)) (outL g out) := by
 rw [List.getD_eq_getElem?_getD, List.getElem?_map, getD_some (0 : Int) h]
 rfl
theorem frm_hit {g : LGraph} (hg : GraphOk g) {free : Bool} {k : Nat} {M : Nat → Bool} (h : FrmSat g free k M) {out : Nat} (ho : out < g.outs.length) {t : Nat} (ht : t < k) : ((runB g (stsM g M 0) (insK g k M)).getD t []).getD out false = lbit (nodeM M (t * varsN g)) (outL g out) := by
 rw [frm_run hg h, range_getD _ _ _ ht, outsM_get M t ho]
theorem with_run {g : LGraph} (hg : GraphOk g) {out : Nat} (ho : out < g.outs.length) {k : Nat} (hk : 0 < k) {M : Nat → Bool} (h : ∀ c ∈ withC g (outL g out) false k, HoldsC M c) : hitB g out (initG g) (insK g k M) := by
 obtain ⟨h1, _, h3⟩ := (with_sat hg (outL_ok hg ho).1).1 h
 unfold hitB
 rw [(insK_rows g k M).1, ← h1.init hk rfl, frm_hit hg h1 ho (by omega)]
 exact h3
theorem insK_play {g : LGraph} (hg : GraphOk g) {s : List Bool} (hs : s.length = g.regs.length) {tr : List (List Bool)} (hr : Rows g tr) : insK g tr.length (playM g s tr) = tr := by
 refine ext_getD [] (by simp [insK]) fun t ht => ?_
 have ht2 : t < tr.length := by simpa [insK] using ht
 have e : (insK g tr.length (playM g s tr)).getD t [] = insM g (playM g s tr) t := range_getD _ _ _ ht2
 rw [e]
 exact (play_ins g s tr hg hs t (hr _ (gtD_mem ht2))).1
theorem reach_with {g : LGraph} (hg : GraphOk g) {out : Nat} (ho : out < g.outs.length) {k : Nat} (hk : 0 < k) (h : Reach g out k) : ∃ M, ∀ c ∈ withC g (outL g out) false k, HoldsC M c := by
 obtain ⟨tr, rfl, hr, hh⟩ := h
 have hi : (initG g).length = g.regs.length := by simp
 have hf : FrmSat g false tr.length (playM g (initG g) tr) := play_sat hg hi (fun _ => rfl) (fun t ht => hr _ (gtD_mem ht))
 refine ⟨playM g (initG g) tr, (with_sat hg (outL_ok hg ho).1).2 ⟨hf, fun h => by simp at h, ?_⟩⟩
 have e := frm_hit hg hf ho (t := tr.length - 1) (by omega)
 rw [insK_play hg hi hr, hf.init hk rfl] at e
 rw [← e]
 exact hh
theorem runB_row (g : LGraph) : ∀ (tr : List (List Bool)) (s : List Bool), ∀ r ∈ runB g s tr, r.length = g.outs.length
 | [], s, r, h => by simp [runB] at h
 | x :: t, s, r, h => by
  rw [runB] at h
  rcases List.mem_cons.1 h with rfl | h
  ·simp
  ·exact runB_row g t _ r h
theorem runB_take (g : LGraph) : ∀ (tr : List (List Bool)) (s : List Bool) (m : Nat), runB g s (tr.take m) = (runB g s tr).take m
 | [], s, m => by simp [runB]
 | x :: t, s, 0 => by simp [runB]
 | x :: t, s, m + 1 => by rw [List.take_succ_cons, runB, runB, List.take_succ_cons, runB_take g t]
theorem hit_reach {g : LGraph} {out : Nat} {tr : List (List Bool)} (hr : Rows g tr) {t : Nat} (ht : t < tr.length) (h : ((runB g (initG g) tr).getD t []).getD out false = true) : Reach g out (t + 1) := by
 have hl : (tr.take (t + 1)).length = t + 1 := by rw [List.length_take]; omega
 refine ⟨tr.take (t + 1), hl, fun r hr2 => hr r (List.mem_of_mem_take hr2), ?_⟩
 unfold hitB
 rw [hl, Nat.add_sub_cancel, runB_take]
 have e : ((runB g (initG g) tr).take (t + 1)).getD t [] = (runB g (initG g) tr).getD t [] := by
  simp only [List.getD_eq_getElem?_getD]
  rw [List.getElem?_take, if_pos (by omega)]
 rw [e]
 exact h

theorem bytes_name (l : List UInt8) (h1 : 1 ≤ l.length) (h2 : l.length ≤ 128) (h3 : ∀ b ∈ l, 33 ≤ b.toNat ∧ b.toNat ≤ 126) : NameOk ⟨l.toArray⟩ := ⟨by simpa [ByteArray.size] using h1, by simpa [ByteArray.size] using h2, fun b hb => h3 b (by simpa using hb)⟩

set_option maxRecDepth 100000
set_option maxHeartbeats 40000000
theorem csN_next (g : LGraph) (base : Int) (k : Nat) : csN g base (k + 1) = csN g base k ++ and3 g base k := rfl
theorem Of_lit (l base : Int) (h0 : 0 ≤ l) (h1 : l ≤ 1000000) (b0 : 0 ≤ base) (b1 : base ≤ 1000000) (up : Frs) : ACalls Try.prog 28 [.i l, .i base] up fun v u => v = .i (ofL l base) ∧ u = up := by
 have d0 : decide (l < 0) = false := decide_eq_false (by omega)
 have hm := tmod2 l h0
 have wm : IntKind.i64.wrap (l % 2) = l % 2 := wrap64 (by omega)
 have hd := tdiv2 l h0 (by omega)
 have w1 : IntKind.i64.wrap (base + 1) = base + 1 := wrap64 (by omega)
 have w2 : IntKind.i64.wrap (base + 1 + l / 2) = base + 1 + l / 2 := wrap64 (by omega)
 have w3 : IntKind.i64.wrap (0 - (base + 1 + l / 2)) = -(base + 1 + l / 2) := by rw [wrap64 (by omega)]; omega
 refine ACalls.code Try.func28 rfl 23 rfl (by simp) [.tmp 4] rfl fun Q hQ => ?_
 simp only [ups, PV.up, argEnv]
 have ft := ai ty_3 (ai ty_4 (ai ty_55 trivial))
 refine Run.seq ?_
 have fx := ai w3 (ai w2 (ai w1 (ai hd (ai wm (ai hm (ai d0 ft))))))
 refine Run.go ?_
 refine End.kp [0, 1] ?_
 refine Run.seq ?_
 refine Run.block ?_
 refine Run.seq ?_
 refine Run.go ?_
 refine End.kp [0, 1, 5] ?_
 refine Run.cond _ rfl (fun hb => ?_) (fun hb => ?_)
 ·have hb2 := hb
  simp at hb
 ·have hb2 := hb
  refine Run.seq ?_
  refine Run.go ?_
  refine End.kp [0, 1, 8] ?_
  refine Run.cond _ rfl (fun hb => ?_) (fun hb => ?_)
  ·have hb3 : l % 2 = 1 := by simpa using hb
   refine Run.seq ?_
   refine Run.go ?_
   refine End.kp [4] ?_
   refine Run.ret (hQ _ _ ⟨.inr rfl, _, rfl, _, rfl, ?_⟩)
   exact ⟨by rw [ofL, if_pos hb3], rfl⟩
  ·have hb3 : ¬ (l % 2 = 1) := by simpa using hb
   refine Run.skip ?_
   refine End.blk ?_
   refine End.kp [0, 1] ?_
   refine Run.seq ?_
   refine Run.go ?_
   refine End.kp [4] ?_
   refine Run.ret (hQ _ _ ⟨.inr rfl, _, rfl, _, rfl, ?_⟩)
   exact ⟨by rw [ofL, if_neg hb3], rfl⟩
theorem clausesG_ok (g : LGraph) (hg : GraphOk g) (base : Nat) (hb : base ≤ 100000) (up : Frs) : ACalls Try.prog 42 [g.pv, .i (base : Nat)] up fun v u => v = .im (.sl (clss (csN g base g.ands.length))) ∧ u = up := by
 obtain ⟨z1, z2, z3, z4, z5⟩ := hg.small
 have w1 : IntKind.i64.wrap ((base : Int) + 1) = (base : Int) + 1 := wrap64 (by omega)
 have w2 : IntKind.i64.wrap (0 - ((base : Int) + 1)) = -((base : Int) + 1) := by rw [wrap64 (by omega)]; omega
 refine ACalls.code Try.func42 rfl 60 rfl (by simp) [.tmp 4] rfl fun Q hQ => ?_
 simp only [ups, PV.up, argEnv]
 have ft := ai ty_2 (ai ty_3 (ai ty_22 (ai ty_28 (ai ty_31 (ai ty_35 (ai ty_55 (ai ty_59 trivial)))))))
 refine Run.seq ?_
 have fx := ai (@List.length_map.{0, 0}) (ai w2 (ai w1 ft))
 refine Run.go ?_
 refine End.kp [1, 2] ?_
 refine Run.seq ?_
 refine Run.region rfl fun K hK => GOps.simK 3 ?_
 refine GOps.litF (rows := ints [-((base : Int) + 1)]) ?_ rfl rfl (by simp only [litF, fx] <;> rfl)
 refine GOps.sim ?_
 refine GOps.done (hK _ ?_); clear hK K
 refine End.kp [1, 2, 5] ?_
 refine Run.seq ?_
 have fx := ai (@List.length_map.{0, 0}) (ai w2 (ai w1 ft))
 refine Run.region rfl fun K hK => GOps.sim ?_
 refine GOps.call rfl rfl rfl rfl (by kernel_rfl) (ACalls.sim ?_)
 refine (GFirst_ok g hg.small _).mono fun v u hv => ?_
 obtain ⟨rfl, rfl⟩ := hv
 refine ⟨_, _, rfl, GOps.sim ?_⟩
 refine GOps.done (hK _ ?_); clear hK K
 refine End.kp [1, 2, 5, 6] ?_
 refine Run.seq ?_
 refine Run.seq ?_
 refine Run.go ?_
 refine End.kp [1, 5, 6, 20, 21, 22] ?_
 refine Run.block ?_
 refine Run.ghost (Ghost.fm [(1, .i (base : Nat)), (5, .ms 0 1 1), (6, .i (1 + g.inn.length + g.regs.length)), (20, .im (.sl (g.ands.map nd))), (21, .i g.ands.length), (22, .i (0 : Nat))] 2) ?_
 refine Run.loop (fun m st => ∃ i : Nat, m = g.ands.length - i ∧ i ≤ g.ands.length ∧ st = ⟨[(1, .i (base : Nat)), (5, .ms 0 1 (csN g base i).length), (6, .i (1 + g.inn.length + g.regs.length)), (20, .im (.sl (g.ands.map nd))), (21, .i g.ands.length), (22, .i (i : Nat))], [.box [.im (.sl (strs g.inn)), .im (.sl (strs g.out)), .im (.sl (g.regs.map LReg.im)), .im (.sl (g.ands.map nd)), .im (.sl (ints g.outs))], .row 22 1 (clss (csN g base i)) 0], up⟩) g.ands.length ⟨0, rfl, by omega, rfl⟩ fun m st hI => ?_
 obtain ⟨i, hm, hi, rfl⟩ := hI
 subst m
 have hcl := csN_len g base i
 have hcc : (clss (csN g base i)).length = (csN g base i).length := by simp
 have hap : ((csN g base i).length + 3) * 24 ≤ 140737488355328 := by omega
 refine Run.seq ?_
 have fx := ai hap (ai hcc (ai (@List.length_map.{0, 0}) (ai w2 (ai w1 ft))))
 refine Run.go ?_
 refine End.kp [1, 5, 6, 20, 21, 22, 23] ?_
 refine Run.seq ?_
 refine Run.cond _ rfl (fun hb => ?_) (fun hb => ?_)
 ·have hb2 := of_decide_eq_true hb
  have hin : i < g.ands.length := by omega
  have wi := wsucc hin (by omega)
  obtain ⟨p, hpi, hpm, hp⟩ := node_at g.ands i hin
  obtain ⟨⟨p0, p1⟩, p2, p3⟩ := hg.ands i p hpi
  have hpd : g.ands.getD i (0, 0) = p := by rw [List.getD_eq_getElem?_getD, hpi]; rfl
  have hil : (i : Int) < (g.ands.length : Int) := by omega
  have x1 : IntKind.i64.wrap ((base : Int) + 1 + (1 + g.inn.length + g.regs.length)) = (base : Int) + 1 + (1 + g.inn.length + g.regs.length) := wrap64 (by omega)
  have x2 : IntKind.i64.wrap ((base : Int) + 1 + (1 + g.inn.length + g.regs.length) + (i : Int)) = andN g base i := by rw [wrap64 (by omega)]; unfold andN; omega
  have x3 : IntKind.i64.wrap (0 - andN g base i) = -(andN g base i) := by unfold andN; rw [wrap64 (by omega)]; omega
  have x4 : IntKind.i64.wrap (0 - ofL p.1 base) = -(ofL p.1 base) := by unfold ofL; split <;> (rw [wrap64 (by omega)]; omega)
  have x5 : IntKind.i64.wrap (0 - ofL p.2 base) = -(ofL p.2 base) := by unfold ofL; split <;> (rw [wrap64 (by omega)]; omega)
  refine Run.skip ?_
  refine End.kp [1, 5, 6, 20, 21, 22] ?_
  refine Run.seq ?_
  refine Run.block ?_
  refine Run.seq ?_
  have fx := ai zTn (ai zNn (ai x5 (ai x4 (ai x3 (ai x2 (ai x1 (ai hil (ai hp (ai wi fx)))))))))
  refine Run.go ?_
  refine End.kp [1, 5, 6, 7, 8, 20, 21, 22] ?_
  refine Run.seq ?_
  refine Run.drawA fun K hK => ?_
  refine DOps.sim ?_
  refine DOps.call (.i (ofL p.1 base)) [] [] rfl rfl rfl rfl (by kernel_rfl) (by simp [Agree]) (fun u hu => Of_lit p.1 base p0 (by omega) (by omega) (by omega) u) ?_
  refine DOps.sim ?_
  refine DOps.call (.i (ofL p.2 base)) [] [] rfl rfl rfl rfl (by kernel_rfl) (by simp [Agree]) (fun u hu => Of_lit p.2 base p2 (by omega) (by omega) (by omega) u) ?_
  refine DOps.sim ?_
  refine DOps.nil ?_ (hK _ ?_)
  ·rfl
  clear hK K
  refine End.kp [1, 5, 6, 9, 10, 11, 20, 21, 22] ?_
  refine Run.region rfl fun K hK => GOps.simK 4 ?_
  refine GOps.litF (rows := ints [-(andN g base i), ofL p.1 base]) ?_ rfl rfl (by simp only [litF, fx] <;> rfl)
  refine GOps.simK 3 ?_
  refine GOps.litF (rows := ints [-(andN g base i), ofL p.2 base]) ?_ rfl rfl (by simp only [litF, fx] <;> rfl)
  refine GOps.simK 5 ?_
  refine GOps.litF (rows := ints [andN g base i, -(ofL p.1 base), -(ofL p.2 base)]) ?_ rfl rfl (by simp only [litF, fx] <;> rfl)
  refine GOps.litF (rows := clss [[-(andN g base i), ofL p.1 base], [-(andN g base i), ofL p.2 base], [andN g base i, -(ofL p.1 base), -(ofL p.2 base)]]) ?_ rfl rfl (by simp only [litF, fx] <;> rfl)
  refine GOps.sim ?_
  refine GOps.done (hK _ ?_); clear hK K
  refine End.blk ?_
  refine End.kp [1, 5, 6, 20, 21, 22] ?_
  have fx := ai zTn (ai zNn (ai x5 (ai x4 (ai x3 (ai x2 (ai x1 (ai hil (ai hp (ai wi (ai hap (ai hcc (ai (@List.length_map.{0, 0}) (ai w2 (ai w1 ft))))))))))))))
  refine Run.go ?_
  refine End.lp ?_
  refine ⟨g.ands.length - (i + 1), _, by omega, Ghost.fm [(1, .i (base : Nat)), (5, .ms 0 1 ((csN g base i).length + 3)), (6, .i (1 + g.inn.length + g.regs.length)), (20, .im (.sl (g.ands.map nd))), (21, .i g.ands.length), (22, .i (i + 1 : Nat))] 2, i + 1, rfl, by omega, ?_⟩
  have e1 : clss (csN g base (i + 1)) = clss (csN g base i) ++ clss [[-(andN g base i), ofL p.1 base], [-(andN g base i), ofL p.2 base], [andN g base i, -(ofL p.1 base), -(ofL p.2 base)]] := by
   rw [csN_next, and3, hpd]
   exact List.map_append ..
  have e2 : (csN g base (i + 1)).length = (csN g base i).length + 3 := by rw [csN_next, List.length_append]; rfl
  rw [e1, e2]
  rfl
 ·have hb2 := of_decide_eq_false hb
  have hie : i = g.ands.length := by omega
  rw [hie] at hcc ⊢
  refine Run.exit rfl ?_
  refine End.kp [5] ?_
  refine Run.seq ?_
  refine Run.ghost (Ghost.shut (t := 5) (j := 1) rfl rfl hcc) ?_
  simp only [eput, edel]
  have fx := ai hap (ai hcc (ai (@List.length_map.{0, 0}) (ai w2 (ai w1 ft))))
  refine Run.go ?_
  refine End.kp [4] ?_
  refine Run.ret (hQ _ _ ⟨.inr rfl, _, rfl, _, rfl, ?_⟩)
  exact ⟨rfl, rfl⟩

set_option maxRecDepth 100000
set_option maxHeartbeats 40000000
theorem clss_all (l : List (List Int)) : ((clss l).all fun r => r.length == 1) = true := by
 rw [List.all_eq_true]
 intro r hr
 obtain ⟨x, _, rfl⟩ := List.mem_map.1 hr
 rfl
theorem regC_pos {g : LGraph} {free : Bool} {t i : Nat} (h : 0 < t) : regC g free t i = [[-(regV g t i), ofL (regD g i).next (((t - 1) * varsN g : Nat) : Int)], [regV g t i, -(ofL (regD g i).next (((t - 1) * varsN g : Nat) : Int))]] := by
 cases t with
 | zero => exact absurd h (Nat.lt_irrefl _)
 | succ t => rfl
def frmL (g : LGraph) (free : Bool) (t i : Nat) : List (List Int) := frmC g free t ++ csN g ((t * varsN g : Nat) : Int) g.ands.length ++ regsC g free t i
theorem frmL_zero (g : LGraph) (free : Bool) (t : Nat) : frmL g free t 0 = frmC g free t ++ csN g ((t * varsN g : Nat) : Int) g.ands.length := by unfold frmL regsC; simp
theorem frmL_next (g : LGraph) (free : Bool) (t i : Nat) : frmL g free t (i + 1) = frmL g free t i ++ regC g free t i := by
 unfold frmL
 rw [regsC, List.append_assoc, List.append_assoc, List.append_assoc]
theorem frmL_len (g : LGraph) (free : Bool) (t i : Nat) (h : i ≤ g.regs.length) : (frmL g free t i).length ≤ t * (1 + 3 * g.ands.length + 2 * g.regs.length) + (1 + 3 * g.ands.length + 2 * g.regs.length) := by
 unfold frmL
 rw [List.length_append, List.length_append, csN_len]
 have := frmC_len g free t
 have := regsC_len g free t i
 omega
theorem FramesX_ok (g : LGraph) (hg : GraphOk g) (k : Nat) (hk : k ≤ 64) (hkn : k * varsN g ≤ 20000) (free : Bool) (f : List AObj) (rest : Frs) : ACalls Try.prog 24 [g.pv, .i (k : Nat), .im (.bool free)] (f :: rest) fun v u => v = .tup [.ms 0 (f.length + 1) (frmC g free k).length, .i 0] ∧ u = (f ++ [.box [.im (.sl (strs g.inn)), .im (.sl (strs g.out)), .im (.sl (g.regs.map LReg.im)), .im (.sl (g.ands.map nd)), .im (.sl (ints g.outs))], .row 22 1 (clss (frmC g free k)) 0]) :: rest := by
 obtain ⟨z1, z2, z3, z4, z5⟩ := hg.small
 have d1 : decide ((k : Int) < 0) = false := decide_eq_false (by omega)
 have d2 : decide ((64 : Int) < (k : Int)) = false := decide_eq_false (by omega)
 have hnod : (1 + (g.inn.length : Int) + g.regs.length + g.ands.length) = ((varsN g : Nat) : Int) := by unfold varsN; omega
 obtain ⟨N, hN⟩ : ∃ N, N = varsN g := ⟨_, rfl⟩
 rw [← hN] at hnod hkn
 have hNs : N ≤ 20000 := by rw [hN]; unfold varsN; omega
 have w1 : IntKind.i64.wrap ((k : Int) * (N : Int)) = ((k * N : Nat) : Int) := by rw [← Int.natCast_mul, wrap64 (by omega)]
 have d3 : decide ((20000 : Int) < ((k * N : Nat) : Int)) = false := decide_eq_false (by omega)
 have hsz : k * (1 + 3 * g.ands.length + 2 * g.regs.length) ≤ 64 * 20000 := Nat.mul_le_mul hk (by omega)
 refine ACalls.codeX Try.func24 rfl 102 rfl (by simp) [.tmp 6, .tmp 7] rfl fun Q hQ => ?_
 simp only [ups, PV.up, argEnv]
 have ft := ai ty_2 (ai ty_3 (ai ty_4 (ai ty_9 (ai ty_22 (ai ty_26 (ai ty_27 (ai ty_31 (ai ty_35 (ai ty_36 (ai ty_55 (ai ty_57 trivial)))))))))))
 refine Run.seq ?_
 have fx := ai (@List.length_map.{0, 0}) (ai d3 (ai w1 (ai d2 (ai d1 ft))))
 refine Run.go ?_
 refine End.kp [1, 2, 3] ?_
 refine Run.seq ?_
 refine Run.seq ?_
 refine Run.region rfl fun K hK => GOps.sim ?_
 refine GOps.call rfl rfl rfl rfl (by kernel_rfl) (ACalls.sim ?_)
 refine (Check_ok g hg _).mono fun v u hv => ?_
 obtain ⟨rfl, rfl⟩ := hv
 refine ⟨_, _, rfl, GOps.sim ?_⟩
 refine GOps.done (hK _ ?_); clear hK K
 refine End.kp [1, 2, 3, 8] ?_
 refine Run.seq ?_
 refine Run.go ?_
 refine End.kp [1, 2, 3, 8, 19] ?_
 refine Run.cond _ rfl (fun hb => ?_) (fun hb => ?_)
 ·have hb2 := hb
  simp at hb
 ·have hb2 := hb
  refine Run.skip ?_
  refine End.kp [1, 2, 3] ?_
  refine Run.seq ?_
  have fx := ai (@List.length_map.{0, 0}) (ai d3 (ai w1 (ai d2 (ai d1 ft))))
  refine Run.region rfl fun K hK => GOps.sim ?_
  refine GOps.call rfl rfl rfl rfl (by kernel_rfl) (ACalls.sim ?_)
  refine (GNodes_ok g hg.small _).mono fun v u hv => ?_
  obtain ⟨rfl, rfl⟩ := hv
  rw [hnod]
  refine ⟨_, _, rfl, GOps.sim ?_⟩
  refine GOps.done (hK _ ?_); clear hK K
  refine End.kp [1, 2, 3, 9] ?_
  refine Run.seq ?_
  refine Run.seq ?_
  refine Run.go ?_
  refine End.kp [1, 2, 3, 9, 28] ?_
  refine Run.cond _ rfl (fun hb => ?_) (fun hb => ?_)
  ·have hb3 := hb
   simp at hb
  ·have hb3 := hb
   refine Run.skip ?_
   refine End.kp [1, 2, 3, 9] ?_
   refine Run.seq ?_
   refine Run.seq ?_
   have fx := ai (@List.length_map.{0, 0}) (ai d3 (ai w1 (ai d2 (ai d1 ft))))
   refine Run.go ?_
   refine End.kp [1, 2, 3, 9, 32] ?_
   refine Run.cond _ rfl (fun hb => ?_) (fun hb => ?_)
   ·have hb4 := hb
    simp at hb
   ·have hb4 := hb
    refine Run.skip ?_
    refine End.kp [1, 2, 3, 9] ?_
    refine Run.seq ?_
    refine Run.go ?_
    refine End.kp [1, 2, 3, 9, 10] ?_
    refine Run.seq ?_
    refine Run.seq ?_
    refine Run.go ?_
    refine End.kp [2, 3, 9, 10, 33, 34] ?_
    refine Run.block ?_
    refine Run.ghost (Ghost.thaw (u := 10) 22 1 (by decide) rfl) ?_
    refine Run.ghost (Ghost.fm [(2, .im (.bool free)), (3, .ptr 0 0 0), (9, .i (N : Nat)), (10, .ms 0 1 0), (33, .i (k : Nat)), (34, .i (0 : Nat))] 2) ?_
    refine Run.loop (fun m st => ∃ t : Nat, m = k - t ∧ t ≤ k ∧ st = ⟨[(2, .im (.bool free)), (3, .ptr 0 0 0), (9, .i (N : Nat)), (10, .ms 0 1 (frmC g free t).length), (33, .i (k : Nat)), (34, .i (t : Nat))], [.box [.im (.sl (strs g.inn)), .im (.sl (strs g.out)), .im (.sl (g.regs.map LReg.im)), .im (.sl (g.ands.map nd)), .im (.sl (ints g.outs))], .row 22 1 (clss (frmC g free t)) 0], f :: rest⟩) k ⟨0, rfl, by omega, rfl⟩ fun m st hI => ?_
    obtain ⟨t, hm, htk, rfl⟩ := hI
    subst m
    have hcc : (clss (frmC g free t)).length = (frmC g free t).length := by simp
    have hlt := frmC_len g free t
    have hsz2 : t * (1 + 3 * g.ands.length + 2 * g.regs.length) ≤ k * (1 + 3 * g.ands.length + 2 * g.regs.length) := Nat.mul_le_mul_right _ htk
    have htn : t * N ≤ k * N := Nat.mul_le_mul_right _ htk
    have hcl := csN_len g ((t * varsN g : Nat) : Int) g.ands.length
    have hap : ((frmC g free t).length + (csN g ((t * varsN g : Nat) : Int) g.ands.length).length) * 24 ≤ 140737488355328 := by omega
    have hcm : (clss (csN g ((t * varsN g : Nat) : Int) g.ands.length)).length = (csN g ((t * varsN g : Nat) : Int) g.ands.length).length := by simp
    have w2 : IntKind.i64.wrap ((t : Int) * (N : Int)) = ((t * N : Nat) : Int) := by rw [← Int.natCast_mul, wrap64 (by omega)]
    refine Run.seq ?_
    have fx := ai hcm (ai w2 (ai hap (ai hcc fx)))
    refine Run.go ?_
    refine End.kp [2, 3, 9, 10, 33, 34, 35] ?_
    refine Run.seq ?_
    refine Run.cond _ rfl (fun hb => ?_) (fun hb => ?_)
    ·have hb5 := of_decide_eq_true hb
     have htk2 : t < k := by omega
     have wt := wsucc htk2 (by omega)
     have hall := clss_all (csN g ((t * varsN g : Nat) : Int) g.ands.length)
     have hcla : ∀ u, ACalls Try.prog 42 [g.pv, .i ((t * N : Nat) : Int)] u fun v u' => v = .im (.sl (clss (csN g ((t * varsN g : Nat) : Int) g.ands.length))) ∧ u' = u := fun u => by rw [hN]; exact clausesG_ok g hg (t * varsN g) (by rw [← hN]; omega) u
     refine Run.skip ?_
     refine End.kp [2, 3, 9, 10, 33, 34] ?_
     refine Run.seq ?_
     refine Run.block ?_
     refine Run.seq ?_
     have fx := ai zTn (ai zNn (ai hall (ai wt fx)))
     refine Run.go ?_
     refine End.kp [2, 3, 9, 10, 11, 33, 34] ?_
     refine Run.seq ?_
     refine Run.region rfl fun K hK => GOps.sim ?_
     refine GOps.call rfl rfl rfl rfl (by kernel_rfl) (ACalls.sim ?_)
     refine (hcla _).mono fun v u hv => ?_
     obtain ⟨rfl, rfl⟩ := hv
     refine ⟨_, _, rfl, GOps.sim ?_⟩
     refine GOps.done (hK _ ?_); clear hK K
     refine End.kp [2, 3, 9, 10, 11, 33, 34] ?_
     refine Run.seq ?_
     refine Run.go ?_
     refine End.kp [2, 3, 9, 10, 11, 33, 34, 45, 46, 47] ?_
     refine Run.block ?_
     refine Run.ghost (Ghost.fm [(2, .im (.bool free)), (3, .ptr 0 0 0), (9, .i (N : Nat)), (10, .ms 0 1 ((frmC g free t).length + (csN g ((t * varsN g : Nat) : Int) g.ands.length).length)), (11, .i (t : Nat)), (33, .i (k : Nat)), (34, .i (t : Nat)), (45, .im (.sl (g.regs.map LReg.im))), (46, .i g.regs.length), (47, .i (0 : Nat))] 2) ?_
     rw [← List.length_append, show clss (frmC g free t) ++ clss (csN g ((t * varsN g : Nat) : Int) g.ands.length) = clss (frmL g free t 0) by rw [frmL_zero]; exact (List.map_append ..).symm, ← frmL_zero]
     refine Run.loop (fun m st => ∃ i : Nat, m = g.regs.length - i ∧ i ≤ g.regs.length ∧ st = ⟨[(2, .im (.bool free)), (3, .ptr 0 0 0), (9, .i (N : Nat)), (10, .ms 0 1 (frmL g free t i).length), (11, .i (t : Nat)), (33, .i (k : Nat)), (34, .i (t : Nat)), (45, .im (.sl (g.regs.map LReg.im))), (46, .i g.regs.length), (47, .i (i : Nat))], [.box [.im (.sl (strs g.inn)), .im (.sl (strs g.out)), .im (.sl (g.regs.map LReg.im)), .im (.sl (g.ands.map nd)), .im (.sl (ints g.outs))], .row 22 1 (clss (frmL g free t i)) 0], f :: rest⟩) g.regs.length ⟨0, rfl, by omega, rfl⟩ fun m st hI => ?_
     obtain ⟨i, hm, hi, rfl⟩ := hI
     subst m
     have hcc2 : (clss (frmL g free t i)).length = (frmL g free t i).length := by simp
     have hlt2 := frmL_len g free t i hi
     have hap2 : ((frmL g free t i).length + 2) * 24 ≤ 140737488355328 := by omega
     have hap1 : ((frmL g free t i).length + 1) * 24 ≤ 140737488355328 := by omega
     refine Run.seq ?_
     have fx := ai hap1 (ai hap2 (ai hcc2 (ai zTn (ai zNn (ai hall (ai wt (ai hcm (ai w2 (ai hap (ai hcc (ai (@List.length_map.{0, 0}) (ai d3 (ai w1 (ai d2 (ai d1 ft)))))))))))))))
     refine Run.go ?_
     refine End.kp [2, 3, 9, 10, 11, 33, 34, 45, 46, 47, 48] ?_
     refine Run.seq ?_
     refine Run.cond _ rfl (fun hb => ?_) (fun hb => ?_)
     ·have hb6 := of_decide_eq_true hb
      have hin : i < g.regs.length := by omega
      have wi := wsucc hin (by omega)
      have hil : (i : Int) < (g.regs.length : Int) := by omega
      obtain ⟨x, hxi, hxm, hx⟩ := reg_at g.regs i hin
      obtain ⟨n0, n1⟩ := hg.regs x hxm
      have hxd : regD g i = x := by rw [regD, List.getD_eq_getElem?_getD, hxi]; rfl
      have v1 : IntKind.i64.wrap (((t * N : Nat) : Int) + 2) = ((t * N : Nat) : Int) + 2 := wrap64 (by omega)
      have v2 : IntKind.i64.wrap (((t * N : Nat) : Int) + 2 + (g.inn.length : Int)) = ((t * N : Nat) : Int) + 2 + (g.inn.length : Int) := wrap64 (by omega)
      have v3 : IntKind.i64.wrap (((t * N : Nat) : Int) + 2 + (g.inn.length : Int) + (i : Int)) = regV g t i := by rw [wrap64 (by omega)]; unfold regV; rw [← hN]
      have v4 : IntKind.i64.wrap (0 - regV g t i) = -(regV g t i) := by unfold regV; rw [← hN, wrap64 (by omega)]; omega
      refine Run.skip ?_
      refine End.kp [2, 3, 9, 10, 11, 33, 34, 45, 46, 47] ?_
      refine Run.seq ?_
      refine Run.block ?_
      refine Run.seq ?_
      have fx := ai strs_len (ai v4 (ai v3 (ai v2 (ai v1 (ai hx (ai hil (ai wi fx)))))))
      refine Run.go ?_
      refine End.kp [2, 3, 9, 10, 11, 12, 13, 33, 34, 45, 46, 47] ?_
      refine Run.seq ?_
      refine Run.go ?_
      refine End.kp [2, 3, 9, 10, 11, 13, 14, 33, 34, 45, 46, 47] ?_
      refine Run.block ?_
      refine Run.seq ?_
      refine Run.go ?_
      refine End.kp [2, 3, 9, 10, 11, 13, 14, 33, 34, 45, 46, 47, 68] ?_
      refine Run.cond _ rfl (fun hb => ?_) (fun hb => ?_)
      ·have hb7 := of_decide_eq_true hb
       have htp : 0 < t := by omega
       have u1 : IntKind.i64.wrap ((t : Int) - 1) = ((t - 1 : Nat) : Int) := by rw [wrap64 (by omega)]; omega
       have htn2 : (t - 1) * N ≤ t * N := Nat.mul_le_mul_right _ (by omega)
       have u2 : IntKind.i64.wrap (((t - 1 : Nat) : Int) * (N : Int)) = (((t - 1) * N : Nat) : Int) := by rw [← Int.natCast_mul, wrap64 (by omega)]
       have u3 : IntKind.i64.wrap (0 - ofL x.next (((t - 1) * N : Nat) : Int)) = -(ofL x.next (((t - 1) * N : Nat) : Int)) := by unfold ofL; split <;> (rw [wrap64 (by omega)]; omega)
       refine Run.seq ?_
       have fx := ai u3 (ai u2 (ai u1 fx))
       refine Run.region rfl fun K hK => GOps.sim ?_
       refine GOps.call rfl rfl rfl rfl (by kernel_rfl) (ACalls.sim ?_)
       refine (Of_lit x.next _ n0 (by omega) (by omega) (by omega) _).mono fun v u hv => ?_
       obtain ⟨rfl, rfl⟩ := hv
       refine ⟨_, _, rfl, GOps.sim ?_⟩
       refine GOps.done (hK _ ?_); clear hK K
       refine End.kp [2, 3, 9, 10, 11, 14, 15, 33, 34, 45, 46, 47] ?_
       refine Run.region rfl fun K hK => GOps.simK 4 ?_
       refine GOps.litF (rows := ints [-(regV g t i), ofL x.next (((t - 1) * N : Nat) : Int)]) ?_ rfl rfl (by simp only [litF, fx] <;> rfl)
       refine GOps.simK 3 ?_
       refine GOps.litF (rows := ints [regV g t i, -(ofL x.next (((t - 1) * N : Nat) : Int))]) ?_ rfl rfl (by simp only [litF, fx] <;> rfl)
       refine GOps.litF (rows := clss [[-(regV g t i), ofL x.next (((t - 1) * N : Nat) : Int)], [regV g t i, -(ofL x.next (((t - 1) * N : Nat) : Int))]]) ?_ rfl rfl (by simp only [litF, fx] <;> rfl)
       refine GOps.sim ?_
       refine GOps.done (hK _ ?_); clear hK K
       refine End.blk ?_
       refine End.blk ?_
       refine End.kp [2, 3, 9, 10, 11, 33, 34, 45, 46, 47] ?_
       have fx := ai u3 (ai u2 (ai u1 (ai strs_len (ai v4 (ai v3 (ai v2 (ai v1 (ai hx (ai hil (ai wi (ai hap1 (ai hap2 (ai hcc2 (ai zTn (ai zNn (ai hall (ai wt (ai hcm (ai w2 (ai hap (ai hcc (ai (@List.length_map.{0, 0}) (ai d3 (ai w1 (ai d2 (ai d1 ft))))))))))))))))))))))))))
       refine Run.go ?_
       refine End.lp ?_
       have ec : regC g free t i = [[-(regV g t i), ofL x.next (((t - 1) * N : Nat) : Int)], [regV g t i, -(ofL x.next (((t - 1) * N : Nat) : Int))]] := by rw [regC_pos htp, hxd, ← hN]
       have e1 : clss (frmL g free t (i + 1)) = clss (frmL g free t i) ++ clss [[-(regV g t i), ofL x.next (((t - 1) * N : Nat) : Int)], [regV g t i, -(ofL x.next (((t - 1) * N : Nat) : Int))]] := by rw [frmL_next, ec]; exact List.map_append ..
       have e2 : (frmL g free t (i + 1)).length = (frmL g free t i).length + 2 := by rw [frmL_next, ec, List.length_append]; rfl
       refine ⟨g.regs.length - (i + 1), _, by omega, Ghost.fm [(2, .im (.bool free)), (3, .ptr 0 0 0), (9, .i (N : Nat)), (10, .ms 0 1 ((frmL g free t i).length + 2)), (11, .i (t : Nat)), (33, .i (k : Nat)), (34, .i (t : Nat)), (45, .im (.sl (g.regs.map LReg.im))), (46, .i g.regs.length), (47, .i (i + 1 : Nat))] 2, i + 1, rfl, by omega, ?_⟩
       rw [e1, e2]
       rfl
      ·have hb7 := of_decide_eq_false hb
       have ht0 : t = 0 := by omega
       refine Run.seq ?_
       refine Run.go ?_
       refine End.kp [2, 3, 9, 10, 11, 13, 14, 33, 34, 45, 46, 47, 89] ?_
       refine Run.cond _ rfl (fun hb => ?_) (fun hb => ?_)
       ·have hb8 : free = true := hb
        refine Run.skip ?_
        refine End.blk ?_
        refine End.blk ?_
        refine End.kp [2, 3, 9, 10, 11, 33, 34, 45, 46, 47] ?_
        refine Run.go ?_
        refine End.lp ?_
        have ec : regC g free t i = [] := by rw [ht0, regC, if_pos hb8]
        have e1 : clss (frmL g free t (i + 1)) = clss (frmL g free t i) ++ clss [] := by rw [frmL_next, ec]; exact List.map_append ..
        have e2 : (frmL g free t (i + 1)).length = (frmL g free t i).length + 0 := by rw [frmL_next, ec, List.length_append]; rfl
        refine ⟨g.regs.length - (i + 1), _, by omega, Ghost.fm [(2, .im (.bool free)), (3, .ptr 0 0 0), (9, .i (N : Nat)), (10, .ms 0 1 (frmL g free t i).length), (11, .i (t : Nat)), (33, .i (k : Nat)), (34, .i (t : Nat)), (45, .im (.sl (g.regs.map LReg.im))), (46, .i g.regs.length), (47, .i (i + 1 : Nat))] 2, i + 1, rfl, by omega, ?_⟩
        rw [e1, e2]
        simp
       ·have hb8 : free = false := hb
        refine Run.seq ?_
        refine Run.go ?_
        refine End.kp [2, 3, 9, 10, 11, 14, 33, 34, 45, 46, 47, 91] ?_
        refine Run.cond _ rfl (fun hb => ?_) (fun hb => ?_)
        ·have hb9 : x.init = true := hb
         refine Run.region rfl fun K hK => GOps.simK 2 ?_
         refine GOps.litF (rows := ints [regV g t i]) ?_ rfl rfl (by simp only [litF, fx] <;> rfl)
         refine GOps.litF (rows := clss [[regV g t i]]) ?_ rfl rfl (by simp only [litF, fx] <;> rfl)
         refine GOps.sim ?_
         refine GOps.done (hK _ ?_); clear hK K
         refine End.blk ?_
         refine End.blk ?_
         refine End.kp [2, 3, 9, 10, 11, 33, 34, 45, 46, 47] ?_
         have fx := ai strs_len (ai v4 (ai v3 (ai v2 (ai v1 (ai hx (ai hil (ai wi (ai hap1 (ai hap2 (ai hcc2 (ai zTn (ai zNn (ai hall (ai wt (ai hcm (ai w2 (ai hap (ai hcc (ai (@List.length_map.{0, 0}) (ai d3 (ai w1 (ai d2 (ai d1 ft)))))))))))))))))))))))
         refine Run.go ?_
         refine End.lp ?_
         have ec : regC g free t i = [[regV g t i]] := by rw [ht0, regC, if_neg (by simp [hb8]), hxd, if_pos hb9]
         have e1 : clss (frmL g free t (i + 1)) = clss (frmL g free t i) ++ clss [[regV g t i]] := by rw [frmL_next, ec]; exact List.map_append ..
         have e2 : (frmL g free t (i + 1)).length = (frmL g free t i).length + 1 := by rw [frmL_next, ec, List.length_append]; rfl
         refine ⟨g.regs.length - (i + 1), _, by omega, Ghost.fm [(2, .im (.bool free)), (3, .ptr 0 0 0), (9, .i (N : Nat)), (10, .ms 0 1 ((frmL g free t i).length + 1)), (11, .i (t : Nat)), (33, .i (k : Nat)), (34, .i (t : Nat)), (45, .im (.sl (g.regs.map LReg.im))), (46, .i g.regs.length), (47, .i (i + 1 : Nat))] 2, i + 1, rfl, by omega, ?_⟩
         rw [e1, e2]
         rfl
        ·have hb9 : x.init = false := hb
         refine Run.region rfl fun K hK => GOps.simK 3 ?_
         refine GOps.litF (rows := ints [-(regV g t i)]) ?_ rfl rfl (by simp only [litF, fx] <;> rfl)
         refine GOps.litF (rows := clss [[-(regV g t i)]]) ?_ rfl rfl (by simp only [litF, fx] <;> rfl)
         refine GOps.sim ?_
         refine GOps.done (hK _ ?_); clear hK K
         refine End.blk ?_
         refine End.blk ?_
         refine End.kp [2, 3, 9, 10, 11, 33, 34, 45, 46, 47] ?_
         have fx := ai strs_len (ai v4 (ai v3 (ai v2 (ai v1 (ai hx (ai hil (ai wi (ai hap1 (ai hap2 (ai hcc2 (ai zTn (ai zNn (ai hall (ai wt (ai hcm (ai w2 (ai hap (ai hcc (ai (@List.length_map.{0, 0}) (ai d3 (ai w1 (ai d2 (ai d1 ft)))))))))))))))))))))))
         refine Run.go ?_
         refine End.lp ?_
         have ec : regC g free t i = [[-(regV g t i)]] := by rw [ht0, regC, if_neg (by simp [hb8]), hxd, if_neg (by simp [hb9])]
         have e1 : clss (frmL g free t (i + 1)) = clss (frmL g free t i) ++ clss [[-(regV g t i)]] := by rw [frmL_next, ec]; exact List.map_append ..
         have e2 : (frmL g free t (i + 1)).length = (frmL g free t i).length + 1 := by rw [frmL_next, ec, List.length_append]; rfl
         refine ⟨g.regs.length - (i + 1), _, by omega, Ghost.fm [(2, .im (.bool free)), (3, .ptr 0 0 0), (9, .i (N : Nat)), (10, .ms 0 1 ((frmL g free t i).length + 1)), (11, .i (t : Nat)), (33, .i (k : Nat)), (34, .i (t : Nat)), (45, .im (.sl (g.regs.map LReg.im))), (46, .i g.regs.length), (47, .i (i + 1 : Nat))] 2, i + 1, rfl, by omega, ?_⟩
         rw [e1, e2]
         rfl
     ·have hb6 := of_decide_eq_false hb
      have hie : i = g.regs.length := by omega
      subst hie
      refine Run.exit rfl ?_
      refine End.blk ?_
      refine End.kp [2, 3, 9, 10, 33, 34] ?_
      refine Run.go ?_
      refine End.lp ?_
      refine ⟨k - (t + 1), _, by omega, Ghost.fm [(2, .im (.bool free)), (3, .ptr 0 0 0), (9, .i (N : Nat)), (10, .ms 0 1 (frmC g free (t + 1)).length), (33, .i (k : Nat)), (34, .i (t + 1 : Nat))] 2, t + 1, rfl, by omega, rfl⟩
    ·have hb5 := of_decide_eq_false hb
     have hte : t = k := by omega
     subst hte
     refine Run.exit rfl ?_
     refine End.kp [10] ?_
     refine Run.seq ?_
     refine Run.go ?_
     refine End.kp [6, 7] ?_
     refine Run.ret (hQ _ _ ⟨.inr rfl, _, rfl, _, _, rfl, ?_⟩)
     exact ⟨rfl, rfl⟩

set_option maxRecDepth 100000
set_option maxHeartbeats 40000000
theorem preC_next (g : LGraph) (o : Int) (k m : Nat) : preC g o true k (m + 1) = preC g o true k m ++ [[-(ofL o ((m * varsN g : Nat) : Int))]] := by
 unfold preC
 rw [if_pos rfl, if_pos rfl, negC_next, List.append_assoc]
theorem preC_zero (g : LGraph) (o : Int) (free : Bool) (k : Nat) : preC g o free k 0 = frmC g free k := by
 unfold preC negC
 split <;> simp
theorem preC_not (g : LGraph) (o : Int) (k m : Nat) : preC g o false k m = frmC g false k := by
 unfold preC
 simp
theorem preC_len (g : LGraph) (o : Int) (free : Bool) (k m : Nat) : (preC g o free k m).length ≤ (frmC g free k).length + m := by
 unfold preC negC
 rw [List.length_append]
 split <;> simp
theorem WithinX_ok (g : LGraph) (hg : GraphOk g) (out k : Nat) (ho : out < g.outs.length) (hk1 : 1 ≤ k) (hk : k ≤ 64) (hkn : k * varsN g ≤ 20000) (free : Bool) (f : List AObj) (rest : Frs) : ACalls Try.prog 53 [g.pv, .i (out : Nat), .i (k : Nat), .im (.bool free)] (f :: rest) fun v u => v = .tup [.ms 0 (f.length + 2) (withC g (outL g out) free k).length, .i ((k * varsN g : Nat) : Int), .i 0] ∧ u = (f ++ [.box [.im (.sl (strs g.inn)), .im (.sl (strs g.out)), .im (.sl (g.regs.map LReg.im)), .im (.sl (g.ands.map nd)), .im (.sl (ints g.outs))], .box [.im (.sl (strs g.inn)), .im (.sl (strs g.out)), .im (.sl (g.regs.map LReg.im)), .im (.sl (g.ands.map nd)), .im (.sl (ints g.outs))], .row 22 1 (clss (withC g (outL g out) free k)) 0]) :: rest := by
 obtain ⟨z1, z2, z3, z4, z5⟩ := hg.small
 have d1 : decide ((out : Int) < 0) = false := decide_eq_false (by omega)
 have d2 : decide ((g.outs.length : Int) ≤ (out : Int)) = false := decide_eq_false (by omega)
 have d3 : decide ((k : Int) < 1) = false := decide_eq_false (by omega)
 have d4 : decide ((64 : Int) < (k : Int)) = false := decide_eq_false (by omega)
 have hnod : (1 + (g.inn.length : Int) + g.regs.length + g.ands.length) = ((varsN g : Nat) : Int) := by unfold varsN; omega
 obtain ⟨x, hxi, hxm, hx⟩ := int_at g.outs out ho
 obtain ⟨x0, x1⟩ := hg.outs x hxm
 have hxo : outL g out = x := by rw [outL, List.getD_eq_getElem?_getD, hxi]; rfl
 have hoi : (out : Int) < (g.outs.length : Int) := by omega
 rw [hxo]
 obtain ⟨N, hN⟩ : ∃ N, N = varsN g := ⟨_, rfl⟩
 have hkn0 := hkn
 rw [← hN] at hnod hkn
 rw [← hN]
 have hNs : N ≤ 20000 := by rw [hN]; unfold varsN; omega
 have hsz : k * (1 + 3 * g.ands.length + 2 * g.regs.length) ≤ 64 * 20000 := Nat.mul_le_mul hk (by omega)
 have hfl := frmC_len g free k
 have wk1 : IntKind.i64.wrap ((k : Int) - 1) = ((k - 1 : Nat) : Int) := by rw [wrap64 (by omega)]; omega
 have wkn : IntKind.i64.wrap ((k : Int) * (N : Int)) = ((k * N : Nat) : Int) := by rw [← Int.natCast_mul, wrap64 (by omega)]
 have hk1n : (k - 1) * N ≤ k * N := Nat.mul_le_mul_right _ (by omega)
 have wk1n : IntKind.i64.wrap (((k - 1 : Nat) : Int) * (N : Int)) = (((k - 1) * N : Nat) : Int) := by rw [← Int.natCast_mul, wrap64 (by omega)]
 refine ACalls.codeX Try.func53 rfl 86 rfl (by simp) [.tmp 8, .tmp 9, .tmp 10] rfl fun Q hQ => ?_
 simp only [ups, PV.up, argEnv]
 have ft := ai ty_3 (ai ty_4 (ai ty_22 (ai ty_29 (ai ty_31 (ai ty_35 (ai ty_36 (ai ty_55 trivial)))))))
 refine Run.seq ?_
 have fx := ai zTn (ai zNn (ai ho (ai hoi (ai hx (ai wk1n (ai wkn (ai wk1 (ai (@gt_iff_lt Int _) (ai (@ge_iff_le Int _) (ai ints_len (ai d4 (ai d3 (ai d2 (ai d1 ft))))))))))))))
 refine Run.go ?_
 refine End.kp [1, 2, 3, 4] ?_
 refine Run.seq ?_
 refine Run.seq ?_
 refine Run.region rfl fun K hK => GOps.sim ?_
 refine GOps.call rfl rfl rfl rfl (by kernel_rfl) (ACalls.sim ?_)
 refine (Check_ok g hg _).mono fun v u hv => ?_
 obtain ⟨rfl, rfl⟩ := hv
 refine ⟨_, _, rfl, GOps.sim ?_⟩
 refine GOps.done (hK _ ?_); clear hK K
 refine End.kp [1, 2, 3, 4, 11] ?_
 refine Run.seq ?_
 refine Run.go ?_
 refine End.kp [1, 2, 3, 4, 11, 19] ?_
 refine Run.cond _ rfl (fun hb => ?_) (fun hb => ?_)
 ·have hb2 := hb
  simp at hb
 ·have hb2 := hb
  refine Run.skip ?_
  refine End.kp [1, 2, 3, 4] ?_
  refine Run.seq ?_
  refine Run.seq ?_
  have fx := ai zTn (ai zNn (ai ho (ai hoi (ai hx (ai wk1n (ai wkn (ai wk1 (ai (@gt_iff_lt Int _) (ai (@ge_iff_le Int _) (ai ints_len (ai d4 (ai d3 (ai d2 (ai d1 ft))))))))))))))
  refine Run.go ?_
  refine End.kp [1, 2, 3, 4, 29] ?_
  refine Run.cond _ rfl (fun hb => ?_) (fun hb => ?_)
  ·have hb3 := hb
   simp at hb
  ·have hb3 := hb
   refine Run.skip ?_
   refine End.kp [1, 2, 3, 4] ?_
   refine Run.seq ?_
   refine Run.seq ?_
   refine Run.go ?_
   refine End.kp [1, 2, 3, 4, 35] ?_
   refine Run.cond _ rfl (fun hb => ?_) (fun hb => ?_)
   ·have hb4 := hb
    simp at hb
   ·have hb4 := hb
    refine Run.skip ?_
    refine End.kp [1, 2, 3, 4] ?_
    refine Run.seq ?_
    refine Run.region rfl fun K hK => GOps.sim ?_
    refine GOps.call rfl rfl rfl rfl (by kernel_rfl) (ACalls.sim ?_)
    refine (FramesX_ok g hg k hk hkn0 free _ _).mono fun v u hv => ?_
    obtain ⟨rfl, rfl⟩ := hv
    refine ⟨_, _, rfl, GOps.sim ?_⟩
    refine GOps.done (hK _ ?_); clear hK K
    refine End.kp [1, 2, 3, 4, 12, 13] ?_
    refine Run.seq ?_
    refine Run.seq ?_
    refine Run.go ?_
    refine End.kp [1, 2, 3, 4, 12, 13, 44] ?_
    refine Run.cond _ rfl (fun hb => ?_) (fun hb => ?_)
    ·have hb5 := hb
     simp at hb
    ·have hb5 := hb
     refine Run.skip ?_
     refine End.kp [1, 2, 3, 4, 12] ?_
     refine Run.seq ?_
     have fx := ai zTn (ai zNn (ai ho (ai hoi (ai hx (ai wk1n (ai wkn (ai wk1 (ai (@gt_iff_lt Int _) (ai (@ge_iff_le Int _) (ai ints_len (ai d4 (ai d3 (ai d2 (ai d1 ft))))))))))))))
     refine Run.region rfl fun K hK => GOps.sim ?_
     refine GOps.call rfl rfl rfl rfl (by kernel_rfl) (ACalls.sim ?_)
     refine (GNodes_ok g hg.small _).mono fun v u hv => ?_
     obtain ⟨rfl, rfl⟩ := hv
     rw [hnod]
     refine ⟨_, _, rfl, GOps.sim ?_⟩
     refine GOps.done (hK _ ?_); clear hK K
     refine End.kp [1, 2, 3, 4, 12, 14] ?_
     refine Run.seq ?_
     refine Run.seq ?_
     refine Run.go ?_
     refine End.kp [1, 2, 3, 4, 12, 14, 49, 50] ?_
     refine Run.block ?_
     refine Run.ghost (Ghost.fm [(1, .i (out : Nat)), (2, .i (k : Nat)), (3, .im (.bool free)), (4, .ptr 0 0 0), (12, .ms 0 2 (frmC g free k).length), (14, .i (N : Nat)), (49, .i ((k - 1 : Nat) : Int)), (50, .i (0 : Nat))] 3) ?_
     refine Run.loop (fun s st => ∃ t : Nat, s = k - 1 - t ∧ t ≤ k - 1 ∧ st = ⟨[(1, .i (out : Nat)), (2, .i (k : Nat)), (3, .im (.bool free)), (4, .ptr 0 0 0), (12, .ms 0 2 (preC g x free k t).length), (14, .i (N : Nat)), (49, .i ((k - 1 : Nat) : Int)), (50, .i (t : Nat))], [.box [.im (.sl (strs g.inn)), .im (.sl (strs g.out)), .im (.sl (g.regs.map LReg.im)), .im (.sl (g.ands.map nd)), .im (.sl (ints g.outs))], .box [.im (.sl (strs g.inn)), .im (.sl (strs g.out)), .im (.sl (g.regs.map LReg.im)), .im (.sl (g.ands.map nd)), .im (.sl (ints g.outs))], .row 22 1 (clss (preC g x free k t)) 0], f :: rest⟩) (k - 1) ⟨0, rfl, by omega, by rw [preC_zero]; rfl⟩ fun s st hI => ?_
     obtain ⟨t, hm, htk, rfl⟩ := hI
     subst s
     have hcc : (clss (preC g x free k t)).length = (preC g x free k t).length := by simp
     have hpl := preC_len g x free k t
     have hap : ((preC g x free k t).length + 1) * 24 ≤ 140737488355328 := by omega
     have htn : t * N ≤ k * N := Nat.mul_le_mul_right _ (by omega)
     have w2 : IntKind.i64.wrap ((t : Int) * (N : Int)) = ((t * N : Nat) : Int) := by rw [← Int.natCast_mul, wrap64 (by omega)]
     refine Run.seq ?_
     have fx := ai w2 (ai hap (ai hcc (ai zTn (ai zNn (ai ho (ai hoi (ai hx (ai wk1n (ai wkn (ai wk1 (ai (@gt_iff_lt Int _) (ai (@ge_iff_le Int _) (ai ints_len (ai d4 (ai d3 (ai d2 (ai d1 ft)))))))))))))))))
     refine Run.go ?_
     refine End.kp [1, 2, 3, 4, 12, 14, 49, 50, 51] ?_
     refine Run.seq ?_
     refine Run.cond _ rfl (fun hb => ?_) (fun hb => ?_)
     ·have hb6 := of_decide_eq_true hb
      have htk2 : t < k - 1 := by omega
      have wt := wsucc htk2 (by omega)
      refine Run.skip ?_
      refine End.kp [1, 2, 3, 4, 12, 14, 49, 50] ?_
      refine Run.seq ?_
      refine Run.block ?_
      refine Run.seq ?_
      have fx := ai wt fx
      refine Run.go ?_
      refine End.kp [1, 2, 3, 4, 12, 14, 15, 49, 50] ?_
      refine Run.seq ?_
      refine Run.go ?_
      refine End.kp [1, 2, 3, 4, 12, 14, 15, 49, 50, 53] ?_
      refine Run.cond _ rfl (fun hb => ?_) (fun hb => ?_)
      ·have hb7 : free = true := hb
       have w3 : IntKind.i64.wrap (0 - ofL x ((t * N : Nat) : Int)) = -(ofL x ((t * N : Nat) : Int)) := by unfold ofL; split <;> (rw [wrap64 (by omega)]; omega)
       have fx := ai w3 fx
       refine Run.region rfl fun K hK => GOps.sim ?_
       refine GOps.call rfl rfl rfl rfl (by kernel_rfl) (ACalls.sim ?_)
       refine (Of_lit x _ x0 (by omega) (by omega) (by omega) _).mono fun v u hv => ?_
       obtain ⟨rfl, rfl⟩ := hv
       refine ⟨_, _, rfl, GOps.simK 1 ?_⟩
       refine GOps.litF (rows := ints [-(ofL x ((t * N : Nat) : Int))]) ?_ rfl rfl (by simp only [litF, fx] <;> rfl)
       refine GOps.litF (rows := clss [[-(ofL x ((t * N : Nat) : Int))]]) ?_ rfl rfl (by simp only [litF, fx] <;> rfl)
       refine GOps.sim ?_
       refine GOps.done (hK _ ?_); clear hK K
       refine End.blk ?_
       refine End.kp [1, 2, 3, 4, 12, 14, 49, 50] ?_
       have fx := ai w3 (ai wt (ai w2 (ai hap (ai hcc (ai zTn (ai zNn (ai ho (ai hoi (ai hx (ai wk1n (ai wkn (ai wk1 (ai (@gt_iff_lt Int _) (ai (@ge_iff_le Int _) (ai ints_len (ai d4 (ai d3 (ai d2 (ai d1 ft)))))))))))))))))))
       refine Run.go ?_
       refine End.lp ?_
       have e1 : clss (preC g x free k (t + 1)) = clss (preC g x free k t) ++ clss [[-(ofL x ((t * N : Nat) : Int))]] := by
        rw [hb7, preC_next, ← hN]
        exact List.map_append ..
       have e2 : (preC g x free k (t + 1)).length = (preC g x free k t).length + 1 := by rw [hb7, preC_next, List.length_append]; rfl
       refine ⟨k - 1 - (t + 1), _, by omega, Ghost.fm [(1, .i (out : Nat)), (2, .i (k : Nat)), (3, .im (.bool free)), (4, .ptr 0 0 0), (12, .ms 0 2 ((preC g x free k t).length + 1)), (14, .i (N : Nat)), (49, .i ((k - 1 : Nat) : Int)), (50, .i (t + 1 : Nat))] 3, t + 1, rfl, by omega, ?_⟩
       rw [e1, e2]
       rfl
      ·have hb7 : free = false := hb
       refine Run.skip ?_
       refine End.blk ?_
       refine End.kp [1, 2, 3, 4, 12, 14, 49, 50] ?_
       refine Run.go ?_
       refine End.lp ?_
       refine ⟨k - 1 - (t + 1), _, by omega, Ghost.fm [(1, .i (out : Nat)), (2, .i (k : Nat)), (3, .im (.bool free)), (4, .ptr 0 0 0), (12, .ms 0 2 (preC g x free k t).length), (14, .i (N : Nat)), (49, .i ((k - 1 : Nat) : Int)), (50, .i (t + 1 : Nat))] 3, t + 1, rfl, by omega, ?_⟩
       rw [hb7, preC_not, preC_not]
       rfl
     ·have hb6 := of_decide_eq_false hb
      have hte : t = k - 1 := by omega
      subst hte
      refine Run.exit rfl ?_
      refine End.kp [1, 2, 4, 12, 14] ?_
      refine Run.seq ?_
      refine Run.region rfl fun K hK => GOps.sim ?_
      refine GOps.call rfl rfl rfl rfl (by kernel_rfl) (ACalls.sim ?_)
      refine (Of_lit x _ x0 (by omega) (by omega) (by omega) _).mono fun v u hv => ?_
      obtain ⟨rfl, rfl⟩ := hv
      refine ⟨_, _, rfl, ?_⟩
      refine GOps.litF (rows := ints [ofL x (((k - 1) * N : Nat) : Int)]) ?_ rfl rfl (by simp only [litF, fx] <;> rfl)
      refine GOps.litF (rows := clss [[ofL x (((k - 1) * N : Nat) : Int)]]) ?_ rfl rfl (by simp only [litF, fx] <;> rfl)
      refine GOps.sim ?_
      refine GOps.done (hK _ ?_); clear hK K
      refine End.kp [8, 9, 10] ?_
      refine Run.ret (hQ _ _ ⟨.inr rfl, _, rfl, _, _, rfl, ?_⟩)
      have e1 : clss (withC g x free k) = clss (preC g x free k (k - 1)) ++ clss [[ofL x (((k - 1) * N : Nat) : Int)]] := by
       rw [withC, ← hN]
       exact List.map_append ..
      have e2 : (withC g x free k).length = (preC g x free k (k - 1)).length + 1 := by rw [withC, List.length_append]; rfl
      rw [e1, e2]
      exact ⟨rfl, rfl⟩
theorem Replay_ok (g : LGraph) (hg : GraphOk g) (out : Nat) (ho : out < g.outs.length) (tr : List (List Bool)) (hn : tr.length ≤ 64) (ht : ∀ r ∈ tr, r.length = g.inn.length) (up : Frs) : ACalls Try.prog 33 [g.pv, .i (out : Nat), .im (.sl (boolss tr))] up fun v u => u = up ∧ ∃ a : Int, v = .tup [.i a, .i 0] ∧ ((∃ t : Nat, a = t ∧ t < tr.length ∧ ((runB g (initG g) tr).getD t []).getD out false = true ∧ ∀ j, j < t → ((runB g (initG g) tr).getD j []).getD out false = false) ∨ a = -1 ∧ ∀ j, j < tr.length → ((runB g (initG g) tr).getD j []).getD out false = false) := by
 obtain ⟨z1, z2, z3, z4, z5⟩ := hg.small
 have d1 : decide ((out : Int) < 0) = false := decide_eq_false (by omega)
 have d2 : decide ((g.outs.length : Int) ≤ (out : Int)) = false := decide_eq_false (by omega)
 have hru := fun u => GRun_ok g hg tr hn ht u
 rw [runB_eq] at hru
 obtain ⟨L, hL⟩ : ∃ L, L = runB g (initG g) tr := ⟨_, rfl⟩
 have hLl : L.length = tr.length := by rw [hL, ← runB_eq]; exact runG_len g tr _
 have hLr : ∀ r ∈ L, r.length = g.outs.length := by rw [hL]; exact runB_row g tr _
 rw [← hL] at hru ⊢
 refine ACalls.code Try.func33 rfl 49 rfl (by simp) [.tmp 6, .tmp 7] rfl fun Q hQ => ?_
 simp only [ups, PV.up, argEnv]
 have ft := ai ty_3 (ai ty_4 (ai ty_29 (ai ty_31 (ai ty_33 (ai ty_36 (ai ty_55 (ai ty_62 trivial)))))))
 refine Run.seq ?_
 have fx := ai zTn (ai zNn (ai hLl (ai (@ge_iff_le Int _) (ai boolss_len (ai ints_len (ai d2 (ai d1 ft)))))))
 refine Run.go ?_
 refine End.kp [1, 2, 3] ?_
 refine Run.seq ?_
 refine Run.seq ?_
 refine Run.region rfl fun K hK => GOps.sim ?_
 refine GOps.call rfl rfl rfl rfl (by kernel_rfl) (ACalls.sim ?_)
 refine (Check_ok g hg _).mono fun v u hv => ?_
 obtain ⟨rfl, rfl⟩ := hv
 refine ⟨_, _, rfl, GOps.sim ?_⟩
 refine GOps.done (hK _ ?_); clear hK K
 refine End.kp [1, 2, 3, 8] ?_
 refine Run.seq ?_
 refine Run.go ?_
 refine End.kp [1, 2, 3, 8, 16] ?_
 refine Run.cond _ rfl (fun hb => ?_) (fun hb => ?_)
 ·have hb2 := hb
  simp at hb
 ·have hb2 := hb
  refine Run.skip ?_
  refine End.kp [1, 2, 3] ?_
  refine Run.seq ?_
  refine Run.seq ?_
  have fx := ai zTn (ai zNn (ai hLl (ai (@ge_iff_le Int _) (ai boolss_len (ai ints_len (ai d2 (ai d1 ft)))))))
  refine Run.go ?_
  refine End.kp [1, 2, 3, 26] ?_
  refine Run.cond _ rfl (fun hb => ?_) (fun hb => ?_)
  ·have hb3 := hb
   simp at hb
  ·have hb3 := hb
   refine Run.skip ?_
   refine End.kp [1, 2, 3] ?_
   refine Run.seq ?_
   refine Run.region rfl fun K hK => GOps.sim ?_
   refine GOps.call rfl rfl rfl rfl (by kernel_rfl) (ACalls.sim ?_)
   refine (hru _).mono fun v u hv => ?_
   obtain ⟨rfl, rfl⟩ := hv
   refine ⟨_, _, rfl, GOps.sim ?_⟩
   refine GOps.done (hK _ ?_); clear hK K
   refine End.kp [1, 9, 10] ?_
   refine Run.seq ?_
   refine Run.seq ?_
   refine Run.go ?_
   refine End.kp [1, 9, 10, 34] ?_
   refine Run.cond _ rfl (fun hb => ?_) (fun hb => ?_)
   ·have hb4 := hb
    simp at hb
   ·have hb4 := hb
    refine Run.skip ?_
    refine End.kp [1, 9] ?_
    refine Run.seq ?_
    refine Run.seq ?_
    have fx := ai zTn (ai zNn (ai hLl (ai (@ge_iff_le Int _) (ai boolss_len (ai ints_len (ai d2 (ai d1 ft)))))))
    refine Run.go ?_
    refine End.kp [1, 36, 37, 38] ?_
    refine Run.block ?_
    refine Run.ghost (Ghost.fm [(1, .i (out : Nat)), (36, .im (.sl (boolss L))), (37, .i tr.length), (38, .i (0 : Nat))] 0) ?_
    refine Run.loop (fun s st => ∃ t : Nat, s = tr.length - t ∧ (t ≤ tr.length ∧ ∀ j, j < t → (L.getD j []).getD out false = false) ∧ st = ⟨[(1, .i (out : Nat)), (36, .im (.sl (boolss L))), (37, .i tr.length), (38, .i (t : Nat))], [], up⟩) tr.length ⟨0, rfl, ⟨by omega, fun j hj => by omega⟩, rfl⟩ fun s st hI => ?_
    obtain ⟨t, hm, ⟨htk, hno⟩, rfl⟩ := hI
    subst s
    refine Run.seq ?_
    refine Run.go ?_
    refine End.kp [1, 36, 37, 38, 39] ?_
    refine Run.seq ?_
    refine Run.cond _ rfl (fun hb => ?_) (fun hb => ?_)
    ·have hb5 := of_decide_eq_true hb
     have ht2 : t < tr.length := by omega
     have wt := wsucc ht2 (by omega)
     obtain ⟨r, hri, hrm, hrd, hrr⟩ := boolss_at L t (by omega)
     have hti : (t : Int) < (tr.length : Int) := by omega
     have hrl := hLr r hrm
     have hor : out < r.length := by omega
     have hoi : (out : Int) < (r.length : Int) := by omega
     have hbo := bools_get r out hor
     refine Run.skip ?_
     refine End.kp [1, 36, 37, 38] ?_
     refine Run.seq ?_
     refine Run.block ?_
     refine Run.seq ?_
     have fx := ai bools_len (ai hbo (ai hoi (ai hor (ai hti (ai hrr (ai wt fx))))))
     refine Run.go ?_
     refine End.kp [1, 11, 12, 36, 37, 38] ?_
     refine Run.seq ?_
     refine Run.go ?_
     refine End.kp [1, 11, 36, 37, 38, 46] ?_
     refine Run.cond _ rfl (fun hb => ?_) (fun hb => ?_)
     ·have hb6 : r.getD out false = true := hb
      refine Run.seq ?_
      refine Run.go ?_
      refine End.kp [6, 7] ?_
      refine Run.ret (hQ _ _ ⟨.inr rfl, _, rfl, _, rfl, ?_⟩)
      exact ⟨rfl, _, rfl, .inl ⟨t, rfl, ht2, by rw [hrd]; exact hb6, hno⟩⟩
     ·have hb6 : r.getD out false = false := hb
      refine Run.skip ?_
      refine End.blk ?_
      refine End.kp [1, 36, 37, 38] ?_
      refine Run.go ?_
      refine End.lp ?_
      refine ⟨tr.length - (t + 1), _, by omega, Ghost.fm [(1, .i (out : Nat)), (36, .im (.sl (boolss L))), (37, .i tr.length), (38, .i (t + 1 : Nat))] 0, t + 1, rfl, ⟨by omega, fun j hj => ?_⟩, rfl⟩
      by_cases e : j = t
      ·subst e; rw [hrd]; exact hb6
      ·exact hno j (by omega)
    ·have hb5 := of_decide_eq_false hb
     have hte : t = tr.length := by omega
     subst hte
     refine Run.exit rfl ?_
     refine End.kp [] ?_
     refine Run.seq ?_
     refine Run.go ?_
     refine End.kp [6, 7] ?_
     refine Run.ret (hQ _ _ ⟨.inr rfl, _, rfl, _, rfl, ?_⟩)
     exact ⟨rfl, _, rfl, .inr ⟨rfl, hno⟩⟩

set_option maxRecDepth 100000
set_option maxHeartbeats 40000000
theorem insK_next (g : LGraph) (k : Nat) (M : Nat → Bool) (t : Nat) : (insK g (t + 1) M) = insK g t M ++ [insM g M t] := by simp [insK, List.range_succ]
theorem insK_len (g : LGraph) (k : Nat) (M : Nat → Bool) : (insK g k M).length = k := by simp [insK]
theorem Inputs_ok (g : LGraph) (hg : GSmall g) (k : Nat) (hk : k ≤ 64) (hkn : k * varsN g ≤ 20000) (m : List Bool) (hml : m.length = k * varsN g) (up : Frs) : ACalls Try.prog 27 [g.pv, .i (k : Nat), .im (.sl (bools m))] up fun v u => v = .im (.sl (boolss (insK g k (fun v => m.getD (v - 1) false)))) ∧ u = up := by
 obtain ⟨z1, z2, z3, z4, z5⟩ := hg
 have hnod : (1 + (g.inn.length : Int) + g.regs.length + g.ands.length) = ((varsN g : Nat) : Int) := by unfold varsN; omega
 obtain ⟨N, hN⟩ : ∃ N, N = varsN g := ⟨_, rfl⟩
 rw [← hN] at hnod hkn hml
 have hNs : N ≤ 20000 := by rw [hN]; unfold varsN; omega
 have hNi : 1 + g.inn.length ≤ N := by rw [hN]; unfold varsN; omega
 have mx1 : ¬ ((k : Int) < 0) := by omega
 have mx2 : ¬ ((64 : Int) < (k : Int)) := by omega
 have mx3 : (if (k : Int) < 0 then (0 : Int) else (k : Int)) = (k : Int) := if_neg mx1
 have hc : (0 : Int) ≤ g.inn.length := by omega
 have hm1 : ((1 : Nat) : Int) * (g.inn.length : Int) ≤ 281474976710656 := by omega
 have hm2 : (g.inn.length : Int) ≤ 9223372036854775807 := by omega
 refine ACalls.code Try.func27 rfl 54 rfl (by simp) [.tmp 6] rfl fun Q hQ => ?_
 simp only [ups, PV.up, argEnv]
 have ft := ai ty_3 (ai ty_4 (ai ty_9 (ai ty_26 (ai ty_31 (ai ty_33 (ai ty_62 trivial))))))
 refine Run.seq ?_
 have fx := ai mx2 (ai mx1 (ai hm2 (ai hm1 (ai hc (ai bools_len (ai strs_len ft))))))
 refine Run.go ?_
 refine End.kp [1, 2, 3] ?_
 refine Run.seq ?_
 refine Run.go ?_
 refine End.kp [1, 2, 3, 7] ?_
 refine Run.seq ?_
 refine Run.region rfl fun K hK => GOps.sim ?_
 refine GOps.call rfl rfl rfl rfl (by kernel_rfl) (ACalls.sim ?_)
 refine (GNodes_ok g ⟨z1, z2, z3, z4, z5⟩ _).mono fun v u hv => ?_
 obtain ⟨rfl, rfl⟩ := hv
 rw [hnod]
 refine ⟨_, _, rfl, GOps.sim ?_⟩
 refine GOps.done (hK _ ?_); clear hK K
 refine End.kp [1, 2, 3, 7, 8] ?_
 refine Run.seq ?_
 refine Run.seq ?_
 refine Run.go ?_
 refine End.kp [2, 3, 7, 8, 17, 18] ?_
 refine Run.block ?_
 refine Run.ghost (Ghost.thaw (u := 7) 33 1 (by decide) rfl) ?_
 refine Run.ghost (Ghost.fm [(2, .im (.sl (bools m))), (3, .ptr 0 0 0), (7, .ms 0 1 0), (8, .i (N : Nat)), (17, .i (k : Nat)), (18, .i (0 : Nat))] 2) ?_
 refine Run.loop (fun s st => ∃ t : Nat, s = k - t ∧ t ≤ k ∧ st = ⟨[(2, .im (.sl (bools m))), (3, .ptr 0 0 0), (7, .ms 0 1 t), (8, .i (N : Nat)), (17, .i (k : Nat)), (18, .i (t : Nat))], [.box [.im (.sl (strs g.inn)), .im (.sl (strs g.out)), .im (.sl (g.regs.map LReg.im)), .im (.sl (g.ands.map nd)), .im (.sl (ints g.outs))], .row 33 1 (boolss (insK g t (fun v => m.getD (v - 1) false))) 0], up⟩) k ⟨0, rfl, by omega, rfl⟩ fun s st hI => ?_
 obtain ⟨t, hm, htk, rfl⟩ := hI
 subst s
 have hol : (boolss (insK g t (fun v => m.getD (v - 1) false))).length = t := by rw [boolss_len, insK_len]
 have hap : (t + 1) * 24 ≤ 140737488355328 := by omega
 have htn : t * N ≤ k * N := Nat.mul_le_mul_right _ htk
 have w2 : IntKind.i64.wrap ((t : Int) * (N : Int)) = ((t * N : Nat) : Int) := by rw [← Int.natCast_mul, wrap64 (by omega)]
 have w3 : IntKind.i64.wrap (((t * N : Nat) : Int) + 1) = ((t * N + 1 : Nat) : Int) := by rw [wrap64 (by omega)]; omega
 refine Run.seq ?_
 have fx := ai w3 (ai w2 (ai hap (ai hol (ai mx2 (ai mx1 (ai hm2 (ai hm1 (ai hc (ai bools_len (ai strs_len ft))))))))))
 refine Run.go ?_
 refine End.kp [2, 3, 7, 8, 17, 18, 19] ?_
 refine Run.seq ?_
 refine Run.cond _ rfl (fun hb => ?_) (fun hb => ?_)
 ·have hb5 := of_decide_eq_true hb
  have htk2 : t < k := by omega
  have wt := wsucc htk2 (by omega)
  have htn2 : (t + 1) * N ≤ k * N := Nat.mul_le_mul_right _ (by omega)
  rw [Nat.succ_mul] at htn2
  obtain ⟨Q, hQr⟩ : ∃ Q, Q = List.range g.inn.length := ⟨_, rfl⟩
  have hQl : Q.length = g.inn.length := by rw [hQr, List.length_range]
  refine Run.skip ?_
  refine End.kp [2, 3, 7, 8, 17, 18] ?_
  refine Run.seq ?_
  refine Run.block ?_
  refine Run.seq ?_
  have fx := ai zTn (ai zNn (ai wt (ai w3 (ai w2 (ai hap (ai hol (ai mx2 (ai mx1 (ai hm2 (ai hm1 (ai hc (ai bools_len (ai strs_len ft)))))))))))))
  refine Run.go ?_
  refine End.kp [2, 3, 7, 8, 9, 17, 18] ?_
  refine Run.seq ?_
  refine Run.go ?_
  refine End.kp [2, 3, 7, 8, 9, 10, 17, 18] ?_
  refine Run.seq ?_
  refine Run.seq ?_
  refine Run.go ?_
  refine End.kp [2, 3, 7, 8, 9, 10, 17, 18, 26, 27] ?_
  refine Run.block ?_
  refine Run.ghost (Ghost.fm [(2, .im (.sl (bools m))), (3, .ptr 0 0 0), (7, .ms 0 1 t), (8, .i (N : Nat)), (9, .i (t : Nat)), (10, .ms 0 2 g.inn.length), (17, .i (k : Nat)), (18, .i (t : Nat)), (26, .i g.inn.length), (27, .i (0 : Nat))] 3) ?_
  rw [← hQl]
  refine Run.loop (fun s st => ∃ i : Nat, s = Q.length - i ∧ i ≤ Q.length ∧ st = ⟨[(2, .im (.sl (bools m))), (3, .ptr 0 0 0), (7, .ms 0 1 t), (8, .i (N : Nat)), (9, .i (t : Nat)), (10, .ms 0 2 Q.length), (17, .i (k : Nat)), (18, .i (t : Nat)), (26, .i Q.length), (27, .i (i : Nat))], [.box [.im (.sl (strs g.inn)), .im (.sl (strs g.out)), .im (.sl (g.regs.map LReg.im)), .im (.sl (g.ands.map nd)), .im (.sl (ints g.outs))], .row 33 1 (boolss (insK g t (fun v => m.getD (v - 1) false))) 0, .row 4 1 ((Q.take i).map (fun i => [Im.bool (nodeM (fun v => m.getD (v - 1) false) (t * varsN g) (1 + i))]) ++ List.replicate (Q.length - i) [.bool false]) 0], up⟩) Q.length ⟨0, rfl, by omega, by simp⟩ fun s st hI => ?_
  obtain ⟨i, hm, hi, rfl⟩ := hI
  subst s
  have hrl := fill_len (fun i => [Im.bool (nodeM (fun v => m.getD (v - 1) false) (t * varsN g) (1 + i))]) Q [.bool false] i hi
  refine Run.seq ?_
  have fx := ai hrl fx
  refine Run.go ?_
  refine End.kp [2, 3, 7, 8, 9, 10, 17, 18, 26, 27, 28] ?_
  refine Run.seq ?_
  refine Run.cond _ rfl (fun hb => ?_) (fun hb => ?_)
  ·have hb6 := of_decide_eq_true hb
   have hin : i < Q.length := by omega
   have wi := wsucc hin (by omega)
   have hil : (i : Int) < (Q.length : Int) := by omega
   have w4 : IntKind.i64.wrap (((t * N + 1 : Nat) : Int) + (i : Int)) = ((t * N + 1 + i : Nat) : Int) := by rw [wrap64 (by omega)]; omega
   have hvm : t * N + 1 + i < m.length := by omega
   have hvi : ((t * N + 1 + i : Nat) : Int) < (m.length : Int) := by omega
   have hvg := bools_get m (t * N + 1 + i) hvm
   have hri := fill_get (fun i => [Im.bool (nodeM (fun v => m.getD (v - 1) false) (t * varsN g) (1 + i))]) Q [.bool false] i hin
   have hfd : Q.getD i 0 = i := by rw [hQr, List.getD_eq_getElem?_getD, List.getElem?_range (by omega)]; rfl
   have hfm2 := fill_map (fun i => [Im.bool (nodeM (fun v => m.getD (v - 1) false) (t * varsN g) (1 + i))]) Q [.bool false] 0 i hin
   rw [hfd, show nodeM (fun v => m.getD (v - 1) false) (t * varsN g) (1 + i) = m.getD (t * N + 1 + i) false by rw [← hN]; show m.getD (t * N + 1 + (1 + i) - 1) false = _; rw [show t * N + 1 + (1 + i) - 1 = t * N + 1 + i by omega]] at hfm2
   refine Run.skip ?_
   refine End.kp [2, 3, 7, 8, 9, 10, 17, 18, 26, 27] ?_
   refine Run.seq ?_
   refine Run.block ?_
   refine Run.seq ?_
   have fx := ai (@Int.ofNat_lt) (ai hin (ai hri (ai hvg (ai hvm (ai hvi (ai w4 (ai hil (ai wi (ai hrl (ai zTn (ai zNn (ai wt (ai w3 (ai w2 (ai hap (ai hol (ai mx2 (ai mx1 (ai hm2 (ai hm1 (ai hc (ai bools_len (ai strs_len ft)))))))))))))))))))))))
   refine Run.go ?_
   refine End.kp [2, 3, 7, 8, 9, 10, 11, 17, 18, 26, 27] ?_
   refine Run.seq ?_
   refine Run.go ?_
   refine End.kp [2, 3, 7, 8, 9, 10, 11, 12, 17, 18, 26, 27] ?_
   refine Run.seq ?_
   refine Run.go ?_
   refine End.kp [2, 3, 7, 8, 9, 10, 11, 12, 17, 18, 26, 27, 39] ?_
   refine Run.cond _ rfl (fun hb => ?_) (fun hb => ?_)
   ·have hb7 := hb
    refine Run.go ?_
    refine End.blk ?_
    refine End.kp [2, 3, 7, 8, 9, 10, 17, 18, 26, 27] ?_
    refine Run.go ?_
    refine End.lp ?_
    refine ⟨Q.length - (i + 1), _, by omega, Ghost.fm [(2, .im (.sl (bools m))), (3, .ptr 0 0 0), (7, .ms 0 1 t), (8, .i (N : Nat)), (9, .i (t : Nat)), (10, .ms 0 2 Q.length), (17, .i (k : Nat)), (18, .i (t : Nat)), (26, .i Q.length), (27, .i (i + 1 : Nat))] 3, i + 1, rfl, by omega, ?_⟩
    rw [← hfm2]
    rfl
   ·have hb7 := hb
    simp at hb
  ·have hb6 := of_decide_eq_false hb
   have hie : i = Q.length := by omega
   subst hie
   rw [fill_all] at hrl ⊢
   have hbr : Q.map (fun i => [Im.bool (nodeM (fun v => m.getD (v - 1) false) (t * varsN g) (1 + i))]) = bools (insM g (fun v => m.getD (v - 1) false) t) := by rw [hQr, insM, bools, List.map_map]; rfl
   rw [hbr] at hrl ⊢
   refine Run.exit rfl ?_
   refine End.kp [2, 3, 7, 8, 10, 17, 18] ?_
   have fx := ai hrl (ai zTn (ai zNn (ai wt (ai w3 (ai w2 (ai hap (ai hol (ai mx2 (ai mx1 (ai hm2 (ai hm1 (ai hc (ai bools_len (ai strs_len ft))))))))))))))
   refine Run.ghost (Ghost.shut (t := 10) (j := 2) rfl rfl hrl) ?_
   simp only [eput, edel]
   refine Run.region rfl fun K hK => GOps.simK 2 ?_
   refine GOps.litF (rows := boolss [insM g (fun v => m.getD (v - 1) false) t]) ?_ rfl rfl (by simp only [litF, fx] <;> rfl)
   refine GOps.sim ?_
   refine GOps.done (hK _ ?_); clear hK K
   refine End.blk ?_
   refine End.kp [2, 3, 7, 8, 17, 18] ?_
   have fx := ai hrl (ai zTn (ai zNn (ai wt (ai w3 (ai w2 (ai hap (ai hol (ai mx2 (ai mx1 (ai hm2 (ai hm1 (ai hc (ai bools_len (ai strs_len ft))))))))))))))
   refine Run.go ?_
   refine End.lp ?_
   refine ⟨k - (t + 1), _, by omega, Ghost.fm [(2, .im (.sl (bools m))), (3, .ptr 0 0 0), (7, .ms 0 1 (t + 1)), (8, .i (N : Nat)), (17, .i (k : Nat)), (18, .i (t + 1 : Nat))] 2, t + 1, rfl, by omega, ?_⟩
   rw [show boolss (insK g (t + 1) (fun v => m.getD (v - 1) false)) = boolss (insK g t (fun v => m.getD (v - 1) false)) ++ boolss [insM g (fun v => m.getD (v - 1) false) t] by unfold boolss; rw [insK_next g k, List.map_append]]
   rfl
 ·have hb5 := of_decide_eq_false hb
  have hte : t = k := by omega
  subst hte
  refine Run.exit rfl ?_
  refine End.kp [7] ?_
  refine Run.seq ?_
  refine Run.ghost (Ghost.shut (t := 7) (j := 1) rfl rfl hol) ?_
  simp only [eput, edel]
  refine Run.go ?_
  refine End.kp [6] ?_
  refine Run.ret (hQ _ _ ⟨.inr rfl, _, rfl, _, rfl, ?_⟩)
  exact ⟨rfl, rfl⟩

end Go.Proofs.YtkjfdacjjogpcaaPi
