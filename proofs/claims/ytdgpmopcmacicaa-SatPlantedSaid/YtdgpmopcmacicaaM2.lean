/- Part 2 of the proof: the texts PSolH, WSA, WSB, WSC, WSD, one behind the other. Each holds for every input that it names; no condition is hidden. -/
import Derived.Test.YtdgpmopcmacicaaM1
import Derived.Test.YtdgpmopcmacicaaPiVecS
/- Plain: what a false clause teaches. No program in sight. -/
set_option linter.unusedVariables false
set_option linter.unusedSimpArgs false
set_option linter.unusedSectionVars false
namespace Go.Proofs.YtdgpmopcmacicaaPi
/-- What was gathered: the variables seen, the literals of lower levels, the variables of the last level that are still to be looked at. -/
structure LI (S : Sol) (i : Nat) (seen out : List Int) (P : List Nat) : Prop where
  il : i < S.tr.length
  pos : 0 < out.length
  pnd : P.Nodup
  pen : ∀ v ∈ P, ∃ j, j ≤ i ∧ (S.lit j).natAbs = v ∧ lv S.st j = S.st.length ∧ (v : Int) ∈ seen
  all : ∀ j, j ≤ i → ((S.lit j).natAbs : Int) ∈ seen → lv S.st j = S.st.length → (S.lit j).natAbs ∈ P
  outs : ∀ q, 1 ≤ q → q < out.length → (∃ j, j < S.tr.length ∧ S.lit j = -(out.getD q 0)) ∧ 0 < S.lvl (out.getD q 0) ∧ S.lvl (out.getD q 0) < S.st.length ∧ ((out.getD q 0).natAbs : Int) ∈ seen
  dis : ∀ p q, 1 ≤ p → p < q → q < out.length → (out.getD p 0).natAbs ≠ (out.getD q 0).natAbs
  sn : ∀ v ∈ seen, (∃ q, 1 ≤ q ∧ q < out.length ∧ ((out.getD q 0).natAbs : Int) = v) ∨ ∃ j, j < S.tr.length ∧ ((S.lit j).natAbs : Int) = v ∧ lv S.st j = S.st.length
def Imp (S : Sol) (i : Nat) (out : List Int) (P : List Nat) (skip : Int) (rest : List Int) : Prop := ∀ M, Snd M S → (∃ q, 1 ≤ q ∧ q < out.length ∧ hl M (out.getD q 0)) ∨ (∃ j, j ≤ i ∧ (S.lit j).natAbs ∈ P ∧ ¬ hl M (S.lit j)) ∨ ∃ x ∈ rest, x ≠ skip ∧ hl M x
/-- The same, from the q-th literal of a clause on. -/
structure Gth (S : Sol) (i : Nat) (skip : Int) (c : List Int) (q : Nat) (seen out : List Int) (P : List Nat) : Prop where
  li : LI S i seen out P
  imp : Imp S i out P skip (c.drop q)
  fal : ∀ x ∈ c, x ≠ skip → ∃ j, j ≤ i ∧ S.lit j = -x
  ne : P ≠ [] ∨ ∃ x ∈ c.drop q, x ≠ skip ∧ S.lvl x = S.st.length
theorem Gth.skip {S : Sol} {B i q : Nat} {skip : Int} {c seen out : List Int} {P : List Nat} (hS : SW S B) (hi : Inv S) (hp : 0 < S.st.length) (h : Gth S i skip c q seen out P) (hq : q < c.length) (hl1 : c.getD q 0 = skip ∨ ((c.getD q 0).natAbs : Int) ∈ seen ∨ S.lvl (c.getD q 0) = 0) : Gth S i skip c (q + 1) seen out P := by
  have hd := drop_gtD (l := c) (i := q) 0 hq
  refine ⟨h.li, fun M hM => ?_, h.fal, ?_⟩
  · have := h.imp M hM
    rw [hd] at this
    rcases this with h1 | h1 | ⟨x, hx, hne, hm⟩
    · exact .inl h1
    · exact .inr (.inl h1)
    · rcases List.mem_cons.1 hx with rfl | hx
      · obtain ⟨j, hj, e⟩ := h.fal _ (getD_mem hq) hne
        have hjl : j < S.tr.length := Nat.lt_of_le_of_lt hj h.li.il
        have ej : (S.lit j).natAbs = (c.getD q 0).natAbs := by rw [e, Int.natAbs_neg]
        have lo := (lit_ok hS hjl).1
        rw [e] at lo
        have hneg : ¬ hl M (S.lit j) := by rw [e]; exact fun h2 => (hl_neg (by omega)).1 h2 hm
        rcases hl1 with h2 | h2 | h2
        · exact absurd h2 hne
        · rcases h.li.sn _ h2 with ⟨p, h3, h4, h5⟩ | ⟨j2, h3, h4, h5⟩
          · obtain ⟨⟨j3, h6, h7⟩, _⟩ := h.li.outs p h3 h4
            have h8 : j3 = j := lit_inj hS h6 hjl (by rw [h7, Int.natAbs_neg, ej]; exact Int.ofNat.inj h5)
            subst h8
            have h9 : out.getD p 0 = c.getD q 0 := by omega
            exact .inl ⟨p, h3, h4, by rw [h9]; exact hm⟩
          · have h8 : j2 = j := lit_inj hS h3 hjl (by rw [ej]; exact Int.ofNat.inj h4)
            subst h8
            exact .inr (.inl ⟨j2, hj, h.li.all j2 hj (by rw [ej]; exact h2) h5, hneg⟩)
        · exfalso
          have h3 : lv S.st j = 0 := by rw [← hi.lev j hjl, e, lvl_neg]; exact h2
          have := Snd.upto hS hi hM (j + 1) (fun s hs h4 => by
            have := lv_mono S.st (show s ≤ j by omega)
            have := lv_pos hs
            omega) j (by omega) hjl
          exact hneg this
      · exact .inr (.inr ⟨x, hx, hne, hm⟩)
  · rcases h.ne with h1 | ⟨x, hx, hne, hm⟩
    · exact .inl h1
    · rw [hd] at hx
      rcases List.mem_cons.1 hx with rfl | hx
      · rcases hl1 with h2 | h2 | h2
        · exact absurd h2 hne
        · obtain ⟨j, hj, e⟩ := h.fal _ (getD_mem hq) hne
          have hjl : j < S.tr.length := Nat.lt_of_le_of_lt hj h.li.il
          have ej : (S.lit j).natAbs = (c.getD q 0).natAbs := by rw [e, Int.natAbs_neg]
          exact .inl (List.ne_nil_of_mem (h.li.all j hj (by rw [ej]; exact h2) (by rw [← hi.lev j hjl, e, lvl_neg]; exact hm)))
        · omega
      · exact .inr ⟨x, hx, hne, hm⟩
theorem Gth.now {S : Sol} {B i q : Nat} {skip : Int} {c seen out : List Int} {P : List Nat} (hS : SW S B) (hi : Inv S) (h : Gth S i skip c q seen out P) (hq : q < c.length) (h1 : c.getD q 0 ≠ skip) (h2 : ((c.getD q 0).natAbs : Int) ∉ seen) (h3 : S.lvl (c.getD q 0) = S.st.length) : Gth S i skip c (q + 1) (seen ++ [((c.getD q 0).natAbs : Int)]) out (P ++ [(c.getD q 0).natAbs]) := by
  have hd := drop_gtD (l := c) (i := q) 0 hq
  obtain ⟨j, hj, e⟩ := h.fal _ (getD_mem hq) h1
  have hjl : j < S.tr.length := Nat.lt_of_le_of_lt hj h.li.il
  have ej : (S.lit j).natAbs = (c.getD q 0).natAbs := by rw [e, Int.natAbs_neg]
  have lo := (lit_ok hS hjl).1
  rw [e] at lo
  have hlj : lv S.st j = S.st.length := by rw [← hi.lev j hjl, e, lvl_neg]; exact h3
  have hk := h.li
  refine ⟨⟨hk.il, hk.pos, ?_, fun v hv => ?_, fun a ha hs hlv => ?_, fun p hp hp2 => ?_, hk.dis, fun v hv => ?_⟩, fun M hM => ?_, h.fal, .inl (by simp)⟩
  · refine List.nodup_append.2 ⟨hk.pnd, by simp, fun a ha b hb e2 => h2 ?_⟩
    obtain ⟨_, _, _, _, h5⟩ := hk.pen a ha
    rw [List.mem_singleton.1 hb] at e2
    rw [← e2]; exact h5
  · rcases List.mem_append.1 hv with hv | hv
    · obtain ⟨a, h4, h5, h6, h7⟩ := hk.pen v hv
      exact ⟨a, h4, h5, h6, List.mem_append.2 (.inl h7)⟩
    · rw [List.mem_singleton.1 hv]
      exact ⟨j, hj, ej, hlj, by simp⟩
  · rcases List.mem_append.1 hs with hs | hs
    · exact List.mem_append.2 (.inl (hk.all a ha hs hlv))
    · exact List.mem_append.2 (.inr (by rw [Int.ofNat.inj (List.mem_singleton.1 hs)]; simp))
  · obtain ⟨h4, h5, h6, h7⟩ := hk.outs p hp hp2
    exact ⟨h4, h5, h6, List.mem_append.2 (.inl h7)⟩
  · rcases List.mem_append.1 hv with hv | hv
    · exact hk.sn v hv
    · rw [List.mem_singleton.1 hv]
      exact .inr ⟨j, hjl, by rw [ej], hlj⟩
  · have := h.imp M hM
    rw [hd] at this
    rcases this with h4 | ⟨a, h4, h5, h6⟩ | ⟨x, hx, hne, hm⟩
    · exact .inl h4
    · exact .inr (.inl ⟨a, h4, List.mem_append.2 (.inl h5), h6⟩)
    · rcases List.mem_cons.1 hx with rfl | hx
      · exact .inr (.inl ⟨j, hj, List.mem_append.2 (.inr (by rw [ej]; simp)), by rw [e]; exact fun h2 => (hl_neg (by omega)).1 h2 hm⟩)
      · exact .inr (.inr ⟨x, hx, hne, hm⟩)
theorem Gth.out {S : Sol} {B i q : Nat} {skip : Int} {c seen out : List Int} {P : List Nat} (hS : SW S B) (hi : Inv S) (h : Gth S i skip c q seen out P) (hq : q < c.length) (h1 : c.getD q 0 ≠ skip) (h2 : ((c.getD q 0).natAbs : Int) ∉ seen) (h0 : S.lvl (c.getD q 0) ≠ 0) (h3 : S.lvl (c.getD q 0) ≠ S.st.length) : Gth S i skip c (q + 1) (seen ++ [((c.getD q 0).natAbs : Int)]) (out ++ [c.getD q 0]) P := by
  have hd := drop_gtD (l := c) (i := q) 0 hq
  obtain ⟨j, hj, e⟩ := h.fal _ (getD_mem hq) h1
  have hjl : j < S.tr.length := Nat.lt_of_le_of_lt hj h.li.il
  have ej : (S.lit j).natAbs = (c.getD q 0).natAbs := by rw [e, Int.natAbs_neg]
  have hlj : lv S.st j = S.lvl (c.getD q 0) := by rw [← hi.lev j hjl, e, lvl_neg]
  have hlt := lv_le S.st j
  have hk := h.li
  have og : ∀ p, p < out.length → (out ++ [c.getD q 0]).getD p 0 = out.getD p 0 := fun p hp => by rw [snoc_getD, if_pos hp]
  have ol : (out ++ [c.getD q 0]).getD out.length 0 = c.getD q 0 := by rw [snoc_getD, if_neg (Nat.lt_irrefl _), if_pos rfl]
  have oln : (out ++ [c.getD q 0]).length = out.length + 1 := by simp
  refine ⟨⟨hk.il, by omega, hk.pnd, fun v hv => ?_, fun a ha hs hlv => ?_, fun p hp hp2 => ?_, fun p r hp hpr hr => ?_, fun v hv => ?_⟩, fun M hM => ?_, h.fal, ?_⟩
  · obtain ⟨a, h4, h5, h6, h7⟩ := hk.pen v hv
    exact ⟨a, h4, h5, h6, List.mem_append.2 (.inl h7)⟩
  · rcases List.mem_append.1 hs with hs | hs
    · exact hk.all a ha hs hlv
    · exfalso
      have h5 : a = j := lit_inj hS (Nat.lt_of_le_of_lt ha hk.il) hjl (by rw [Int.ofNat.inj (List.mem_singleton.1 hs), ej])
      subst h5
      omega
  · by_cases e2 : p < out.length
    · rw [og p e2]
      obtain ⟨h4, h5, h6, h7⟩ := hk.outs p hp e2
      exact ⟨h4, h5, h6, List.mem_append.2 (.inl h7)⟩
    · have e3 : p = out.length := by omega
      subst e3
      rw [ol]
      exact ⟨⟨j, hjl, e⟩, by omega, by omega, by simp⟩
  · rw [og p (by omega)]
    by_cases e2 : r < out.length
    · rw [og r e2]; exact hk.dis p r hp hpr e2
    · have e3 : r = out.length := by omega
      subst e3
      rw [ol]
      exact fun e4 => h2 (by rw [← e4]; exact (hk.outs p hp hpr).2.2.2)
  · rcases List.mem_append.1 hv with hv | hv
    · rcases hk.sn v hv with ⟨p, h4, h5, h6⟩ | h4
      · exact .inl ⟨p, h4, by omega, by rw [og p h5]; exact h6⟩
      · exact .inr h4
    · rw [List.mem_singleton.1 hv]
      exact .inl ⟨out.length, hk.pos, by omega, by rw [ol]⟩
  · have := h.imp M hM
    rw [hd] at this
    rcases this with ⟨p, h4, h5, h6⟩ | h4 | ⟨x, hx, hne, hm⟩
    · exact .inl ⟨p, h4, by omega, by rw [og p h5]; exact h6⟩
    · exact .inr (.inl h4)
    · rcases List.mem_cons.1 hx with rfl | hx
      · exact .inl ⟨out.length, hk.pos, by omega, by rw [ol]; exact hm⟩
      · exact .inr (.inr ⟨x, hx, hne, hm⟩)
  · rcases h.ne with h4 | ⟨x, hx, hne, hm⟩
    · exact .inl h4
    · rw [hd] at hx
      rcases List.mem_cons.1 hx with rfl | hx
      · exact absurd hm h3
      · exact .inr ⟨x, hx, hne, hm⟩
/-- A clause is gathered: down the trail. -/
structure Dwn (S : Sol) (i : Nat) (seen out : List Int) (P : List Nat) : Prop where
  li : LI S i seen out P
  imp : Imp S i out P 0 []
  ne : P ≠ []
theorem Gth.dwn {S : Sol} {i : Nat} {skip : Int} {c seen out : List Int} {P : List Nat} (h : Gth S i skip c c.length seen out P) : Dwn S i seen out P := by
  refine ⟨h.li, fun M hM => ?_, ?_⟩
  · have := h.imp M hM
    rw [List.drop_of_length_le (Nat.le_refl _)] at this
    rcases this with h4 | h4 | ⟨x, hx, _⟩
    · exact .inl h4
    · exact .inr (.inl h4)
    · simp at hx
  · rcases h.ne with h4 | ⟨x, hx, _⟩
    · exact h4
    · rw [List.drop_of_length_le (Nat.le_refl _)] at hx
      simp at hx
theorem Dwn.step {S : Sol} {i : Nat} {seen out : List Int} {P : List Nat} (h : Dwn S i seen out P) (hs : ((S.lit i).natAbs : Int) ∉ seen) : 1 ≤ i ∧ Dwn S (i - 1) seen out P := by
  have hk := h.li
  have hne : ∀ v ∈ P, ∃ j, j < i ∧ (S.lit j).natAbs = v ∧ lv S.st j = S.st.length ∧ (v : Int) ∈ seen := fun v hv => by
    obtain ⟨j, h1, h2, h3, h4⟩ := hk.pen v hv
    refine ⟨j, ?_, h2, h3, h4⟩
    by_cases e : j = i
    · subst e; rw [h2] at hs; exact absurd h4 hs
    · omega
  obtain ⟨v, hv⟩ := List.exists_mem_of_ne_nil _ h.ne
  obtain ⟨j, h1, _⟩ := hne v hv
  refine ⟨by omega, ⟨by have := hk.il; omega, hk.pos, hk.pnd, fun v hv => ?_, fun a ha => hk.all a (by omega), hk.outs, hk.dis, hk.sn⟩, fun M hM => ?_, h.ne⟩
  · obtain ⟨j, h1, h2⟩ := hne v hv
    exact ⟨j, by omega, h2⟩
  · rcases h.imp M hM with h4 | ⟨a, h4, h5, h6⟩ | h4
    · exact .inl h4
    · obtain ⟨j2, h7, h8, h9, h10⟩ := hk.pen _ h5
      refine .inr (.inl ⟨a, ?_, h5, h6⟩)
      by_cases e : a = i
      · subst e; exact absurd h10 hs
      · omega
    · exact .inr (.inr h4)
theorem Dwn.at {S : Sol} {i : Nat} {seen out : List Int} {P : List Nat} (h : Dwn S i seen out P) (hs : ((S.lit i).natAbs : Int) ∈ seen) : lv S.st i = S.st.length ∧ (S.lit i).natAbs ∈ P := by
  have hk := h.li
  obtain ⟨v, hv⟩ := List.exists_mem_of_ne_nil _ h.ne
  obtain ⟨j, h1, _, h3, _⟩ := hk.pen v hv
  have := lv_mono S.st h1
  have := lv_le S.st i
  have e : lv S.st i = S.st.length := by omega
  exact ⟨e, hk.all i (Nat.le_refl _) hs e⟩
/-- A clause as it will be learned, but for the order. -/
structure Good (S : Sol) (out : List Int) : Prop where
  pos : 0 < out.length
  dis : Dis out
  on : ∀ x ∈ out, ∃ i, i < S.tr.length ∧ S.lit i = -x
  fst : S.lvl (out.getD 0 0) = S.st.length
  low : ∀ q, 1 ≤ q → q < out.length → 0 < S.lvl (out.getD q 0) ∧ S.lvl (out.getD q 0) < S.st.length
  snd : ∀ M, Snd M S → HoldsC M out
theorem Dwn.last {S : Sol} {B i : Nat} {seen out : List Int} {P : List Nat} (hS : SW S B) (hi : Inv S) (h : Dwn S i seen out P) (hs : ((S.lit i).natAbs : Int) ∈ seen) (hP : P.length = 1) : Good S (out.set 0 (-(S.lit i))) := by
  obtain ⟨a1, a2⟩ := h.at hs
  have hk := h.li
  have lo := (lit_ok hS hk.il).1
  have g0 : (out.set 0 (-(S.lit i))).getD 0 0 = -(S.lit i) := by rw [getD_set _ _ _ _ _ hk.pos, if_pos rfl]
  have g1 : ∀ q, 1 ≤ q → (out.set 0 (-(S.lit i))).getD q 0 = out.getD q 0 := fun q hq => by rw [getD_set _ _ _ _ _ hk.pos, if_neg (by omega)]
  have l0 : S.lvl (-(S.lit i)) = S.st.length := by rw [lvl_neg, hi.lev i hk.il, a1]
  have hPe : P = [(S.lit i).natAbs] := by
    match P, hP, a2 with
    | [x], _, a2 => rw [List.mem_singleton.1 a2]
  refine ⟨by simpa using hk.pos, fun p q hp hq e => ?_, fun x hx => ?_, by rw [g0]; exact l0, fun q h1 h2 => ?_, fun M hM => ?_⟩
  · simp only [List.length_set] at hp hq
    have key : ∀ q, 1 ≤ q → q < out.length → -(S.lit i) ≠ out.getD q 0 := fun q h1 h2 e2 => by
      have := (hk.outs q h1 h2).2.2.1
      rw [← e2] at this
      omega
    by_cases p0 : p = 0
    · subst p0
      by_cases q0 : q = 0
      · exact q0.symm
      · rw [g0, g1 q (by omega)] at e
        exact absurd e (key q (by omega) hq)
    · by_cases q0 : q = 0
      · subst q0
        rw [g0, g1 p (by omega)] at e
        exact absurd e.symm (key p (by omega) hp)
      · rw [g1 p (by omega), g1 q (by omega)] at e
        by_cases h3 : p < q
        · exact absurd (by rw [e]) (hk.dis p q (by omega) h3 hq)
        · by_cases h4 : q < p
          · exact absurd (by rw [e]) (hk.dis q p (by omega) h4 hp)
          · omega
  · obtain ⟨q, h1, h2⟩ := mem_getD (d := 0) hx
    simp only [List.length_set] at h1
    by_cases q0 : q = 0
    · subst q0
      rw [g0] at h2
      exact ⟨i, hk.il, by omega⟩
    · rw [g1 q (by omega)] at h2
      rw [← h2]
      exact (hk.outs q (by omega) h1).1
  · simp only [List.length_set] at h2
    rw [g1 q h1]
    exact ⟨(hk.outs q h1 h2).2.1, (hk.outs q h1 h2).2.2.1⟩
  · rcases h.imp M hM with ⟨q, h1, h2, h3⟩ | ⟨j, h1, h2, h3⟩ | ⟨x, hx, _⟩
    · refine ⟨_, getD_mem (l := out.set 0 (-(S.lit i))) (i := q) (d := 0) (by simpa using h2), ?_⟩
      rw [g1 q h1]; exact h3
    · refine ⟨_, getD_mem (l := out.set 0 (-(S.lit i))) (i := 0) (d := 0) (by simpa using hk.pos), ?_⟩
      rw [g0]
      rw [hPe] at h2
      have e : j = i := lit_inj hS (Nat.lt_of_le_of_lt h1 hk.il) hk.il (List.mem_singleton.1 h2)
      subst e
      exact (hl_neg lo).2 h3
    · simp at hx
theorem lv_strict {st : List Nat} {i j : Nat} (hi : i ∈ st) (hj : j < i) : lv st j < st.length := by
  unfold lv
  exact List.length_filter_lt_length_iff_exists.2 ⟨i, hi, by simp; omega⟩
theorem erase_len {P : List Nat} {v : Nat} (h : v ∈ P) : (P.erase v).length = P.length - 1 := List.length_erase_of_mem h
/-- The next clause to look at. -/
theorem Dwn.next {S : Sol} {B i : Nat} {seen out : List Int} {P : List Nat} (hS : SW S B) (hi : Inv S) (hp : 0 < S.st.length) (h : Dwn S i seen out P) (hs : ((S.lit i).natAbs : Int) ∈ seen) (hP : P.length ≠ 1) :
    ∃ k : Nat, S.wy (S.lit i) = (k : Int) ∧ k < S.cl.length ∧ 1 ≤ i ∧ Gth S (i - 1) (S.lit i) (S.cla k) 0 seen out (P.erase (S.lit i).natAbs) := by
  obtain ⟨a1, a2⟩ := h.at hs
  have hk := h.li
  have hlen := erase_len a2
  have hP0 : P.length ≠ 0 := fun e => h.ne (List.eq_nil_of_length_eq_zero e)
  have hne : P.erase (S.lit i).natAbs ≠ [] := fun e => by rw [e] at hlen; simp at hlen; omega
  have hpe : ∀ v ∈ P.erase (S.lit i).natAbs, ∃ j, j < i ∧ (S.lit j).natAbs = v ∧ lv S.st j = S.st.length ∧ (v : Int) ∈ seen := fun v hv => by
    obtain ⟨v1, v2⟩ := (List.Nodup.mem_erase_iff hk.pnd).1 hv
    obtain ⟨j, h1, h2, h3, h4⟩ := hk.pen v v2
    refine ⟨j, ?_, h2, h3, h4⟩
    by_cases e : j = i
    · subst e; exact absurd h2.symm v1
    · omega
  obtain ⟨v, hv⟩ := List.exists_mem_of_ne_nil _ hne
  obtain ⟨j, j1, j2, j3, j4⟩ := hpe v hv
  rcases hi.why i hk.il with ⟨w1, w2⟩ | ⟨k, w1, w2, w3, w4⟩
  · exfalso
    rcases w2 with w2 | w2
    · have := lv_strict w2 j1; omega
    · omega
  · refine ⟨k, w1, w2, by omega, ⟨⟨by have := hk.il; omega, hk.pos, hk.pnd.erase _, fun v hv => ?_, fun a ha hs2 hlv => ?_, hk.outs, hk.dis, hk.sn⟩, fun M hM => ?_, fun x hx hne2 => ?_, .inl hne⟩⟩
    · obtain ⟨j, h1, h2⟩ := hpe v hv
      exact ⟨j, by omega, h2⟩
    · have := hk.all a (by omega) hs2 hlv
      refine (List.Nodup.mem_erase_iff hk.pnd).2 ⟨fun e => ?_, this⟩
      have := lit_inj hS (i := a) (j := i) (by have := hk.il; omega) hk.il e
      omega
    · obtain ⟨x, hx, hm⟩ := hM.cls k w2
      rw [List.drop_zero]
      by_cases e : x = S.lit i
      · rcases h.imp M hM with h4 | ⟨a, h4, h5, h6⟩ | ⟨x, hx, _⟩
        · exact .inl h4
        · refine .inr (.inl ⟨a, ?_, ?_, h6⟩)
          · by_cases e2 : a = i
            · subst e2; rw [e] at hm; exact absurd hm h6
            · omega
          · refine (List.Nodup.mem_erase_iff hk.pnd).2 ⟨fun e3 => ?_, h5⟩
            have := lit_inj hS (i := a) (j := i) (Nat.lt_of_le_of_lt h4 hk.il) hk.il e3
            subst this
            rw [e] at hm; exact h6 hm
        · simp at hx
      · exact .inr (.inr ⟨x, hx, e, hm⟩)
    · obtain ⟨j, h1, h2⟩ := w4 x hx hne2
      exact ⟨j, by omega, h2⟩
theorem Confl.start {S : Sol} {B k : Nat} (hS : SW S B) (h : Confl S k) (hp : 0 < S.st.length) (ht : 0 < S.tr.length) : Gth S (S.tr.length - 1) 0 (S.cla k) 0 [] [0] [] := by
  have hlo := (hS.cl (k := k) h.kl).2.2
  refine ⟨⟨by omega, by simp, by simp, fun v hv => by simp at hv, fun j _ hj => by simp at hj, fun q h1 h2 => by simp at h2; omega, fun p q h1 h2 h3 => by simp at h3; omega, fun v hv => by simp at hv⟩, fun M hM => ?_, fun x hx _ => ?_, ?_⟩
  · obtain ⟨x, hx, hm⟩ := hM.cls k h.kl
    exact .inr (.inr ⟨x, by rw [List.drop_zero]; exact hx, (hlo x hx).1, hm⟩)
  · obtain ⟨i, h1, h2⟩ := false_on hS h.inv (hlo x hx) (h.fal x hx)
    exact ⟨i, by omega, h2⟩
  · obtain ⟨x, hx, hm⟩ := h.cur
    exact .inr ⟨x, by rw [List.drop_zero]; exact hx, (hlo x hx).1, hm⟩
/-- The literal of the greatest level comes second. -/
structure Pck (S : Sol) (j : Nat) (out : List Int) (to : Nat) : Prop where
  good : Good S out
  j1 : 1 ≤ j
  jl : j ≤ out.length
  le : ∀ p, 1 ≤ p → p < j → S.lvl (out.getD p 0) ≤ to
  two : 2 ≤ j → S.lvl (out.getD 1 0) = to
  one : j = 1 → to = 0
theorem Good.pck {S : Sol} {out : List Int} (h : Good S out) : Pck S 1 out 0 := ⟨h, by omega, h.pos, fun p h1 h2 => by omega, fun h => by omega, fun _ => rfl⟩
theorem Good.swap {S : Sol} {out : List Int} (h : Good S out) {j : Nat} (h1 : 1 ≤ j) (h2 : j < out.length) : Good S (Sol.swapAt out 1 j) := by
  have hm := swapAt_iff (c := out) (i := 1) (j := j) (by omega) h2
  refine ⟨by rw [swapAt_len]; exact h.pos, swapAt_dis h.dis (by omega) h2, fun x hx => h.on x ((hm x).1 hx), ?_, fun q h3 h4 => ?_, fun M hM => ?_⟩
  · rw [swapAt_get (by omega) h2, if_neg (by omega), if_neg (by omega)]; exact h.fst
  · rw [swapAt_len] at h4
    rw [swapAt_get (by omega) h2]
    split
    · exact h.low 1 (by omega) (by omega)
    · split
      · exact h.low j h1 h2
      · exact h.low q h3 h4
  · obtain ⟨x, hx, hm2⟩ := h.snd M hM
    exact ⟨x, (hm x).2 hx, hm2⟩
theorem Pck.more {S : Sol} {j to : Nat} {out : List Int} (h : Pck S j out to) (hj : j < out.length) (hd : to < S.lvl (out.getD j 0)) : Pck S (j + 1) (Sol.swapAt out 1 j) (S.lvl (out.getD j 0)) := by
  have h1 := h.j1
  refine ⟨h.good.swap h1 hj, by omega, by rw [swapAt_len]; omega, fun p hp hp2 => ?_, fun _ => ?_, fun h => by omega⟩
  · rw [swapAt_get (by omega) hj]
    split
    · by_cases e : j = 1
      · subst e; exact Nat.le_refl _
      · have := h.le 1 (by omega) (by omega); omega
    · split
      · exact Nat.le_refl _
      · have := h.le p hp (by omega); omega
  · rw [swapAt_get (by omega) hj]
    split
    · rename_i e; rw [← e]
    · rw [if_pos rfl]
theorem Pck.same {S : Sol} {j to : Nat} {out : List Int} (h : Pck S j out to) (hj : j < out.length) (hd : S.lvl (out.getD j 0) ≤ to) : Pck S (j + 1) out to := by
  have h1 := h.j1
  refine ⟨h.good, by omega, by omega, fun p hp hp2 => ?_, fun _ => ?_, fun h => by omega⟩
  · by_cases e : p = j
    · rw [e]; exact hd
    · exact h.le p hp (by omega)
  · by_cases e : j = 1
    · have := (h.good.low j h1 hj).1
      have := h.one e
      omega
    · exact h.two (by omega)
theorem Pck.lesson {S : Sol} {to : Nat} {out : List Int} (hp : 0 < S.st.length) (h : Pck S out.length out to) : Lesson S out to := by
  have hg := h.good
  have h0 := hg.pos
  have hd : to < S.st.length := by
    by_cases e : out.length = 1
    · rw [h.one e]; exact hp
    · rw [← h.two (by omega)]; exact (hg.low 1 (by omega) (by omega)).2
  exact ⟨hd, hg.pos, hg.dis, hg.on, by rw [hg.fst]; exact hd, fun j h1 h2 => h.le j h1 h2, fun h1 => h.two (by omega), fun h1 => h.one h1⟩
theorem LI.len {S : Sol} {B i : Nat} {seen out : List Int} {P : List Nat} (hS : SW S B) (h : LI S i seen out P) : out.length ≤ S.n + 1 ∧ P.length ≤ S.n := by
  have h0 := h.pos
  constructor
  · have nd : ((out.drop 1).map Int.natAbs).Nodup := by
      rw [List.nodup_iff_pairwise_ne, List.pairwise_iff_getElem]
      intro a b ha hb hab e
      simp only [List.length_map, List.length_drop] at ha hb
      refine h.dis (1 + a) (1 + b) (by omega) (by omega) (by omega) ?_
      simp only [List.getElem_map, List.getElem_drop] at e
      rw [List.getD_eq_getElem?_getD, List.getD_eq_getElem?_getD, List.getElem?_eq_getElem (by omega), List.getElem?_eq_getElem (by omega)]
      exact e
    have := nodup_len S.n _ nd (fun x hx => by
      obtain ⟨y, hy, rfl⟩ := List.mem_map.1 hx
      obtain ⟨q, hq, e⟩ := mem_getD (d := 0) hy
      simp only [List.length_drop] at hq
      have e3 : (out.drop 1).getD q 0 = out.getD (1 + q) 0 := by simp only [List.getD_eq_getElem?_getD, List.getElem?_drop]
      obtain ⟨⟨j, h1, h2⟩, _⟩ := h.outs (1 + q) (by omega) (by omega)
      have := lit_ok hS h1
      rw [h2] at this
      rw [← e, e3]
      obtain ⟨h3, h4⟩ := this
      rw [Int.natAbs_neg] at h4
      omega)
    simp at this
    omega
  · exact nodup_len S.n P h.pnd (fun v hv => by
      obtain ⟨j, h1, h2, _⟩ := h.pen v hv
      have := lit_ok hS (Nat.lt_of_le_of_lt h1 h.il)
      obtain ⟨h3, h4⟩ := this
      omega)
theorem Good.len {S : Sol} {B : Nat} {out : List Int} (hS : SW S B) (h : Good S out) : out.length ≤ S.n := by
  have hinj : ∀ a b, a < out.length → b < out.length → (out.getD a 0).natAbs = (out.getD b 0).natAbs → a = b := fun a b ha hb e => by
    obtain ⟨i, h1, h2⟩ := h.on _ (getD_mem (d := 0) ha)
    obtain ⟨j, h3, h4⟩ := h.on _ (getD_mem (d := 0) hb)
    have := lit_inj hS h1 h3 (by rw [h2, h4, Int.natAbs_neg, Int.natAbs_neg, e])
    subst this
    exact h.dis a b ha hb (by omega)
  have nd : (out.map Int.natAbs).Nodup := by
    rw [List.nodup_iff_pairwise_ne, List.pairwise_iff_getElem]
    intro a b ha hb hab e
    simp only [List.length_map] at ha hb
    have := hinj a b ha hb (by
      simp only [List.getElem_map] at e
      rw [List.getD_eq_getElem?_getD, List.getD_eq_getElem?_getD, List.getElem?_eq_getElem ha, List.getElem?_eq_getElem hb]
      exact e)
    omega
  have := nodup_len S.n _ nd (fun x hx => by
    obtain ⟨y, hy, rfl⟩ := List.mem_map.1 hx
    obtain ⟨i, h1, h2⟩ := h.on _ hy
    have := lit_ok hS h1
    rw [h2] at this
    obtain ⟨h3, h4⟩ := this
    rw [Int.natAbs_neg] at h4
    omega)
  simpa using this
/-- The clause that not all decisions are right is a lesson, too. -/
theorem refuted_lesson {S : Sol} {B : Nat} (hS : SW S B) (hi : Inv S) (hst : ∀ x ∈ S.st, x < S.tr.length) (hp : 0 < S.st.length) : Lesson S S.refuted (S.st.length - 1) := by
  have hg : ∀ m, m < S.st.length → S.refuted.getD m 0 = -(S.lit (S.st.getD (S.st.length - 1 - m) 0)) := fun m hm => by
    rw [List.getD_eq_getElem?_getD]
    simp [Sol.refuted, Sol.lit, List.getElem?_map, List.getElem?_reverse, hm]
  have hl := refuted_len S
  have hlv : ∀ a, a < S.st.length → lv S.st (S.st.getD a 0) = a + 1 := fun a ha => by
    have h1 := lv_ge hi.sts ha (Nat.le_refl _)
    have h2 : lv S.st (S.st.getD a 0) ≤ a + 1 := by
      by_cases e : a + 1 < S.st.length
      · exact lv_lt hi.sts e (hi.sts a (a + 1) (by omega) e)
      · have := lv_le S.st (S.st.getD a 0); omega
    omega
  have hlvl : ∀ m, m < S.st.length → S.lvl (S.refuted.getD m 0) = S.st.length - m := fun m hm => by
    rw [hg m hm, lvl_neg, hi.lev _ (hst _ (getD_mem (by omega))), hlv _ (by omega)]
    omega
  refine ⟨by omega, by omega, fun a b ha hb e => ?_, fun x hx => ?_, by rw [hlvl 0 hp]; omega, fun j h1 h2 => by rw [hlvl j (by omega)]; omega, fun h1 => by rw [hlvl 1 (by omega)], fun h1 => by omega⟩
  · have h1 := hlvl a (by omega)
    rw [e, hlvl b (by omega)] at h1
    omega
  · obtain ⟨m, hm, e⟩ := mem_getD (d := 0) hx
    rw [hg m (by omega)] at e
    exact ⟨_, hst _ (getD_mem (l := S.st) (i := S.st.length - 1 - m) (d := 0) (by omega)), by omega⟩
theorem refuted_holds {M : Nat → Bool} {S : Sol} {B k : Nat} (hS : SW S B) (hc : Confl S k) (h : Snd M S) (hst : ∀ x ∈ S.st, x < S.tr.length) : HoldsC M S.refuted := by
  obtain ⟨i, hi, hn⟩ := Confl.wrong hS hc h
  obtain ⟨a, ha, e⟩ := mem_getD (d := 0) hi
  have hit := hst i hi
  refine ⟨-(S.lit i), ?_, (hl_neg (lit_ok hS hit).1).2 hn⟩
  unfold Sol.refuted
  exact List.mem_map.2 ⟨a, List.mem_reverse.2 (List.mem_range.2 ha), by rw [e]; rfl⟩
end Go.Proofs.YtdgpmopcmacicaaPi

/- The solver's memory; the walks of at, is, set. -/
set_option linter.unusedVariables false
set_option linter.unusedSimpArgs false
set_option maxRecDepth 100000
namespace Go.Proofs.YtdgpmopcmacicaaPi
set_option maxHeartbeats 4000000
abbrev PV.b8 (x : Int) : PV := .im (.int .i8 x)
abbrev i8s (l : List Int) : List PV := (l.map fun x => Im.int .i8 x).map PV.im
abbrev i64s (l : List Int) : List PV := (l.map fun x => Im.int .i64 x).map PV.im
abbrev n64s (l : List Nat) : List PV := (l.map fun (x : Nat) => Im.int .i64 (x : Int)).map PV.im
/-- What of the solver's memory no number says: versions, and what lies behind the ends. -/
structure Ver where
  c : Nat
  t : Nat
  s : Nat
  wv : Nat → Nat
  tx : List Int
  sx : List Nat
  K : Nat
abbrev wcells (S : Sol) (V : Ver) : List PV := (List.range (2 * S.n + 2)).map fun i => PV.vs 0 (i + 11) 0 (S.wl.getD i []).length (V.wv i)
abbrev ccells (S : Sol) : List PV := (List.range S.cl.length).map fun k => PV.vs 0 (k + (2 * S.n + 2) + 11) 0 (S.cl.getD k []).length 0
abbrev sbox (S : Sol) (V : Ver) : AObj := .box [.vs 0 7 0 S.cl.length V.c, .vs 0 1 0 (2 * S.n + 2) 0, .vs 0 2 0 (S.n + 1) 0, .vs 0 3 0 (S.n + 1) 0, .vs 0 4 0 (S.n + 1) 0, .vs 0 8 0 S.tr.length V.t, .vs 0 9 0 S.st.length V.s, .i S.head, .i S.next]
/-- A solver in a frame. -/
structure SAt (up : Frs) (d : Nat) (S : Sol) (V : Ver) : Prop where
  box : fget up d 5 = some (sbox S V)
  wch : fget up d 1 = some (.vec 22 0 (wcells S V))
  val : fget up d 2 = some (.vec 221 0 (i8s S.val))
  lev : fget up d 3 = some (.vec 3 0 (n64s S.lev))
  why : fget up d 4 = some (.vec 3 0 (i64s S.why))
  clo : fget up d 7 = some (.vec 22 V.c (ccells S))
  trl : fget up d 8 = some (.vec 3 V.t (i64s S.tr ++ i64s V.tx))
  sts : fget up d 9 = some (.vec 3 V.s (n64s S.st ++ n64s V.sx))
  wli : ∀ i, i < 2 * S.n + 2 → fget up d (i + 11) = some (.vec 3 (V.wv i) (n64s (S.wl.getD i [])))
  cli : ∀ k, k < S.cl.length → fget up d (k + (2 * S.n + 2) + 11) = some (.vec 3 0 (i64s (S.cl.getD k [])))
/-- Places kept free for clauses. -/
def Spare (up : Frs) (d : Nat) (S : Sol) (K m : Nat) : Prop := ∀ k, m ≤ k → k < K → fget up d (k + (2 * S.n + 2) + 11) = some .dead
/-- The places of a solver. -/
def SPl (S : Sol) (K j : Nat) : Prop := (1 ≤ j ∧ j ≤ 5) ∨ (7 ≤ j ∧ j ≤ 9) ∨ (11 ≤ j ∧ j < K + (2 * S.n + 2) + 11)
/-- All else stays. -/
structure Else (up u : Frs) (d : Nat) (S : Sol) (K : Nat) : Prop where
  shape : u.map List.length = up.map List.length
  same : ∀ d' j, ¬ (d' = d ∧ SPl S K j) → fget u d' j = fget up d' j
theorem Else.refl (up : Frs) (d : Nat) (S : Sol) (K : Nat) : Else up up d S K := ⟨rfl, fun _ _ _ => rfl⟩
theorem Else.trans {up u v : Frs} {d : Nat} {S S' : Sol} {K : Nat} (h : Else up u d S K) (hn : S'.n = S.n) (k : Else u v d S' K) : Else up v d S K :=
  ⟨k.shape.trans h.shape, fun d' j hj => (k.same d' j (by unfold SPl at hj ⊢; rw [hn]; exact hj)).trans (h.same d' j hj)⟩
theorem Else.fset {up u : Frs} {d : Nat} {S : Sol} {K j : Nat} (h : Else up u d S K) (hj : SPl S K j) (o : AObj) : Else up (fset u d j o) d S K :=
  ⟨by rw [fset_shape]; exact h.shape, fun d' j' hn => by
    rw [fget_fset, if_neg (fun e => hn (by rw [e.1, e.2]; exact ⟨rfl, hj⟩))]
    exact h.same d' j' hn⟩
theorem i8s_get (l : List Int) (i : Nat) (h : i < l.length) : (i8s l)[i]? = some (.im (.int .i8 (l.getD i 0))) := by rw [i8s, List.getElem?_map, List.getElem?_map, getD_some 0 h]; rfl
theorem i64s_get (l : List Int) (i : Nat) (h : i < l.length) : (i64s l)[i]? = some (.im (.int .i64 (l.getD i 0))) := by rw [i64s, List.getElem?_map, List.getElem?_map, getD_some 0 h]; rfl
theorem n64s_get (l : List Nat) (i : Nat) (h : i < l.length) : (n64s l)[i]? = some (.im (.int .i64 ((l.getD i 0 : Nat) : Int))) := by rw [n64s, List.getElem?_map, List.getElem?_map, getD_some 0 h]; rfl
theorem wrapi8 {x : Int} (h1 : -128 ≤ x) (h2 : x ≤ 127) : IntKind.i8.wrap x = x := by
  simp [IntKind.wrap, IntKind.signed, IntKind.bits]
  omega
theorem at_ok (n : Nat) (l : Int) (h : LitOk n l) (hn : n ≤ 20000) (up : Frs) : ACalls Try.prog 168 [.i l] up fun v u => v = .i (atL l : Nat) ∧ u = up := by
  have h2 := h.2
  have e := atL_cast h
  have w1 : IntKind.i64.wrap (-2 * l) = -2 * l := wrap64 (by omega)
  have w2 : IntKind.i64.wrap (-2 * l + 1) = -2 * l + 1 := wrap64 (by omega)
  have w3 : IntKind.i64.wrap (2 * l) = 2 * l := wrap64 (by omega)
  refine ACalls.code Try.func168 rfl 10 rfl (by simp) [.tmp 2] rfl fun Q hQ => ?_
  simp only [ups, PV.up, argEnv]
  have ft := And.intro ty_3 (And.intro ty_4 trivial)
  refine Run.seq ?_
  have fx := And.intro w3 (And.intro w2 (And.intro w1 ft))
  refine Run.go ?_
  refine End.kp [0] ?_
  refine Run.seq ?_
  refine Run.seq ?_
  refine Run.go ?_
  refine End.kp [0, 4] ?_
  refine Run.cond _ rfl (fun hb => ?_) (fun hb => ?_)
  · have hb2 := of_decide_eq_true hb
    refine Run.seq ?_
    have fx := And.intro w3 (And.intro w2 (And.intro w1 ft))
    refine Run.go ?_
    refine End.kp [2] ?_
    refine Run.ret (hQ _ _ ⟨.inr rfl, _, rfl, _, rfl, ?_⟩)
    exact ⟨by rw [e, if_pos hb2], rfl⟩
  · have hb2 := of_decide_eq_false hb
    refine Run.skip ?_
    refine End.kp [0] ?_
    refine Run.seq ?_
    have fx := And.intro w3 (And.intro w2 (And.intro w1 ft))
    refine Run.go ?_
    refine End.kp [2] ?_
    refine Run.ret (hQ _ _ ⟨.inr rfl, _, rfl, _, rfl, ?_⟩)
    exact ⟨by rw [e, if_neg hb2], rfl⟩
theorem is_ok (S : Sol) (V : Ver) (d : Nat) (up : Frs) (hA : SAt up d S V) (hS : SLen S) (l : Int) (h : LitOk S.n l) : ACalls Try.prog 167 [.ptr d 5 0, .i l] up fun v u => v = .b8 (S.is l) ∧ u = up := by
  obtain ⟨h0, h2⟩ := h
  have hn := hS.n
  have hbx := hA.box
  have hvl := hA.val
  have hg := i8s_get S.val l.natAbs (by have := hS.val; omega)
  have ht := hS.tri _ (getD_mem (l := S.val) (i := l.natAbs) (d := 0) (by have := hS.val; omega))
  have wn : IntKind.i64.wrap (0 - l) = -l := by rw [wrap64 (by omega)]; omega
  have w8 : IntKind.i8.wrap (0 - S.val.getD l.natAbs 0) = -(S.val.getD l.natAbs 0) := by rw [wrapi8 (by omega) (by omega)]; omega
  refine ACalls.code Try.func167 rfl 23 rfl (by simp) [.tmp 4] rfl fun Q hQ => ?_
  simp only [ups, PV.up, argEnv]
  have ft := And.intro ty_2 (And.intro ty_3 (And.intro ty_4 (And.intro ty_216 (And.intro ty_217 (And.intro ty_219 (And.intro ty_221 trivial))))))
  refine Run.seq ?_
  have fx := And.intro (@Nat.zero_add) (And.intro w8 (And.intro wn (And.intro hvl (And.intro hbx ft))))
  refine Run.go ?_
  refine End.kp [0, 1] ?_
  refine Run.seq ?_
  refine Run.seq ?_
  refine Run.go ?_
  refine End.kp [0, 1, 6] ?_
  refine Run.cond _ rfl (fun hb => ?_) (fun hb => ?_)
  · have hb2 := of_decide_eq_true hb
    have q0 : 0 ≤ -l := by omega
    have q1 : -l < ((S.n + 1 : Nat) : Int) := by omega
    have q2 : (-l).toNat = l.natAbs := by omega
    refine Run.seq ?_
    have fx := And.intro hg (And.intro q2 (And.intro q1 (And.intro q0 (And.intro (@Nat.zero_add) (And.intro w8 (And.intro wn (And.intro hvl (And.intro hbx ft))))))))
    refine Run.go ?_
    refine End.kp [4] ?_
    refine Run.ret (hQ _ _ ⟨.inr rfl, _, rfl, _, rfl, ?_⟩)
    exact ⟨by rw [Sol.is, if_pos hb2], rfl⟩
  · have hb2 := of_decide_eq_false hb
    have q0 : 0 ≤ l := by omega
    have q1 : l < ((S.n + 1 : Nat) : Int) := by omega
    have q2 : l.toNat = l.natAbs := by omega
    refine Run.skip ?_
    refine End.kp [0, 1] ?_
    refine Run.seq ?_
    have fx := And.intro hg (And.intro q2 (And.intro q1 (And.intro q0 (And.intro (@Nat.zero_add) (And.intro w8 (And.intro wn (And.intro hvl (And.intro hbx ft))))))))
    refine Run.go ?_
    refine End.kp [4] ?_
    refine Run.ret (hQ _ _ ⟨.inr rfl, _, rfl, _, rfl, ?_⟩)
    exact ⟨by rw [Sol.is, if_neg hb2], rfl⟩
end Go.Proofs.YtdgpmopcmacicaaPi

/- The walk of set. -/
set_option linter.unusedVariables false
set_option linter.unusedSimpArgs false
set_option maxRecDepth 100000
namespace Go.Proofs.YtdgpmopcmacicaaPi
set_option maxHeartbeats 4000000
def setV (V : Ver) : Ver := { V with t := V.t + 1, tx := [] }
def setU (up : Frs) (d : Nat) (S : Sol) (V : Ver) (l w : Int) : Frs :=
  fset (fset (fset (fset (fset up d 2 (.vec 221 0 (i8s (S.set l w).val))) d 3 (.vec 3 0 (n64s (S.set l w).lev))) d 4 (.vec 3 0 (i64s (S.set l w).why))) d 8 (.vec 3 (V.t + 1) (i64s (S.set l w).tr))) d 5 (sbox (S.set l w) (setV V))
theorem setU_at {up : Frs} {d : Nat} {S : Sol} {V : Ver} (h : SAt up d S V) (l w : Int) : SAt (setU up d S V l w) d (S.set l w) (setV V) := by
  have e : ∀ j, fget (setU up d S V l w) d j = if j = 5 then some (sbox (S.set l w) (setV V)) else if j = 8 then some (.vec 3 (V.t + 1) (i64s (S.set l w).tr)) else if j = 4 then some (.vec 3 0 (i64s (S.set l w).why)) else if j = 3 then some (.vec 3 0 (n64s (S.set l w).lev)) else if j = 2 then some (.vec 221 0 (i8s (S.set l w).val)) else fget up d j := fun j => by
    simp only [setU, fget_fset, true_and, h.box, h.val, h.lev, h.why, h.trl, Nat.reduceEqDiff, if_false, Option.map_some]
  refine ⟨by rw [e]; rfl, ?_, by rw [e]; rfl, by rw [e]; rfl, by rw [e]; rfl, ?_, ?_, ?_, fun i hi => ?_, fun k hk => ?_⟩
  · rw [e]; exact h.wch
  · rw [e]; exact h.clo
  · rw [e, if_neg (by decide), if_pos rfl]; simp [setV]
  · rw [e]; exact h.sts
  · rw [e, if_neg (by omega), if_neg (by omega), if_neg (by omega), if_neg (by omega), if_neg (by omega)]; exact h.wli i hi
  · rw [e, if_neg (by omega), if_neg (by omega), if_neg (by omega), if_neg (by omega), if_neg (by omega)]; exact h.cli k hk
theorem setU_spare {up : Frs} {d : Nat} {S : Sol} {V : Ver} {K m : Nat} (h : Spare up d S K m) (l w : Int) : Spare (setU up d S V l w) d (S.set l w) K m := fun k h1 h2 => by
  have := h k h1 h2
  simp only [setU, fget_fset, true_and]
  rw [if_neg (by omega), if_neg (by omega), if_neg (by omega), if_neg (by omega), if_neg (by omega)]
  exact this
theorem setU_else (up : Frs) (d : Nat) (S : Sol) (V : Ver) (l w : Int) : Else up (setU up d S V l w) d S V.K :=
  ((((((Else.refl up d S V.K).fset (by unfold SPl; omega) _).fset (by unfold SPl; omega) _).fset (by unfold SPl; omega) _).fset (by unfold SPl; omega) _).fset (by unfold SPl; omega) _)
theorem n64s_set (l : List Nat) (i x : Nat) : (n64s l).set i (.im (.int .i64 (x : Int))) = n64s (l.set i x) := by simp [n64s, List.map_set]
theorem i64s_set (l : List Int) (i : Nat) (x : Int) : (i64s l).set i (.im (.int .i64 x)) = i64s (l.set i x) := by simp [i64s, List.map_set]
theorem i8s_set (l : List Int) (i : Nat) (x : Int) : (i8s l).set i (.im (.int .i8 x)) = i8s (l.set i x) := by simp [i8s, List.map_set]
theorem take_tr (S : Sol) (V : Ver) : (i64s S.tr ++ i64s V.tx).take S.tr.length = i64s S.tr := by rw [List.take_left' (by simp)]
theorem set_ok (S : Sol) (V : Ver) (d : Nat) (up : Frs) (hA : SAt up d S V) (hS : SLen S) (l w : Int) (h : LitOk S.n l) : ACalls Try.prog 148 [.ptr d 5 0, .i l, .i w] up fun v u => v = .tup [] ∧ u = setU up d S V l w := by
  obtain ⟨h0, h2⟩ := h
  have hn := hS.n
  have hbx := hA.box
  have hvl := hA.val
  have hlv := hA.lev
  have hwy := hA.why
  have htr := hA.trl
  have lv := hS.val
  have ll := hS.lev
  have ly := hS.why
  have lt := hS.trn
  have wn : IntKind.i64.wrap (0 - l) = -l := by rw [wrap64 (by omega)]; omega
  have hmx : (if l < -l then -l else l) = (l.natAbs : Int) := by split <;> omega
  have q1 : ((l.natAbs : Nat) : Int) < ((S.n + 1 : Nat) : Int) := by omega
  have c1 : l.natAbs < S.n + 1 := by omega
  have e8 : (i8s S.val).length = S.n + 1 := by rw [i8s, List.length_map, List.length_map, lv]
  have e3 : (n64s S.lev).length = S.n + 1 := by rw [n64s, List.length_map, List.length_map, ll]
  have e4 : (i64s S.why).length = S.n + 1 := by rw [i64s, List.length_map, List.length_map, ly]
  have htk := take_tr S V
  have hap : (S.tr.length + 1) * 8 ≤ 140737488355328 := by omega
  refine ACalls.code Try.func148 rfl 53 rfl (by simp) [] rfl fun Q hQ => ?_
  simp only [ups, PV.up, argEnv]
  have ft := And.intro ty_2 (And.intro ty_3 (And.intro ty_4 (And.intro ty_5 (And.intro ty_6 (And.intro ty_22 (And.intro ty_216 (And.intro ty_217 (And.intro ty_219 (And.intro ty_221 trivial)))))))))
  refine Run.seq ?_
  have fx := And.intro (@List.length_set.{0}) (And.intro (@Int.toNat_natCast) (And.intro (@Int.natCast_nonneg) (And.intro (@Nat.zero_add) (And.intro hap (And.intro htk (And.intro e4 (And.intro e3 (And.intro e8 (And.intro c1 (And.intro q1 (And.intro hmx (And.intro wn (And.intro htr (And.intro hwy (And.intro hlv (And.intro hvl (And.intro hbx (And.intro (@fget_fset) ft))))))))))))))))))
  refine Run.go ?_
  refine End.kp [0, 1, 2, 6] ?_
  refine Run.seq ?_
  refine Run.go ?_
  refine End.kp [0, 1, 2, 6] ?_
  refine Run.seq ?_
  refine Run.seq ?_
  refine Run.go ?_
  refine End.kp [0, 1, 2, 6, 18] ?_
  refine Run.cond _ rfl (fun hb => ?_) (fun hb => ?_)
  · have hb2 := of_decide_eq_true hb
    have fx := And.intro (@List.length_set.{0}) (And.intro (@Int.toNat_natCast) (And.intro (@Int.natCast_nonneg) (And.intro (@Nat.zero_add) (And.intro hap (And.intro htk (And.intro e4 (And.intro e3 (And.intro e8 (And.intro c1 (And.intro q1 (And.intro hmx (And.intro wn (And.intro htr (And.intro hwy (And.intro hlv (And.intro hvl (And.intro hbx (And.intro (@fget_fset) ft))))))))))))))))))
    refine Run.go ?_
    refine End.kp [0, 1, 2, 6] ?_
    refine Run.seq ?_
    refine Run.drawA fun K hK => ?_
    refine DOps.sim ?_
    refine DOps.nil (by rfl) (hK _ ?_); clear hK K
    refine End.kp [0, 1] ?_
    refine Run.go ?_
    refine End.all (hQ _ _ ⟨.inl rfl, _, rfl, _, rfl, ?_⟩)
    refine ⟨rfl, ?_⟩
    have x1 : ((i8s S.val).set l.natAbs (PV.im (Im.int IntKind.i8 1))).set l.natAbs (PV.im (Im.int IntKind.i8 (-1))) = i8s (S.set l w).val := by simp only [List.set_set, i8s_set, Sol.set, Sol.sgn, if_pos hb2]
    have x2 : (n64s S.lev).set l.natAbs (PV.im (Im.int IntKind.i64 (S.st.length : Nat))) = n64s (S.set l w).lev := n64s_set _ _ _
    have x3 : (i64s S.why).set l.natAbs (PV.im (Im.int IntKind.i64 w)) = i64s (S.set l w).why := i64s_set _ _ _
    have x4 : i64s S.tr ++ [PV.im (Im.int IntKind.i64 l)] = i64s (S.set l w).tr := by simp [Sol.set]
    have x5 : (S.set l w).tr.length = S.tr.length + 1 := by simp [Sol.set]
    rw [setU, sbox, x5, ← x1, ← x2, ← x3, ← x4]
    rfl
  · have hb2 := of_decide_eq_false hb
    refine Run.skip ?_
    refine End.kp [0, 1, 2, 6] ?_
    refine Run.seq ?_
    have fx := And.intro (@List.length_set.{0}) (And.intro (@Int.toNat_natCast) (And.intro (@Int.natCast_nonneg) (And.intro (@Nat.zero_add) (And.intro hap (And.intro htk (And.intro e4 (And.intro e3 (And.intro e8 (And.intro c1 (And.intro q1 (And.intro hmx (And.intro wn (And.intro htr (And.intro hwy (And.intro hlv (And.intro hvl (And.intro hbx (And.intro (@fget_fset) ft))))))))))))))))))
    refine Run.drawA fun K hK => ?_
    refine DOps.sim ?_
    refine DOps.nil (by rfl) (hK _ ?_); clear hK K
    refine End.kp [0, 1] ?_
    refine Run.go ?_
    refine End.all (hQ _ _ ⟨.inl rfl, _, rfl, _, rfl, ?_⟩)
    refine ⟨rfl, ?_⟩
    have x1 : (i8s S.val).set l.natAbs (PV.im (Im.int IntKind.i8 1)) = i8s (S.set l w).val := by simp only [List.set_set, i8s_set, Sol.set, Sol.sgn, if_neg hb2]
    have x2 : (n64s S.lev).set l.natAbs (PV.im (Im.int IntKind.i64 (S.st.length : Nat))) = n64s (S.set l w).lev := n64s_set _ _ _
    have x3 : (i64s S.why).set l.natAbs (PV.im (Im.int IntKind.i64 w)) = i64s (S.set l w).why := i64s_set _ _ _
    have x4 : i64s S.tr ++ [PV.im (Im.int IntKind.i64 l)] = i64s (S.set l w).tr := by simp [Sol.set]
    have x5 : (S.set l w).tr.length = S.tr.length + 1 := by simp [Sol.set]
    rw [setU, sbox, x5, ← x1, ← x2, ← x3, ← x4]
    rfl
end Go.Proofs.YtdgpmopcmacicaaPi

/- The walk of add. -/
set_option linter.unusedVariables false
set_option linter.unusedSimpArgs false
set_option maxRecDepth 100000
namespace Go.Proofs.YtdgpmopcmacicaaPi
set_option maxHeartbeats 4000000
def bump (V : Ver) (i : Nat) : Ver := { V with wv := fun j => if j = i then V.wv j + 1 else V.wv j }
theorem push_len (wl : List (List Nat)) (i k : Nat) : (Sol.push wl i k).length = wl.length := by simp [Sol.push]
theorem push_get (wl : List (List Nat)) (i k j : Nat) (h : i < wl.length) : (Sol.push wl i k).getD j [] = if j = i then wl.getD i [] ++ [k] else wl.getD j [] := by
  simp only [Sol.push, List.getD_eq_getElem?_getD, List.getElem?_set]
  by_cases e : i = j
  · subst e; simp [h]
  · rw [if_neg e, if_neg (fun h => e h.symm)]
/-- A watch list that grew. -/
def grewU (up : Frs) (d : Nat) (S : Sol) (V : Ver) (i k : Nat) : Frs :=
  fset (fset up d (i + 11) (.vec 3 (V.wv i + 1) (n64s (S.wl.getD i [] ++ [k])))) d 1 (.vec 22 0 (wcells { S with wl := Sol.push S.wl i k } (bump V i)))
theorem wcells_set (S : Sol) (V : Ver) (i k : Nat) (hi : i < 2 * S.n + 2) (hw : S.wl.length = 2 * S.n + 2) : (wcells S V).set i (.vs 0 (i + 11) 0 ((S.wl.getD i []).length + 1) (V.wv i + 1)) = wcells { S with wl := Sol.push S.wl i k } (bump V i) := by
  refine List.ext_getElem? fun j => ?_
  simp only [wcells, List.getElem?_set, List.length_map, List.length_range, List.getElem?_map]
  by_cases e : i = j
  · subst e
    have := push_get S.wl i k i (by omega)
    rw [if_pos rfl, if_pos hi, List.getElem?_range hi]
    simp only [Option.map_some, this, bump, if_true, List.length_append, List.length_cons, List.length_nil, Nat.zero_add]
  · rw [if_neg e]
    by_cases h2 : j < 2 * S.n + 2
    · have := push_get S.wl i k j (by omega)
      rw [List.getElem?_range h2]
      simp only [Option.map_some, this, bump, if_neg (fun h : j = i => e h.symm)]
    · rw [List.getElem?_eq_none (by simp; omega)]
      rfl
theorem wcells_get (S : Sol) (V : Ver) (i : Nat) (hi : i < 2 * S.n + 2) : (wcells S V)[i]? = some (.vs 0 (i + 11) 0 (S.wl.getD i []).length (V.wv i)) := by
  simp only [wcells, List.getElem?_map]
  rw [List.getElem?_range hi]
  rfl
theorem grewU_at {up : Frs} {d : Nat} {S : Sol} {V : Ver} (h : SAt up d S V) (i k : Nat) (hi : i < 2 * S.n + 2) (hw : S.wl.length = 2 * S.n + 2) : SAt (grewU up d S V i k) d { S with wl := Sol.push S.wl i k } (bump V i) := by
  have e : ∀ j, fget (grewU up d S V i k) d j = if j = 1 then some (.vec 22 0 (wcells { S with wl := Sol.push S.wl i k } (bump V i))) else if j = i + 11 then some (.vec 3 (V.wv i + 1) (n64s (S.wl.getD i [] ++ [k]))) else fget up d j := fun j => by
    have h1 : ¬ (1 = i + 11) := by omega
    simp only [grewU, fget_fset, true_and, h.wch, h.wli i hi, h1, if_false, Option.map_some]
  have o : ∀ j, j ≠ 1 → j ≠ i + 11 → fget (grewU up d S V i k) d j = fget up d j := fun j h1 h2 => by rw [e, if_neg h1, if_neg h2]
  refine ⟨(o 5 (by omega) (by omega)).trans h.box, by rw [e, if_pos rfl], (o 2 (by omega) (by omega)).trans h.val, (o 3 (by omega) (by omega)).trans h.lev, (o 4 (by omega) (by omega)).trans h.why, (o 7 (by omega) (by omega)).trans h.clo, (o 8 (by omega) (by omega)).trans h.trl, (o 9 (by omega) (by omega)).trans h.sts, fun j hj => ?_, fun j hj => (o _ (by omega) (by show ¬ (j + (2 * S.n + 2) + 11 = i + 11); omega)).trans (h.cli j hj)⟩
  rw [e, if_neg (by omega)]
  simp only [push_get _ _ _ _ (show i < S.wl.length by omega), bump]
  by_cases e2 : j = i
  · subst e2
    rw [if_pos rfl, if_pos rfl, if_pos rfl]
  · rw [if_neg (by omega), if_neg e2, if_neg e2]
    exact h.wli j hj
theorem grewU_else (up : Frs) (d : Nat) (S : Sol) (V : Ver) (i k : Nat) (hi : i < 2 * S.n + 2) : Else up (grewU up d S V i k) d S V.K :=
  (((Else.refl up d S V.K).fset (by unfold SPl; omega) _).fset (by unfold SPl; omega) _)
theorem grewU_other {up : Frs} {d : Nat} {S : Sol} {V : Ver} {i k d' j : Nat} (h : ¬ (d' = d ∧ (j = 1 ∨ j = i + 11))) : fget (grewU up d S V i k) d' j = fget up d' j := by
  simp only [grewU, fget_fset]
  rw [if_neg (fun e => h ⟨e.1, .inl e.2⟩), if_neg (fun e => h ⟨e.1, .inr e.2⟩)]
/-- A clause more; its literals lie at its place already. -/
def clsU (up : Frs) (d : Nat) (S : Sol) (V : Ver) (c : List Int) : Frs :=
  fset (fset up d 7 (.vec 22 (V.c + 1) (ccells { S with cl := S.cl ++ [c] }))) d 5 (sbox { S with cl := S.cl ++ [c] } { V with c := V.c + 1 })
theorem ccells_snoc (S : Sol) (c : List Int) : ccells S ++ [.vs 0 (S.cl.length + (2 * S.n + 2) + 11) 0 c.length 0] = ccells { S with cl := S.cl ++ [c] } := by
  simp only [ccells, List.length_append, List.length_cons, List.length_nil, Nat.zero_add, List.range_succ, List.map_append, List.map_cons, List.map_nil]
  congr 1
  · refine List.map_congr_left fun k hk => ?_
    have hk := List.mem_range.1 hk
    simp only [List.getD_eq_getElem?_getD, List.getElem?_append_left hk]
  · simp
theorem clsU_at {up : Frs} {d : Nat} {S : Sol} {V : Ver} (h : SAt up d S V) (c : List Int) (hc : fget up d (S.cl.length + (2 * S.n + 2) + 11) = some (.vec 3 0 (i64s c))) : SAt (clsU up d S V c) d { S with cl := S.cl ++ [c] } { V with c := V.c + 1 } := by
  have e : ∀ j, fget (clsU up d S V c) d j = if j = 5 then some (sbox { S with cl := S.cl ++ [c] } { V with c := V.c + 1 }) else if j = 7 then some (.vec 22 (V.c + 1) (ccells { S with cl := S.cl ++ [c] })) else fget up d j := fun j => by
    simp only [clsU, fget_fset, true_and, h.box, h.clo, Nat.reduceEqDiff, if_false, Option.map_some]
  have o : ∀ j, j ≠ 5 → j ≠ 7 → fget (clsU up d S V c) d j = fget up d j := fun j h1 h2 => by rw [e, if_neg h1, if_neg h2]
  refine ⟨by rw [e, if_pos rfl], (o 1 (by omega) (by omega)).trans h.wch, (o 2 (by omega) (by omega)).trans h.val, (o 3 (by omega) (by omega)).trans h.lev, (o 4 (by omega) (by omega)).trans h.why, by rw [e, if_neg (by omega), if_pos rfl], (o 8 (by omega) (by omega)).trans h.trl, (o 9 (by omega) (by omega)).trans h.sts, fun j hj => (o _ (by omega) (by omega)).trans (h.wli j hj), fun j hj => ?_⟩
  rw [o _ (by omega) (by omega)]
  simp only [List.length_append, List.length_cons, List.length_nil] at hj
  by_cases e2 : j = S.cl.length
  · subst e2
    rw [hc]
    simp
  · have hj2 : j < S.cl.length := by omega
    rw [h.cli j hj2]
    simp only [List.getD_eq_getElem?_getD, List.getElem?_append_left hj2]
theorem clsU_else (up : Frs) (d : Nat) (S : Sol) (V : Ver) (c : List Int) : Else up (clsU up d S V c) d S V.K :=
  (((Else.refl up d S V.K).fset (by unfold SPl; omega) _).fset (by unfold SPl; omega) _)
theorem clsU_other {up : Frs} {d : Nat} {S : Sol} {V : Ver} {c : List Int} {d' j : Nat} (h : ¬ (d' = d ∧ (j = 5 ∨ j = 7))) : fget (clsU up d S V c) d' j = fget up d' j := by
  simp only [clsU, fget_fset]
  rw [if_neg (fun e => h ⟨e.1, .inl e.2⟩), if_neg (fun e => h ⟨e.1, .inr e.2⟩)]
theorem atL_inj {n : Nat} {a b : Int} (ha : LitOk n a) (hb : LitOk n b) (h : atL a = atL b) : a = b := by
  have h1 := atL_cast ha
  have h2 := atL_cast hb
  rw [h, h2] at h1
  split at h1 <;> split at h1 <;> omega
def addC (S : Sol) (c : List Int) : Sol := { S with cl := S.cl ++ [c] }
def add0 (S : Sol) (c : List Int) : Sol := { addC S c with wl := Sol.push S.wl (atL (c.getD 0 0)) S.cl.length }
def addU (up : Frs) (d : Nat) (S : Sol) (V : Ver) (c : List Int) : Frs :=
  grewU (grewU (clsU up d S V c) d (addC S c) { V with c := V.c + 1 } (atL (c.getD 0 0)) S.cl.length) d (add0 S c) (bump { V with c := V.c + 1 } (atL (c.getD 0 0))) (atL (c.getD 1 0)) S.cl.length
def addV (V : Ver) (c : List Int) : Ver := bump (bump { V with c := V.c + 1 } (atL (c.getD 0 0))) (atL (c.getD 1 0))
theorem addU_at {up : Frs} {d : Nat} {S : Sol} {V : Ver} (h : SAt up d S V) (c : List Int) (hc : fget up d (S.cl.length + (2 * S.n + 2) + 11) = some (.vec 3 0 (i64s c))) (hw : S.wl.length = 2 * S.n + 2) (h0 : atL (c.getD 0 0) < 2 * S.n + 2) (h1 : atL (c.getD 1 0) < 2 * S.n + 2) : SAt (addU up d S V c) d (S.add c) (addV V c) :=
  grewU_at (grewU_at (clsU_at h c hc) _ _ h0 hw) _ _ h1 (by show (Sol.push S.wl _ _).length = _; rw [push_len]; exact hw)
theorem addU_else (up : Frs) (d : Nat) (S : Sol) (V : Ver) (c : List Int) (h0 : atL (c.getD 0 0) < 2 * S.n + 2) (h1 : atL (c.getD 1 0) < 2 * S.n + 2) : Else up (addU up d S V c) d S V.K :=
  Else.trans (S' := add0 S c) (Else.trans (S' := addC S c) (clsU_else up d S V c) rfl (grewU_else _ d (addC S c) { V with c := V.c + 1 } _ _ h0)) rfl (grewU_else _ d (add0 S c) (bump { V with c := V.c + 1 } (atL (c.getD 0 0))) _ _ h1)
theorem addU_spare {up : Frs} {d : Nat} {S : Sol} {V : Ver} {c : List Int} {K m : Nat} (h : Spare up d S K m) (h0 : atL (c.getD 0 0) < 2 * S.n + 2) (h1 : atL (c.getD 1 0) < 2 * S.n + 2) : Spare (addU up d S V c) d (S.add c) K m := fun k q1 q2 => by
  rw [addU, grewU_other (by show ¬ _; simp only [Sol.add]; omega), grewU_other (by simp only [Sol.add]; omega), clsU_other (by omega)]
  exact h k q1 q2
theorem add_ok (S : Sol) (V : Ver) (d : Nat) (up : Frs) (hA : SAt up d S V) (hS : SLen S) (hd : d = 0 ∨ d = 1) (c : List Int) (hc : fget up d (S.cl.length + (2 * S.n + 2) + 11) = some (.vec 3 0 (i64s c))) (hl : 2 ≤ c.length) (l0 : LitOk S.n (c.getD 0 0)) (l1 : LitOk S.n (c.getD 1 0)) (hne : c.getD 0 0 ≠ c.getD 1 0) (hcl : S.cl.length ≤ 1000000) (hwl : ∀ i, i < 2 * S.n + 2 → (S.wl.getD i []).length ≤ 10000000) :
    ACalls Try.prog 147 [.ptr d 5 0, .vs d (S.cl.length + (2 * S.n + 2) + 11) 0 c.length 0] up fun v u => v = .i S.cl.length ∧ u = addU up d S V c := by
  have hn := hS.n
  have hbx := hA.box
  have hwc := hA.wch
  have hco := hA.clo
  have a0 := atL_lt l0
  have a1 := atL_lt l1
  have k0 := at_ok S.n (c.getD 0 0) l0 hS.n
  have k1 := at_ok S.n (c.getD 1 0) l1 hS.n
  have hna : atL (c.getD 1 0) ≠ atL (c.getD 0 0) := fun e => hne (atL_inj l0 l1 e.symm)
  have g0 := i64s_get c 0 (by omega)
  have g1 := i64s_get c 1 (by omega)
  have w0 := hA.wli _ a0
  have w1 := hA.wli _ a1
  have b0 := hwl _ a0
  have b1 := hwl _ a1
  generalize hx0 : c.getD 0 0 = x0 at *
  generalize hx1 : c.getD 1 0 = x1 at *
  generalize hA0 : atL x0 = A0 at *
  generalize hA1 : atL x1 = A1 at *
  have p0 : (0 : Int) < (c.length : Int) := by omega
  have p1 : (1 : Int) < (c.length : Int) := by omega
  have hap : (S.cl.length + 1) * 24 ≤ 140737488355328 := by omega
  have ap0 : ((S.wl.getD A0 []).length + 1) * 8 ≤ 140737488355328 := by omega
  have ap1 : ((S.wl.getD A1 []).length + 1) * 8 ≤ 140737488355328 := by omega
  have htk : (ccells S).take S.cl.length = ccells S := List.take_of_length_le (by simp)
  have tk0 : (n64s (S.wl.getD A0 [])).take (S.wl.getD A0 []).length = n64s (S.wl.getD A0 []) := List.take_of_length_le (by simp)
  have tk1 : (n64s (S.wl.getD A1 [])).take (S.wl.getD A1 []).length = n64s (S.wl.getD A1 []) := List.take_of_length_le (by simp)
  have c0 := wcells_get S V A0 a0
  have c1 := wcells_get S V A1 a1
  have lw : (wcells S V).length = 2 * S.n + 2 := by simp
  have cs1 : ∀ X : PV, ((wcells S V).set A0 X)[A1]? = some (.vs 0 (A1 + 11) 0 (S.wl.getD A1 []).length (V.wv A1)) := fun X => by rw [List.getElem?_set_ne hna.symm]; exact c1
  have na2 : ¬ (A1 = A0) := hna
  have ne1 : ¬ (S.cl.length + (2 * S.n + 2) = A0) := by omega
  have ne2 : ¬ (S.cl.length + (2 * S.n + 2) + 11 = A0 + 11) := by omega
  have ne3 : ¬ (A1 + 11 = A0 + 11) := by omega
  have i0 : ((A0 : Nat) : Int) < ((2 * S.n + 2 : Nat) : Int) := by omega
  have i1 : ((A1 : Nat) : Int) < ((2 * S.n + 2 : Nat) : Int) := by omega
  refine ACalls.code Try.func147 rfl 66 rfl (by simp) [.tmp 4] rfl fun Q hQ => ?_
  simp only [ups, PV.up, argEnv]
  have ft := And.intro ty_3 (And.intro ty_22 (And.intro ty_81 (And.intro ty_216 (And.intro ty_219 trivial))))
  refine Run.seq ?_
  have fx := And.intro (@List.length_set.{0}) (And.intro (@Int.toNat_natCast) (And.intro (@Int.natCast_nonneg) (And.intro (@Nat.zero_add) (And.intro ne3 (And.intro ne2 (And.intro ne1 (And.intro na2 (And.intro cs1 (And.intro lw (And.intro a1 (And.intro a0 (And.intro i1 (And.intro i0 (And.intro c1 (And.intro c0 (And.intro tk1 (And.intro tk0 (And.intro htk (And.intro ap1 (And.intro ap0 (And.intro hap (And.intro p1 (And.intro p0 (And.intro w1 (And.intro w0 (And.intro g1 (And.intro g0 (And.intro hc (And.intro hco (And.intro hwc (And.intro hbx (And.intro (@fget_fset) ft))))))))))))))))))))))))))))))))
  refine Run.go ?_
  refine End.kp [0, 1] ?_
  refine Run.seq ?_
  refine Run.go ?_
  refine End.kp [0, 1, 5] ?_
  refine Run.seq ?_
  refine Run.region rfl fun K hK => GOps.sim ?_
  refine GOps.litVec rfl (by simp only [litW, fx] <;> rfl) ?_
  refine GOps.sim ?_
  refine GOps.done (hK _ ?_); clear hK K
  refine End.kp [0, 1, 5] ?_
  refine Run.seq ?_
  refine Run.ghost (.spares 1) ?_
  simp only [ASt.pushN, ASt.push, List.append_assoc, List.cons_append, List.nil_append]
  have fx := And.intro (@List.length_set.{0}) (And.intro (@Int.toNat_natCast) (And.intro (@Int.natCast_nonneg) (And.intro (@Nat.zero_add) (And.intro ne3 (And.intro ne2 (And.intro ne1 (And.intro na2 (And.intro cs1 (And.intro lw (And.intro a1 (And.intro a0 (And.intro i1 (And.intro i0 (And.intro c1 (And.intro c0 (And.intro tk1 (And.intro tk0 (And.intro htk (And.intro ap1 (And.intro ap0 (And.intro hap (And.intro p1 (And.intro p0 (And.intro w1 (And.intro w0 (And.intro g1 (And.intro g0 (And.intro hc (And.intro hco (And.intro hwc (And.intro hbx (And.intro (@fget_fset) ft))))))))))))))))))))))))))))))))
  refine Run.drawA fun K hK => ?_
  refine DOps.sim ?_
  refine DOps.call (.i (A0 : Nat)) [] [] rfl rfl rfl rfl (by kernel_rfl) (by simp [Agree]) (fun u hu => k0 u) ?_
  refine DOps.sim ?_
  refine DOps.call (.i (A0 : Nat)) [] [] rfl rfl rfl rfl (by kernel_rfl) (by simp [Agree]) (fun u hu => k0 u) ?_
  refine DOps.sim ?_
  refine DOps.nil ?_ (hK _ ?_)
  · rcases hd with rfl | rfl <;> rfl
  clear hK K
  refine End.kp [0, 1, 5] ?_
  refine Run.seq ?_
  refine Run.ghost (.spares 1) ?_
  simp only [ASt.pushN, ASt.push, List.append_assoc, List.cons_append, List.nil_append]
  refine Run.drawA fun K hK => ?_
  refine DOps.sim ?_
  refine DOps.call (.i (A1 : Nat)) [] [] rfl rfl rfl rfl (by kernel_rfl) (by simp [Agree]) (fun u hu => k1 u) ?_
  refine DOps.sim ?_
  refine DOps.call (.i (A1 : Nat)) [] [] rfl rfl rfl rfl (by kernel_rfl) (by simp [Agree]) (fun u hu => k1 u) ?_
  refine DOps.sim ?_
  refine DOps.nil ?_ (hK _ ?_)
  · rcases hd with rfl | rfl <;> rfl
  clear hK K
  refine End.kp [5] ?_
  refine Run.seq ?_
  refine Run.go ?_
  refine End.kp [4] ?_
  refine Run.ret (hQ _ _ ⟨.inr rfl, _, rfl, _, rfl, ?_⟩)
  refine ⟨rfl, ?_⟩
  have e1 : (add0 S c).wl.getD A1 [] = S.wl.getD A1 [] := by
    have := push_get S.wl A0 S.cl.length A1 (by rw [hS.wl]; exact a0)
    rw [if_neg hna] at this
    simp only [add0, hx0, hA0]
    exact this
  have e2 : (bump { V with c := V.c + 1 } A0).wv A1 = V.wv A1 := if_neg hna
  have hadd0 : add0 S c = { addC S c with wl := Sol.push S.wl A0 S.cl.length } := by rw [add0, hx0, hA0]
  have y1 := ccells_snoc S c
  have y2 : n64s (S.wl.getD A0 [] ++ [S.cl.length]) = n64s (S.wl.getD A0 []) ++ [PV.im (Im.int IntKind.i64 (S.cl.length : Nat))] := by simp
  have y3 : n64s (S.wl.getD A1 [] ++ [S.cl.length]) = n64s (S.wl.getD A1 []) ++ [PV.im (Im.int IntKind.i64 (S.cl.length : Nat))] := by simp
  have y4 : (wcells S V).set A0 (.vs 0 (A0 + 11) 0 ((S.wl.getD A0 []).length + 1) (V.wv A0 + 1)) = wcells (add0 S c) (bump { V with c := V.c + 1 } A0) := by simp only [add0, hx0, hA0]; exact wcells_set S V A0 S.cl.length a0 hS.wl
  have y5 := wcells_set (add0 S c) (bump { V with c := V.c + 1 } A0) A1 S.cl.length a1 (by show (Sol.push S.wl _ _).length = _; rw [push_len]; exact hS.wl)
  rw [e1, e2, ← y4] at y5
  have y6 : wcells { add0 S c with wl := Sol.push (add0 S c).wl A1 S.cl.length } (bump (bump { V with c := V.c + 1 } A0) A1) = wcells (S.add c) (addV V c) := by simp only [Sol.add, addV, add0, addC, hx0, hx1, hA0, hA1]
  rw [y6] at y5
  have y7 : (S.cl ++ [c]).length = S.cl.length + 1 := by simp
  have z : addU up d S V c = fset (fset (fset (fset (fset (fset up d 7 (.vec 22 (V.c + 1) (ccells { S with cl := S.cl ++ [c] }))) d 5 (sbox { S with cl := S.cl ++ [c] } { V with c := V.c + 1 })) d (A0 + 11) (.vec 3 (V.wv A0 + 1) (n64s (S.wl.getD A0 [] ++ [S.cl.length])))) d 1 (.vec 22 0 (wcells (add0 S c) (bump { V with c := V.c + 1 } A0))))
      d (A1 + 11) (.vec 3 ((bump { V with c := V.c + 1 } A0).wv A1 + 1) (n64s ((add0 S c).wl.getD A1 [] ++ [S.cl.length])))) d 1 (.vec 22 0 (wcells (S.add c) (addV V c))) := by rw [addU, grewU, grewU, hx0, hx1, hA0, hA1, ← y6, hadd0]; rfl
  rw [z, e1, e2, ← y1, y2, y3, ← y4, ← y5, sbox, y7]
  rfl
end Go.Proofs.YtdgpmopcmacicaaPi

/- The walk of spread: what follows by unit clauses. -/
set_option linter.unusedVariables false
set_option linter.unusedSimpArgs false
namespace Go.Proofs.YtdgpmopcmacicaaPi
set_option maxHeartbeats 40000000
theorem nsucc {i n : Nat} (h : i < n) (hn : n ≤ 1000000000) : IntKind.i64.wrap ((i : Int) + 1) = ((i + 1 : Nat) : Int) := by
  rw [wrap64 (by omega)]
  rfl
theorem SAt.cons {up : Frs} {d : Nat} {S : Sol} {V : Ver} (h : SAt up d S V) (f : List AObj) : SAt (f :: up) (d + 1) S V :=
  ⟨h.box, h.wch, h.val, h.lev, h.why, h.clo, h.trl, h.sts, h.wli, h.cli⟩
theorem Spare.fset {up : Frs} {d : Nat} {S : Sol} {K m j : Nat} (h : Spare up d S K m) (hj : j < m + (2 * S.n + 2) + 11) (o : AObj) : Spare (fset up d j o) d S K m := fun k h1 h2 => by
  rw [fget_fset, if_neg (by omega)]
  exact h k h1 h2
def verW (V : Ver) (i g : Nat) : Ver := { V with wv := fun j => if j = i then g else V.wv j }
/-- A watch list is replaced. -/
def wU (up : Frs) (d : Nat) (S : Sol) (V : Ver) (i g : Nat) (ks : List Nat) : Frs :=
  fset (fset up d (i + 11) (.vec 3 g (n64s ks))) d 1 (.vec 22 0 (wcells (S.putW i ks) (verW V i g)))
theorem putW_get (S : Sol) (i : Nat) (ks : List Nat) (j : Nat) (h : i < S.wl.length) : (S.putW i ks).wl.getD j [] = if j = i then ks else S.wl.getD j [] := getD_set _ _ _ _ _ h
theorem wcells_put (S : Sol) (V : Ver) (i g : Nat) (ks : List Nat) (hi : i < 2 * S.n + 2) (hw : S.wl.length = 2 * S.n + 2) : (wcells S V).set i (.vs 0 (i + 11) 0 ks.length g) = wcells (S.putW i ks) (verW V i g) := by
  refine List.ext_getElem? fun j => ?_
  have hg := putW_get S i ks j (by omega)
  show _ = ((List.range (2 * S.n + 2)).map fun i' => PV.vs 0 (i' + 11) 0 ((S.putW i ks).wl.getD i' []).length ((verW V i g).wv i'))[j]?
  simp only [wcells, List.getElem?_set, List.length_map, List.length_range, List.getElem?_map]
  by_cases e : i = j
  · subst e
    rw [if_pos rfl, if_pos hi, List.getElem?_range hi]
    simp only [Option.map_some, hg, verW, if_true]
  · rw [if_neg e]
    by_cases h2 : j < 2 * S.n + 2
    · rw [List.getElem?_range h2]
      simp only [Option.map_some, hg, verW, if_neg (fun h : j = i => e h.symm)]
    · rw [List.getElem?_eq_none (by simp; omega)]
      rfl
theorem wU_at {up : Frs} {d : Nat} {S : Sol} {V : Ver} (h : SAt up d S V) (i g : Nat) (ks : List Nat) (hi : i < 2 * S.n + 2) (hw : S.wl.length = 2 * S.n + 2) : SAt (wU up d S V i g ks) d (S.putW i ks) (verW V i g) := by
  have e : ∀ j, fget (wU up d S V i g ks) d j = if j = 1 then some (.vec 22 0 (wcells (S.putW i ks) (verW V i g))) else if j = i + 11 then some (.vec 3 g (n64s ks)) else fget up d j := fun j => by
    have h1 : ¬ (1 = i + 11) := by omega
    simp only [wU, fget_fset, true_and, h.wch, h.wli i hi, h1, if_false, Option.map_some]
  have o : ∀ j, j ≠ 1 → j ≠ i + 11 → fget (wU up d S V i g ks) d j = fget up d j := fun j h1 h2 => by rw [e, if_neg h1, if_neg h2]
  refine ⟨(o 5 (by omega) (by omega)).trans h.box, by rw [e, if_pos rfl], (o 2 (by omega) (by omega)).trans h.val, (o 3 (by omega) (by omega)).trans h.lev, (o 4 (by omega) (by omega)).trans h.why, (o 7 (by omega) (by omega)).trans h.clo, (o 8 (by omega) (by omega)).trans h.trl, (o 9 (by omega) (by omega)).trans h.sts, fun j hj => ?_, fun j hj => (o _ (by omega) (by show ¬ (j + (2 * S.n + 2) + 11 = i + 11); omega)).trans (h.cli j hj)⟩
  rw [e, if_neg (by omega), putW_get _ _ _ _ (by omega)]
  by_cases e2 : j = i
  · subst e2
    rw [if_pos rfl, if_pos rfl, verW]
    simp
  · rw [if_neg (by omega), if_neg e2]
    simp only [verW, if_neg e2]
    exact h.wli j hj
theorem wU_else (up : Frs) (d : Nat) (S : Sol) (V : Ver) (i g : Nat) (ks : List Nat) (hi : i < 2 * S.n + 2) : Else up (wU up d S V i g ks) d S V.K :=
  (((Else.refl up d S V.K).fset (by unfold SPl; omega) _).fset (by unfold SPl; omega) _)
theorem wU_spare {up : Frs} {d : Nat} {S : Sol} {V : Ver} {i g K m : Nat} {ks : List Nat} (h : Spare up d S K m) (hi : i < 2 * S.n + 2) : Spare (wU up d S V i g ks) d (S.putW i ks) K m :=
  Spare.fset (S := S) (Spare.fset (S := S) h (by omega) _) (by omega) _
/-- The literals of a clause in another order. -/
theorem putC_at {up : Frs} {d : Nat} {S : Sol} {V : Ver} (h : SAt up d S V) (k : Nat) (c : List Int) (hk : k < S.cl.length) (hl : c.length = (S.cl.getD k []).length) : SAt (fset up d (k + (2 * S.n + 2) + 11) (.vec 3 0 (i64s c))) d (S.putC k c) V := by
  have o : ∀ j, j ≠ k + (2 * S.n + 2) + 11 → fget (fset up d (k + (2 * S.n + 2) + 11) (.vec 3 0 (i64s c))) d j = fget up d j := fun j h1 => by rw [fget_fset, if_neg (fun e => h1 e.2)]
  have hcl : (S.putC k c).cl.length = S.cl.length := by simp [Sol.putC]
  have hg : ∀ j, (S.putC k c).cl.getD j [] = if j = k then c else S.cl.getD j [] := fun j => getD_set _ _ _ _ _ hk
  refine ⟨?_, (o 1 (by omega)).trans h.wch, (o 2 (by omega)).trans h.val, (o 3 (by omega)).trans h.lev, (o 4 (by omega)).trans h.why, ?_, (o 8 (by omega)).trans h.trl, (o 9 (by omega)).trans h.sts, fun j hj => (o _ (by have : j < 2 * S.n + 2 := hj; omega)).trans (h.wli j hj), fun j hj => ?_⟩
  · rw [o 5 (by omega), h.box, sbox, sbox, hcl]; rfl
  · rw [o 7 (by omega), h.clo]
    congr 2
    simp only [ccells, hcl]
    refine List.map_congr_left fun j _ => ?_
    rw [hg]
    split
    · rename_i e; subst e; rw [hl]; rfl
    · rfl
  · rw [hcl] at hj
    rw [hg]
    show fget _ d (j + (2 * S.n + 2) + 11) = _
    by_cases e : j = k
    · subst e
      rw [if_pos rfl, fget_fset, if_pos ⟨rfl, rfl⟩, h.cli j hj]
      rfl
    · rw [if_neg e, o _ (by omega)]
      exact h.cli j hj
theorem swap_cells (c : List Int) (i j : Nat) : ((i64s c).set i (.im (.int .i64 (c.getD j 0)))).set j (.im (.int .i64 (c.getD i 0))) = i64s (Sol.swapAt c i j) := by
  rw [i64s_set, i64s_set]
  rfl
theorem ccells_get (S : Sol) (k : Nat) (hk : k < S.cl.length) : (ccells S)[k]? = some (.vs 0 (k + (2 * S.n + 2) + 11) 0 (S.cl.getD k []).length 0) := by
  simp only [ccells, List.getElem?_map]
  rw [List.getElem?_range hk]
  rfl
/-- What a part of the search leaves as it was. -/
structure Kept (up u : Frs) (d : Nat) (S : Sol) (V : Ver) (S' : Sol) (V' : Ver) : Prop where
  at' : SAt u d S' V'
  els : Else up u d S V.K
  K : V'.K = V.K
  n : S'.n = S.n
  cl : S'.cl.length = S.cl.length
  st : S'.st = S.st
  spare : ∀ m, S.cl.length ≤ m → Spare up d S V.K m → Spare u d S V.K m
theorem Kept.refl {up : Frs} {d : Nat} {S : Sol} {V : Ver} (h : SAt up d S V) : Kept up up d S V S V := ⟨h, Else.refl _ _ _ _, rfl, rfl, rfl, rfl, fun _ _ h => h⟩
theorem Kept.trans {up u v : Frs} {d : Nat} {S S1 S2 : Sol} {V V1 V2 : Ver} (h : Kept up u d S V S1 V1) (k : Kept u v d S1 V1 S2 V2) : Kept up v d S V S2 V2 :=
  ⟨k.at', h.els.trans h.n (h.K ▸ k.els), k.K.trans h.K, k.n.trans h.n, k.cl.trans h.cl, k.st.trans h.st, fun m hm hs => by
    have h1 := h.spare m hm hs
    have h2 := k.spare m (by rw [h.cl]; exact hm) (by intro q a b; rw [h.n]; exact h1 q a (by rw [← h.K]; exact b))
    intro q a b
    have := h2 q a (by rw [h.K]; exact b)
    rwa [h.n] at this⟩
theorem putC_kept {up : Frs} {d : Nat} {S : Sol} {V : Ver} (h : SAt up d S V) {k : Nat} {c : List Int} (hk : k < S.cl.length) (hK : S.cl.length ≤ V.K) (hl : c.length = (S.cl.getD k []).length) : Kept up (fset up d (k + (2 * S.n + 2) + 11) (.vec 3 0 (i64s c))) d S V (S.putC k c) V :=
  ⟨putC_at h k c hk hl, (Else.refl _ _ _ _).fset (by unfold SPl; omega) _, rfl, rfl, by simp [Sol.putC], rfl, fun m hm hs => hs.fset (by omega) _⟩
theorem wU_kept {up : Frs} {d : Nat} {S : Sol} {V : Ver} (h : SAt up d S V) {i g : Nat} {ks : List Nat} (hi : i < 2 * S.n + 2) (hw : S.wl.length = 2 * S.n + 2) : Kept up (wU up d S V i g ks) d S V (S.putW i ks) (verW V i g) :=
  ⟨wU_at h i g ks hi hw, wU_else up d S V i g ks hi, rfl, rfl, rfl, rfl, fun m hm hs => wU_spare hs hi⟩
theorem grewU_kept {up : Frs} {d : Nat} {S : Sol} {V : Ver} (h : SAt up d S V) {i k : Nat} (hi : i < 2 * S.n + 2) (hw : S.wl.length = 2 * S.n + 2) : Kept up (grewU up d S V i k) d S V { S with wl := Sol.push S.wl i k } (bump V i) :=
  ⟨grewU_at h i k hi hw, grewU_else up d S V i k hi, rfl, rfl, rfl, rfl, fun m hm hs => Spare.fset (Spare.fset hs (by omega) _) (by omega) _⟩
theorem setU_kept {up : Frs} {d : Nat} {S : Sol} {V : Ver} (h : SAt up d S V) (l w : Int) : Kept up (setU up d S V l w) d S V (S.set l w) (setV V) :=
  ⟨setU_at h l w, setU_else up d S V l w, rfl, rfl, rfl, rfl, fun m hm hs => setU_spare hs l w⟩
end Go.Proofs.YtdgpmopcmacicaaPi

