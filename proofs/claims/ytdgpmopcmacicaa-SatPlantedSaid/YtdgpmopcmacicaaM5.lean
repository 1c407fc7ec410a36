/- Part 5 of the proof: the texts WSU, WST, WSV, WSW, WSX, WSY, one behind the other. Each holds for every input that it names; no condition is hidden. -/
import Derived.Test.YtdgpmopcmacicaaM4
import Derived.Test.YtdgpmopcmacicaaM3
import Derived.Test.YtdgpmopcmacicaaM1
import Derived.Test.YtdgpmopcmacicaaPiSim
import Derived.Test.YtdgpmopcmacicaaPiVecF
/- The frame of run. -/
set_option linter.unusedVariables false
set_option linter.unusedSimpArgs false
namespace Go.Proofs.YtdgpmopcmacicaaPi
set_option maxHeartbeats 4000000
theorem frs_ext {α : Type} : ∀ {a b : List (List α)}, a.map List.length = b.map List.length → (∀ d j, fget a d j = fget b d j) → a = b
  | [], [], _, _ => rfl
  | [], y :: ys, h, _ => by simp at h
  | x :: xs, [], h, _ => by simp at h
  | x :: xs, y :: ys, h, k => by
    simp only [List.map_cons, List.cons.injEq] at h
    have e1 : x = y := List.ext_getElem? fun j => by have := k 0 j; simpa only [look_zero] using this
    have e2 : xs = ys := frs_ext h.2 fun d j => by have := k (d + 1) j; simpa only [look_succ] using this
    rw [e1, e2]
theorem Else.cons {l : List AObj} {up u : Frs} {S : Sol} {K : Nat} (h : Else (l :: up) u 0 S K) : ∃ l', u = l' :: up ∧ l'.length = l.length ∧ ∀ j, ¬ SPl S K j → l'[j]? = l[j]? := by
  have hs := h.shape
  cases u with
  | nil => simp at hs
  | cons l' up' =>
    simp only [List.map_cons, List.cons.injEq] at hs
    have e : up' = up := frs_ext hs.2 fun d j => by have := h.same (d + 1) j (fun e => by omega); simpa only [look_succ] using this
    exact ⟨l', by rw [e], hs.1, fun j hj => by have := h.same 0 j (fun e => hj e.2); simpa only [look_zero] using this⟩
theorem SAt.sameOn {fr fr' : Frs} {d : Nat} {S : Sol} {V : Ver} (h : SAt fr d S V) (hs : ∀ j, SPl S S.cl.length j → fget fr' d j = fget fr d j) : SAt fr' d S V :=
  ⟨(hs 5 (by unfold SPl; omega)).trans h.box, (hs 1 (by unfold SPl; omega)).trans h.wch, (hs 2 (by unfold SPl; omega)).trans h.val, (hs 3 (by unfold SPl; omega)).trans h.lev, (hs 4 (by unfold SPl; omega)).trans h.why, (hs 7 (by unfold SPl; omega)).trans h.clo, (hs 8 (by unfold SPl; omega)).trans h.trl, (hs 9 (by unfold SPl; omega)).trans h.sts,
    fun i hi => (hs _ (by unfold SPl; omega)).trans (h.wli i hi), fun k hk => (hs _ (by unfold SPl; omega)).trans (h.cli k hk)⟩
theorem SAt.app {loc : List AObj} {up : Frs} {S : Sol} {V : Ver} (h : SAt (loc :: up) 0 S V) (t : List AObj) : SAt ((loc ++ t) :: up) 0 S V := by
  have e : ∀ j o, fget (loc :: up) 0 j = some o → fget ((loc ++ t) :: up) 0 j = some o := fun j o h => by
    simp only [look_zero] at h ⊢
    rw [List.getElem?_append_left (List.getElem?_eq_some_iff.1 h).1]
    exact h
  exact ⟨e _ _ h.box, e _ _ h.wch, e _ _ h.val, e _ _ h.lev, e _ _ h.why, e _ _ h.clo, e _ _ h.trl, e _ _ h.sts, fun i hi => e _ _ (h.wli i hi), fun k hk => e _ _ (h.cli k hk)⟩
theorem SAt.ver {fr : Frs} {d : Nat} {S : Sol} {V : Ver} (h : SAt fr d S V) (K : Nat) : SAt fr d S { V with K := K } := ⟨h.box, h.wch, h.val, h.lev, h.why, h.clo, h.trl, h.sts, h.wli, h.cli⟩
abbrev outB (E q c : Nat) : AObj := .box [.im (.bool false), .im (.bool false), .nils, .ms 0 E q, .i (c : Nat)]
abbrev stepsR (l : List (List Int)) : List (List Im) := l.map fun c => [.bool false, .sl (ints c)]
abbrev resB : AObj := .box [.im (.bool false), .im (.bool false), .nils, .nils, .i 0]
/-- The frame of run: the solver, the result as far as it goes, the proof's steps, and a place for clauses of one literal. -/
structure RunF (n K : Nat) (loc : List AObj) (up : Frs) (S : Sol) (V : Ver) (pr : List (List Int)) (q : Nat) : Prop where
  len : loc.length = K + (2 * n + 2) + 13
  at' : SAt (loc :: up) 0 S V
  sn : S.n = n
  clk : S.cl.length ≤ K
  res : loc[0]? = some resB
  six : loc[6]? = some .dead
  out : loc[10]? = some (outB (K + (2 * n + 2) + 12) pr.length q)
  prf : loc[K + (2 * n + 2) + 12]? = some (.row 92 2 (stepsR pr) 0)
  spr : ∀ k, S.cl.length ≤ k → k < K → loc[k + (2 * n + 2) + 11]? = some .dead
  unit : loc[K + (2 * n + 2) + 11]? = some .dead ∨ ∃ g l, loc[K + (2 * n + 2) + 11]? = some (.vec 3 g (i64s l))
theorem unders_all {L : Nat} : ∀ {xs : List PV}, (∀ x ∈ xs, x.under L = true) → unders L xs = true
  | [], _ => rfl
  | x :: xs, h => by
    have h1 := h x (List.mem_cons_self ..)
    have h2 : unders L xs = true := unders_all (fun y hy => h y (List.mem_cons_of_mem _ hy))
    rw [unders, h1, h2]
    rfl
/-- All that lies there leads to places below. -/
theorem RunF.under {n K : Nat} {loc : List AObj} {up : Frs} {S : Sol} {V : Ver} {pr : List (List Int)} {q : Nat} (h : RunF n K loc up S V pr q) {L : Nat} (hL : loc.length ≤ L) : loc.all (AObj.under L) = true := by
  rw [List.all_eq_true]
  intro x hx
  obtain ⟨j, hj, e⟩ := List.getElem_of_mem hx
  have hx' : loc[j]? = some x := by rw [List.getElem?_eq_getElem hj, e]
  have hA := h.at'
  have hl := h.len
  have hn := h.sn
  have hc := h.clk
  have key : ∀ o, loc[j]? = some o → o.under L = true → x.under L = true := fun o ho hu => by rw [hx'] at ho; cases ho; exact hu
  have k2 : ∀ o, fget (loc :: up) 0 j = some o → o.under L = true → x.under L = true := fun o ho hu => key o (by simpa only [look_zero] using ho) hu
  by_cases j0 : j = 0
  · subst j0; exact key _ h.res rfl
  by_cases j1 : j = 1
  · subst j1
    refine k2 _ hA.wch ?_
    refine unders_all (fun y hy => ?_)
    obtain ⟨i, hi, rfl⟩ := List.mem_map.1 hy
    have := List.mem_range.1 hi
    simp only [PV.under, decide_eq_true_eq]
    omega
  by_cases j2 : j = 2
  · subst j2; exact k2 _ hA.val (unders_ims _ _)
  by_cases j3 : j = 3
  · subst j3; exact k2 _ hA.lev (unders_ims _ _)
  by_cases j4 : j = 4
  · subst j4; exact k2 _ hA.why (unders_ims _ _)
  by_cases j5 : j = 5
  · subst j5
    refine k2 _ hA.box ?_
    simp only [AObj.under, unders, PV.under, Bool.and_true, Bool.true_and, Bool.and_eq_true, decide_eq_true_eq]
    omega
  by_cases j6 : j = 6
  · subst j6; exact key _ h.six rfl
  by_cases j7 : j = 7
  · subst j7
    refine k2 _ hA.clo ?_
    refine unders_all (fun y hy => ?_)
    obtain ⟨i, hi, rfl⟩ := List.mem_map.1 hy
    have := List.mem_range.1 hi
    simp only [PV.under, decide_eq_true_eq]
    omega
  by_cases j8 : j = 8
  · subst j8; exact k2 _ hA.trl (by show unders L (i64s S.tr ++ i64s V.tx) = true; rw [unders_append, unders_ims, unders_ims]; rfl)
  by_cases j9 : j = 9
  · subst j9; exact k2 _ hA.sts (by show unders L (n64s S.st ++ n64s V.sx) = true; rw [unders_append, unders_ims, unders_ims]; rfl)
  by_cases j10 : j = 10
  · subst j10
    refine key _ h.out ?_
    simp only [AObj.under, unders, PV.under, Bool.and_true, Bool.true_and, decide_eq_true_eq]
    omega
  by_cases jw : j < 11 + (2 * n + 2)
  · have := hA.wli (j - 11) (by omega)
    rw [show j - 11 + 11 = j by omega] at this
    exact k2 _ this (unders_ims _ _)
  by_cases jc : j < S.cl.length + (2 * n + 2) + 11
  · have := hA.cli (j - (2 * n + 2) - 11) (by omega)
    rw [show j - (2 * n + 2) - 11 + (2 * S.n + 2) + 11 = j by omega] at this
    exact k2 _ this (unders_ims _ _)
  by_cases jd : j < K + (2 * n + 2) + 11
  · have := h.spr (j - (2 * n + 2) - 11) (by omega) (by omega)
    rw [show j - (2 * n + 2) - 11 + (2 * n + 2) + 11 = j by omega] at this
    exact key _ this rfl
  by_cases ju : j = K + (2 * n + 2) + 11
  · subst ju
    rcases h.unit with hu | ⟨g, l, hu⟩
    · exact key _ hu rfl
    · exact key _ hu (unders_ims _ _)
  · have je : j = K + (2 * n + 2) + 12 := by omega
    subst je
    exact key _ h.prf rfl
/-- After a part of the search that keeps all but the solver. -/
theorem RunF.keep {n K : Nat} {loc : List AObj} {up u : Frs} {S S' : Sol} {V V' : Ver} {pr : List (List Int)} {q : Nat} (h : RunF n K loc up S V pr q) (hu : SAt u 0 S' V') (he : Else (loc :: up) u 0 S S.cl.length) (hn : S'.n = S.n) (hc : S'.cl.length = S.cl.length) :
    ∃ loc', u = loc' :: up ∧ RunF n K loc' up S' V' pr q ∧ ∀ j, ¬ SPl S S.cl.length j → loc'[j]? = loc[j]? := by
  obtain ⟨l', rfl, h1, h2⟩ := he.cons
  have hl := h.len
  have hsn := h.sn
  have hck := h.clk
  refine ⟨l', rfl, ⟨h1.trans hl, hu, hn.trans hsn, by rw [hc]; exact hck, (h2 _ (by unfold SPl; omega)).trans h.res, (h2 _ (by unfold SPl; omega)).trans h.six, (h2 _ (by unfold SPl; omega)).trans h.out, (h2 _ (by unfold SPl; omega)).trans h.prf, fun k k1 k2 => (h2 _ (by unfold SPl; omega)).trans (h.spr k (by rw [← hc]; exact k1) k2), ?_⟩, h2⟩
  have e := h2 (K + (2 * n + 2) + 11) (by unfold SPl; omega)
  rcases h.unit with h3 | ⟨g, l, h3⟩
  · exact .inl (e.trans h3)
  · exact .inr ⟨g, l, e.trans h3⟩
theorem get_set {α : Type} (l : List α) (i j : Nat) (x : α) (h : i < l.length) : (l.set i x)[j]? = if j = i then some x else l[j]? := by
  by_cases e : j = i
  · subst e; rw [if_pos rfl, List.getElem?_set_self h]
  · rw [if_neg e, List.getElem?_set_ne (fun h => e h.symm)]
/-- The result's place is written, or the proof grows. -/
theorem RunF.put {n K : Nat} {loc : List AObj} {up : Frs} {S : Sol} {V : Ver} {pr pr' : List (List Int)} {q q' : Nat} (h : RunF n K loc up S V pr q) : RunF n K ((loc.set (K + (2 * n + 2) + 12) (.row 92 2 (stepsR pr') 0)).set 10 (outB (K + (2 * n + 2) + 12) pr'.length q')) up S V pr' q' := by
  have hl := h.len
  have hn := h.sn
  have hc := h.clk
  have e : ∀ j, ((loc.set (K + (2 * n + 2) + 12) (.row 92 2 (stepsR pr') 0)).set 10 (outB (K + (2 * n + 2) + 12) pr'.length q'))[j]? = if j = 10 then some (outB (K + (2 * n + 2) + 12) pr'.length q') else if j = K + (2 * n + 2) + 12 then some (.row 92 2 (stepsR pr') 0) else loc[j]? := fun j => by
    rw [get_set _ _ _ _ (by simp; omega), get_set _ _ _ _ (by omega)]
  have o : ∀ j, j ≠ 10 → j ≠ K + (2 * n + 2) + 12 → ((loc.set (K + (2 * n + 2) + 12) (.row 92 2 (stepsR pr') 0)).set 10 (outB (K + (2 * n + 2) + 12) pr'.length q'))[j]? = loc[j]? := fun j h1 h2 => by rw [e, if_neg h1, if_neg h2]
  refine ⟨by simp; exact hl, h.at'.sameOn (fun j hj => by simp only [look_zero]; unfold SPl at hj; exact o j (by omega) (by omega)), hn, hc, (o _ (by omega) (by omega)).trans h.res, (o _ (by omega) (by omega)).trans h.six, by rw [e, if_pos rfl], by rw [e, if_neg (by omega), if_pos rfl], fun k k1 k2 => (o _ (by omega) (by omega)).trans (h.spr k k1 k2), ?_⟩
  have e := o (K + (2 * n + 2) + 11) (by omega) (by omega)
  rcases h.unit with h3 | ⟨g, l, h3⟩
  · exact .inl (e.trans h3)
  · exact .inr ⟨g, l, e.trans h3⟩
theorem set_same {α : Type} {l : List α} {i : Nat} {x : α} (h : l[i]? = some x) : l.set i x = l := by
  obtain ⟨h1, h2⟩ := List.getElem?_eq_some_iff.1 h
  rw [← h2, List.set_getElem_self]
theorem RunF.count {n K : Nat} {loc : List AObj} {up : Frs} {S : Sol} {V : Ver} {pr : List (List Int)} {q : Nat} (h : RunF n K loc up S V pr q) (q' : Nat) : RunF n K (loc.set 10 (outB (K + (2 * n + 2) + 12) pr.length q')) up S V pr q' := by
  have := h.put (pr' := pr) (q' := q')
  rwa [set_same h.prf] at this
/-- The last object, a clause, is laid at a place of the frame; what lies between is dropped. -/
theorem Ghost.park {N : Nat} {env : List (Nat × PV)} {loc tail : List AObj} {up : Frs} {t g gv cp : Nat} {ims : List Im} {o : AObj} (e : List (Nat × PV)) (hcp : loc[cp]? = some o) (htk : Takes t gv o) (hu : ∀ L, loc.length ≤ L → loc.all (AObj.under L) = true) (htl : tail.all (AObj.under (loc.length + tail.length)) = true)
    (he : ehasT (cMove (loc.length + tail.length) 0 cp g gv) env e) (he2 : unders loc.length (e.map (·.2)) = true) :
    Ghost N ⟨env, loc ++ tail ++ [.vec t g (ims.map .im)], up⟩ ⟨e, loc.set cp (.vec t gv (ims.map .im)), up⟩ := by
  have hlt := (List.getElem?_eq_some_iff.1 hcp).1
  have hall : ∀ (L : Nat) (l : List AObj), l.all (AObj.under L) = true → ∀ i, (l.set i (.vec t gv (ims.map .im))).all (AObj.under L) = true := fun L l hl i => by
    rw [List.all_eq_true] at hl ⊢
    intro x hx
    rcases List.mem_or_eq_of_mem_set hx with h | rfl
    · exact hl x h
    · exact unders_ims _ _
  have g1 := Ghost.moveLast (n := N) (env := env) (e := e) (L := loc ++ tail) (L' := (loc ++ tail).set cp (.vec t gv (ims.map .im))) (up := up) (up' := up) (t := t) (g := g) (ims := ims) 0 cp gv (o := o) (by simp only [look_zero]; rw [List.getElem?_append_left hlt]; exact hcp) htk rfl (by rw [List.length_append]; exact he) (by
    rw [List.all_append, List.length_append, hu _ (by omega), htl]; rfl)
  refine g1.trans ?_
  have g2 := Ghost.trunc (n := N) (st := ⟨e, (loc ++ tail).set cp (.vec t gv (ims.map .im)), up⟩) loc.length he2 (by
    rw [List.set_append_left _ _ hlt, List.take_left' (by simp)]
    exact hall _ _ (hu _ (Nat.le_refl _)) _)
  rw [show ((⟨e, (loc ++ tail).set cp (.vec t gv (ims.map .im)), up⟩ : ASt).loc.take loc.length) = loc.set cp (.vec t gv (ims.map .im)) by
    show ((loc ++ tail).set cp _).take loc.length = _
    rw [List.set_append_left _ _ hlt, List.take_left' (by simp)]] at g2
  exact g2
/-- A round of the search has ended. -/
theorem RunF.final {n K : Nat} {l2 l7 : List AObj} {up : Frs} {S S' : Sol} {V V' : Ver} {pr pr' : List (List Int)} {q q' : Nat} (h : RunF n K l2 up S V pr q) (hl : l7.length = l2.length) (hA : SAt (l7 :: up) 0 S' V') (hn : S'.n = S.n) (hc : S'.cl.length ≤ K) (hc2 : S.cl.length ≤ S'.cl.length)
    (hs : ∀ j, ¬ SPl S S'.cl.length j → j ≠ 10 → j ≠ K + (2 * n + 2) + 12 → j ≠ K + (2 * n + 2) + 11 → l7[j]? = l2[j]?) (h10 : l7[10]? = some (outB (K + (2 * n + 2) + 12) pr'.length q')) (hE : l7[K + (2 * n + 2) + 12]? = some (.row 92 2 (stepsR pr') 0))
    (hU : l7[K + (2 * n + 2) + 11]? = l2[K + (2 * n + 2) + 11]? ∨ ∃ g l, l7[K + (2 * n + 2) + 11]? = some (.vec 3 g (i64s l))) : RunF n K l7 up S' V' pr' q' := by
  have hsn := h.sn
  refine ⟨hl.trans h.len, hA, hn.trans hsn, hc, (hs _ (by unfold SPl; omega) (by omega) (by omega) (by omega)).trans h.res, (hs _ (by unfold SPl; omega) (by omega) (by omega) (by omega)).trans h.six, h10, hE, fun k k1 k2 => (hs _ (by unfold SPl; omega) (by omega) (by omega) (by omega)).trans (h.spr k (by omega) k2), ?_⟩
  rcases hU with h1 | h1
  · rw [h1]; exact h.unit
  · exact .inr h1
/-- Where the clause that is learned is laid. -/
structure Laid (n K : Nat) (l2 l3 : List AObj) (S : Sol) (c : List Int) (cp gv : Nat) : Prop where
  eq : l3 = l2.set cp (.vec 3 gv (i64s c))
  lt : cp < K + (2 * n + 2) + 12
  pos : S.cl.length + (2 * n + 2) + 11 ≤ cp
  one : 1 < c.length → cp = S.cl.length + (2 * n + 2) + 11 ∧ gv = 0
  uni : ¬ 1 < c.length → cp = K + (2 * n + 2) + 11
theorem RunF.spot {n K : Nat} {loc : List AObj} {up : Frs} {S : Sol} {V : Ver} {pr : List (List Int)} {q : Nat} (h : RunF n K loc up S V pr q) (hk : S.cl.length < K) (c : List Int) : ∃ cp gv o, loc[cp]? = some o ∧ Takes 3 gv o ∧ Laid n K loc (loc.set cp (.vec 3 gv (i64s c))) S c cp gv := by
  by_cases e : 1 < c.length
  · exact ⟨_, 0, _, h.spr S.cl.length (Nat.le_refl _) hk, trivial, rfl, by omega, Nat.le_refl _, fun _ => ⟨rfl, rfl⟩, fun h => absurd e h⟩
  · rcases h.unit with h1 | ⟨g, l, h1⟩
    · exact ⟨_, 0, _, h1, trivial, rfl, by omega, by omega, fun h => absurd h e, fun _ => rfl⟩
    · exact ⟨_, g + 1, _, h1, ⟨rfl, Nat.lt_succ_self _⟩, rfl, by omega, by omega, fun h => absurd h e, fun _ => rfl⟩
theorem meas {limit q n x y : Nat} (h : q < limit) : (limit - (q + 1)) * (n + 2) + (n - x) < (limit - q) * (n + 2) + (n - y) := by
  have e : limit - q = (limit - (q + 1)) + 1 := by omega
  rw [e, Nat.add_mul, Nat.one_mul]
  omega
/-- A round that learned a clause has ended. -/
theorem RunF.round {n K : Nat} {l2 l3 l4 l7 : List AObj} {up : Frs} {S S' : Sol} {V V' : Ver} {pr : List (List Int)} {rf : List Int} {q q' cp gv : Nat} (hF : RunF n K l2 up S V pr q) (hLd : Laid n K l2 l3 S rf cp gv)
    (h4 : l4 = (l3.set (K + (2 * n + 2) + 12) (.row 92 2 (stepsR (pr ++ [rf])) 0)).set 10 (outB (K + (2 * n + 2) + 12) (pr ++ [rf]).length q')) (hlen : l7.length = l4.length) (h7 : ∀ j, ¬ SPl S S.cl.length j → l7[j]? = l4[j]?)
    (hA : SAt (l7 :: up) 0 S' V') (hn : S'.n = S.n) (hc2 : S.cl.length ≤ S'.cl.length) (hc : S'.cl.length ≤ K) (hone : 1 < rf.length → S.cl.length < S'.cl.length) : RunF n K l7 up S' V' (pr ++ [rf]) q' := by
  have hsn := hF.sn
  have hl := hF.len
  have hlt := hLd.lt
  have hps := hLd.pos
  have h3l : l3.length = l2.length := by rw [hLd.eq, List.length_set]
  have hck := hF.clk
  have g3 : ∀ j, l3[j]? = if j = cp then some (.vec 3 gv (i64s rf)) else l2[j]? := fun j => by rw [hLd.eq, get_set _ _ _ _ (by omega)]
  have g4 : ∀ j, l4[j]? = if j = 10 then some (outB (K + (2 * n + 2) + 12) (pr ++ [rf]).length q') else if j = K + (2 * n + 2) + 12 then some (.row 92 2 (stepsR (pr ++ [rf])) 0) else l3[j]? := fun j => by
    rw [h4, get_set _ _ _ _ (by rw [List.length_set]; omega), get_set _ _ _ _ (by omega)]
  have hcpU : 1 < rf.length ∨ cp = K + (2 * n + 2) + 11 := by
    by_cases e : 1 < rf.length
    · exact .inl e
    · exact .inr (hLd.uni e)
  refine hF.final (by rw [hlen, h4, List.length_set, List.length_set, h3l]) hA hn hc hc2 (fun j j1 j2 j3 j4 => ?_) ?_ ?_ ?_
  · rw [h7 j (by unfold SPl at j1 ⊢; omega), g4, if_neg j2, if_neg j3, g3, if_neg ?_]
    intro e
    rcases hcpU with h1 | h1
    · have := (hLd.one h1).1
      have := hone h1
      unfold SPl at j1
      omega
    · omega
  · rw [h7 _ (by unfold SPl; omega), g4, if_pos rfl]
  · rw [h7 _ (by unfold SPl; omega), g4, if_neg (by omega), if_pos rfl]
  · rw [h7 _ (by unfold SPl; omega), g4, if_neg (by omega), if_neg (by omega), g3]
    split
    · exact .inr ⟨_, _, rfl⟩
    · exact .inl rfl
theorem st_le {S : Sol} (h : Inv S) (hst : ∀ x ∈ S.st, x < S.tr.length) : S.st.length ≤ S.tr.length := by
  have grow : ∀ i, i < S.st.length → i ≤ S.st.getD i 0 := fun i => by
    induction i with
    | zero => intro _; omega
    | succ i ih =>
      intro hi
      have := ih (by omega)
      have := h.sts i (i + 1) (by omega) hi
      omega
  by_cases e0 : S.st.length = 0
  · omega
  · have := grow (S.st.length - 1) (by omega)
    have := hst _ (getD_mem (l := S.st) (i := S.st.length - 1) (d := 0) (by omega))
    omega
/-- What spread answers. -/
def spr : Option Nat → Int
  | none => -1
  | some k => (k : Int)
theorem spread2_ok (S0 : Sol) (V0 : Ver) (B : Nat) (up : Frs) (hA0 : SAt up 0 S0 V0) (hS0 : SW S0 B) (hB : B ≤ 3000000) (hK : S0.cl.length ≤ V0.K) (f : Nat) (hf : S0.n + 1 ≤ f + S0.head) : ACalls Try.prog 141 [.ptr 0 5 0] up fun v u => ∃ V',
    v = .i (spr (Sol.spread f S0).2) ∧ Kept up u 0 S0 V0 (Sol.spread f S0).1 V' ∧ SW (Sol.spread f S0).1 B :=
  (sSpread_ok S0 V0 B up hA0 hS0 hB hK f hf).mono fun v u ⟨V', h1, h2, h3⟩ => ⟨V', by rw [h1]; cases (Sol.spread f S0).2 <;> rfl, h2, h3⟩
theorem unders_repl (L N : Nat) (x : PV) : unders L (List.replicate N x) = (decide (N = 0) || x.under L) := by
  induction N with
  | zero => rfl
  | succ N ih =>
    rw [List.replicate_succ, unders, ih]
    cases x.under L <;> simp
theorem pushN_eq : ∀ (k : Nat) (st : ASt), st.pushN k = ⟨st.env, st.loc ++ List.replicate k .dead, st.up⟩
  | 0, st => by simp [ASt.pushN]
  | k + 1, st => by
    rw [ASt.pushN, pushN_eq k]
    simp [ASt.push, List.replicate_succ]
def head0 (n : Nat) : List AObj := [resB, .vec 22 0 ((List.range (2 * n + 2)).map fun k => .vs 0 (11 + k) 0 0 0), .vec 221 0 (List.replicate (n + 1) (.im (.int .i8 0))), .vec 3 0 (List.replicate (n + 1) (.im (.int .i64 0))), .vec 3 0 (List.replicate (n + 1) (.im (.int .i64 0))),
  .box [.vs 0 7 0 0 0, .vs 0 1 0 (2 * n + 2) 0, .vs 0 2 0 (n + 1) 0, .vs 0 3 0 (n + 1) 0, .vs 0 4 0 (n + 1) 0, .vs 0 8 0 0 0, .vs 0 9 0 0 0, .im (.int .i64 0), .im (.int .i64 1)], .dead, .vec 22 0 [], .vec 3 0 [], .vec 3 0 [], .dead]
def loc0 (n K : Nat) : List AObj := head0 n ++ List.replicate (2 * n + 2) (.vec 3 0 []) ++ List.replicate (K + 1) .dead
def ver0 (K : Nat) : Ver := ⟨0, 0, 0, fun _ => 0, [], [], K⟩
theorem loc0_len (n K : Nat) : (loc0 n K).length = K + (2 * n + 2) + 12 := by simp [loc0, head0]; omega
theorem loc0_head (n K : Nat) {j : Nat} (h : j < 11) : (loc0 n K)[j]? = (head0 n)[j]? := by
  rw [loc0, List.append_assoc, List.getElem?_append_left (by simp [head0]; omega)]
theorem loc0_wl (n K : Nat) {i : Nat} (h : i < 2 * n + 2) : (loc0 n K)[i + 11]? = some (.vec 3 0 []) := by
  have hl : (head0 n).length = 11 := rfl
  rw [loc0, List.append_assoc, List.getElem?_append_right (by omega), List.getElem?_append_left (by rw [List.length_replicate]; omega), List.getElem?_replicate, if_pos (by omega)]
theorem loc0_sp (n K : Nat) {k : Nat} (h : k < K + 1) : (loc0 n K)[k + (2 * n + 2) + 11]? = some .dead := by
  have hl : (head0 n).length = 11 := rfl
  rw [loc0, List.getElem?_append_right (by rw [List.length_append, List.length_replicate]; omega), List.getElem?_replicate, if_pos (by rw [List.length_append, List.length_replicate]; omega)]
theorem new_at (n K : Nat) (up : Frs) : SAt (loc0 n K :: up) 0 (Sol.new n) (ver0 K) := by
  have hh : ∀ j, j < 11 → fget (loc0 n K :: up) 0 j = (head0 n)[j]? := fun j hj => by simp only [look_zero]; exact loc0_head n K hj
  have hw : ∀ i, (List.replicate (2 * n + 2) ([] : List Nat)).getD i [] = [] := fun i => by
    simp only [List.getD_eq_getElem?_getD, List.getElem?_replicate]
    split <;> rfl
  refine ⟨(hh 5 (by omega)).trans rfl, (hh 1 (by omega)).trans ?_, (hh 2 (by omega)).trans ?_, (hh 3 (by omega)).trans ?_, (hh 4 (by omega)).trans ?_, (hh 7 (by omega)).trans rfl, (hh 8 (by omega)).trans rfl, (hh 9 (by omega)).trans rfl, fun i hi => ?_, fun k hk => by simp [Sol.new] at hk⟩
  · show some (AObj.vec _ _ _) = some (AObj.vec _ _ _)
    congr 2
    show (List.range (2 * n + 2)).map _ = (List.range (2 * n + 2)).map _
    refine List.map_congr_left fun i _ => ?_
    show PV.vs 0 (11 + i) 0 0 0 = PV.vs 0 (i + 11) 0 ((List.replicate (2 * n + 2) ([] : List Nat)).getD i []).length 0
    rw [hw, Nat.add_comm]
    rfl
  · show some (AObj.vec _ _ (List.replicate (n + 1) _)) = some (AObj.vec _ _ (i8s (List.replicate (n + 1) 0)))
    simp
  · show some (AObj.vec _ _ (List.replicate (n + 1) _)) = some (AObj.vec _ _ (n64s (List.replicate (n + 1) 0)))
    simp
  · show some (AObj.vec _ _ (List.replicate (n + 1) _)) = some (AObj.vec _ _ (i64s (List.replicate (n + 1) 0)))
    simp
  · simp only [look_zero]
    rw [loc0_wl n K hi]
    show _ = some (AObj.vec _ _ (n64s ((List.replicate (2 * n + 2) ([] : List Nat)).getD i [])))
    rw [hw]
    rfl
theorem new_spare (n K : Nat) (up : Frs) : Spare (loc0 n K :: up) 0 (Sol.new n) K 0 := fun k _ hk => by
  simp only [look_zero]
  exact loc0_sp n K (by omega)
end Go.Proofs.YtdgpmopcmacicaaPi

/- The walk of run. -/
set_option linter.unusedVariables false
set_option linter.unusedSimpArgs false
set_option maxRecDepth 100000
namespace Go.Proofs.YtdgpmopcmacicaaPi
set_option maxHeartbeats 40000000
/-- Slots alone are kept. -/
theorem keepL {n : Nat} {st : ASt} (e : List (Nat × PV)) (he : ehas st.env e) : Ghost n st ⟨e, st.loc, st.up⟩ := Ghost.keepE he
def fndB (b : Bool) (x : PV) (q : Nat) : AObj := .box [.im (.bool b), .im (.bool b), x, .nils, .i (q : Nat)]
theorem RunF.load {n K : Nat} {up : Frs} {loc : List AObj} {S : Sol} {V : Ver} (hl : loc.length = K + (2 * n + 2) + 12) (hA : SAt (loc :: up) 0 S V) (hn : S.n = n) (hc : S.cl.length ≤ K) (h0 : loc[0]? = some resB) (h6 : loc[6]? = some .dead) (hs : ∀ k, S.cl.length ≤ k → k < K + 1 → loc[k + (2 * n + 2) + 11]? = some .dead) :
    RunF n K (loc.set 10 (outB (K + (2 * n + 2) + 12) 0 0) ++ [.row 92 2 [] 0]) up S V [] 0 := by
  have e : ∀ j, j < loc.length → (loc.set 10 (outB (K + (2 * n + 2) + 12) 0 0) ++ [AObj.row 92 2 [] 0])[j]? = if j = 10 then some (outB (K + (2 * n + 2) + 12) 0 0) else loc[j]? := fun j hj => by
    rw [List.getElem?_append_left (by simpa using hj), get_set _ _ _ _ (by omega)]
  refine ⟨by simp; omega, SAt.app (hA.sameOn (fun j hj => ?_)) _, hn, hc, (e _ (by omega)).trans (by rw [if_neg (by omega)]; exact h0), (e _ (by omega)).trans (by rw [if_neg (by omega)]; exact h6), (e _ (by omega)).trans (by rw [if_pos rfl]; rfl), ?_, fun k k1 k2 => (e _ (by omega)).trans (by rw [if_neg (by omega)]; exact hs k k1 (by omega)), .inl ((e _ (by omega)).trans (by rw [if_neg (by omega)]; exact hs K hc (by omega)))⟩
  · simp only [look_zero]
    rw [get_set _ _ _ _ (by omega), if_neg (by unfold SPl at hj; omega)]
  · rw [List.getElem?_append_right (by simp; omega)]
    simp [hl]
theorem rowVecM {n m : Nat} {env e : List (Nat × PV)} {L : List AObj} {up : Frs} {t : Nat} {rows : List (List Im)} (ims : List Im) (hr : rows = ims.map fun x => [x]) (hm : m = ims.length) (he : ehasT (cRow L.length m) env e) (h2 : L.all (AObj.under L.length) = true) :
    Ghost n ⟨env, L ++ [.row t 1 rows 0], up⟩ ⟨e, L ++ [.vec t 0 (ims.map .im)], up⟩ := Ghost.rowVec ims hr (by rw [hr, List.length_map, ← hm]; exact he) h2
theorem thawAt {N : Nat} {e : List (Nat × PV)} {loc : List AObj} {up : Frs} (hl : loc[10]? = some resB) : Ghost N ⟨e, loc, up⟩ ⟨e, loc.set 10 (outB loc.length 0 0) ++ [.row 92 2 [] 0], up⟩ := by
  have h := Ghost.thawBox (n := N) (st := ⟨e, loc, up⟩) (j := 10) (i := 3) 92 2 (by decide) hl rfl
  have hlt := (List.getElem?_eq_some_iff.1 hl).1
  simp only [ASt.push, ASt.fr, fset, ASt.setFr] at h
  rw [List.set_append_left _ _ hlt] at h
  exact h
theorem thawM {N q : Nat} {e : List (Nat × PV)} {loc : List AObj} {up : Frs} (hl : loc[10]? = some (fndB true .nils q)) : Ghost N ⟨e, loc, up⟩ ⟨e, loc.set 10 (fndB true (.ms 0 loc.length 0) q) ++ [.row 4 1 [] 0], up⟩ := by
  have h := Ghost.thawBox (n := N) (st := ⟨e, loc, up⟩) (j := 10) (i := 2) 4 1 (by decide) hl rfl
  have hlt := (List.getElem?_eq_some_iff.1 hl).1
  simp only [ASt.push, ASt.fr, fset, ASt.setFr] at h
  rw [List.set_append_left _ _ hlt] at h
  exact h
theorem run_ok (M : Nat → Bool) (I : Sol → Nat → Prop) (cs : List (List Int)) (n limit : Nat) (plain : Bool) (hn : n ≤ 20000) (hcs : ClsIn n cs) (hm : ∀ c ∈ cs, HoldsC M c) (hlim : limit ≤ 65536)
    (hI0 : I (Sol.load cs (Sol.new n)).1 0) (hIs : ∀ S S' q, Ext S S' → I S q → I S' q)
    (hId : ∀ S B q, Base M S B → S.n = n → S.head = S.tr.length → (∀ c ∈ cs, Cov S c) → I S q → S.decide.2 = true → I S.decide.1 q)
    (hIc : ∀ S B k c d q, Bad M S B k → S.n = n → I S q → q < limit → Lesson S c d → (plain = true → c = S.refuted ∧ d = S.st.length - 1) → I ((S.back d).heed c) (q + 1)) (up : Frs) :
    ACalls Try.prog 94 [.im (.sl (clss cs)), .i (n : Nat), .i (limit : Nat), .im (.bool plain)] up fun v u => u = up ∧ ∃ (d : Bool) (m : List Bool) (q : Nat), v = .agg [.im (.bool d), .im (.bool d), .im (.sl (bools m)), .im (.sl []), .i (q : Nat)] ∧ q ≤ limit ∧
      (d = true → m.length = n ∧ ∀ c ∈ cs, HoldsC (fun v => m.getD (v - 1) false) c) ∧ (d = false → m = [] ∧ ∃ S B k, Bad M S B k ∧ S.n = n ∧ I S limit) := by
  have w1 : IntKind.i64.wrap (2 * (n : Int)) = ((2 * n : Nat) : Int) := by rw [wrap64 (by omega)]; omega
  have w2 : IntKind.i64.wrap (((2 * n : Nat) : Int) + 2) = ((2 * n + 2 : Nat) : Int) := by rw [wrap64 (by omega)]; omega
  have w3 : IntKind.i64.wrap ((n : Int) + 1) = ((n + 1 : Nat) : Int) := by rw [wrap64 (by omega)]; omega
  have m24 : 24 * (2 * n + 2) ≤ 281474976710656 := by omega
  have m1 : 1 * (n + 1) ≤ 281474976710656 := by omega
  have m8 : 8 * (n + 1) ≤ 281474976710656 := by omega
  have hcl := hcs.len
  refine ACalls.code Try.func94 rfl 141 rfl (by simp) [.cell 8 86] rfl fun Q hQ => ?_
  simp only [ups, PV.up, argEnv]
  have ft := And.intro ty_2 (And.intro ty_3 (And.intro ty_4 (And.intro ty_6 (And.intro ty_8 (And.intro ty_22 (And.intro ty_71 (And.intro ty_81 (And.intro ty_84 (And.intro ty_86 (And.intro ty_92 (And.intro ty_216 (And.intro ty_217 (And.intro ty_219 (And.intro ty_221 trivial))))))))))))))
  refine Run.seq ?_
  have fx := And.intro (@Nat.zero_add) (And.intro (@Int.toNat_natCast) (And.intro (@Int.natCast_nonneg) (And.intro w3 (And.intro w2 (And.intro w1 ft)))))
  refine Run.go ?_
  refine End.kp [0, 1, 2, 3, 8] ?_
  refine Run.seq ?_
  refine Run.ghost (.spares 5) ?_
  simp only [ASt.pushN, ASt.push, List.append_assoc, List.cons_append, List.nil_append]
  refine Run.drawA fun K hK => ?_
  refine DOps.sim1 ?_
  refine DOps.sim1 ?_
  refine DOps.sim1 ?_
  refine DOps.makeVec (e := 22) (by_ := 24) (z := .nils) (k1 := .i64) (k2 := .i64) (2 * n + 2) 1 (by omega) m24 ?_
  refine DOps.sim1 ?_
  refine DOps.sim1 ?_
  refine DOps.makeVec (e := 221) (by_ := 1) (z := .im (.int .i8 0)) (k1 := .i64) (k2 := .i64) (n + 1) 2 (by omega) m1 ?_
  refine DOps.sim1 ?_
  refine DOps.sim1 ?_
  refine DOps.makeVec (e := 3) (by_ := 8) (z := .im (.int .i64 0)) (k1 := .i64) (k2 := .i64) (n + 1) 3 (by omega) m8 ?_
  refine DOps.sim1 ?_
  refine DOps.sim1 ?_
  refine DOps.makeVec (e := 3) (by_ := 8) (z := .im (.int .i64 0)) (k1 := .i64) (k2 := .i64) (n + 1) 4 (by omega) m8 ?_
  
  refine DOps.sim ?_
  refine DOps.nil ?_ (hK _ ?_)
  · rfl
  clear hK K
  refine End.kp [0, 2, 3, 8, 9] ?_
  refine Run.seq ?_
  have fx := And.intro (@Nat.zero_add) (And.intro (@Int.toNat_natCast) (And.intro (@Int.natCast_nonneg) (And.intro w3 (And.intro w2 (And.intro w1 ft)))))
  refine Run.go ?_
  refine End.kp [0, 2, 3, 8, 9, 10] ?_
  refine Run.seq ?_
  refine Run.seq ?_
  refine Run.ghost (Ghost.form [(0, .im (.sl (clss cs))), (2, .i (limit : Nat)), (3, .im (.bool plain)), (8, .ptr 0 0 0), (9, .ptr 0 5 0)] 6 ⟨rfl, rfl, rfl, rfl, rfl, trivial⟩ rfl (by simp only [ASt.push, List.nil_append, List.cons_append, List.take_succ_cons, List.take_zero, List.all_cons, List.all_nil, AObj.under, i64s_set, unders_append, unders_ims, unders, PV.under, Bool.and_true, Bool.and_self, unders_repl]; simp)) ?_
  refine Run.ghost (.spares 5) ?_
  change Run _ _ _ _ _ (⟨[(0, .im (.sl (clss cs))), (2, .i (limit : Nat)), (3, .im (.bool plain)), (8, .ptr 0 0 0), (9, .ptr 0 5 0)], [resB, .vec 22 0 (List.replicate (2 * n + 2) .nils), .vec 221 0 (List.replicate (n + 1) (.im (.int .i8 0))), .vec 3 0 (List.replicate (n + 1) (.im (.int .i64 0))), .vec 3 0 (List.replicate (n + 1) (.im (.int .i64 0))),
    .box [.nils, .vs 0 1 0 (2 * n + 2) 0, .vs 0 2 0 (n + 1) 0, .vs 0 3 0 (n + 1) 0, .vs 0 4 0 (n + 1) 0, .nils, .nils, .im (.int .i64 0), .im (.int .i64 1)], .dead, .dead, .dead, .dead, .dead], up⟩ : ASt)
  refine Run.ghost (Ghost.boxNil (j := 5) (i := 0) (k := 7) 22 0 rfl rfl rfl) ?_
  refine Run.ghost (Ghost.boxNil (j := 5) (i := 5) (k := 8) 3 0 rfl rfl rfl) ?_
  refine Run.ghost (Ghost.boxNil (j := 5) (i := 6) (k := 9) 3 0 rfl rfl rfl) ?_
  refine Run.ghost (Ghost.vecNils (j := 1) (N := 2 * n + 2) 3 0 rfl) ?_
  refine Run.ghost (.spares (cs.length + limit + 1)) ?_
  rw [pushN_eq]
  change Run _ _ _ _ _ (⟨[(0, .im (.sl (clss cs))), (2, .i (limit : Nat)), (3, .im (.bool plain)), (8, .ptr 0 0 0), (9, .ptr 0 5 0)], loc0 n (cs.length + limit), up⟩ : ASt)
  have fx := And.intro (@Nat.zero_add) (And.intro (@Int.toNat_natCast) (And.intro (@Int.natCast_nonneg) (And.intro w3 (And.intro w2 (And.intro w1 ft)))))
  refine Run.region rfl fun K hK => GOps.sim ?_
  refine GOps.call rfl rfl rfl rfl (by kernel_rfl) (ACalls.sim ?_)
  refine (sload_ok (Sol.new n) (ver0 (cs.length + limit)) 0 (loc0 n (cs.length + limit) :: up) cs hcs (new_at n _ up) (new_base M hn).sw (by show 0 + cs.length ≤ cs.length + limit; omega) (by show cs.length + limit ≤ 400000; omega) (new_spare n _ up) (by omega)).mono fun v u hv => ?_
  obtain ⟨V, B, rfl, hkp, hsw, hBb, hclb⟩ := hv
  obtain ⟨loc1, rfl, hl1, hs1⟩ := hkp.els.cons
  obtain ⟨ld1, ⟨B2, ld2⟩, ld3, ld4, ld5⟩ := Ld.load (M := M) cs ⟨new_base M hn, rfl, rfl⟩ hcs.cls hm (by show 0 + cs.length ≤ 1000000; omega)
  have fx := And.intro (@Nat.zero_add) (And.intro (@Int.toNat_natCast) (And.intro (@Int.natCast_nonneg) (And.intro w3 (And.intro w2 (And.intro w1 ft)))))
  refine ⟨_, _, rfl, GOps.sim ?_⟩
  refine GOps.done (hK _ ?_); clear hK K
  refine End.kp [2, 3, 8, 9, 10, 38] ?_
  refine Run.cond _ rfl (fun hb => ?_) (fun hb => ?_)
  · rw [ld1] at hb
    simp at hb
  · rw [ld1] at hb
    have hA1 := hkp.at'
    have hbase : Base M (Sol.load cs (Sol.new n)).1 B := ⟨hsw, ld2.base.calm, ld2.base.hst, ld2.base.hsh, ld2.base.n1, ld2.base.n2, ld2.base.snd⟩
    have hcl1 : (Sol.load cs (Sol.new n)).1.cl.length ≤ cs.length := by have : (Sol.new n).cl.length = 0 := rfl; omega
    have hl1' : loc1.length = cs.length + limit + (2 * n + 2) + 12 := by rw [hl1, loc0_len]
    have hsp1 : ∀ k, (Sol.load cs (Sol.new n)).1.cl.length ≤ k → k < cs.length + limit + 1 → loc1[k + (2 * n + 2) + 11]? = some .dead := fun k k1 k2 => by
      by_cases e : k < cs.length + limit
      · have := hkp.spare _ (Nat.le_refl _) (fun j j1 j2 => new_spare n _ up j (Nat.zero_le _) j2) k k1 e
        simp only [look_zero] at this
        exact this
      · rw [hs1 _ (by unfold SPl; show ¬ (_ ∨ _ ∨ (11 ≤ _ ∧ k + (2 * n + 2) + 11 < cs.length + limit + (2 * n + 2) + 11)); omega)]
        exact loc0_sp n _ k2
    have h0 : loc1[0]? = some resB := by rw [hs1 _ (by unfold SPl; omega), loc0_head _ _ (by omega)]; rfl
    have h6 : loc1[6]? = some .dead := by rw [hs1 _ (by unfold SPl; omega), loc0_head _ _ (by omega)]; rfl
    have h10 : loc1[10]? = some .dead := by rw [hs1 _ (by unfold SPl; omega), loc0_head _ _ (by omega)]; rfl
    have hRF := RunF.load (K := cs.length + limit) (n := n) hl1' hA1 ld5 (by omega) h0 h6 hsp1
    generalize (Sol.load cs (Sol.new n)).1 = S0 at *
    refine Run.skip ?_
    refine End.kp [2, 3, 8, 9, 10] ?_
    refine Run.seq ?_
    have fx := And.intro (@Nat.zero_add) (And.intro (@Int.toNat_natCast) (And.intro (@Int.natCast_nonneg) (And.intro w3 (And.intro w2 (And.intro w1 ft)))))
    refine Run.region rfl fun K hK => GOps.atDead (v := .ptr 0 10 0) (st1 := ⟨_, loc1.set 10 resB, up⟩) 10 (by simpa only [ASt.fr, look_zero] using h10) (by simp only [stepD, allocD, fx, Option.map_some] <;> rfl) rfl rfl ?_
    refine GOps.done (hK _ ?_); clear hK K
    refine End.kp [2, 3, 8, 9, 10, 11] ?_
    refine Run.block ?_
    refine Run.ghost (keepL [(2, .i (limit : Nat)), (3, .im (.bool plain)), (8, .ptr 0 0 0), (9, .ptr 0 5 0), (11, .ptr 0 10 0)] ⟨rfl, rfl, rfl, rfl, rfl, trivial⟩) ?_
    change Run _ _ _ _ _ (⟨_, loc1.set 10 resB, up⟩ : ASt)
    have hth := @thawAt 141 [(2, .i (limit : Nat)), (3, .im (.bool plain)), (8, .ptr 0 0 0), (9, .ptr 0 5 0), (11, .ptr 0 10 0)] (loc1.set 10 resB) up (by rw [get_set _ _ _ _ (by omega), if_pos rfl])
    rw [List.set_set, List.length_set, hl1'] at hth
    refine Run.ghost hth ?_
    refine Run.loop (fun m st => ∃ (S : Sol) (V : Ver) (B : Nat) (loc : List AObj) (pr : List (List Int)) (q : Nat), m = (limit - q) * (n + 2) + (n - S.tr.length) ∧ (RunF n (cs.length + limit) loc up S V pr q ∧ Base M S B ∧ B ≤ 2 * (cs.length + q) ∧ S.cl.length ≤ cs.length + q ∧ pr.length = q ∧ q ≤ limit ∧ (∀ c ∈ cs, Cov S c) ∧ I S q) ∧ st = ⟨[(2, .i (limit : Nat)), (3, .im (.bool plain)), (8, .ptr 0 0 0), (9, .ptr 0 5 0), (11, .ptr 0 10 0)], loc, up⟩) ((limit - 0) * (n + 2) + (n - S0.tr.length)) ⟨S0, V, B, _, [], 0, rfl, ⟨hRF, hbase, by omega, by omega, rfl, by omega, ld3, hI0⟩, rfl⟩ fun m st hL => ?_
    clear hRF hbase ld3 hI0 hsp1 hkp hA1
    obtain ⟨S, V, B, loc, pr, q, hmm, ⟨hF, hBs, hB2, hcl2, hpr, hql, hcov, hIq⟩, rfl⟩ := hL
    subst m
    have hsn := hF.sn
    have htn := hBs.sw.len.trn
    refine Run.block ?_
    refine Run.seq ?_
    have fx := And.intro (@Nat.zero_add) (And.intro (@Int.toNat_natCast) (And.intro (@Int.natCast_nonneg) (And.intro w3 (And.intro w2 (And.intro w1 ft)))))
    refine Run.region rfl fun K hK => GOps.sim ?_
    refine GOps.call rfl rfl rfl rfl (by kernel_rfl) (ACalls.sim ?_)
    refine (spread2_ok S { V with K := S.cl.length } B (loc :: up) (hF.at'.ver _) hBs.sw (by omega) (Nat.le_refl _) (S.n + 1) (by omega)).mono fun v u hv => ?_
    obtain ⟨V1, rfl, hkp1, hsw1⟩ := hv
    obtain ⟨loc1, rfl, hF1, hs1⟩ := hF.keep hkp1.at' hkp1.els hkp1.n hkp1.cl
    obtain ⟨hE, hno, hso⟩ := hBs.spread (f := S.n + 1) (by omega) hsw1
    have hIq1 := hIs _ _ q hE hIq
    have hcov1 : ∀ c ∈ cs, Cov (Sol.spread (S.n + 1) S).1 c := fun c hc => (hcov c hc).ext hE
    have hn1 := hE.n
    have hc1 := hE.cln
    have ht1 := hE.trp
    clear hkp1
    generalize Sol.spread (S.n + 1) S = R at *
    obtain ⟨S1, ro⟩ := R
    obtain ⟨r, hr⟩ : ∃ r, r = spr ro := ⟨_, rfl⟩
    have hr' : spr (S1, ro).2 = r := hr.symm
    rw [hr']
    simp only at hF1 hno hso hIq1 hcov1 hn1 hc1 ht1 hsw1 hE
    have hbx := hF1.at'.box
    have hbx' : loc1[5]? = some (sbox S1 V1) := by simpa only [look_zero] using hbx
    have fx := And.intro hbx' (And.intro hbx (And.intro (@Nat.zero_add) (And.intro (@Int.toNat_natCast) (And.intro (@Int.natCast_nonneg) (And.intro w3 (And.intro w2 (And.intro w1 ft)))))))
    refine ⟨_, _, rfl, GOps.sim ?_⟩
    refine GOps.done (hK _ ?_); clear hK K
    refine End.kp [2, 3, 8, 9, 10, 11, 12] ?_
    refine Run.seq ?_
    refine Run.block ?_
    refine Run.seq ?_
    rcases Bool.eq_false_or_eq_true (ro.isNone) with hs7 | hs7
    · skip
      have hn0 : ro = none := by simpa using hs7
      have hr1 : r = -1 := by rw [hr, hn0]; rfl
      subst hr1
      obtain ⟨hB1, hh1⟩ := hno hn0
      have hdc := hB1.decide hh1
      have d0 := True.intro
      have d1 := True.intro
      have e1 := True.intro
      have fx := And.intro (@ge_iff_le Int _) (And.intro e1 (And.intro d1 (And.intro d0 (And.intro hs7 (And.intro hbx' (And.intro hbx (And.intro (@Nat.zero_add) (And.intro (@Int.toNat_natCast) (And.intro (@Int.natCast_nonneg) (And.intro w3 (And.intro w2 (And.intro w1 ft))))))))))))
      refine Run.go ?_
      refine End.kp [2, 3, 8, 9, 10, 11, 12, 44] ?_
      refine Run.cond _ rfl (fun hb => ?_) (fun hb => ?_)
      · have hb2 := hb
        simp at hb
      · have hb2 := hb
        refine Run.seq ?_
        have fx := And.intro (@ge_iff_le Int _) (And.intro e1 (And.intro d1 (And.intro d0 (And.intro hs7 (And.intro hbx' (And.intro hbx (And.intro (@Nat.zero_add) (And.intro (@Int.toNat_natCast) (And.intro (@Int.natCast_nonneg) (And.intro w3 (And.intro w2 (And.intro w1 ft))))))))))))
        refine Run.region rfl fun K hK => GOps.sim ?_
        refine GOps.call rfl rfl rfl rfl (by kernel_rfl) (ACalls.sim ?_)
        refine (decide_ok S1 { V1 with K := S1.cl.length } B (loc1 :: up) (hF1.at'.ver _) hB1.sw hB1.n1 hB1.n2 (st_le hB1.calm.inv hB1.hst)).mono fun v u hv => ?_
        obtain ⟨V2, rfl, hkp2⟩ := hv
        obtain ⟨loc2, rfl, hF2, hs2⟩ := hF1.keep hkp2.at' hkp2.els hkp2.n hkp2.cl
        have fx := And.intro (@ge_iff_le Int _) (And.intro e1 (And.intro d1 (And.intro d0 (And.intro hs7 (And.intro hbx' (And.intro hbx (And.intro (@Nat.zero_add) (And.intro (@Int.toNat_natCast) (And.intro (@Int.natCast_nonneg) (And.intro w3 (And.intro w2 (And.intro w1 ft))))))))))))
        refine ⟨_, _, rfl, GOps.sim ?_⟩
        refine GOps.done (hK _ ?_); clear hK K
        refine End.kp [2, 3, 8, 9, 10, 11, 12, 63] ?_
        refine Run.cond _ rfl (fun hb => ?_) (fun hb => ?_)
        · obtain ⟨g1, g2, g3, g4, g5, g6, g7⟩ := hdc.2 hb
          refine Run.exit rfl ?_
          refine End.lp ?_
          refine ⟨(limit - q) * (n + 2) + (n - S1.decide.1.tr.length), _, Nat.add_lt_add_left (by omega) _, keepL [(2, .i (limit : Nat)), (3, .im (.bool plain)), (8, .ptr 0 0 0), (9, .ptr 0 5 0), (11, .ptr 0 10 0)] ⟨rfl, rfl, rfl, rfl, rfl, trivial⟩, S1.decide.1, V2, B, loc2, pr, q, rfl, ⟨hF2, g1, hB2, ?_, hpr, hql, fun c hc => g7 c (hcov1 c hc), hId S1 B q hB1 (by rw [hn1, hsn]) hh1 hcov1 hIq1 hb⟩, rfl⟩
          rw [g4, hc1]
          exact hcl2
        · obtain ⟨f1, f2⟩ := hdc.1 hb
          have hout2 := hF2.out
          refine Run.seq ?_
          have fx := And.intro hout2 (And.intro (@ge_iff_le Int _) (And.intro e1 (And.intro d1 (And.intro d0 (And.intro hs7 (And.intro hbx' (And.intro hbx (And.intro (@Nat.zero_add) (And.intro (@Int.toNat_natCast) (And.intro (@Int.natCast_nonneg) (And.intro w3 (And.intro w2 (And.intro w1 ft)))))))))))))
          refine Run.go ?_
          refine End.kp [2, 3, 8, 9, 10, 11, 12, 70] ?_
          refine Run.cond _ rfl (fun hb => ?_) (fun hb => ?_)
          · have hb3 := hb
            refine Run.seq ?_
            have fx := And.intro hout2 (And.intro (@ge_iff_le Int _) (And.intro e1 (And.intro d1 (And.intro d0 (And.intro hs7 (And.intro hbx' (And.intro hbx (And.intro (@Nat.zero_add) (And.intro (@Int.toNat_natCast) (And.intro (@Int.natCast_nonneg) (And.intro w3 (And.intro w2 (And.intro w1 ft)))))))))))))
            refine Run.go ?_
            obtain ⟨l3, hl3⟩ : ∃ l3, l3 = loc2.set 10 (fndB true .nils q) := ⟨_, rfl⟩
            change End _ _ _ _ (⟨_, loc2.set 10 (fndB true .nils q), up⟩ : ASt)
            rw [← hl3]
            have hF2l := hF2.len
            have hget : ∀ j, l3[j]? = if j = 10 then some (fndB true .nils q) else loc2[j]? := fun j => by rw [hl3, get_set _ _ _ _ (by omega)]
            have b5 : l3[5]? = some (sbox S1.decide.1 V2) := by rw [hget, if_neg (by omega)]; have := hF2.at'.box; simp only [look_zero] at this; exact this
            unfold sbox at b5
            rw [hF2.sn] at b5
            have b2 : l3[2]? = some (.vec 221 0 (i8s S1.val)) := by rw [hget, if_neg (by omega)]; have := hF2.at'.val; rw [f1] at this; simp only [look_zero] at this; exact this
            have b10 : l3[10]? = some (fndB true .nils q) := by rw [hget, if_pos rfl]
            have b0 : l3[0]? = some resB := by rw [hget, if_neg (by omega)]; exact hF2.res
            have s1n : (1 : Int) ≤ ((n + 1 : Nat) : Int) := by omega
            have s1m : 1 ≤ n + 1 := by omega
            refine End.kp [8, 9, 11] ?_
            refine Run.seq ?_
            refine Run.seq ?_
            have fx := And.intro s1m (And.intro s1n (And.intro b5 (And.intro hout2 (And.intro (@ge_iff_le Int _) (And.intro e1 (And.intro d1 (And.intro d0 (And.intro hs7 (And.intro hbx' (And.intro hbx (And.intro (@Nat.zero_add) (And.intro (@Int.toNat_natCast) (And.intro (@Int.natCast_nonneg) (And.intro w3 (And.intro w2 (And.intro w1 ft))))))))))))))))
            refine Run.go ?_
            refine End.kp [8, 11, 80, 81, 82] ?_
            refine Run.block ?_
            refine Run.ghost (keepL [(8, .ptr 0 0 0), (11, .ptr 0 10 0), (80, .vs 0 2 1 n 0), (81, .i (n : Nat)), (82, .i (0 : Nat))] ⟨rfl, rfl, rfl, rfl, rfl, trivial⟩) ?_
            refine Run.ghost (thawM (q := q) (loc := l3) b10) ?_
            obtain ⟨mv, hmv⟩ : ∃ mv : List Bool, mv = (S1.val.drop 1).map fun v => v == 1 := ⟨_, rfl⟩
            have hml : mv.length = n := by rw [hmv]; simp [hB1.sw.len.val, hn1, hsn]
            obtain ⟨Lm, hLm⟩ : ∃ Lm, Lm = l3.length := ⟨_, rfl⟩
            have hLm1 : 10 < Lm := by rw [hLm, hl3, List.length_set]; omega
            rw [← hLm]
            refine Run.loop (fun m st => ∃ (i : Nat) (l4 : List AObj), m = n - i ∧ i ≤ n ∧ (l4.length = Lm + 1 ∧ l4[0]? = some resB ∧ l4[2]? = some (.vec 221 0 (i8s S1.val)) ∧ l4[10]? = some (fndB true (.ms 0 Lm i) q) ∧ l4[Lm]? = some (.row 4 1 (bools (mv.take i)) 0)) ∧ st = ⟨[(8, .ptr 0 0 0), (11, .ptr 0 10 0), (80, .vs 0 2 1 n 0), (81, .i (n : Nat)), (82, .i (i : Nat))], l4, up⟩) n ⟨0, _, rfl, by omega, ⟨?_, ?_, ?_, ?_, ?_⟩, rfl⟩ fun m st hJ => ?_
            · rw [List.length_append, List.length_set, ← hLm]; rfl
            · rw [List.getElem?_append_left (by rw [List.length_set]; omega), get_set _ _ _ _ (by omega), if_neg (by omega)]; exact b0
            · rw [List.getElem?_append_left (by rw [List.length_set]; omega), get_set _ _ _ _ (by omega), if_neg (by omega)]; exact b2
            · rw [List.getElem?_append_left (by rw [List.length_set]; omega), get_set _ _ _ _ (by omega), if_pos rfl]
            · rw [List.getElem?_append_right (by rw [List.length_set]; omega), List.length_set, ← hLm, Nat.sub_self]; rfl
            obtain ⟨i, l4, hmi, hin, ⟨c1, c0, c2, c10, cL⟩, rfl⟩ := hJ
            subst m
            unfold fndB at c10
            refine Run.seq ?_
            have fx := And.intro cL (And.intro c10 (And.intro c2 (And.intro s1m (And.intro s1n (And.intro b5 (And.intro hout2 (And.intro (@ge_iff_le Int _) (And.intro e1 (And.intro d1 (And.intro d0 (And.intro hs7 (And.intro hbx' (And.intro hbx (And.intro (@Nat.zero_add) (And.intro (@Int.toNat_natCast) (And.intro (@Int.natCast_nonneg) (And.intro w3 (And.intro w2 (And.intro w1 ft)))))))))))))))))))
            refine Run.go ?_
            refine End.kp [8, 11, 80, 81, 82, 83] ?_
            refine Run.seq ?_
            refine Run.cond _ rfl (fun hb => ?_) (fun hb => ?_)
            · have hb4 := of_decide_eq_true hb
              have hil : i < n := by omega
              have gi : (i8s S1.val)[1 + i]? = some (.im (.int .i8 (S1.val.getD (1 + i) 0))) := i8s_get _ _ (by rw [hB1.sw.len.val]; omega)
              have hii : (i : Int) < (n : Int) := by omega
              have wi := nsucc hil (by omega)
              have hbl : (bools (mv.take i)).length = i := by simp; omega
              have hap : (i + 1) * 1 ≤ 140737488355328 := by omega
              have hx10 : ∀ X, (l4.set Lm X)[10]? = some (.box [.im (.bool true), .im (.bool true), .ms 0 Lm i, .nils, .i (q : Nat)]) := fun X => by rw [List.getElem?_set_ne (by omega)]; exact c10
              have hnx : bools (mv.take (i + 1)) = bools (mv.take i) ++ [[.bool (S1.val.getD (1 + i) 0 == 1)]] := by
                have : mv[i]? = some (S1.val.getD (1 + i) 0 == 1) := by rw [hmv, List.getElem?_map, List.getElem?_drop, getD_some 0 (by rw [hB1.sw.len.val]; omega)]; rfl
                rw [List.take_add_one, this]
                simp
              refine Run.skip ?_
              refine End.kp [8, 11, 80, 81, 82] ?_
              refine Run.seq ?_
              refine Run.block ?_
              refine Run.seq ?_
              have fx := And.intro hx10 (And.intro hil (And.intro hap (And.intro hbl (And.intro wi (And.intro hii (And.intro gi (And.intro cL (And.intro c10 (And.intro c2 (And.intro s1m (And.intro s1n (And.intro b5 (And.intro hout2 (And.intro (@ge_iff_le Int _) (And.intro e1 (And.intro d1 (And.intro d0 (And.intro hs7 (And.intro hbx' (And.intro hbx (And.intro (@Nat.zero_add) (And.intro (@Int.toNat_natCast) (And.intro (@Int.natCast_nonneg) (And.intro w3 (And.intro w2 (And.intro w1 ft))))))))))))))))))))))))))
              refine Run.go ?_
              refine End.kp [8, 11, 14, 80, 81, 82] ?_
              refine Run.region rfl fun K hK => GOps.simK 4 ?_
              refine GOps.litF (rows := [[.bool (S1.val.getD (1 + i) 0 == 1)]]) ?_ rfl rfl (by simp only [litF, fx] <;> rfl)
              refine GOps.sim ?_
              refine GOps.done (hK _ ?_); clear hK K
              refine End.blk ?_
              refine End.kp [8, 11, 80, 81, 82] ?_
              have fx := And.intro hx10 (And.intro hil (And.intro hap (And.intro hbl (And.intro wi (And.intro hii (And.intro gi (And.intro cL (And.intro c10 (And.intro c2 (And.intro s1m (And.intro s1n (And.intro b5 (And.intro hout2 (And.intro (@ge_iff_le Int _) (And.intro e1 (And.intro d1 (And.intro d0 (And.intro hs7 (And.intro hbx' (And.intro hbx (And.intro (@Nat.zero_add) (And.intro (@Int.toNat_natCast) (And.intro (@Int.natCast_nonneg) (And.intro w3 (And.intro w2 (And.intro w1 ft))))))))))))))))))))))))))
              refine Run.go ?_
              refine End.lp ?_
              refine ⟨n - (i + 1), _, by omega, keepL [(8, .ptr 0 0 0), (11, .ptr 0 10 0), (80, .vs 0 2 1 n 0), (81, .i (n : Nat)), (82, .i (i + 1 : Nat))] ⟨rfl, rfl, rfl, rfl, rfl, trivial⟩, i + 1, _, rfl, by omega, ⟨?_, ?_, ?_, ?_, ?_⟩, rfl⟩
              · simp only [List.length_set]; exact c1
              · rw [get_set _ _ _ _ (by rw [List.length_set]; omega), if_neg (by omega), get_set _ _ _ _ (by omega), if_neg (by omega)]; exact c0
              · rw [get_set _ _ _ _ (by rw [List.length_set]; omega), if_neg (by omega), get_set _ _ _ _ (by omega), if_neg (by omega)]; exact c2
              · rw [get_set _ _ _ _ (by rw [List.length_set]; omega), if_pos rfl]; try rfl
              · rw [get_set _ _ _ _ (by rw [List.length_set]; omega), if_neg (by omega), get_set _ _ _ _ (by omega), if_pos rfl, hnx]; try rfl
            · have hb4 := of_decide_eq_false hb
              have hie : i = n := by omega
              subst hie
              rw [List.take_of_length_le (by omega)] at cL
              refine Run.exit rfl ?_
              refine End.kp [8, 11] ?_
              refine Run.seq ?_
              refine Run.ghost (Ghost.boxShut (j := 10) (i := 2) (r := Lm) (m := i) c10 rfl cL (by simp; omega)) ?_
              obtain ⟨l5, hl5⟩ : ∃ l5, l5 = (l4.set Lm (.row 4 1 (bools mv) (bools mv).length)).set 10 (fndB true (.im (.sl (bools mv))) q) := ⟨_, rfl⟩
              change Run _ _ _ _ _ (⟨_, (l4.set Lm (.row 4 1 (bools mv) (bools mv).length)).set 10 (fndB true (.im (.sl (bools mv))) q), up⟩ : ASt)
              rw [← hl5]
              have hl5n : 10 < l5.length := by rw [hl5]; simp only [List.length_set]; omega
              have d10 : l5[10]? = some (fndB true (.im (.sl (bools mv))) q) := by rw [hl5, get_set _ _ _ _ (by rw [List.length_set]; omega), if_pos rfl]
              have d0' : l5[0]? = some resB := by rw [hl5, get_set _ _ _ _ (by rw [List.length_set]; omega), if_neg (by omega), get_set _ _ _ _ (by omega), if_neg (by omega)]; exact c0
              have dself : ∀ X, (l5.set 0 X)[0]? = some X := fun X => List.getElem?_set_self (by omega)
              unfold fndB at d10
              have fx := And.intro dself (And.intro d0' (And.intro d10 (And.intro cL (And.intro c10 (And.intro c2 (And.intro s1m (And.intro s1n (And.intro b5 (And.intro hout2 (And.intro (@ge_iff_le Int _) (And.intro e1 (And.intro d1 (And.intro d0 (And.intro hs7 (And.intro hbx' (And.intro hbx (And.intro (@Nat.zero_add) (And.intro (@Int.toNat_natCast) (And.intro (@Int.natCast_nonneg) (And.intro w3 (And.intro w2 (And.intro w1 ft))))))))))))))))))))))
              refine Run.go ?_
              refine End.kp [8] ?_
              refine Run.resC hQ ?_
              refine ⟨rfl, true, mv, q, rfl, hql, fun _ => ⟨hml, fun c hc => ?_⟩, fun h => by simp at h⟩
              have hck := hcs.cls c hc
              have hmd := hB1.model hh1 f2 (fun l hl => (hck.2.2 l hl).1) (hcov1 c hc)
              obtain ⟨l, h1, h2⟩ := hmd
              refine ⟨l, h1, ?_⟩
              obtain ⟨z1, z2⟩ := hck.2.2 l h1
              have hge : mv.getD (l.natAbs - 1) false = S1.mdl l.natAbs := by
                have hv1 := hB1.sw.len.val
                rw [hn1, hsn] at hv1
                rw [hmv, List.getD_eq_getElem?_getD, List.getElem?_map, List.getElem?_drop, show 1 + (l.natAbs - 1) = l.natAbs by omega, getD_some 0 (by omega)]
                show (S1.val.getD l.natAbs 0 == 1) = decide (S1.val.getD l.natAbs 0 = 1)
                rw [Bool.eq_iff_iff]
                simp
              show mv.getD (l.natAbs - 1) false = _
              rw [hge]
              exact h2
          · have hb3 := hb
            simp at hb
    · skip
      obtain ⟨k, hk⟩ : ∃ k, ro = some k := by
        cases ro with
        | none => simp at hs7
        | some k => exact ⟨k, rfl⟩
      have hr1 : r = (k : Int) := by rw [hr, hk]; rfl
      subst hr1
      have hBd := hso k hk
      have hps := hBd.pos
      have d0 : decide ((0 : Int) ≤ (k : Int)) = true := decide_eq_true (by omega)
      have d1 : decide ((k : Int) < 0) = false := decide_eq_false (by omega)
      have e1 : (((S1.st.length : Nat) : Int) == 0) = false := beq_eq_false_iff_ne.2 (by omega)
      have fx := And.intro (@ge_iff_le Int _) (And.intro e1 (And.intro d1 (And.intro d0 (And.intro hs7 (And.intro hbx' (And.intro hbx (And.intro (@Nat.zero_add) (And.intro (@Int.toNat_natCast) (And.intro (@Int.natCast_nonneg) (And.intro w3 (And.intro w2 (And.intro w1 ft))))))))))))
      refine Run.go ?_
      refine End.kp [2, 3, 8, 9, 10, 11, 12, 44] ?_
      refine Run.cond _ rfl (fun hb => ?_) (fun hb => ?_)
      · have hb2 := hb
        simp at hb
      · have hb2 := hb
        refine Run.seq ?_
        have fx := And.intro (@ge_iff_le Int _) (And.intro e1 (And.intro d1 (And.intro d0 (And.intro hs7 (And.intro hbx' (And.intro hbx (And.intro (@Nat.zero_add) (And.intro (@Int.toNat_natCast) (And.intro (@Int.natCast_nonneg) (And.intro w3 (And.intro w2 (And.intro w1 ft))))))))))))
        refine Run.region rfl fun K hK => GOps.sim ?_
        refine GOps.done (hK _ ?_); clear hK K
        refine End.kp [2, 3, 8, 9, 10, 11, 12, 63] ?_
        refine Run.cond _ rfl (fun hb => ?_) (fun hb => ?_)
        · have hb3 := hb
          simp at hb
        · have hb3 := hb
          refine Run.seq ?_
          have fx := And.intro (@ge_iff_le Int _) (And.intro e1 (And.intro d1 (And.intro d0 (And.intro hs7 (And.intro hbx' (And.intro hbx (And.intro (@Nat.zero_add) (And.intro (@Int.toNat_natCast) (And.intro (@Int.natCast_nonneg) (And.intro w3 (And.intro w2 (And.intro w1 ft))))))))))))
          refine Run.go ?_
          refine End.kp [2, 3, 8, 9, 10, 11, 12, 70] ?_
          refine Run.cond _ rfl (fun hb => ?_) (fun hb => ?_)
          · have hb4 := hb
            simp at hb
          · have hb4 := hb
            have hout1 := hF1.out
            have hres1 := hF1.res
            have hF1l := hF1.len
            have rself : ∀ X, (loc1.set 0 X)[0]? = some X := fun X => List.getElem?_set_self (by omega)
            have wq : IntKind.i64.wrap ((q : Int) + 1) = ((q + 1 : Nat) : Int) := by rw [wrap64 (by omega)]; rfl
            refine Run.seq ?_
            have fx := And.intro wq (And.intro rself (And.intro hres1 (And.intro hout1 (And.intro (@ge_iff_le Int _) (And.intro e1 (And.intro d1 (And.intro d0 (And.intro hs7 (And.intro hbx' (And.intro hbx (And.intro (@Nat.zero_add) (And.intro (@Int.toNat_natCast) (And.intro (@Int.natCast_nonneg) (And.intro w3 (And.intro w2 (And.intro w1 ft))))))))))))))))
            refine Run.go ?_
            refine End.kp [2, 3, 8, 9, 10, 11, 12, 95] ?_
            refine Run.cond _ rfl (fun hb => ?_) (fun hb => ?_)
            · have hq : q = limit := by have := eq_of_beq hb; omega
              refine Run.seq ?_
              have fx := And.intro wq (And.intro rself (And.intro hres1 (And.intro hout1 (And.intro (@ge_iff_le Int _) (And.intro e1 (And.intro d1 (And.intro d0 (And.intro hs7 (And.intro hbx' (And.intro hbx (And.intro (@Nat.zero_add) (And.intro (@Int.toNat_natCast) (And.intro (@Int.natCast_nonneg) (And.intro w3 (And.intro w2 (And.intro w1 ft))))))))))))))))
              refine Run.go ?_
              refine End.kp [8] ?_
              refine Run.resC hQ ?_
              exact ⟨rfl, false, [], limit, rfl, Nat.le_refl _, fun h => by simp at h, fun _ => ⟨rfl, S1, B, k, hBd, by rw [hn1, hsn], by rw [← hq]; exact hIq1⟩⟩
            · have hq : q < limit := by have := ne_of_beq_false hb; omega
              refine Run.skip ?_
              refine End.blk ?_
              refine End.kp [2, 3, 8, 9, 10, 11, 12] ?_
              refine Run.seq ?_
              have fx := And.intro wq (And.intro rself (And.intro hres1 (And.intro hout1 (And.intro (@ge_iff_le Int _) (And.intro e1 (And.intro d1 (And.intro d0 (And.intro hs7 (And.intro hbx' (And.intro hbx (And.intro (@Nat.zero_add) (And.intro (@Int.toNat_natCast) (And.intro (@Int.natCast_nonneg) (And.intro w3 (And.intro w2 (And.intro w1 ft))))))))))))))))
              refine Run.go ?_
              obtain ⟨loc2, hl2⟩ : ∃ l, l = loc1.set 10 (outB (cs.length + limit + (2 * n + 2) + 12) pr.length (q + 1)) := ⟨_, rfl⟩
              change End _ _ _ _ (⟨_, loc1.set 10 (outB (cs.length + limit + (2 * n + 2) + 12) pr.length (q + 1)), up⟩ : ASt)
              rw [← hl2]
              have hF2 : RunF n (cs.length + limit) loc2 up S1 V1 pr (q + 1) := by rw [hl2]; exact hF1.count (q + 1)
              have hF2l := hF2.len
              have hck1 : S1.cl.length < cs.length + limit := by omega
              have hAll : ∀ (T : List AObj), (∀ L, T.all (AObj.under L) = true) → ∀ L, loc2.length ≤ L → (loc2 ++ T).all (AObj.under L) = true := fun T hT L hL => by rw [List.all_append, hF2.under hL, hT L]; rfl
              have hS1n : S1.n = n := by rw [hn1, hsn]
              refine End.kp [2, 3, 8, 9, 10, 11, 12] ?_
              refine Run.seq ?_
              have fx := And.intro wq (And.intro rself (And.intro hres1 (And.intro hout1 (And.intro (@ge_iff_le Int _) (And.intro e1 (And.intro d1 (And.intro d0 (And.intro hs7 (And.intro hbx' (And.intro hbx (And.intro (@Nat.zero_add) (And.intro (@Int.toNat_natCast) (And.intro (@Int.natCast_nonneg) (And.intro w3 (And.intro w2 (And.intro w1 ft))))))))))))))))
              refine Run.region rfl fun K hK => GOps.sim ?_
              refine GOps.call rfl rfl rfl rfl (by kernel_rfl) (ACalls.sim ?_)
              refine (learn_ok S1 V1 B loc2 up hF2.at' hBd.sw k hBd.con hps hBd.hst).mono fun v u hv => ?_
              obtain ⟨c, to, g, es, rfl, rfl, hL, hcn, hMc⟩ := hv
              refine ⟨_, _, rfl, GOps.sim ?_⟩
              refine GOps.done (hK _ ?_); clear hK K
              refine End.kp [2, 3, 8, 9, 10, 11, 15, 16] ?_
              refine Run.seq ?_
              refine Run.seq ?_
              refine Run.go ?_
              refine End.kp [2, 3, 8, 9, 10, 11, 15, 16, 112] ?_
              refine Run.cond _ rfl (fun hb => ?_) (fun hb => ?_)
              · have hplain : plain = true := hb
                have fx := And.intro wq (And.intro rself (And.intro hres1 (And.intro hout1 (And.intro (@ge_iff_le Int _) (And.intro e1 (And.intro d1 (And.intro d0 (And.intro hs7 (And.intro hbx' (And.intro hbx (And.intro (@Nat.zero_add) (And.intro (@Int.toNat_natCast) (And.intro (@Int.natCast_nonneg) (And.intro w3 (And.intro w2 (And.intro w1 ft))))))))))))))))
                refine Run.region rfl fun K hK => GOps.sim ?_
                refine GOps.call rfl rfl rfl rfl (by kernel_rfl) (ACalls.sim ?_)
                refine (refute_ok S1 V1 B (loc2 ++ [.map es, .vec 3 g (i64s c)]) up (hF2.at'.app _) hBd.sw hBd.hst).mono fun v u hv => ?_
                obtain ⟨rfl, rfl⟩ := hv
                refine ⟨_, _, rfl, GOps.sim ?_⟩
                refine GOps.done (hK _ ?_); clear hK K
                have hL0 := refuted_lesson hBd.sw hBd.con.inv hBd.hst hps
                have hM0 : ∀ M, Snd M S1 → HoldsC M S1.refuted := fun M hM => refuted_holds hBd.sw hBd.con hM hBd.hst
                have hrl := refuted_len S1
                have hst1 := hBd.sw.len.stn
                rw [show loc2 ++ [AObj.map es, .vec 3 g (i64s c), .row 3 1 (ints S1.refuted) 0] = loc2 ++ [AObj.map es, .vec 3 g (i64s c)] ++ [.row 3 1 (ints S1.refuted) 0] by simp]
                obtain ⟨tl, htl⟩ : ∃ tl, tl = [AObj.map es, .vec 3 g (i64s c)] := ⟨_, rfl⟩
                rw [← htl]
                have htu : ∀ L, tl.all (AObj.under L) = true := fun L => by
                  rw [htl]
                  have := unders_ims L (c.map fun x => Im.int .i64 x)
                  simp only [List.all_cons, List.all_nil, AObj.under, Bool.and_true, Bool.true_and]
                  exact this
                obtain ⟨cp, gv, o, hcp, htk, hLd⟩ := hF2.spot hck1 S1.refuted
                have hlt := hLd.lt
                refine End.move (rowVecM (e := [(2, .i (limit : Nat)), (3, .im (.bool plain)), (8, .ptr 0 0 0), (9, .ptr 0 5 0), (11, .ptr 0 10 0), (15, .vs 0 (loc2 ++ tl).length 0 S1.st.length 0), (16, .i ((S1.st.length : Int) - 1))]) (L := loc2 ++ tl) (rows := ints S1.refuted) (m := S1.st.length) (S1.refuted.map fun x => Im.int .i64 x) (by rw [List.map_map] <;> rfl) (by rw [List.length_map]; exact hrl.symm) (cRow.keep rfl rfl (cRow.keep rfl rfl (cRow.keep rfl (by simp only [PV.under, decide_eq_true_eq, List.length_append] <;> omega) (cRow.keep rfl (by simp only [PV.under, decide_eq_true_eq, List.length_append] <;> omega) (cRow.keep rfl (by simp only [PV.under, decide_eq_true_eq, List.length_append] <;> omega) (cRow.conv rfl (cRow.keep rfl rfl cRow.nil))))))) (hAll tl htu _ (by rw [List.length_append]; omega))) ?_
                rw [List.length_append]
                refine End.move (Ghost.park (e := [(2, .i (limit : Nat)), (3, .im (.bool plain)), (8, .ptr 0 0 0), (9, .ptr 0 5 0), (11, .ptr 0 10 0), (15, .vs 0 cp 0 S1.st.length gv), (16, .i ((S1.st.length : Int) - 1))]) (loc := loc2) (tail := tl) (g := 0) (gv := gv) (cp := cp) (ims := S1.refuted.map fun x => Im.int .i64 x) hcp htk (fun L hL => hF2.under hL) (htu _) (cMove.keep rfl rfl (cMove.keep rfl rfl (cMove.keep rfl (by simp only [PV.under, decide_eq_true_eq, List.length_append] <;> omega) (cMove.keep rfl (by simp only [PV.under, decide_eq_true_eq, List.length_append] <;> omega) (cMove.keep rfl (by simp only [PV.under, decide_eq_true_eq, List.length_append] <;> omega) (cMove.conv rfl (cMove.keep rfl rfl cMove.nil))))))) (by simp only [List.map_cons, List.map_nil, unders, PV.under, Bool.and_true, Bool.true_and, Bool.and_eq_true, decide_eq_true_eq]; omega)) ?_
                change End _ _ _ _ (⟨_, loc2.set cp (.vec 3 gv (i64s S1.refuted)), up⟩ : ASt)
                clear hL hcn hMc hAll
                obtain ⟨to, hto⟩ : ∃ t, t = S1.st.length - 1 := ⟨_, rfl⟩
                rw [show ((S1.st.length : Int) - 1) = (to : Int) by omega, ← hrl]
                have hpl : plain = true → S1.refuted = S1.refuted ∧ to = S1.st.length - 1 := fun _ => ⟨rfl, hto⟩
                rw [← hto] at hL0
                have hcn0 : S1.refuted.length ≤ S1.n := by omega
                clear hrl htl htu
                obtain ⟨rf, hrf⟩ : ∃ rf, rf = S1.refuted := ⟨_, rfl⟩
                rw [← hrf] at hL0 hM0 hcn0 hLd ⊢
                have hpl : plain = true → rf = S1.refuted ∧ to = S1.st.length - 1 := fun _ => ⟨hrf, hto⟩
                obtain ⟨loc3, hl3⟩ : ∃ l, l = loc2.set cp (.vec 3 gv (i64s rf)) := ⟨_, rfl⟩
                rw [← hl3]
                have hLs := hL0
                have hMs := hM0 M hBd.snd
                have hcn := hcn0
                
                have hl3n : loc3.length = loc2.length := by rw [hl3, List.length_set]
                have hp1 := hLd.pos
                have hLd3 : Laid n (cs.length + limit) loc2 loc3 S1 rf cp gv := ⟨hl3, hLd.lt, hLd.pos, hLd.one, hLd.uni⟩
                have g3 : ∀ j, loc3[j]? = if j = cp then some (.vec 3 gv (i64s rf)) else loc2[j]? := fun j => by rw [hl3, get_set _ _ _ _ (by omega)]
                have hA3 : SAt (loc3 :: up) 0 S1 V1 := hF2.at'.sameOn (fun j hj => by simp only [look_zero]; rw [g3, if_neg (by unfold SPl at hj; omega)])
                have hc3 : fget (loc3 :: up) 0 cp = some (.vec 3 gv (i64s rf)) := by simp only [look_zero]; rw [g3, if_pos rfl]
                have ho3 : loc3[10]? = some (outB (cs.length + limit + (2 * n + 2) + 12) pr.length (q + 1)) := by rw [g3, if_neg (by omega)]; exact hF2.out
                have hr3 : loc3[(cs.length + limit + (2 * n + 2) + 12)]? = some (.row 92 2 (stepsR pr) 0) := by rw [g3, if_neg (by omega)]; exact hF2.prf
                have ho3' : ∀ X, (loc3.set (cs.length + limit + (2 * n + 2) + 12) X)[10]? = some (outB (cs.length + limit + (2 * n + 2) + 12) pr.length (q + 1)) := fun X => by rw [List.getElem?_set_ne (by omega)]; exact ho3
                have hprl : (stepsR pr).length = pr.length := by simp
                have hap : (pr.length + 1) * 32 ≤ 140737488355328 := by omega
                have hpos := hLs.pos
                have hrn : rf.length ≤ 20000 := by have := hBd.sw.len.n; omega
                obtain ⟨hbk, hhd, hsb, hbase2, hcov2, hn2, hcl2', hcl3⟩ := hBd.heed hLs hMs (by omega) (by omega)
                have hsz : (S1.back to).cl.length = S1.cl.length := by rw [hbk.cl]
                have hbn : (S1.back to).n = S1.n := hbk.n
                have l0 := hhd.lok _ (getD_mem (d := 0) hhd.pos)
                have r0 := i64s_get rf 0 hpos
                have r0i : (0 : Int) < (rf.length : Int) := by omega
                refine End.kp [2, 3, 8, 9, 10, 11, 15, 16] ?_
                refine Run.seq ?_
                have fx := And.intro hap (And.intro hprl (And.intro ho3' (And.intro hr3 (And.intro ho3 (And.intro wq (And.intro rself (And.intro hres1 (And.intro hout1 (And.intro (@ge_iff_le Int _) (And.intro e1 (And.intro d1 (And.intro d0 (And.intro hs7 (And.intro hbx' (And.intro hbx (And.intro (@Nat.zero_add) (And.intro (@Int.toNat_natCast) (And.intro (@Int.natCast_nonneg) (And.intro w3 (And.intro w2 (And.intro w1 ft)))))))))))))))))))))
                refine Run.drawA fun K hK => ?_
                refine DOps.sim1 ?_
                refine DOps.sim1 ?_
                refine DOps.sim1 ?_
                refine DOps.call (.im (.sl (ints rf))) [((0, cp), .vec 3 gv (i64s rf))] [] rfl rfl rfl rfl (by kernel_rfl) (by intro p hp; simp only [List.mem_singleton] at hp; subst hp; exact hc3) (fun u hu => CloneV_ok cp gv rf.length rf [] u (hu ((0, cp), _) (by simp)) rfl hpos (by omega)) ?_
                refine DOps.sim1 ?_
                refine DOps.litF (rows := [[.bool false, .sl (ints rf)]]) ?_ rfl rfl (by simp only [litF, fx] <;> rfl)
                refine DOps.sim1 ?_
                refine DOps.sim1 ?_
                refine DOps.sim1 ?_
                refine DOps.nil ?_ (hK _ ?_)
                · rfl
                clear hK K
                obtain ⟨loc4, hl4⟩ : ∃ l, l = (loc3.set (cs.length + limit + (2 * n + 2) + 12) (.row 92 2 (stepsR (pr ++ [rf])) 0)).set 10 (outB (cs.length + limit + (2 * n + 2) + 12) (pr ++ [rf]).length (q + 1)) := ⟨_, rfl⟩
                change End _ _ _ _ (⟨_, (loc3.set (cs.length + limit + (2 * n + 2) + 12) (.row 92 2 (stepsR pr ++ [[.bool false, .sl (ints rf)]]) 0)).set 10 (outB (cs.length + limit + (2 * n + 2) + 12) (pr.length + 1) (q + 1)), up⟩ : ASt)
                rw [show stepsR pr ++ [[.bool false, .sl (ints rf)]] = stepsR (pr ++ [rf]) by simp, show pr.length + 1 = (pr ++ [rf]).length by simp, ← hl4]
                have g4 : ∀ j, loc4[j]? = if j = 10 then some (outB (cs.length + limit + (2 * n + 2) + 12) (pr ++ [rf]).length (q + 1)) else if j = (cs.length + limit + (2 * n + 2) + 12) then some (.row 92 2 (stepsR (pr ++ [rf])) 0) else loc3[j]? := fun j => by rw [hl4, get_set _ _ _ _ (by rw [List.length_set]; omega), get_set _ _ _ _ (by omega)]
                have hA4 : SAt (loc4 :: up) 0 S1 V1 := hA3.sameOn (fun j hj => by simp only [look_zero]; rw [g4, if_neg (by unfold SPl at hj; omega), if_neg (by unfold SPl at hj; omega)])
                refine End.kp [2, 3, 8, 9, 10, 11, 15, 16] ?_
                refine Run.seq ?_
                have fx := And.intro hap (And.intro hprl (And.intro ho3' (And.intro hr3 (And.intro ho3 (And.intro wq (And.intro rself (And.intro hres1 (And.intro hout1 (And.intro (@ge_iff_le Int _) (And.intro e1 (And.intro d1 (And.intro d0 (And.intro hs7 (And.intro hbx' (And.intro hbx (And.intro (@Nat.zero_add) (And.intro (@Int.toNat_natCast) (And.intro (@Int.natCast_nonneg) (And.intro w3 (And.intro w2 (And.intro w1 ft)))))))))))))))))))))
                refine Run.region rfl fun K hK => GOps.sim ?_
                refine GOps.call rfl rfl rfl rfl (by kernel_rfl) (ACalls.sim ?_)
                refine (back_ok S1 { V1 with K := S1.cl.length } B (loc4 :: up) (hA4.ver _) hBd.sw (fun x hx => Nat.le_of_lt (hBd.hst x hx)) hBd.n2 to).mono fun v u hv => ?_
                obtain ⟨V3, rfl, hkp3⟩ := hv
                obtain ⟨loc5, rfl, hl5n, hs5⟩ := hkp3.els.cons
                have hA5 : SAt (loc5 :: up) 0 (S1.back to) { V3 with K := S1.cl.length } := hkp3.at'.ver _
                have hc5 : loc5[cp]? = some (.vec 3 gv (i64s rf)) := by rw [hs5 cp (by show ¬ SPl S1 S1.cl.length cp; unfold SPl; omega), g4, if_neg (by omega), if_neg (by omega), g3, if_pos rfl]
                have hc5' : fget (loc5 :: up) 0 cp = some (.vec 3 gv (i64s rf)) := by simp only [look_zero]; exact hc5
                have fx := And.intro hap (And.intro hprl (And.intro ho3' (And.intro hr3 (And.intro ho3 (And.intro wq (And.intro rself (And.intro hres1 (And.intro hout1 (And.intro (@ge_iff_le Int _) (And.intro e1 (And.intro d1 (And.intro d0 (And.intro hs7 (And.intro hbx' (And.intro hbx (And.intro (@Nat.zero_add) (And.intro (@Int.toNat_natCast) (And.intro (@Int.natCast_nonneg) (And.intro w3 (And.intro w2 (And.intro w1 ft)))))))))))))))))))))
                refine ⟨_, _, rfl, GOps.sim ?_⟩
                refine GOps.done (hK _ ?_); clear hK K
                refine End.kp [2, 3, 8, 9, 10, 11, 15] ?_
                refine Run.seq ?_
                refine Run.go ?_
                refine End.kp [2, 3, 8, 9, 10, 11, 15, 17] ?_
                refine Run.seq ?_
                refine Run.seq ?_
                refine Run.go ?_
                refine End.kp [2, 3, 8, 9, 10, 11, 15, 17, 131] ?_
                refine Run.cond _ rfl (fun hb => ?_) (fun hb => ?_)
                · have h1l : 1 < rf.length := by have := of_decide_eq_true hb; omega
                  obtain ⟨hcp1, hgv⟩ := hLd.one h1l
                  have l1 := hhd.lok _ (getD_mem (l := rf) (i := 1) (d := 0) h1l)
                  have hcpx : (S1.back to).cl.length + (2 * (S1.back to).n + 2) + 11 = cp := by rw [hsz, hbn, hS1n]; omega
                  have hadd : ACalls Try.prog 147 [.ptr 0 5 0, .vs 0 cp 0 rf.length gv] (loc5 :: up) fun v u => v = .i (S1.back to).cl.length ∧ u = addU (loc5 :: up) 0 (S1.back to) { V3 with K := S1.cl.length } rf := by
                    have := add_ok (S1.back to) { V3 with K := S1.cl.length } 0 (loc5 :: up) hA5 hsb.len (.inl rfl) rf (by rw [hcpx, hc5', hgv]) h1l l0 l1 (fun e => by have := hhd.dis 0 1 (by omega) (by omega) e; omega) (by omega) (fun j hj => by have := (hsb.list hj).1; omega)
                    rw [hcpx] at this
                    rw [hgv]
                    exact this
                  have fx := And.intro r0i (And.intro r0 (And.intro hap (And.intro hprl (And.intro ho3' (And.intro hr3 (And.intro ho3 (And.intro wq (And.intro rself (And.intro hres1 (And.intro hout1 (And.intro (@ge_iff_le Int _) (And.intro e1 (And.intro d1 (And.intro d0 (And.intro hs7 (And.intro hbx' (And.intro hbx (And.intro (@Nat.zero_add) (And.intro (@Int.toNat_natCast) (And.intro (@Int.natCast_nonneg) (And.intro w3 (And.intro w2 (And.intro w1 ft)))))))))))))))))))))))
                  refine Run.region rfl fun K hK => GOps.sim ?_
                  refine GOps.call rfl rfl rfl rfl (by kernel_rfl) (ACalls.sim ?_)
                  refine (hadd).mono fun v u hv => ?_
                  obtain ⟨rfl, rfl⟩ := hv
                  have hAd := addU_at hA5 rf (by rw [hcpx, hc5', hgv]) hsb.len.wl (atL_lt l0) (atL_lt l1)
                  have hSa := hsb.add h1l (by omega) hhd.lok (by omega)
                  obtain ⟨loc6, h6, hl6n, hs6⟩ := (addU_else (loc5 :: up) 0 (S1.back to) { V3 with K := S1.cl.length } rf (atL_lt l0) (atL_lt l1)).cons
                  rw [h6] at hAd ⊢
                  have hc6 : loc6[cp]? = some (.vec 3 gv (i64s rf)) := by rw [hs6 cp (by unfold SPl; show ¬ (_ ∨ _ ∨ (11 ≤ cp ∧ cp < S1.cl.length + (2 * (S1.back to).n + 2) + 11)); omega)]; exact hc5
                  have hc6' : fget (loc6 :: up) 0 cp = some (.vec 3 gv (i64s rf)) := by simp only [look_zero]; exact hc6
                  have hset := set_ok ((S1.back to).add rf) (addV { V3 with K := S1.cl.length } rf) 0 (loc6 :: up) hAd hSa.len (rf.getD 0 0) ((S1.back to).cl.length : Nat) l0
                  have hA7 := setU_at hAd (rf.getD 0 0) ((S1.back to).cl.length : Nat)
                  obtain ⟨loc7, h7, hl7n, hs7⟩ := (setU_else (loc6 :: up) 0 ((S1.back to).add rf) (addV { V3 with K := S1.cl.length } rf) (rf.getD 0 0) ((S1.back to).cl.length : Nat)).cons
                  rw [h7] at hA7 hset
                  have hhe : ((S1.back to).add rf).set (rf.getD 0 0) ((S1.back to).cl.length : Nat) = (S1.back to).heed rf := by rw [Sol.heed, if_pos h1l]
                  rw [hhe] at hA7
                  have hRF := hF2.round (l7 := loc7) hLd3 hl4 (by rw [hl7n, hl6n, hl5n]) (fun j hj => by
                    rw [hs7 j (by unfold SPl at hj ⊢; show ¬ (_ ∨ _ ∨ (11 ≤ j ∧ j < S1.cl.length + (2 * (S1.back to).n + 2) + 11)); rw [hbn]; exact hj), hs6 j (by unfold SPl at hj ⊢; show ¬ (_ ∨ _ ∨ (11 ≤ j ∧ j < S1.cl.length + (2 * (S1.back to).n + 2) + 11)); rw [hbn]; exact hj), hs5 j hj]) hA7 hn2 hcl3 (by omega) (fun _ => by rw [← hhe]; simp [Sol.set, Sol.add]; omega)
                  have fx := And.intro hc6' (And.intro hc6 (And.intro r0i (And.intro r0 (And.intro hap (And.intro hprl (And.intro ho3' (And.intro hr3 (And.intro ho3 (And.intro wq (And.intro rself (And.intro hres1 (And.intro hout1 (And.intro (@ge_iff_le Int _) (And.intro e1 (And.intro d1 (And.intro d0 (And.intro hs7 (And.intro hbx' (And.intro hbx (And.intro (@Nat.zero_add) (And.intro (@Int.toNat_natCast) (And.intro (@Int.natCast_nonneg) (And.intro w3 (And.intro w2 (And.intro w1 ft)))))))))))))))))))))))))
                  refine ⟨_, _, rfl, GOps.sim ?_⟩
                  refine GOps.done (hK _ ?_); clear hK K
                  refine End.kp [2, 3, 8, 9, 10, 11, 15, 17] ?_
                  refine Run.region rfl fun K hK => GOps.sim ?_
                  refine GOps.call rfl rfl rfl rfl (by kernel_rfl) (ACalls.sim ?_)
                  refine (hset).mono fun v u hv => ?_
                  obtain ⟨rfl, rfl⟩ := hv
                  refine ⟨_, _, rfl, GOps.sim ?_⟩
                  refine GOps.done (hK _ ?_); clear hK K
                  refine End.blk ?_
                  refine End.lp ?_
                  refine ⟨(limit - (q + 1)) * (n + 2) + (n - ((S1.back to).heed rf).tr.length), _, meas hq, keepL [(2, .i (limit : Nat)), (3, .im (.bool plain)), (8, .ptr 0 0 0), (9, .ptr 0 5 0), (11, .ptr 0 10 0)] ⟨rfl, rfl, rfl, rfl, rfl, trivial⟩, (S1.back to).heed rf, _, B + 2, loc7, pr ++ [rf], q + 1, rfl, ⟨hRF, hbase2, by omega, by omega, by simp; omega, by omega, fun c hc => hcov2 c (hcov1 c hc), hIc S1 B k rf to q hBd hS1n hIq1 hq hLs hpl⟩, rfl⟩
                · have h1l : ¬ 1 < rf.length := by have := of_decide_eq_false hb; omega
                  have hset := set_ok (S1.back to) { V3 with K := S1.cl.length } 0 (loc5 :: up) hA5 hsb.len (rf.getD 0 0) (-1) l0
                  have hA7 := setU_at hA5 (rf.getD 0 0) (-1)
                  obtain ⟨loc7, h7, hl7n, hs7⟩ := (setU_else (loc5 :: up) 0 (S1.back to) { V3 with K := S1.cl.length } (rf.getD 0 0) (-1)).cons
                  rw [h7] at hA7 hset
                  have hhe : (S1.back to).set (rf.getD 0 0) (-1) = (S1.back to).heed rf := by rw [Sol.heed, if_neg h1l]
                  rw [hhe] at hA7
                  have hRF := hF2.round (l7 := loc7) hLd3 hl4 (by rw [hl7n, hl5n]) (fun j hj => by
                    rw [hs7 j (by unfold SPl at hj ⊢; show ¬ (_ ∨ _ ∨ (11 ≤ j ∧ j < S1.cl.length + (2 * (S1.back to).n + 2) + 11)); rw [hbn]; exact hj), hs5 j hj]) hA7 hn2 hcl3 (by omega) (fun h => absurd h h1l)
                  refine Run.skip ?_
                  refine End.kp [2, 3, 8, 9, 10, 11, 15, 17] ?_
                  have fx := And.intro hpos (And.intro hc5' (And.intro hc5 (And.intro r0i (And.intro r0 (And.intro hap (And.intro hprl (And.intro ho3' (And.intro hr3 (And.intro ho3 (And.intro wq (And.intro rself (And.intro hres1 (And.intro hout1 (And.intro (@ge_iff_le Int _) (And.intro e1 (And.intro d1 (And.intro d0 (And.intro hs7 (And.intro hbx' (And.intro hbx (And.intro (@Nat.zero_add) (And.intro (@Int.toNat_natCast) (And.intro (@Int.natCast_nonneg) (And.intro w3 (And.intro w2 (And.intro w1 ft))))))))))))))))))))))))))
                  refine Run.region rfl fun K hK => GOps.sim ?_
                  refine GOps.call rfl rfl rfl rfl (by kernel_rfl) (ACalls.sim ?_)
                  refine (hset).mono fun v u hv => ?_
                  obtain ⟨rfl, rfl⟩ := hv
                  refine ⟨_, _, rfl, GOps.sim ?_⟩
                  refine GOps.done (hK _ ?_); clear hK K
                  refine End.blk ?_
                  refine End.lp ?_
                  refine ⟨(limit - (q + 1)) * (n + 2) + (n - ((S1.back to).heed rf).tr.length), _, meas hq, keepL [(2, .i (limit : Nat)), (3, .im (.bool plain)), (8, .ptr 0 0 0), (9, .ptr 0 5 0), (11, .ptr 0 10 0)] ⟨rfl, rfl, rfl, rfl, rfl, trivial⟩, (S1.back to).heed rf, _, B + 2, loc7, pr ++ [rf], q + 1, rfl, ⟨hRF, hbase2, by omega, by omega, by simp; omega, by omega, fun c hc => hcov2 c (hcov1 c hc), hIc S1 B k rf to q hBd hS1n hIq1 hq hLs hpl⟩, rfl⟩
              · have hplain : plain = false := hb
                obtain ⟨cp, gv, o, hcp, htk, hLd⟩ := hF2.spot hck1 c
                have hlt := hLd.lt
                rw [show loc2 ++ [AObj.map es, .vec 3 g (i64s c)] = loc2 ++ [AObj.map es] ++ [.vec 3 g (i64s c)] by simp]
                refine Run.ghost (Ghost.park (e := [(2, .i (limit : Nat)), (3, .im (.bool plain)), (8, .ptr 0 0 0), (9, .ptr 0 5 0), (11, .ptr 0 10 0), (15, .vs 0 cp 0 c.length gv), (16, .i (to : Nat))]) (loc := loc2) (tail := [.map es]) (g := g) (gv := gv) (cp := cp) (ims := c.map fun x => Im.int .i64 x) hcp htk (fun L hL => hF2.under hL) rfl (cMove.keep rfl rfl (cMove.keep rfl rfl (cMove.keep rfl (by simp only [PV.under, decide_eq_true_eq, List.length_append] <;> omega) (cMove.keep rfl (by simp only [PV.under, decide_eq_true_eq, List.length_append] <;> omega) (cMove.keep rfl (by simp only [PV.under, decide_eq_true_eq, List.length_append] <;> omega) (cMove.conv rfl (cMove.keep rfl rfl cMove.nil))))))) (by simp only [List.map_cons, List.map_nil, unders, PV.under, Bool.and_true, Bool.true_and, Bool.and_eq_true, decide_eq_true_eq]; omega)) ?_
                change Run _ _ _ _ _ (⟨_, loc2.set cp (.vec 3 gv (i64s c)), up⟩ : ASt)
                clear hAll
                obtain ⟨rf, hrf⟩ : ∃ rf, rf = c := ⟨_, rfl⟩
                rw [← hrf] at hL hMc hcn hLd ⊢
                have hpl : plain = true → rf = S1.refuted ∧ to = S1.st.length - 1 := fun h => by rw [hplain] at h; simp at h
                obtain ⟨loc3, hl3⟩ : ∃ l, l = loc2.set cp (.vec 3 gv (i64s rf)) := ⟨_, rfl⟩
                rw [← hl3]
                have hLs := hL
                have hMs := hMc M hBd.snd
                
                have hl3n : loc3.length = loc2.length := by rw [hl3, List.length_set]
                have hp1 := hLd.pos
                have hLd3 : Laid n (cs.length + limit) loc2 loc3 S1 rf cp gv := ⟨hl3, hLd.lt, hLd.pos, hLd.one, hLd.uni⟩
                have g3 : ∀ j, loc3[j]? = if j = cp then some (.vec 3 gv (i64s rf)) else loc2[j]? := fun j => by rw [hl3, get_set _ _ _ _ (by omega)]
                have hA3 : SAt (loc3 :: up) 0 S1 V1 := hF2.at'.sameOn (fun j hj => by simp only [look_zero]; rw [g3, if_neg (by unfold SPl at hj; omega)])
                have hc3 : fget (loc3 :: up) 0 cp = some (.vec 3 gv (i64s rf)) := by simp only [look_zero]; rw [g3, if_pos rfl]
                have ho3 : loc3[10]? = some (outB (cs.length + limit + (2 * n + 2) + 12) pr.length (q + 1)) := by rw [g3, if_neg (by omega)]; exact hF2.out
                have hr3 : loc3[(cs.length + limit + (2 * n + 2) + 12)]? = some (.row 92 2 (stepsR pr) 0) := by rw [g3, if_neg (by omega)]; exact hF2.prf
                have ho3' : ∀ X, (loc3.set (cs.length + limit + (2 * n + 2) + 12) X)[10]? = some (outB (cs.length + limit + (2 * n + 2) + 12) pr.length (q + 1)) := fun X => by rw [List.getElem?_set_ne (by omega)]; exact ho3
                have hprl : (stepsR pr).length = pr.length := by simp
                have hap : (pr.length + 1) * 32 ≤ 140737488355328 := by omega
                have hpos := hLs.pos
                have hrn : rf.length ≤ 20000 := by have := hBd.sw.len.n; omega
                obtain ⟨hbk, hhd, hsb, hbase2, hcov2, hn2, hcl2', hcl3⟩ := hBd.heed hLs hMs (by omega) (by omega)
                have hsz : (S1.back to).cl.length = S1.cl.length := by rw [hbk.cl]
                have hbn : (S1.back to).n = S1.n := hbk.n
                have l0 := hhd.lok _ (getD_mem (d := 0) hhd.pos)
                have r0 := i64s_get rf 0 hpos
                have r0i : (0 : Int) < (rf.length : Int) := by omega
                refine Run.skip ?_
                refine End.kp [2, 3, 8, 9, 10, 11, 15, 16] ?_
                refine Run.seq ?_
                have fx := And.intro hap (And.intro hprl (And.intro ho3' (And.intro hr3 (And.intro ho3 (And.intro wq (And.intro rself (And.intro hres1 (And.intro hout1 (And.intro (@ge_iff_le Int _) (And.intro e1 (And.intro d1 (And.intro d0 (And.intro hs7 (And.intro hbx' (And.intro hbx (And.intro (@Nat.zero_add) (And.intro (@Int.toNat_natCast) (And.intro (@Int.natCast_nonneg) (And.intro w3 (And.intro w2 (And.intro w1 ft)))))))))))))))))))))
                refine Run.drawA fun K hK => ?_
                refine DOps.sim1 ?_
                refine DOps.sim1 ?_
                refine DOps.sim1 ?_
                refine DOps.call (.im (.sl (ints rf))) [((0, cp), .vec 3 gv (i64s rf))] [] rfl rfl rfl rfl (by kernel_rfl) (by intro p hp; simp only [List.mem_singleton] at hp; subst hp; exact hc3) (fun u hu => CloneV_ok cp gv rf.length rf [] u (hu ((0, cp), _) (by simp)) rfl hpos (by omega)) ?_
                refine DOps.sim1 ?_
                refine DOps.litF (rows := [[.bool false, .sl (ints rf)]]) ?_ rfl rfl (by simp only [litF, fx] <;> rfl)
                refine DOps.sim1 ?_
                refine DOps.sim1 ?_
                refine DOps.sim1 ?_
                refine DOps.nil ?_ (hK _ ?_)
                · rfl
                clear hK K
                obtain ⟨loc4, hl4⟩ : ∃ l, l = (loc3.set (cs.length + limit + (2 * n + 2) + 12) (.row 92 2 (stepsR (pr ++ [rf])) 0)).set 10 (outB (cs.length + limit + (2 * n + 2) + 12) (pr ++ [rf]).length (q + 1)) := ⟨_, rfl⟩
                change End _ _ _ _ (⟨_, (loc3.set (cs.length + limit + (2 * n + 2) + 12) (.row 92 2 (stepsR pr ++ [[.bool false, .sl (ints rf)]]) 0)).set 10 (outB (cs.length + limit + (2 * n + 2) + 12) (pr.length + 1) (q + 1)), up⟩ : ASt)
                rw [show stepsR pr ++ [[.bool false, .sl (ints rf)]] = stepsR (pr ++ [rf]) by simp, show pr.length + 1 = (pr ++ [rf]).length by simp, ← hl4]
                have g4 : ∀ j, loc4[j]? = if j = 10 then some (outB (cs.length + limit + (2 * n + 2) + 12) (pr ++ [rf]).length (q + 1)) else if j = (cs.length + limit + (2 * n + 2) + 12) then some (.row 92 2 (stepsR (pr ++ [rf])) 0) else loc3[j]? := fun j => by rw [hl4, get_set _ _ _ _ (by rw [List.length_set]; omega), get_set _ _ _ _ (by omega)]
                have hA4 : SAt (loc4 :: up) 0 S1 V1 := hA3.sameOn (fun j hj => by simp only [look_zero]; rw [g4, if_neg (by unfold SPl at hj; omega), if_neg (by unfold SPl at hj; omega)])
                refine End.kp [2, 3, 8, 9, 10, 11, 15, 16] ?_
                refine Run.seq ?_
                have fx := And.intro hap (And.intro hprl (And.intro ho3' (And.intro hr3 (And.intro ho3 (And.intro wq (And.intro rself (And.intro hres1 (And.intro hout1 (And.intro (@ge_iff_le Int _) (And.intro e1 (And.intro d1 (And.intro d0 (And.intro hs7 (And.intro hbx' (And.intro hbx (And.intro (@Nat.zero_add) (And.intro (@Int.toNat_natCast) (And.intro (@Int.natCast_nonneg) (And.intro w3 (And.intro w2 (And.intro w1 ft)))))))))))))))))))))
                refine Run.region rfl fun K hK => GOps.sim ?_
                refine GOps.call rfl rfl rfl rfl (by kernel_rfl) (ACalls.sim ?_)
                refine (back_ok S1 { V1 with K := S1.cl.length } B (loc4 :: up) (hA4.ver _) hBd.sw (fun x hx => Nat.le_of_lt (hBd.hst x hx)) hBd.n2 to).mono fun v u hv => ?_
                obtain ⟨V3, rfl, hkp3⟩ := hv
                obtain ⟨loc5, rfl, hl5n, hs5⟩ := hkp3.els.cons
                have hA5 : SAt (loc5 :: up) 0 (S1.back to) { V3 with K := S1.cl.length } := hkp3.at'.ver _
                have hc5 : loc5[cp]? = some (.vec 3 gv (i64s rf)) := by rw [hs5 cp (by show ¬ SPl S1 S1.cl.length cp; unfold SPl; omega), g4, if_neg (by omega), if_neg (by omega), g3, if_pos rfl]
                have hc5' : fget (loc5 :: up) 0 cp = some (.vec 3 gv (i64s rf)) := by simp only [look_zero]; exact hc5
                have fx := And.intro hap (And.intro hprl (And.intro ho3' (And.intro hr3 (And.intro ho3 (And.intro wq (And.intro rself (And.intro hres1 (And.intro hout1 (And.intro (@ge_iff_le Int _) (And.intro e1 (And.intro d1 (And.intro d0 (And.intro hs7 (And.intro hbx' (And.intro hbx (And.intro (@Nat.zero_add) (And.intro (@Int.toNat_natCast) (And.intro (@Int.natCast_nonneg) (And.intro w3 (And.intro w2 (And.intro w1 ft)))))))))))))))))))))
                refine ⟨_, _, rfl, GOps.sim ?_⟩
                refine GOps.done (hK _ ?_); clear hK K
                refine End.kp [2, 3, 8, 9, 10, 11, 15] ?_
                refine Run.seq ?_
                refine Run.go ?_
                refine End.kp [2, 3, 8, 9, 10, 11, 15, 17] ?_
                refine Run.seq ?_
                refine Run.seq ?_
                refine Run.go ?_
                refine End.kp [2, 3, 8, 9, 10, 11, 15, 17, 131] ?_
                refine Run.cond _ rfl (fun hb => ?_) (fun hb => ?_)
                · have h1l : 1 < rf.length := by have := of_decide_eq_true hb; omega
                  obtain ⟨hcp1, hgv⟩ := hLd.one h1l
                  have l1 := hhd.lok _ (getD_mem (l := rf) (i := 1) (d := 0) h1l)
                  have hcpx : (S1.back to).cl.length + (2 * (S1.back to).n + 2) + 11 = cp := by rw [hsz, hbn, hS1n]; omega
                  have hadd : ACalls Try.prog 147 [.ptr 0 5 0, .vs 0 cp 0 rf.length gv] (loc5 :: up) fun v u => v = .i (S1.back to).cl.length ∧ u = addU (loc5 :: up) 0 (S1.back to) { V3 with K := S1.cl.length } rf := by
                    have := add_ok (S1.back to) { V3 with K := S1.cl.length } 0 (loc5 :: up) hA5 hsb.len (.inl rfl) rf (by rw [hcpx, hc5', hgv]) h1l l0 l1 (fun e => by have := hhd.dis 0 1 (by omega) (by omega) e; omega) (by omega) (fun j hj => by have := (hsb.list hj).1; omega)
                    rw [hcpx] at this
                    rw [hgv]
                    exact this
                  have fx := And.intro r0i (And.intro r0 (And.intro hap (And.intro hprl (And.intro ho3' (And.intro hr3 (And.intro ho3 (And.intro wq (And.intro rself (And.intro hres1 (And.intro hout1 (And.intro (@ge_iff_le Int _) (And.intro e1 (And.intro d1 (And.intro d0 (And.intro hs7 (And.intro hbx' (And.intro hbx (And.intro (@Nat.zero_add) (And.intro (@Int.toNat_natCast) (And.intro (@Int.natCast_nonneg) (And.intro w3 (And.intro w2 (And.intro w1 ft)))))))))))))))))))))))
                  refine Run.region rfl fun K hK => GOps.sim ?_
                  refine GOps.call rfl rfl rfl rfl (by kernel_rfl) (ACalls.sim ?_)
                  refine (hadd).mono fun v u hv => ?_
                  obtain ⟨rfl, rfl⟩ := hv
                  have hAd := addU_at hA5 rf (by rw [hcpx, hc5', hgv]) hsb.len.wl (atL_lt l0) (atL_lt l1)
                  have hSa := hsb.add h1l (by omega) hhd.lok (by omega)
                  obtain ⟨loc6, h6, hl6n, hs6⟩ := (addU_else (loc5 :: up) 0 (S1.back to) { V3 with K := S1.cl.length } rf (atL_lt l0) (atL_lt l1)).cons
                  rw [h6] at hAd ⊢
                  have hc6 : loc6[cp]? = some (.vec 3 gv (i64s rf)) := by rw [hs6 cp (by unfold SPl; show ¬ (_ ∨ _ ∨ (11 ≤ cp ∧ cp < S1.cl.length + (2 * (S1.back to).n + 2) + 11)); omega)]; exact hc5
                  have hc6' : fget (loc6 :: up) 0 cp = some (.vec 3 gv (i64s rf)) := by simp only [look_zero]; exact hc6
                  have hset := set_ok ((S1.back to).add rf) (addV { V3 with K := S1.cl.length } rf) 0 (loc6 :: up) hAd hSa.len (rf.getD 0 0) ((S1.back to).cl.length : Nat) l0
                  have hA7 := setU_at hAd (rf.getD 0 0) ((S1.back to).cl.length : Nat)
                  obtain ⟨loc7, h7, hl7n, hs7⟩ := (setU_else (loc6 :: up) 0 ((S1.back to).add rf) (addV { V3 with K := S1.cl.length } rf) (rf.getD 0 0) ((S1.back to).cl.length : Nat)).cons
                  rw [h7] at hA7 hset
                  have hhe : ((S1.back to).add rf).set (rf.getD 0 0) ((S1.back to).cl.length : Nat) = (S1.back to).heed rf := by rw [Sol.heed, if_pos h1l]
                  rw [hhe] at hA7
                  have hRF := hF2.round (l7 := loc7) hLd3 hl4 (by rw [hl7n, hl6n, hl5n]) (fun j hj => by
                    rw [hs7 j (by unfold SPl at hj ⊢; show ¬ (_ ∨ _ ∨ (11 ≤ j ∧ j < S1.cl.length + (2 * (S1.back to).n + 2) + 11)); rw [hbn]; exact hj), hs6 j (by unfold SPl at hj ⊢; show ¬ (_ ∨ _ ∨ (11 ≤ j ∧ j < S1.cl.length + (2 * (S1.back to).n + 2) + 11)); rw [hbn]; exact hj), hs5 j hj]) hA7 hn2 hcl3 (by omega) (fun _ => by rw [← hhe]; simp [Sol.set, Sol.add]; omega)
                  have fx := And.intro hc6' (And.intro hc6 (And.intro r0i (And.intro r0 (And.intro hap (And.intro hprl (And.intro ho3' (And.intro hr3 (And.intro ho3 (And.intro wq (And.intro rself (And.intro hres1 (And.intro hout1 (And.intro (@ge_iff_le Int _) (And.intro e1 (And.intro d1 (And.intro d0 (And.intro hs7 (And.intro hbx' (And.intro hbx (And.intro (@Nat.zero_add) (And.intro (@Int.toNat_natCast) (And.intro (@Int.natCast_nonneg) (And.intro w3 (And.intro w2 (And.intro w1 ft)))))))))))))))))))))))))
                  refine ⟨_, _, rfl, GOps.sim ?_⟩
                  refine GOps.done (hK _ ?_); clear hK K
                  refine End.kp [2, 3, 8, 9, 10, 11, 15, 17] ?_
                  refine Run.region rfl fun K hK => GOps.sim ?_
                  refine GOps.call rfl rfl rfl rfl (by kernel_rfl) (ACalls.sim ?_)
                  refine (hset).mono fun v u hv => ?_
                  obtain ⟨rfl, rfl⟩ := hv
                  refine ⟨_, _, rfl, GOps.sim ?_⟩
                  refine GOps.done (hK _ ?_); clear hK K
                  refine End.blk ?_
                  refine End.lp ?_
                  refine ⟨(limit - (q + 1)) * (n + 2) + (n - ((S1.back to).heed rf).tr.length), _, meas hq, keepL [(2, .i (limit : Nat)), (3, .im (.bool plain)), (8, .ptr 0 0 0), (9, .ptr 0 5 0), (11, .ptr 0 10 0)] ⟨rfl, rfl, rfl, rfl, rfl, trivial⟩, (S1.back to).heed rf, _, B + 2, loc7, pr ++ [rf], q + 1, rfl, ⟨hRF, hbase2, by omega, by omega, by simp; omega, by omega, fun c hc => hcov2 c (hcov1 c hc), hIc S1 B k rf to q hBd hS1n hIq1 hq hLs hpl⟩, rfl⟩
                · have h1l : ¬ 1 < rf.length := by have := of_decide_eq_false hb; omega
                  have hset := set_ok (S1.back to) { V3 with K := S1.cl.length } 0 (loc5 :: up) hA5 hsb.len (rf.getD 0 0) (-1) l0
                  have hA7 := setU_at hA5 (rf.getD 0 0) (-1)
                  obtain ⟨loc7, h7, hl7n, hs7⟩ := (setU_else (loc5 :: up) 0 (S1.back to) { V3 with K := S1.cl.length } (rf.getD 0 0) (-1)).cons
                  rw [h7] at hA7 hset
                  have hhe : (S1.back to).set (rf.getD 0 0) (-1) = (S1.back to).heed rf := by rw [Sol.heed, if_neg h1l]
                  rw [hhe] at hA7
                  have hRF := hF2.round (l7 := loc7) hLd3 hl4 (by rw [hl7n, hl5n]) (fun j hj => by
                    rw [hs7 j (by unfold SPl at hj ⊢; show ¬ (_ ∨ _ ∨ (11 ≤ j ∧ j < S1.cl.length + (2 * (S1.back to).n + 2) + 11)); rw [hbn]; exact hj), hs5 j hj]) hA7 hn2 hcl3 (by omega) (fun h => absurd h h1l)
                  refine Run.skip ?_
                  refine End.kp [2, 3, 8, 9, 10, 11, 15, 17] ?_
                  have fx := And.intro hpos (And.intro hc5' (And.intro hc5 (And.intro r0i (And.intro r0 (And.intro hap (And.intro hprl (And.intro ho3' (And.intro hr3 (And.intro ho3 (And.intro wq (And.intro rself (And.intro hres1 (And.intro hout1 (And.intro (@ge_iff_le Int _) (And.intro e1 (And.intro d1 (And.intro d0 (And.intro hs7 (And.intro hbx' (And.intro hbx (And.intro (@Nat.zero_add) (And.intro (@Int.toNat_natCast) (And.intro (@Int.natCast_nonneg) (And.intro w3 (And.intro w2 (And.intro w1 ft))))))))))))))))))))))))))
                  refine Run.region rfl fun K hK => GOps.sim ?_
                  refine GOps.call rfl rfl rfl rfl (by kernel_rfl) (ACalls.sim ?_)
                  refine (hset).mono fun v u hv => ?_
                  obtain ⟨rfl, rfl⟩ := hv
                  refine ⟨_, _, rfl, GOps.sim ?_⟩
                  refine GOps.done (hK _ ?_); clear hK K
                  refine End.blk ?_
                  refine End.lp ?_
                  refine ⟨(limit - (q + 1)) * (n + 2) + (n - ((S1.back to).heed rf).tr.length), _, meas hq, keepL [(2, .i (limit : Nat)), (3, .im (.bool plain)), (8, .ptr 0 0 0), (9, .ptr 0 5 0), (11, .ptr 0 10 0)] ⟨rfl, rfl, rfl, rfl, rfl, trivial⟩, (S1.back to).heed rf, _, B + 2, loc7, pr ++ [rf], q + 1, rfl, ⟨hRF, hbase2, by omega, by omega, by simp; omega, by omega, fun c hc => hcov2 c (hcov1 c hc), hIc S1 B k rf to q hBd hS1n hIq1 hq hLs hpl⟩, rfl⟩
end Go.Proofs.YtdgpmopcmacicaaPi

/- The walk of Solve, for clauses that some model fulfils. -/
set_option linter.unusedVariables false
set_option linter.unusedSimpArgs false
set_option maxRecDepth 100000
namespace Go.Proofs.YtdgpmopcmacicaaPi
set_option maxHeartbeats 40000000
/-- A model that was found. -/
def FndM (n : Nat) (cs : List (List Int)) (m : List Bool) : Prop := m.length = n ∧ ∀ c ∈ cs, HoldsC (fun v => m.getD (v - 1) false) c
theorem pot_pos (S : Sol) : 1 ≤ S.pot := by
  unfold Sol.pot
  have := Nat.one_le_two_pow (n := S.n - S.tr.length)
  omega
/-- The search that goes through all decisions finds a model, if it may go on long enough. -/
theorem runP_ok (M : Nat → Bool) (cs : List (List Int)) (n limit : Nat) (hn : n ≤ 20000) (hcs : ClsIn n cs) (hm : ∀ c ∈ cs, HoldsC M c) (hlim : limit ≤ 65536) (h2 : 2 ^ n ≤ limit) (up : Frs) :
    ACalls Try.prog 94 [.im (.sl (clss cs)), .i (n : Nat), .i (limit : Nat), .im (.bool true)] up fun v u => u = up ∧ ∃ (m : List Bool) (q : Nat), v = .agg [.im (.bool true), .im (.bool true), .im (.sl (bools m)), .im (.sl []), .i (q : Nat)] ∧ q ≤ limit ∧ FndM n cs m := by
  have hcl := hcs.len
  obtain ⟨ld1, ⟨B2, ld2⟩, ld3, ld4, ld5⟩ := Ld.load (M := M) cs ⟨new_base M hn, rfl, rfl⟩ hcs.cls hm (by show 0 + cs.length ≤ 1000000; omega)
  refine (run_ok M (fun S q => S.n = n ∧ q + S.pot ≤ 2 ^ n) cs n limit true hn hcs hm hlim ⟨ld5, ?_⟩ (fun S S' q hE hI => ⟨hE.n.trans hI.1, by have := hE.pot; have := hI.2; omega⟩) (fun S B q hB hSn hh hc hI hd => ?_) (fun S B k c d q hBd hSn hI hq hL hp => ?_) up).mono fun v u hv => ?_
  · unfold Sol.pot
    rw [ld2.st]
    have := Nat.pow_le_pow_right (n := 2) (by decide) (show (Sol.load cs (Sol.new n)).1.n - (Sol.load cs (Sol.new n)).1.tr.length ≤ n by rw [ld5]; exact Nat.sub_le _ _)
    simp only [List.map_nil, List.sum_nil]
    omega
  · obtain ⟨g1, g2, g3, _⟩ := (hB.decide hh).2 hd
    exact ⟨g3.trans hSn, by rw [g2]; exact hI.2⟩
  · obtain ⟨hp1, hp2⟩ := hp rfl
    have hps := hBd.pos
    have hst := hBd.sw.len.stn
    have hne : c.length ≤ 100000 := by
      rw [hp1, refuted_len]; have := hBd.sw.len.n; omega
    by_cases hz : S.cl.length + 1 ≤ 1000000
    · by_cases hM : HoldsC M c
      · obtain ⟨hbk, _, _, _, _, hn2, _⟩ := hBd.heed hL hM hne hz
        have := back_pot (c := c) (d := d) (by omega) hbk
        exact ⟨hn2.trans hSn, by have := hI.2; omega⟩
      · exact absurd (by rw [hp1]; exact refuted_holds hBd.sw hBd.con hBd.snd hBd.hst) hM
    · have hb := hBd.sw.csz
      have hbk : Bk S d (S.back d) := (back_calm hBd.sw hBd.con.inv hBd.con.wat hBd.con.pro hBd.hst hBd.hsh hL.dl).2
      have := back_pot (c := c) (d := d) (by omega) hbk
      have f5 : ((S.back d).heed c).n = (S.back d).n := by unfold Sol.heed; split <;> rfl
      exact ⟨f5.trans (hbk.n.trans hSn), by have := hI.2; omega⟩
  · obtain ⟨rfl, d, m, q, h1, h3, h4, h5⟩ := hv
    refine ⟨rfl, m, q, ?_, h3, ?_⟩
    · cases d with
      | true => exact h1
      | false =>
        obtain ⟨_, S, B, k, hB, hSn, hI⟩ := h5 rfl
        have := pot_pos S
        have := hI.2
        omega
    · cases d with
      | true => exact h4 rfl
      | false =>
        obtain ⟨_, S, B, k, hB, hSn, hI⟩ := h5 rfl
        have := pot_pos S
        have := hI.2
        omega
theorem runL_ok (M : Nat → Bool) (cs : List (List Int)) (n limit : Nat) (hn : n ≤ 20000) (hcs : ClsIn n cs) (hm : ∀ c ∈ cs, HoldsC M c) (hlim : limit ≤ 65536) (up : Frs) :
    ACalls Try.prog 94 [.im (.sl (clss cs)), .i (n : Nat), .i (limit : Nat), .im (.bool false)] up fun v u => u = up ∧ ∃ (d : Bool) (m : List Bool) (q : Nat), v = .agg [.im (.bool d), .im (.bool d), .im (.sl (bools m)), .im (.sl []), .i (q : Nat)] ∧ q ≤ limit ∧ (d = true → FndM n cs m) :=
  (run_ok M (fun _ _ => True) cs n limit false hn hcs hm hlim trivial (fun _ _ _ _ _ => trivial) (fun _ _ _ _ _ _ _ _ _ => trivial) (fun _ _ _ _ _ _ _ _ _ _ _ _ => trivial) up).mono fun v u hv => by
    obtain ⟨h0, d, m, q, h1, h3, h4, h5⟩ := hv
    exact ⟨h0, d, m, q, h1, h3, h4⟩
theorem ClsIn.ok {n : Nat} {cs : List (List Int)} (hn : n ≤ 20000) (h : ClsIn n cs) : ClsOk n cs := ⟨hn, h.len, fun c hc => ⟨by have := (h.cls c hc).2.1; omega, (h.cls c hc).2.2⟩⟩
theorem solve_ok (M : Nat → Bool) (cs : List (List Int)) (n limit : Nat) (hn : n ≤ 20000) (hcs : ClsIn n cs) (hm : ∀ c ∈ cs, HoldsC M c) (hlim : limit ≤ 65536) (h2 : 2 ^ n ≤ limit) (up : Frs) :
    ACalls Try.prog 39 [.im (.sl (clss cs)), .i (n : Nat), .i (limit : Nat)] up fun v u => u = up ∧ ∃ (m : List Bool) (q : Nat), v = .tup [.agg [.im (.bool true), .im (.bool true), .im (.sl (bools m)), .im (.sl []), .i (q : Nat)], .i 0] ∧ FndM n cs m := by
  have d1 : decide ((limit : Int) < 0) = false := decide_eq_false (by omega)
  have d2 : decide ((65536 : Int) < (limit : Int)) = false := decide_eq_false (by omega)
  refine ACalls.code Try.func39 rfl 44 rfl (by simp) [.cell 6 86, .tmp 7] rfl fun Q hQ => ?_
  simp only [ups, PV.up, argEnv]
  have ft := And.intro ty_3 (And.intro ty_4 (And.intro ty_22 (And.intro ty_39 (And.intro ty_81 (And.intro ty_86 trivial)))))
  refine Run.seq ?_
  have fx := And.intro d2 (And.intro d1 ft)
  refine Run.go ?_
  refine End.kp [0, 1, 2, 6] ?_
  refine Run.seq ?_
  refine Run.seq ?_
  refine Run.region rfl fun K hK => GOps.sim ?_
  refine GOps.call rfl rfl rfl rfl (by kernel_rfl) (ACalls.sim ?_)
  refine (satCheck_ok n cs (hcs.ok hn) _).mono fun v u hv => ?_
  obtain ⟨rfl, rfl⟩ := hv
  refine ⟨_, _, rfl, GOps.sim ?_⟩
  refine GOps.done (hK _ ?_); clear hK K
  refine End.kp [0, 1, 2, 6, 8] ?_
  refine Run.seq ?_
  refine Run.go ?_
  refine End.kp [0, 1, 2, 6, 8, 15] ?_
  refine Run.cond _ rfl (fun hb => ?_) (fun hb => ?_)
  · have hb2 := hb
    simp at hb
  · have hb2 := hb
    refine Run.skip ?_
    refine End.kp [0, 1, 2, 6] ?_
    refine Run.seq ?_
    refine Run.seq ?_
    have fx := And.intro d2 (And.intro d1 ft)
    refine Run.go ?_
    refine End.kp [0, 1, 2, 6, 23] ?_
    refine Run.cond _ rfl (fun hb => ?_) (fun hb => ?_)
    · have hb3 := hb
      simp at hb
    · have hb3 := hb
      refine Run.skip ?_
      refine End.kp [0, 1, 2, 6] ?_
      refine Run.seq ?_
      have fx := And.intro d2 (And.intro d1 ft)
      refine Run.region rfl fun K hK => GOps.sim ?_
      refine GOps.call rfl rfl rfl rfl (by kernel_rfl) (ACalls.sim ?_)
      refine (runL_ok M cs n limit hn hcs hm hlim _).mono fun v u hv => ?_
      obtain ⟨rfl, d, m, q, rfl, hq, hd1⟩ := hv
      refine ⟨_, _, rfl, GOps.sim ?_⟩
      refine GOps.done (hK _ ?_); clear hK K
      refine End.kp [0, 1, 2, 6, 9] ?_
      refine Run.seq ?_
      refine Run.seq ?_
      refine Run.go ?_
      refine End.kp [0, 1, 2, 6, 9, 31] ?_
      refine Run.cond _ rfl (fun hb => ?_) (fun hb => ?_)
      · have hd : d = false := by simpa using hb
        refine Run.seq ?_
        have fx := And.intro d2 (And.intro d1 ft)
        refine Run.go ?_
        refine End.kp [0, 1, 2, 6, 9, 10] ?_
        refine Run.seq ?_
        refine Run.region rfl fun K hK => GOps.sim ?_
        refine GOps.call rfl rfl rfl rfl (by kernel_rfl) (ACalls.sim ?_)
        refine (runP_ok M cs n limit hn hcs hm hlim h2 _).mono fun v u hv => ?_
        obtain ⟨rfl, m2, q2, rfl, hq2, hf2⟩ := hv
        have wq : IntKind.i64.wrap ((q2 : Int) + (q : Int)) = ((q2 + q : Nat) : Int) := by rw [wrap64 (by omega)]; rfl
        have fx := And.intro d2 (And.intro d1 ft)
        refine ⟨_, _, rfl, GOps.sim ?_⟩
        refine GOps.done (hK _ ?_); clear hK K
        refine End.kp [6, 9, 10] ?_
        have fx := And.intro wq (And.intro d2 (And.intro d1 ft))
        refine Run.go ?_
        refine End.kp [6, 9] ?_
        refine Run.seq ?_
        refine Run.go ?_
        refine End.kp [6, 7] ?_
        refine Run.resC hQ ?_
        exact ⟨rfl, m2, q2 + q, rfl, hf2⟩
      · have hd : d = true := by simpa using hb
        refine Run.skip ?_
        refine End.kp [6, 9] ?_
        refine Run.seq ?_
        have fx := And.intro d2 (And.intro d1 ft)
        refine Run.go ?_
        refine End.kp [6, 7] ?_
        refine Run.resC hQ ?_
        subst hd; exact ⟨rfl, m, q, rfl, hd1 rfl⟩
end Go.Proofs.YtdgpmopcmacicaaPi

/- The walk of Holds, for models that fulfil the clauses; solved. -/
set_option linter.unusedVariables false
set_option linter.unusedSimpArgs false
set_option maxRecDepth 100000
namespace Go.Proofs.YtdgpmopcmacicaaPi
set_option maxHeartbeats 40000000
abbrev mdlOf (m : List Bool) : Nat → Bool := fun v => m.getD (v - 1) false
abbrev litB (m : List Bool) (l : Int) : Bool := (m.getD (l.natAbs - 1) false == decide (0 < l))
theorem litB_hl {m : List Bool} {l : Int} : litB m l = true ↔ hl (mdlOf m) l := by
  unfold litB hl mdlOf
  simp
theorem holdsL_ok (m : List Bool) (l : Int) (h : LitOk m.length l) (hm : m.length ≤ 1000000) (up : Frs) (d j : Nat) (hf : fget up d j = some (.box [.im (.sl (bools m))])) : ACalls Try.prog 95 [.i l, .ptr d j 0] up fun v u => v = .im (.bool (litB m l)) ∧ u = up := by
  obtain ⟨h0, h1⟩ := h
  have wn : IntKind.i64.wrap (0 - l) = -l := by rw [wrap64 (by omega)]; omega
  have hmx : (if l < -l then -l else l) = (l.natAbs : Int) := by split <;> omega
  have e0 : (l != 0) = true := by simpa using h0
  have e1 : decide ((1 : Int) ≤ (l.natAbs : Int)) = true := decide_eq_true (by omega)
  have e2 : decide ((l.natAbs : Int) ≤ (m.length : Int)) = true := decide_eq_true (by omega)
  have w1 : IntKind.i64.wrap ((l.natAbs : Int) - 1) = ((l.natAbs - 1 : Nat) : Int) := by rw [wrap64 (by omega)]; omega
  have g1 := bools_get m (l.natAbs - 1) (by omega)
  have q1 : ((l.natAbs - 1 : Nat) : Int) < (m.length : Int) := by omega
  refine ACalls.code Try.func95 rfl 31 rfl (by simp) [.tmp 3] rfl fun Q hQ => ?_
  simp only [ups, PV.up, argEnv]
  have ft := And.intro ty_3 (And.intro ty_4 (And.intro ty_71 trivial))
  refine Run.seq ?_
  have fx := And.intro (@Nat.zero_add) (And.intro (@Int.toNat_natCast) (And.intro (@Int.natCast_nonneg) (And.intro (@ge_iff_le Int _) (And.intro bools_len (And.intro q1 (And.intro g1 (And.intro w1 (And.intro e2 (And.intro e1 (And.intro e0 (And.intro hmx (And.intro wn (And.intro hf ft)))))))))))))
  refine Run.go ?_
  refine End.kp [0, 1] ?_
  refine Run.seq ?_
  refine Run.go ?_
  refine End.kp [0, 1, 4] ?_
  refine Run.seq ?_
  refine Run.go ?_
  refine End.kp [3] ?_
  refine Run.ret (hQ _ _ ⟨.inr rfl, _, rfl, _, rfl, ?_⟩)
  exact ⟨rfl, rfl⟩
theorem IndexL_ok (m : List Bool) (hm : m.length ≤ 1000000) (c : List Int) (hl : ∀ l ∈ c, LitOk m.length l) (hcn : c.length ≤ 1000000) (hh : HoldsC (mdlOf m) c) (up : Frs) (d j : Nat) (hf : fget up d j = some (.box [.im (.sl (bools m))])) : ACalls Try.prog 149 [.im (.sl (ints c)), .fn 95 [.ptr d j 0]] up fun r u => (∃ k : Nat, r = .i (k : Nat)) ∧ u = up := by
  refine ACalls.code Try.func149 rfl 19 rfl (by simp) [.tmp 4] rfl fun Q hQ => ?_
  simp only [ups, PV.up, argEnv]
  have ft := And.intro ty_3 (And.intro ty_4 (And.intro ty_22 trivial))
  refine Run.seq ?_
  have fx := And.intro (@Int.toNat_natCast) (And.intro (@Int.natCast_nonneg) (And.intro ints_len ft))
  refine Run.go ?_
  refine End.kp [0, 1] ?_
  refine Run.seq ?_
  refine Run.seq ?_
  refine Run.go ?_
  refine End.kp [0, 1, 7, 8] ?_
  refine Run.block ?_
  refine Run.ghost (Ghost.form [(0, .im (.sl (ints c))), (1, .fn 95 [.ptr (d + 1) j 0]), (7, .i c.length), (8, .i (0 : Nat))] 0 ⟨rfl, rfl, rfl, rfl, trivial⟩ rfl (by simp only [ASt.push, List.nil_append, List.cons_append, List.take_succ_cons, List.take_zero, List.all_cons, List.all_nil, AObj.under, i64s_set, unders_append, unders_ims, unders, PV.under, Bool.and_true, Bool.and_self])) ?_
  refine Run.loop (fun q s => ∃ k : Nat, q = c.length - k ∧ k ≤ c.length ∧ (∀ i, i < k → litB m (c.getD i 0) = false) ∧ s = ⟨[(0, .im (.sl (ints c))), (1, .fn 95 [.ptr (d + 1) j 0]), (7, .i c.length), (8, .i (k : Nat))], [], up⟩) c.length ⟨0, rfl, by omega, fun i hi => by omega, rfl⟩ fun q s hI => ?_
  obtain ⟨k, hq, hk, hno, rfl⟩ := hI
  subst q
  refine Run.seq ?_
  have fx := And.intro (@Int.toNat_natCast) (And.intro (@Int.natCast_nonneg) (And.intro ints_len ft))
  refine Run.go ?_
  refine End.kp [0, 1, 7, 8, 9] ?_
  refine Run.seq ?_
  refine Run.cond _ rfl (fun hb => ?_) (fun hb => ?_)
  · have hb2 := of_decide_eq_true hb
    have hkn : k < c.length := by omega
    have wk := csucc hkn (by omega)
    have gk := lits_get c k hkn
    have hkl : (k : Int) < (c.length : Int) := by omega
    have hlk := hl _ (getD_mem (d := 0) hkn)
    refine Run.skip ?_
    refine End.kp [0, 1, 7, 8] ?_
    refine Run.seq ?_
    refine Run.block ?_
    refine Run.seq ?_
    have fx := And.intro hkl (And.intro gk (And.intro wk (And.intro (@Int.toNat_natCast) (And.intro (@Int.natCast_nonneg) (And.intro ints_len ft)))))
    refine Run.go ?_
    refine End.kp [0, 1, 5, 7, 8] ?_
    refine Run.seq ?_
    refine Run.region rfl fun K hK => GOps.sim ?_
    refine GOps.call rfl rfl rfl rfl (by kernel_rfl) (ACalls.sim ?_)
    refine (holdsL_ok m _ hlk hm _ (d + 1) j hf).mono fun v u hv => ?_
    obtain ⟨rfl, rfl⟩ := hv
    refine ⟨_, _, rfl, GOps.sim ?_⟩
    refine GOps.done (hK _ ?_); clear hK K
    refine End.kp [0, 1, 5, 7, 8, 16] ?_
    refine Run.cond _ rfl (fun hb => ?_) (fun hb => ?_)
    · have hb3 := hb
      refine Run.seq ?_
      have fx := And.intro hkl (And.intro gk (And.intro wk (And.intro (@Int.toNat_natCast) (And.intro (@Int.natCast_nonneg) (And.intro ints_len ft)))))
      refine Run.go ?_
      refine End.kp [4] ?_
      refine Run.ret (hQ _ _ ⟨.inr rfl, _, rfl, _, rfl, ?_⟩)
      exact ⟨⟨k, rfl⟩, rfl⟩
    · have hb3 := hb
      refine Run.skip ?_
      refine End.blk ?_
      refine End.kp [0, 1, 7, 8] ?_
      have fx := And.intro hkl (And.intro gk (And.intro wk (And.intro (@Int.toNat_natCast) (And.intro (@Int.natCast_nonneg) (And.intro ints_len ft)))))
      refine Run.go ?_
      refine End.lp ?_
      refine ⟨c.length - (k + 1), _, by omega, Ghost.form [(0, .im (.sl (ints c))), (1, .fn 95 [.ptr (d + 1) j 0]), (7, .i c.length), (8, .i ((k + 1) : Nat))] 0 ⟨rfl, rfl, rfl, rfl, trivial⟩ rfl (by simp only [ASt.push, List.nil_append, List.cons_append, List.take_succ_cons, List.take_zero, List.all_cons, List.all_nil, AObj.under, i64s_set, unders_append, unders_ims, unders, PV.under, Bool.and_true, Bool.and_self]), k + 1, rfl, by omega, fun i hi => ?_, rfl⟩
      by_cases e : i = k
      · subst e; exact hb3
      · exact hno i (by omega)
  · have hb2 := of_decide_eq_false hb
    exfalso
    obtain ⟨l, h1, h2⟩ := hh
    obtain ⟨i, h3, h4⟩ := mem_getD (d := 0) h1
    have := hno i (by omega)
    rw [h4, litB_hl.2 h2] at this
    simp at this
theorem ContainsL_ok (m : List Bool) (hm : m.length ≤ 1000000) (c : List Int) (hl : ∀ l ∈ c, LitOk m.length l) (hcn : c.length ≤ 1000000) (hh : HoldsC (mdlOf m) c) (up : Frs) (d j : Nat) (hf : fget up d j = some (.box [.im (.sl (bools m))])) : ACalls Try.prog 96 [.im (.sl (ints c)), .fn 95 [.ptr d j 0]] up fun r u => r = .im (.bool true) ∧ u = up := by
  refine ACalls.code Try.func96 rfl 9 rfl (by simp) [.tmp 4] rfl fun Q hQ => ?_
  simp only [ups, PV.up, argEnv]
  have ft := And.intro ty_3 (And.intro ty_4 (And.intro ty_22 trivial))
  refine Run.seq ?_
  have fx := And.intro (@ge_iff_le Int _) ft
  refine Run.go ?_
  refine End.kp [0, 1] ?_
  refine Run.seq ?_
  refine Run.region rfl fun K hK => GOps.sim ?_
  refine GOps.call rfl rfl rfl rfl (by kernel_rfl) (ACalls.sim ?_)
  refine (IndexL_ok m hm c hl hcn hh _ (d + 1) j hf).mono fun v u hv => ?_
  obtain ⟨⟨k, rfl⟩, rfl⟩ := hv
  have hk0 : decide ((0 : Int) ≤ (k : Int)) = true := decide_eq_true (by omega)
  have fx := And.intro hk0 (And.intro (@ge_iff_le Int _) ft)
  refine ⟨_, _, rfl, GOps.sim ?_⟩
  refine GOps.done (hK _ ?_); clear hK K
  refine End.kp [4] ?_
  refine Run.ret (hQ _ _ ⟨.inr rfl, _, rfl, _, rfl, ?_⟩)
  exact ⟨rfl, rfl⟩
theorem holds_ok (m : List Bool) (hm : m.length ≤ 1000000) (cs : List (List Int)) (hcl : cs.length ≤ 1000000) (hl : ∀ c ∈ cs, c.length ≤ 1000000 ∧ ∀ l ∈ c, LitOk m.length l) (hh : ∀ c ∈ cs, HoldsC (mdlOf m) c) (up : Frs) : ACalls Try.prog 41 [.im (.sl (clss cs)), .im (.sl (bools m))] up fun r u => r = .im (.bool true) ∧ u = up := by
  refine ACalls.code Try.func41 rfl 20 rfl (by simp) [.tmp 4] rfl fun Q hQ => ?_
  simp only [ups, PV.up, argEnv]
  have ft := And.intro ty_3 (And.intro ty_4 (And.intro ty_22 (And.intro ty_71 (And.intro ty_81 trivial))))
  refine Run.seq ?_
  have fx := And.intro (@Int.toNat_natCast) (And.intro (@Int.natCast_nonneg) (And.intro (@List.length_map.{0, 0}) ft))
  refine Run.go ?_
  refine End.kp [0, 3] ?_
  refine Run.seq ?_
  refine Run.go ?_
  refine End.kp [0, 5] ?_
  refine Run.seq ?_
  refine Run.seq ?_
  refine Run.go ?_
  refine End.kp [5, 9, 10, 11] ?_
  refine Run.block ?_
  refine Run.ghost (Ghost.form [(5, .fn 95 [.ptr 0 0 0]), (9, .im (.sl (clss cs))), (10, .i cs.length), (11, .i (0 : Nat))] 1 ⟨rfl, rfl, rfl, rfl, trivial⟩ rfl (by simp only [ASt.push, List.nil_append, List.cons_append, List.take_succ_cons, List.take_zero, List.all_cons, List.all_nil, AObj.under, i64s_set, unders_append, unders_ims, unders, PV.under, Bool.and_true, Bool.and_self])) ?_
  refine Run.loop (fun q s => ∃ k : Nat, q = cs.length - k ∧ k ≤ cs.length ∧ s = ⟨[(5, .fn 95 [.ptr 0 0 0]), (9, .im (.sl (clss cs))), (10, .i cs.length), (11, .i (k : Nat))], [.box [.im (.sl (bools m))]], up⟩) cs.length ⟨0, rfl, by omega, rfl⟩ fun q s hI => ?_
  obtain ⟨k, hq, hk, rfl⟩ := hI
  subst q
  refine Run.seq ?_
  have fx := And.intro (@Int.toNat_natCast) (And.intro (@Int.natCast_nonneg) (And.intro (@List.length_map.{0, 0}) ft))
  refine Run.go ?_
  refine End.kp [5, 9, 10, 11, 12] ?_
  refine Run.seq ?_
  refine Run.cond _ rfl (fun hb => ?_) (fun hb => ?_)
  · have hb2 := of_decide_eq_true hb
    have hkn : k < cs.length := by omega
    have wk := csucc hkn (by omega)
    have gk := clss_get cs k hkn
    have hkl : (k : Int) < (cs.length : Int) := by omega
    have hmem := getD_mem (l := cs) (i := k) (d := []) hkn
    obtain ⟨z1, z2⟩ := hl _ hmem
    have z3 := hh _ hmem
    refine Run.skip ?_
    refine End.kp [5, 9, 10, 11] ?_
    refine Run.seq ?_
    refine Run.block ?_
    refine Run.seq ?_
    have fx := And.intro hkl (And.intro gk (And.intro wk (And.intro (@Int.toNat_natCast) (And.intro (@Int.natCast_nonneg) (And.intro (@List.length_map.{0, 0}) ft)))))
    refine Run.go ?_
    refine End.kp [5, 7, 9, 10, 11] ?_
    refine Run.seq ?_
    refine Run.region rfl fun K hK => GOps.sim ?_
    refine GOps.call rfl rfl rfl rfl (by kernel_rfl) (ACalls.sim ?_)
    refine (ContainsL_ok m hm _ z2 z1 z3 _ 0 0 rfl).mono fun v u hv => ?_
    obtain ⟨rfl, rfl⟩ := hv
    refine ⟨_, _, rfl, GOps.sim ?_⟩
    refine GOps.done (hK _ ?_); clear hK K
    refine End.kp [5, 9, 10, 11, 18] ?_
    refine Run.cond _ rfl (fun hb => ?_) (fun hb => ?_)
    · have hb3 := hb
      simp at hb
    · have hb3 := hb
      refine Run.skip ?_
      refine End.blk ?_
      refine End.kp [5, 9, 10, 11] ?_
      have fx := And.intro hkl (And.intro gk (And.intro wk (And.intro (@Int.toNat_natCast) (And.intro (@Int.natCast_nonneg) (And.intro (@List.length_map.{0, 0}) ft)))))
      refine Run.go ?_
      refine End.lp ?_
      refine ⟨cs.length - (k + 1), _, by omega, Ghost.form [(5, .fn 95 [.ptr 0 0 0]), (9, .im (.sl (clss cs))), (10, .i cs.length), (11, .i ((k + 1) : Nat))] 1 ⟨rfl, rfl, rfl, rfl, trivial⟩ rfl (by simp only [ASt.push, List.nil_append, List.cons_append, List.take_succ_cons, List.take_zero, List.all_cons, List.all_nil, AObj.under, i64s_set, unders_append, unders_ims, unders, PV.under, Bool.and_true, Bool.and_self]), k + 1, rfl, by omega, rfl⟩
  · have hb2 := hb
    refine Run.exit rfl ?_
    refine End.kp [] ?_
    refine Run.seq ?_
    have fx := And.intro (@Int.toNat_natCast) (And.intro (@Int.natCast_nonneg) (And.intro (@List.length_map.{0, 0}) ft))
    refine Run.go ?_
    refine End.kp [4] ?_
    refine Run.ret (hQ _ _ ⟨.inr rfl, _, rfl, _, rfl, ?_⟩)
    exact ⟨rfl, rfl⟩
end Go.Proofs.YtdgpmopcmacicaaPi

/- The walk of solved. -/
set_option linter.unusedVariables false
set_option linter.unusedSimpArgs false
set_option maxRecDepth 100000
namespace Go.Proofs.YtdgpmopcmacicaaPi
set_option maxHeartbeats 40000000
abbrev smallC : List (List Int) := [[-1, 2], [1]]
theorem small_in : ClsIn 2 smallC := ⟨by decide, fun c hc => by
  rcases List.mem_cons.1 hc with rfl | hc
  · exact ⟨by decide, by decide, fun l hl => by
      rcases List.mem_cons.1 hl with rfl | hl
      · exact ⟨by decide, by decide⟩
      · rw [List.mem_singleton.1 hl]; exact ⟨by decide, by decide⟩⟩
  · rw [List.mem_singleton.1 hc]
    exact ⟨by decide, by decide, fun l hl => by rw [List.mem_singleton.1 hl]; exact ⟨by decide, by decide⟩⟩⟩
theorem small_hold : ∀ c ∈ smallC, HoldsC (fun _ => true) c := fun c hc => by
  rcases List.mem_cons.1 hc with rfl | hc
  · exact ⟨2, by simp, by unfold hl; decide⟩
  · rw [List.mem_singleton.1 hc]
    exact ⟨1, by simp, by unfold hl; decide⟩
theorem small_model {m : List Bool} (h : FndM 2 smallC m) : m = [true, true] := by
  obtain ⟨h1, h2⟩ := h
  match m, h1 with
  | [a, b], _ =>
    have k1 := h2 [1] (by simp)
    have k2 := h2 [-1, 2] (by simp)
    obtain ⟨l, m1, m2⟩ := k1
    rw [List.mem_singleton.1 m1] at m2
    have ha : a = true := by simpa [hl] using m2
    subst ha
    obtain ⟨l, m1, m2⟩ := k2
    rcases List.mem_cons.1 m1 with rfl | m1
    · simp [hl] at m2
    · rw [List.mem_singleton.1 m1] at m2
      have hb : b = true := by simpa [hl] using m2
      rw [hb]
theorem IndexE_ok (up : Frs) (d j : Nat) : ACalls Try.prog 149 [.im (.sl []), .fn 95 [.ptr d j 0]] up fun r u => r = .i (-1) ∧ u = up := by
  refine ACalls.code Try.func149 rfl 19 rfl (by simp) [.tmp 4] rfl fun Q hQ => ?_
  simp only [ups, PV.up, argEnv]
  have ft := And.intro ty_3 (And.intro ty_4 (And.intro ty_22 trivial))
  refine Run.seq ?_
  have fx := And.intro (@List.length_nil.{0}) ft
  refine Run.go ?_
  refine End.kp [0, 1] ?_
  refine Run.seq ?_
  refine Run.seq ?_
  refine Run.go ?_
  refine End.kp [0, 1, 7, 8] ?_
  refine Run.block ?_
  refine Run.ghost (Ghost.form [(0, .im (.sl ([] : List (List Im)))), (1, .fn 95 [.ptr (d + 1) j 0]), (7, .i 0), (8, .i 0)] 0 ⟨rfl, rfl, rfl, rfl, trivial⟩ rfl (by simp only [ASt.push, List.nil_append, List.cons_append, List.take_succ_cons, List.take_zero, List.all_cons, List.all_nil, AObj.under, i64s_set, unders_append, unders_ims, unders, PV.under, Bool.and_true, Bool.and_self])) ?_
  refine Run.loop (fun q s => s = ⟨[(0, .im (.sl ([] : List (List Im)))), (1, .fn 95 [.ptr (d + 1) j 0]), (7, .i 0), (8, .i 0)], [], up⟩) 0 rfl fun q s hI => ?_
  subst hI
  refine Run.seq ?_
  have fx := And.intro (@List.length_nil.{0}) ft
  refine Run.go ?_
  refine End.kp [0, 1, 7, 8, 9] ?_
  refine Run.seq ?_
  refine Run.cond _ rfl (fun hb => ?_) (fun hb => ?_)
  · have hb2 := hb
    simp at hb
  · have hb2 := hb
    refine Run.exit rfl ?_
    refine End.kp [] ?_
    refine Run.seq ?_
    have fx := And.intro (@List.length_nil.{0}) ft
    refine Run.go ?_
    refine End.kp [4] ?_
    refine Run.ret (hQ _ _ ⟨.inr rfl, _, rfl, _, rfl, ?_⟩)
    exact ⟨rfl, rfl⟩
theorem ContainsE_ok (up : Frs) (d j : Nat) : ACalls Try.prog 96 [.im (.sl []), .fn 95 [.ptr d j 0]] up fun r u => r = .im (.bool false) ∧ u = up := by
  refine ACalls.code Try.func96 rfl 9 rfl (by simp) [.tmp 4] rfl fun Q hQ => ?_
  simp only [ups, PV.up, argEnv]
  have ft := And.intro ty_3 (And.intro ty_4 (And.intro ty_22 trivial))
  refine Run.seq ?_
  have fx := And.intro (@ge_iff_le Int _) ft
  refine Run.go ?_
  refine End.kp [0, 1] ?_
  refine Run.seq ?_
  refine Run.region rfl fun K hK => GOps.sim ?_
  refine GOps.call rfl rfl rfl rfl (by kernel_rfl) (ACalls.sim ?_)
  refine (IndexE_ok _ (d + 1) j).mono fun v u hv => ?_
  obtain ⟨rfl, rfl⟩ := hv
  refine ⟨_, _, rfl, GOps.sim ?_⟩
  refine GOps.done (hK _ ?_); clear hK K
  refine End.kp [4] ?_
  refine Run.ret (hQ _ _ ⟨.inr rfl, _, rfl, _, rfl, ?_⟩)
  exact ⟨rfl, rfl⟩
theorem holdsE_ok (up : Frs) : ACalls Try.prog 41 [.im (.sl [[.sl []]]), .im (.sl [])] up fun r u => r = .im (.bool false) ∧ u = up := by
  refine ACalls.code Try.func41 rfl 20 rfl (by simp) [.tmp 4] rfl fun Q hQ => ?_
  simp only [ups, PV.up, argEnv]
  have ft := And.intro ty_3 (And.intro ty_4 (And.intro ty_22 (And.intro ty_71 (And.intro ty_81 trivial))))
  refine Run.seq ?_
  have fx := And.intro (@List.length_nil.{0}) (And.intro (@List.length_cons.{0}) ft)
  refine Run.go ?_
  refine End.kp [0, 3] ?_
  refine Run.seq ?_
  refine Run.go ?_
  refine End.kp [0, 5] ?_
  refine Run.seq ?_
  refine Run.seq ?_
  refine Run.go ?_
  refine End.kp [5, 9, 10, 11] ?_
  refine Run.block ?_
  refine Run.ghost (Ghost.form [(5, .fn 95 [.ptr 0 0 0]), (9, .im (.sl [[.sl []]])), (10, .i 1), (11, .i 0)] 1 ⟨rfl, rfl, rfl, rfl, trivial⟩ rfl (by simp only [ASt.push, List.nil_append, List.cons_append, List.take_succ_cons, List.take_zero, List.all_cons, List.all_nil, AObj.under, i64s_set, unders_append, unders_ims, unders, PV.under, Bool.and_true, Bool.and_self])) ?_
  refine Run.loop (fun q s => s = ⟨[(5, .fn 95 [.ptr 0 0 0]), (9, .im (.sl [[.sl []]])), (10, .i 1), (11, .i 0)], [.box [.im (.sl [])]], up⟩) 0 rfl fun q s hI => ?_
  subst hI
  refine Run.seq ?_
  have fx := And.intro (@List.length_nil.{0}) (And.intro (@List.length_cons.{0}) ft)
  refine Run.go ?_
  refine End.kp [5, 9, 10, 11, 12] ?_
  refine Run.seq ?_
  refine Run.cond _ rfl (fun hb => ?_) (fun hb => ?_)
  · have hb2 := hb
    refine Run.skip ?_
    refine End.kp [5, 9, 10, 11] ?_
    refine Run.seq ?_
    refine Run.block ?_
    refine Run.seq ?_
    have fx := And.intro (@List.length_nil.{0}) (And.intro (@List.length_cons.{0}) ft)
    refine Run.go ?_
    refine End.kp [5, 7, 9, 10, 11] ?_
    refine Run.seq ?_
    refine Run.region rfl fun K hK => GOps.sim ?_
    refine GOps.call rfl rfl rfl rfl (by kernel_rfl) (ACalls.sim ?_)
    refine (ContainsE_ok _ 0 0).mono fun v u hv => ?_
    obtain ⟨rfl, rfl⟩ := hv
    refine ⟨_, _, rfl, GOps.sim ?_⟩
    refine GOps.done (hK _ ?_); clear hK K
    refine End.kp [5, 9, 10, 11, 18] ?_
    refine Run.cond _ rfl (fun hb => ?_) (fun hb => ?_)
    · have hb3 := hb
      refine Run.seq ?_
      have fx := And.intro (@List.length_nil.{0}) (And.intro (@List.length_cons.{0}) ft)
      refine Run.go ?_
      refine End.kp [4] ?_
      refine Run.ret (hQ _ _ ⟨.inr rfl, _, rfl, _, rfl, ?_⟩)
      exact ⟨rfl, rfl⟩
    · have hb3 := hb
      simp at hb
  · have hb2 := hb
    simp at hb
theorem EqT_same (p q : List Bool) (h : p = q) (hn : p.length ≤ 1000000) (up : Frs) : ACalls Try.prog 31 [.im (.sl (bools p)), .im (.sl (bools q))] up fun v u => v = .im (.bool true) ∧ u = up := by
  have d1 : ((p.length : Int) != q.length) = false := by rw [h]; simp
  refine ACalls.code Try.func31 rfl 26 rfl (by simp) [.tmp 4] rfl fun Q hQ => ?_
  simp only [ups, PV.up, argEnv]
  have ft := And.intro ty_3 (And.intro ty_4 (And.intro ty_71 trivial))
  refine Run.seq ?_
  have fx := And.intro d1 (And.intro bools_len ft)
  refine Run.go ?_
  refine End.kp [0, 1] ?_
  refine Run.seq ?_
  refine Run.seq ?_
  refine Run.go ?_
  refine End.kp [0, 1, 10] ?_
  refine Run.cond _ rfl (fun hb => ?_) (fun hb => ?_)
  · have hb2 := hb
    simp at hb
  · have hb2 := hb
    refine Run.skip ?_
    refine End.kp [0, 1] ?_
    refine Run.seq ?_
    refine Run.seq ?_
    have fx := And.intro d1 (And.intro bools_len ft)
    refine Run.go ?_
    refine End.kp [0, 1, 12, 13] ?_
    refine Run.block ?_
    refine Run.ghost (Ghost.form [(0, .im (.sl (bools p))), (1, .im (.sl (bools q))), (12, .i p.length), (13, .i (0 : Nat))] 0 ⟨rfl, rfl, rfl, rfl, trivial⟩ rfl (by simp only [ASt.push, List.nil_append, List.cons_append, List.take_succ_cons, List.take_zero, List.all_cons, List.all_nil, AObj.under, i64s_set, unders_append, unders_ims, unders, PV.under, Bool.and_true, Bool.and_self])) ?_
    refine Run.loop (fun m' st => ∃ i : Nat, m' = p.length - i ∧ i ≤ p.length ∧ st = ⟨[(0, .im (.sl (bools p))), (1, .im (.sl (bools q))), (12, .i p.length), (13, .i (i : Nat))], [], up⟩) p.length ⟨0, rfl, by omega, rfl⟩ fun m' st hI => ?_
    obtain ⟨i, rfl, hi, rfl⟩ := hI
    refine Run.seq ?_
    have fx := And.intro d1 (And.intro bools_len ft)
    refine Run.go ?_
    refine End.kp [0, 1, 12, 13, 14] ?_
    refine Run.seq ?_
    refine Run.cond _ rfl (fun hb => ?_) (fun hb => ?_)
    · have hb2 := of_decide_eq_true hb
      have hin : i < p.length := by omega
      have hiq : i < q.length := by rw [← h]; exact hin
      have wi := wsucc hin (by omega)
      have hp := bools_get p i hin
      have hq := bools_get q i hiq
      have hlp : (i : Int) < (p.length : Int) := by omega
      have hlq : (i : Int) < (q.length : Int) := by omega
      refine Run.skip ?_
      refine End.kp [0, 1, 12, 13] ?_
      refine Run.seq ?_
      refine Run.block ?_
      refine Run.seq ?_
      have fx := And.intro (@Int.toNat_natCast) (And.intro (@Int.natCast_nonneg) (And.intro hlq (And.intro hlp (And.intro hq (And.intro hp (And.intro wi (And.intro d1 (And.intro bools_len ft))))))))
      refine Run.go ?_
      refine End.kp [0, 1, 5, 12, 13] ?_
      refine Run.seq ?_
      refine Run.drawA fun K hK => ?_
      refine DOps.sim ?_
      refine DOps.nil (metAll_quiet rfl) (hK _ ?_); clear hK K
      refine End.kp [0, 1, 12, 13, 24] ?_
      refine Run.cond _ rfl (fun hb => ?_) (fun hb => ?_)
      · have hb2 := hb
        simp [h] at hb
      · have hb2 := hb
        refine Run.skip ?_
        refine End.blk ?_
        refine End.kp [0, 1, 12, 13] ?_
        have fx := And.intro (@Int.toNat_natCast) (And.intro (@Int.natCast_nonneg) (And.intro hlq (And.intro hlp (And.intro hq (And.intro hp (And.intro wi (And.intro d1 (And.intro bools_len ft))))))))
        refine Run.go ?_
        refine End.lp ?_
        refine ⟨p.length - (i + 1), _, by omega, Ghost.form [(0, .im (.sl (bools p))), (1, .im (.sl (bools q))), (12, .i p.length), (13, .i (i + 1 : Nat))] 0 ⟨rfl, rfl, rfl, rfl, trivial⟩ rfl (by simp only [ASt.push, List.nil_append, List.cons_append, List.take_succ_cons, List.take_zero, List.all_cons, List.all_nil, AObj.under, i64s_set, unders_append, unders_ims, unders, PV.under, Bool.and_true, Bool.and_self]), i + 1, rfl, by omega, rfl⟩
    · have hb2 := of_decide_eq_false hb
      refine Run.exit rfl ?_
      refine End.kp [] ?_
      refine Run.seq ?_
      have fx := And.intro d1 (And.intro bools_len ft)
      refine Run.go ?_
      refine End.kp [4] ?_
      refine Run.ret (hQ _ _ ⟨.inr rfl, _, rfl, _, rfl, ?_⟩)
      exact ⟨rfl, rfl⟩
theorem solved_ok (up : Frs) : ACalls Try.prog 40 [] up fun v u => v = .im (.bool true) ∧ u = up := by
  have hsv := solve_ok (fun _ => true) smallC 2 4 (by omega) small_in small_hold (by omega) (by decide)
  refine ACalls.code Try.func40 rfl 28 rfl (by simp) [.tmp 0] rfl fun Q hQ => ?_
  simp only [ups, PV.up, argEnv]
  have ft := And.intro ty_2 (And.intro ty_3 (And.intro ty_4 (And.intro ty_22 (And.intro ty_39 (And.intro ty_71 (And.intro ty_81 (And.intro ty_86 trivial)))))))
  refine Run.seq ?_
  have fx := ft
  refine Run.go ?_
  refine End.kp [] ?_
  refine Run.seq ?_
  refine Run.region rfl fun K hK => GOps.litF (rows := ints [-1, 2]) ?_ rfl rfl (by simp only [litF, fx] <;> rfl)
  refine GOps.litF (rows := ints [1]) ?_ rfl rfl (by simp only [litF, fx] <;> rfl)
  refine GOps.litF (rows := clss smallC) ?_ rfl rfl (by simp only [litF, fx] <;> rfl)
  refine GOps.call rfl rfl rfl rfl (by kernel_rfl) (ACalls.sim ?_)
  refine (hsv _).mono fun v u hv => ?_
  obtain ⟨rfl, m, q, rfl, hf⟩ := hv
  have hm := small_model hf
  subst hm
  refine ⟨_, _, rfl, GOps.sim ?_⟩
  refine GOps.done (hK _ ?_); clear hK K
  refine End.kp [1, 2] ?_
  refine Run.seq ?_
  have fx := ft
  refine Run.region rfl fun K hK => GOps.simK 9 ?_
  refine GOps.litF (rows := bools [true, true]) ?_ rfl rfl (by simp only [litF, fx] <;> rfl)
  refine GOps.call rfl rfl rfl rfl (by kernel_rfl) (ACalls.sim ?_)
  refine (EqT_same [true, true] [true, true] rfl (by decide) _).mono fun v u hv => ?_
  obtain ⟨rfl, rfl⟩ := hv
  refine ⟨_, _, rfl, GOps.simK 2 ?_⟩
  refine GOps.litF (rows := []) ?_ rfl rfl (by simp only [litF, fx] <;> rfl)
  refine GOps.litF (rows := [[.sl []]]) ?_ rfl rfl (by simp only [litF, fx] <;> rfl)
  refine GOps.call rfl rfl rfl rfl (by kernel_rfl) (ACalls.sim ?_)
  refine (holdsE_ok _).mono fun v u hv => ?_
  obtain ⟨rfl, rfl⟩ := hv
  refine ⟨_, _, rfl, GOps.sim ?_⟩
  refine GOps.done (hK _ ?_); clear hK K
  refine End.kp [0] ?_
  refine Run.ret (hQ _ _ ⟨.inr rfl, _, rfl, _, rfl, ?_⟩)
  exact ⟨rfl, rfl⟩
end Go.Proofs.YtdgpmopcmacicaaPi

/- The walk of Clauses. -/
set_option linter.unusedVariables false
set_option linter.unusedSimpArgs false
set_option maxRecDepth 100000
namespace Go.Proofs.YtdgpmopcmacicaaPi
set_option maxHeartbeats 40000000
/-- Clauses of one to four literals. -/
def Shape (n : Nat) (rs : List (List Int)) : Prop := ∀ c ∈ rs, 0 < c.length ∧ c.length ≤ 4 ∧ ∀ x ∈ c, LitOk n x
theorem grid_under {L : Nat} (rs : List (List (List Im))) (t T g : Nat) (h : rs.length < L) : (AObj.vec T g (cellsM rs) :: rowsM t rs).all (AObj.under L) = true := by
  rw [List.all_cons, Bool.and_eq_true]
  refine ⟨unders_all (fun y hy => ?_), ?_⟩
  · obtain ⟨i, hi, rfl⟩ := List.mem_map.1 hy
    have := List.mem_range.1 hi
    simp only [PV.under, decide_eq_true_eq]
    omega
  · rw [List.all_eq_true]
    intro x hx
    obtain ⟨r, _, rfl⟩ := List.mem_map.1 hx
    rfl
theorem mgs_cells (rs : List (List (List Im))) : mgs 0 (cellsM rs) = cellsM rs := by
  have key : ∀ l : List Nat, mgs 0 (l.map fun k => PV.ms 0 (1 + k) (rs.getD k []).length) = l.map fun k => PV.ms 0 (1 + k) (rs.getD k []).length := fun l => by
    induction l with
    | nil => rfl
    | cons x xs ih => simp only [List.map_cons, mgs, PV.mg, ih, Nat.zero_add]
  exact key _
theorem mg_grid (rs : List (List (List Im))) (t T g : Nat) : (AObj.vec T g (cellsM rs) :: rowsM t rs).map (AObj.mg 0) = AObj.vec T g (cellsM rs) :: rowsM t rs := by
  rw [List.map_cons, AObj.mg, mgs_cells]
  congr 1
  rw [rowsM, List.map_map]
  rfl
theorem Clauses_ok (vars n : Nat) (hv1 : 1 ≤ vars) (hv2 : vars ≤ 1000) (hn : n ≤ 100) (l : List Int) (a : Int) (hs : StmOk l a) (hf : a + 2000 < 1099511627776) (up : Frs) (d j : Nat) (hl : fget up d j = some (stm l a)) :
    ACalls Try.prog 42 [.ptr (d + 1) j 0, .i (vars : Nat), .i (n : Nat), .i 4] ([] :: up) fun v u => ∃ (rs : List (List Int)) (a' : Int) (g : Nat), v = .vs 0 0 0 n g ∧ u = (.vec 22 g (cellsM (rs.map ints)) :: rowsM 3 (rs.map ints)) :: fset up d j (stm l a') ∧ rs.length = n ∧ Shape vars rs ∧ a ≤ a' ∧ a' ≤ a + 9 * n := by
  have hset : ∀ o, fget (fset up d j o) d j = some o := fun o => fget_fset_same _ _ _ _ _ hl
  have hff : ∀ o o', fset (fset up d j o) d j o' = fset up d j o' := fun o o' => fset_fset2 _ _ _ _ _
  refine ACalls.codeX Try.func42 rfl 38 rfl (by simp) [.tmp 8] rfl fun Q hQ => ?_
  simp only [ups, PV.up, argEnv]
  have ft := And.intro ty_3 (And.intro ty_4 (And.intro ty_22 (And.intro ty_23 (And.intro ty_81 trivial))))
  refine Run.seq ?_
  have fx := And.intro (@Int.toNat_natCast) (And.intro (@Int.natCast_nonneg) (And.intro (@Nat.zero_add) (And.intro hff (And.intro hset (And.intro hl ft)))))
  refine Run.go ?_
  refine End.kp [0, 1, 2, 3] ?_
  refine Run.seq ?_
  refine Run.go ?_
  refine End.kp [0, 1, 2, 3, 9] ?_
  refine Run.seq ?_
  refine Run.seq ?_
  refine Run.go ?_
  refine End.kp [0, 1, 3, 9, 11, 12] ?_
  refine Run.block ?_
  refine Run.ghost (Ghost.vthaw (u := 9) 22 0 rfl) ?_
  refine Run.ghost (Ghost.form [(0, .ptr (d + 2) j 0), (1, .i (vars : Nat)), (3, .i 4), (9, .vs 0 0 0 0 0), (11, .i (n : Nat)), (12, .i (0 : Nat))] 1 ⟨rfl, rfl, rfl, rfl, rfl, rfl, trivial⟩ rfl (by simp only [ASt.push, List.nil_append, List.cons_append, List.take_succ_cons, List.take_zero, List.all_cons, List.all_nil, AObj.under, i64s_set, unders_append, unders_ims, unders, PV.under, Bool.and_true, Bool.and_self])) ?_
  refine Run.loop (fun m st => ∃ (i : Nat) (rs : List (List Int)) (a1 : Int) (g : Nat), m = n - i ∧ i ≤ n ∧ (rs.length = i ∧ Shape vars rs ∧ a ≤ a1 ∧ a1 ≤ a + 9 * i) ∧ st = ⟨[(0, .ptr (d + 2) j 0), (1, .i (vars : Nat)), (3, .i 4), (9, .vs 0 0 0 i g), (11, .i (n : Nat)), (12, .i (i : Nat))], .vec 22 g (cellsM (rs.map ints)) :: rowsM 3 (rs.map ints), [] :: fset up d j (stm l a1)⟩) n ⟨0, [], a, 0, rfl, by omega, ⟨rfl, fun c hc => by simp at hc, by omega, by omega⟩, by rw [fset_self up d j _ hl]; rfl⟩ fun m st hI => ?_
  obtain ⟨i, rs, a1, g, hm, hi, ⟨hrl, hsh, ha1, ha2⟩, rfl⟩ := hI
  subst m
  have hs1 : StmOk l a1 := ⟨hs.vals, hs.len, by have := hs.pos; omega, by omega⟩
  refine Run.seq ?_
  have fx := And.intro (@Int.toNat_natCast) (And.intro (@Int.natCast_nonneg) (And.intro (@Nat.zero_add) (And.intro hff (And.intro hset (And.intro hl ft)))))
  refine Run.go ?_
  refine End.kp [0, 1, 3, 9, 11, 12, 13] ?_
  refine Run.seq ?_
  refine Run.cond _ rfl (fun hb => ?_) (fun hb => ?_)
  · have hb2 := of_decide_eq_true hb
    have hin : i < n := by omega
    have wi := nsucc hin (by omega)
    obtain ⟨r0, r1⟩ := nextV_range l a1 (4 - 1 + 1) (by omega)
    refine Run.skip ?_
    refine End.kp [0, 1, 3, 9, 11, 12] ?_
    refine Run.seq ?_
    refine Run.block ?_
    refine Run.seq ?_
    have fx := And.intro wi (And.intro (@Int.toNat_natCast) (And.intro (@Int.natCast_nonneg) (And.intro (@Nat.zero_add) (And.intro hff (And.intro hset (And.intro hl ft))))))
    refine Run.go ?_
    refine End.kp [0, 1, 3, 9, 10, 11, 12] ?_
    refine Run.seq ?_
    refine Run.seq ?_
    refine Run.region rfl fun K hK => GOps.sim ?_
    refine GOps.call rfl rfl rfl rfl (by kernel_rfl) (ACalls.sim ?_)
    refine (Range_ok 1 4 (by omega) (by omega) (by omega) l a1 hs1 (by omega) _ (d + 2) j (hset _)).mono fun v u hv => ?_
    obtain ⟨rfl, rfl⟩ := hv
    obtain ⟨k, hk⟩ : ∃ k : Nat, 1 + nextV l a1 (4 - 1 + 1) = (k : Int) := ⟨(1 + nextV l a1 (4 - 1 + 1)).toNat, by omega⟩
    rw [hk]
    have hk1 : 1 ≤ k := by omega
    have hk4 : k ≤ 4 := by omega
    have fx := And.intro wi (And.intro (@Int.toNat_natCast) (And.intro (@Int.natCast_nonneg) (And.intro (@Nat.zero_add) (And.intro hff (And.intro hset (And.intro hl ft))))))
    refine ⟨_, _, rfl, GOps.sim ?_⟩
    refine GOps.done (hK _ ?_); clear hK K
    refine End.kp [0, 1, 3, 9, 10, 11, 12, 16, 17] ?_
    refine Run.block ?_
    obtain ⟨lo, hlo⟩ : ∃ lo, lo = AObj.vec 22 g (cellsM (rs.map ints)) :: rowsM 3 (rs.map ints) := ⟨_, rfl⟩
    have hll : lo.length = 1 + i := by rw [hlo, List.length_cons, rowsM_len, List.length_map, hrl, Nat.add_comm]
    change Run _ _ _ _ _ (⟨_, AObj.vec 22 g (cellsM (rs.map ints)) :: rowsM 3 (rs.map ints), _⟩ : ASt)
    rw [← hlo]
    refine Run.ghost (Ghost.thaw (u := 10) 3 1 (by decide) rfl) ?_
    change Run _ _ _ _ _ (⟨_, lo ++ [.row 3 1 [] 0], _⟩ : ASt)
    refine Run.ghost (keepL [(0, .ptr (d + 2) j 0), (1, .i (vars : Nat)), (3, .i 4), (9, .vs 0 0 0 i g), (10, .ms 0 lo.length 0), (11, .i (n : Nat)), (12, .i (i : Nat)), (16, .i (k : Nat)), (17, .i (0 : Nat))] ⟨rfl, rfl, rfl, rfl, rfl, rfl, rfl, rfl, rfl, trivial⟩) ?_
    rw [hll]
    refine Run.loop (fun m st => ∃ (q : Nat) (c : List Int) (a2 : Int), m = k - q ∧ q ≤ k ∧ (c.length = q ∧ (∀ x ∈ c, LitOk vars x) ∧ a2 = a1 + 1 + 2 * q) ∧ st = ⟨[(0, .ptr (d + 2) j 0), (1, .i (vars : Nat)), (3, .i 4), (9, .vs 0 0 0 i g), (10, .ms 0 (1 + i) c.length), (11, .i (n : Nat)), (12, .i (i : Nat)), (16, .i (k : Nat)), (17, .i (q : Nat))], lo ++ [.row 3 1 (ints c) 0], [] :: fset up d j (stm l a2)⟩) k ⟨0, [], a1 + 1, rfl, by omega, ⟨rfl, fun x hx => by simp at hx, by omega⟩, rfl⟩ fun m st hJ => ?_
    obtain ⟨q, c, a2, hm, hq, ⟨hcl, hlo2, ha3⟩, rfl⟩ := hJ
    subst m
    have hs2 : StmOk l a2 := ⟨hs.vals, hs.len, by have := hs.pos; omega, by omega⟩
    have hs3 : StmOk l (a2 + 1) := ⟨hs.vals, hs.len, by have := hs.pos; omega, by omega⟩
    have hgr : (lo ++ [AObj.row 3 1 (ints c) 0])[1 + i]? = some (.row 3 1 (ints c) 0) := by rw [← hll]; simp
    have hicl : (ints c).length = c.length := by simp
    have hap : (c.length + 1) * 8 ≤ 140737488355328 := by omega
    refine Run.seq ?_
    have fx := And.intro hap (And.intro hicl (And.intro hgr (And.intro wi (And.intro (@Int.toNat_natCast) (And.intro (@Int.natCast_nonneg) (And.intro (@Nat.zero_add) (And.intro hff (And.intro hset (And.intro hl ft)))))))))
    refine Run.go ?_
    refine End.kp [0, 1, 3, 9, 10, 11, 12, 16, 17, 18] ?_
    refine Run.seq ?_
    refine Run.cond _ rfl (fun hb => ?_) (fun hb => ?_)
    · have hb3 := of_decide_eq_true hb
      have hqk : q < k := by omega
      have wq := nsucc hqk (by omega)
      obtain ⟨n0, n1⟩ := nextV_range l a2 (vars : Int) (by omega)
      obtain ⟨b0, b1⟩ := nextV_range l (a2 + 1) 2 (by omega)
      obtain ⟨nv, hnv⟩ : ∃ nv, nv = nextV l a2 (vars : Int) := ⟨_, rfl⟩
      obtain ⟨bv, hbv⟩ : ∃ bv, bv = nextV l (a2 + 1) 2 := ⟨_, rfl⟩
      rw [← hnv] at n0 n1
      rw [← hbv] at b0 b1
      have x1 : IntKind.i64.wrap (1 + nv) = 1 + nv := wrap64 (by omega)
      have x2 : IntKind.i64.wrap (2 * bv) = 2 * bv := wrap64 (by omega)
      have x3 : IntKind.i64.wrap (1 - 2 * bv) = 1 - 2 * bv := wrap64 (by omega)
      have hx : ∃ x : Int, (1 + nv) * (1 - 2 * bv) = x ∧ LitOk vars x := by
        refine ⟨_, rfl, ?_⟩
        have : bv = 0 ∨ bv = 1 := by omega
        rcases this with h | h
        · rw [h, Int.mul_zero, Int.sub_zero, Int.mul_one]; exact ⟨by omega, by omega⟩
        · rw [h, show (1 : Int) - 2 * 1 = -1 by omega, Int.mul_neg, Int.mul_one]; exact ⟨by omega, by omega⟩
      obtain ⟨x, hx1, hx2⟩ := hx
      have x4 : IntKind.i64.wrap ((1 + nv) * (1 - 2 * bv)) = x := by rw [hx1]; have := hx2.2; exact wrap64 (by omega)
      refine Run.skip ?_
      refine End.kp [0, 1, 3, 9, 10, 11, 12, 16, 17] ?_
      refine Run.seq ?_
      refine Run.block ?_
      have fx := And.intro x4 (And.intro x3 (And.intro x2 (And.intro x1 (And.intro wq (And.intro hap (And.intro hicl (And.intro hgr (And.intro wi (And.intro (@Int.toNat_natCast) (And.intro (@Int.natCast_nonneg) (And.intro (@Nat.zero_add) (And.intro hff (And.intro hset (And.intro hl ft))))))))))))))
      refine Run.region rfl fun K hK => GOps.simK 3 ?_
      refine GOps.call rfl rfl rfl rfl (by kernel_rfl) (ACalls.sim ?_)
      refine (Next_ok l a2 (vars : Int) hs2 (by constructor <;> omega) _ (d + 2) j (hset _)).mono fun v u hv => ?_
      obtain ⟨rfl, rfl⟩ := hv
      rw [← hnv]
      refine ⟨_, _, rfl, GOps.simK 2 ?_⟩
      refine GOps.call rfl rfl rfl rfl (by kernel_rfl) (ACalls.sim ?_)
      refine (Next_ok l (a2 + 1) 2 hs3 (by constructor <;> omega) _ (d + 2) j (hset _)).mono fun v u hv => ?_
      obtain ⟨rfl, rfl⟩ := hv
      rw [← hbv]
      refine ⟨_, _, rfl, GOps.simK 3 ?_⟩
      refine GOps.litF (rows := [[.int .i64 x]]) ?_ rfl rfl (by simp only [litF, fx] <;> rfl)
      refine GOps.sim ?_
      refine GOps.done (hK _ ?_); clear hK K
      refine End.blk ?_
      refine End.kp [0, 1, 3, 9, 10, 11, 12, 16, 17] ?_
      have fx := And.intro x4 (And.intro x3 (And.intro x2 (And.intro x1 (And.intro wq (And.intro hap (And.intro hicl (And.intro hgr (And.intro wi (And.intro (@Int.toNat_natCast) (And.intro (@Int.natCast_nonneg) (And.intro (@Nat.zero_add) (And.intro hff (And.intro hset (And.intro hl ft))))))))))))))
      refine Run.go ?_
      refine End.lp ?_
      refine ⟨k - (q + 1), _, by omega, keepL [(0, .ptr (d + 2) j 0), (1, .i (vars : Nat)), (3, .i 4), (9, .vs 0 0 0 i g), (10, .ms 0 (1 + i) (c.length + 1)), (11, .i (n : Nat)), (12, .i (i : Nat)), (16, .i (k : Nat)), (17, .i (q + 1 : Nat))] ⟨rfl, rfl, rfl, rfl, rfl, rfl, rfl, rfl, rfl, trivial⟩, q + 1, c ++ [x], a2 + 1 + 1, rfl, by omega, ⟨by simp; omega, fun y hy => ?_, by omega⟩, ?_⟩
      · rcases List.mem_append.1 hy with h | h
        · exact hlo2 y h
        · rw [List.mem_singleton.1 h]; exact hx2
      · have e : (lo ++ [AObj.row 3 1 (ints c) 0]).set (1 + i) (.row 3 1 (ints c ++ [[Im.int .i64 x]]) 0) = lo ++ [.row 3 1 (ints (c ++ [x])) 0] := by
          rw [List.set_append_right _ _ (by omega), hll, Nat.sub_self]
          simp
        rw [← e, List.length_append]
        rfl
    · have hb3 := of_decide_eq_false hb
      have hqk : q = k := by omega
      have lit2 : (lo ++ [AObj.row 3 1 (ints c) 0]).length = i + 2 := by rw [List.length_append, hll]; simp; omega
      have lit0 : ∀ X : AObj, (lo ++ [AObj.row 3 1 (ints c) 0, X])[0]? = some (.vec 22 g (cellsM (rs.map ints))) := fun X => by rw [hlo]; rfl
      have lit1 : ∀ X : AObj, (lo ++ [AObj.row 3 1 (ints c) 0, X])[i + 2]? = some X := fun X => by
        rw [show lo ++ [AObj.row 3 1 (ints c) 0, X] = lo ++ [AObj.row 3 1 (ints c) 0] ++ [X] by simp, ← lit2]
        simp
      have hap2 : (i + 1) * 24 ≤ 140737488355328 := by omega
      have hct : (cellsM (rs.map ints)).take i = cellsM (rs.map ints) := List.take_of_length_le (by rw [cellsM_len, List.length_map]; omega)
      have hd0 : PV.downN 0 (.ms 0 (1 + i) c.length) = some (.ms 0 (1 + i) c.length) := rfl
      refine Run.exit rfl ?_
      refine End.kp [0, 1, 3, 9, 10, 11, 12] ?_
      have fx := And.intro hd0 (And.intro hct (And.intro hap2 (And.intro lit2 (And.intro lit1 (And.intro lit0 (And.intro hap (And.intro hicl (And.intro hgr (And.intro wi (And.intro (@Int.toNat_natCast) (And.intro (@Int.natCast_nonneg) (And.intro (@Nat.zero_add) (And.intro hff (And.intro hset (And.intro hl ft)))))))))))))))
      refine Run.region rfl fun K hK => GOps.simK 2 ?_
      refine GOps.litVec rfl (by simp only [litW, fx] <;> rfl) ?_
      refine GOps.sim ?_
      refine GOps.done (hK _ ?_); clear hK K
      obtain ⟨Y, hY⟩ : ∃ Y, Y = AObj.vec 22 (g + 1) (cellsM ((rs ++ [c]).map ints)) :: rowsM 3 ((rs ++ [c]).map ints) := ⟨_, rfl⟩
      have hYe : (lo ++ [AObj.row 3 1 (ints c) 0, .vec 22 0 [.ms 0 (1 + i) c.length]]).set 0 (.vec 22 (g + 1) (cellsM (rs.map ints) ++ [.ms 0 (1 + i) c.length])) = Y ++ [.vec 22 0 [.ms 0 (1 + i) c.length]] := by
        rw [hlo, hY, List.map_append, List.map_cons, List.map_nil, cellsM_snoc, rowsM_snoc, List.length_map, hrl, hicl]
        simp
      have hYl : Y.length = i + 2 := by rw [hY, List.length_cons, rowsM_len]; simp; omega
      rw [hYe]
      refine End.blk ?_
      refine End.kp [0, 1, 3, 9, 11, 12] ?_
      have fx := And.intro hd0 (And.intro hct (And.intro hap2 (And.intro lit2 (And.intro lit1 (And.intro lit0 (And.intro hap (And.intro hicl (And.intro hgr (And.intro wi (And.intro (@Int.toNat_natCast) (And.intro (@Int.natCast_nonneg) (And.intro (@Nat.zero_add) (And.intro hff (And.intro hset (And.intro hl ft)))))))))))))))
      refine Run.go ?_
      refine End.lp ?_
      refine ⟨n - (i + 1), _, by omega, Ghost.cut (e := [(0, .ptr (d + 2) j 0), (1, .i (vars : Nat)), (3, .i 4), (9, .vs 0 0 0 (i + 1) (g + 1)), (11, .i (n : Nat)), (12, .i (i + 1 : Nat))]) (L := Y) (o := [.vec 22 0 [.ms 0 (1 + i) c.length]]) ⟨rfl, rfl, rfl, rfl, rfl, rfl, trivial⟩ (by rw [hYl]; simp only [List.map_cons, List.map_nil, unders, PV.under, Bool.and_true, Bool.true_and, decide_eq_true_eq]; omega) (by rw [hY]; exact grid_under _ _ _ _ (by rw [← hY, hYl]; simp; omega)), i + 1, rs ++ [c], a2, g + 1, rfl, by omega, ⟨by simp; omega, fun y hy => ?_, by omega, by omega⟩, by rw [hY]⟩
      rcases List.mem_append.1 hy with h | h
      · exact hsh y h
      · rw [List.mem_singleton.1 h]; exact ⟨by omega, by omega, hlo2⟩
  · have hb2 := of_decide_eq_false hb
    have hie : i = n := by omega
    subst hie
    refine Run.exit rfl ?_
    refine End.kp [9] ?_
    refine Run.seq ?_
    have fx := And.intro (@Int.toNat_natCast) (And.intro (@Int.natCast_nonneg) (And.intro (@Nat.zero_add) (And.intro hff (And.intro hset (And.intro hl ft)))))
    refine Run.go ?_
    refine End.kp [8] ?_
    refine Run.ret (hQ _ _ ⟨.inr rfl, _, rfl, _, _, rfl, ?_⟩)
    refine ⟨rs, a1, g, rfl, ?_, hrl, hsh, ha1, ha2⟩
    show ([] ++ (AObj.vec 22 g (cellsM (rs.map ints)) :: rowsM 3 (rs.map ints)).map (AObj.mg 0)) :: _ = _
    rw [mg_grid]
    rfl
end Go.Proofs.YtdgpmopcmacicaaPi

