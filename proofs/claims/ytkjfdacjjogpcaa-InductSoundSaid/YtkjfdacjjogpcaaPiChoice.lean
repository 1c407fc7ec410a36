/- A drawn statement with one call whose result is not told ahead: the operations before it and those that float (an alloc) stand first, the others wait for the call. No Go text in it. -/
import Derived.Test.YtkjfdacjjogpcaaPiSplit
set_option linter.unusedVariables false
set_option linter.unusedSimpArgs false
set_option linter.unusedSectionVars false
set_option maxRecDepth 100000
namespace Go.Proofs.YtkjfdacjjogpcaaPi
variable {P : Program}
def Apart (acts : Nat → Option Actn) (deps : List (List Nat)) (i j : Nat) : Prop := ∀ α β, acts i = some α → acts j = some β → i ∈ deps.getD j [] ∨ α.indep β
theorem min_mem : ∀ {l : List Nat}, l ≠ [] → ∃ i ∈ l, ∀ j ∈ l, i ≤ j
 | [], h => absurd rfl h
 | [x], _ => ⟨x, by simp, fun j hj => by simp at hj; omega⟩
 | x :: y :: l, _ => by
  obtain ⟨i, h1, h2⟩ := min_mem (l := y :: l) (by simp)
  by_cases e : x ≤ i
  ·exact ⟨x, by simp, fun j hj => by
    rcases List.mem_cons.1 hj with rfl | hj
    ·exact Nat.le_refl _
    ·have := h2 j hj; omega⟩
  ·exact ⟨i, List.mem_cons_of_mem _ h1, fun j hj => by
    rcases List.mem_cons.1 hj with rfl | hj
    ·omega
    ·exact h2 j hj⟩
theorem least_ready {ops : Array Oper} {deps : List (List Nat)} (hd : depsOk ops deps = true) {listed : Array Bool} {rem : List Nat} (hsz : listed.size = ops.size) (hrem : ∀ i, i ∈ rem ↔ i < ops.size ∧ listed.getD i true = false) (hnil : Region.ready .any ops listed = []) : rem = [] := by
 by_cases hr : rem = []
 ·exact hr
 ·exfalso
  obtain ⟨i, hi, hmin⟩ := min_mem hr
  obtain ⟨h1, h2⟩ := (hrem i).1 hi
  have : i ∈ Region.ready .any ops listed := by
   rw [ready_memS]
   refine ⟨h1, h2, ops[i], Array.getElem?_eq_getElem h1, fun e he hb => ?_⟩
   obtain ⟨ds, _, _, h3⟩ := depsOk_at hd (Array.getElem?_eq_getElem h1)
   have hlt := h3 e he hb
   have hel : e.on < listed.size := by omega
   rw [Array.getD_eq_getD_getElem?, Array.getElem?_eq_getElem hel, Option.getD_some]
   cases hv : listed[e.on] with
   | true => rfl
   | false =>
    have h5 := hmin e.on ((hrem e.on).2 ⟨by omega, by rw [Array.getD_eq_getD_getElem?, Array.getElem?_eq_getElem hel, Option.getD_some]; exact hv⟩)
    omega
  rw [hnil] at this
  simp at this
theorem draw_ord {n : Nat} {ops : Array Oper} {acts : Nat → Option Actn} {deps : List (List Nat)} (hd : depsOk ops deps = true)
  (hexe : ∀ (i : Nat) (o : Oper) (α : Actn), ops[i]? = some o → acts i = some α → Exe P n ops o α)
  {Q : Exit → ASt → Prop} {sf : ASt} (hQ : Q .normal sf) {F0 : Fz} {bs0 : Bns} {s0 : ASt} {w0 : World} :
  ∀ (fuel : Nat) (listed : Array Bool) (rem : List Nat) (s : ASt) (F : Fz) (bs : Bns) (a : Act) (w : World), listed.size = ops.size → rem.length ≤ fuel →
   (∀ i, i ∈ rem ↔ i < ops.size ∧ listed.getD i true = false) → rem.Nodup → (∀ i ∈ rem, ∃ α, acts i = some α) → rem.Pairwise (Apart acts deps) → (∀ k, k < ops.size → listed.getD k true = true → ∀ d ∈ deps.getD k [], listed.getD d true = true) →
   Chain (rem.filterMap acts) s → (fin (rem.filterMap acts) s).eqv sf → ARel n F bs s a w → AStep F0 bs0 s0 w0 F bs s w → wpAny P .any ops (APost n F0 bs0 s0 w0 Q) fuel listed a w := by
 have fin_ok : ∀ (F : Fz) (bs : Bns) (s : ASt) (a : Act) (w : World), s.eqv sf → ARel n F bs s a w → AStep F0 bs0 s0 w0 F bs s w → APost n F0 bs0 s0 w0 Q .normal a w := fun F bs s a w he hr hs => by
  have hup : s.up = sf.up := by have := he.2; simp only [ASt.fr, List.cons.injEq] at this; exact this.2
  exact ⟨sf, F, bs, hQ, hr.eqv he, hs.le, by rw [← hup]; exact hs.ev, hs.keeps, by rw [← he.2]; exact hs.owns⟩
 have ready_mem := ready_memS (ops := ops)
 intro fuel
 induction fuel with
 | zero =>
  intro listed rem s F bs a w hsz hfuel hrem hnd hact hsort hclosed hch hfin hr hs
  have hrn : rem = [] := List.eq_nil_of_length_eq_zero (by omega)
  subst hrn
  refine ⟨?_, fin_ok F bs s a w hfin hr hs⟩
  cases hready : Region.ready .any ops listed with
  | nil => rfl
  | cons i l =>
   have hm : i ∈ Region.ready .any ops listed := by rw [hready]; exact List.mem_cons_self
   rw [ready_mem] at hm
   have := (hrem i).2 ⟨hm.1, hm.2.1⟩
   simp at this
 | succ fuel ih =>
  intro listed rem s F bs a w hsz hfuel hrem hnd hact hsort hclosed hch hfin hr hs
  refine ⟨fun hnil => ?_, fun i hi => ?_⟩
  ·have hrn := least_ready hd hsz hrem hnil
   subst hrn
   exact fin_ok F bs s a w hfin hr hs
  ·rw [ready_mem] at hi
   obtain ⟨h1, h2, o, ho, h3⟩ := hi
   have him : i ∈ rem := (hrem i).2 ⟨h1, h2⟩
   obtain ⟨l1, l2, rfl⟩ := List.append_of_mem him
   obtain ⟨α, hα⟩ := hact i him
   obtain ⟨ds, hds, hdd, _⟩ := depsOk_at hd ho
   have hdeps : ∀ d ∈ deps.getD i [], listed.getD d true = true := by
    intro d hdm
    rw [List.getD_eq_getElem?_getD, hds, Option.getD_some] at hdm
    obtain ⟨hlt, hor⟩ := hdd d hdm
    rcases hor with ⟨e, he, rfl, hb⟩ | ⟨e, he, hb, hm⟩
    ·have := h3 e he hb
     rw [Array.getD_eq_getD_getElem?] at this ⊢
     rw [Array.getElem?_eq_getElem (by omega)] at this ⊢
     exact this
    ·have h4 := h3 e he hb
     have hel : e.on < listed.size := by
      rw [Array.getD_eq_getD_getElem?] at h4
      by_cases hh : e.on < listed.size
      ·exact hh
      ·rw [Array.getElem?_eq_none (by omega)] at h4; simp at h4
     refine hclosed e.on (by omega) ?_ d hm
     rw [Array.getD_eq_getD_getElem?] at h4 ⊢
     rw [Array.getElem?_eq_getElem hel] at h4 ⊢
     exact h4
   have hsplit := List.pairwise_append.1 hsort
   have hcons := List.pairwise_cons.1 hsplit.2.1
   have hnd1 := List.nodup_append.1 hnd
   have hnd2 := List.nodup_cons.1 hnd1.2.1
   have hfm : (l1 ++ i :: l2).filterMap acts = l1.filterMap acts ++ α :: l2.filterMap acts := by
    rw [List.filterMap_append, List.filterMap_cons, hα]
   rw [hfm] at hch hfin
   have hind : ∀ β ∈ l1.filterMap acts, β.indep α := by
    intro β hβ
    obtain ⟨k, hk, hk2⟩ := List.mem_filterMap.1 hβ
    have hlt := hsplit.2.2 k hk i List.mem_cons_self
    rcases hlt β α hk2 hα with h5 | h5
    ·have := hdeps k h5
     have h6 := (hrem k).1 (List.mem_append_left _ hk)
     rw [this] at h6
     simp at h6
    ·exact h5
   obtain ⟨k1, k2, k3⟩ := Chain.extract hind hch
   have hwp := hexe i o α ho hα s k1 F bs a w hr (wpAny P .any ops (APost n F0 bs0 s0 w0 Q) fuel (listed.setIfInBounds i true)) (APost n F0 bs0 s0 w0 Q) (fun F' bs' a' w' hr' hs' => by
    have hilt : i < listed.size := by omega
    have hget : ∀ k, (listed.setIfInBounds i true).getD k true = if k = i then true else listed.getD k true := by
     intro k
     rw [Array.getD_eq_getD_getElem?, Array.getD_eq_getD_getElem?, Array.getElem?_setIfInBounds]
     by_cases e : i = k
     ·subst e; simp [hilt]
     ·rw [if_neg e, if_neg (fun h => e h.symm)]
    refine ih (listed.setIfInBounds i true) (l1 ++ l2) (α.app s) F' bs' a' w' (by simpa using hsz) (by simp at hfuel ⊢; omega) (fun k => ?_) ?_ (fun k hk => hact k ?_) ?_ ?_ ?_ ?_ hr' (hs.trans hs')
    ·rw [hget]
     have hk := hrem k
     constructor
     ·intro hm
      have hm2 : k ∈ l1 ++ i :: l2 := by
       rcases List.mem_append.1 hm with h | h
       ·exact List.mem_append_left _ h
       ·exact List.mem_append_right _ (List.mem_cons_of_mem _ h)
      obtain ⟨h5, h6⟩ := hk.1 hm2
      refine ⟨h5, ?_⟩
      have hne : k ≠ i := by
       rintro rfl
       rcases List.mem_append.1 hm with h | h
       ·exact hnd1.2.2 k h k List.mem_cons_self rfl
       ·exact hnd2.1 h
      rw [if_neg hne]
      exact h6
     ·rintro ⟨h5, h6⟩
      split at h6
      ·simp at h6
      ·rename_i hne
       have hm := hk.2 ⟨h5, h6⟩
       rcases List.mem_append.1 hm with h | h
       ·exact List.mem_append_left _ h
       ·rcases List.mem_cons.1 h with h | h
        ·exact absurd h hne
        ·exact List.mem_append_right _ h
    ·exact List.nodup_append.2 ⟨hnd1.1, hnd2.2, fun x hx y hy => hnd1.2.2 x hx y (List.mem_cons_of_mem _ hy)⟩
    ·rcases List.mem_append.1 hk with h | h
     ·exact List.mem_append_left _ h
     ·exact List.mem_append_right _ (List.mem_cons_of_mem _ h)
    ·refine List.pairwise_append.2 ⟨hsplit.1, hcons.2, fun x hx y hy => hsplit.2.2 x hx y (List.mem_cons_of_mem _ hy)⟩
    ·intro k hk hlk d hdm
     rw [hget] at hlk ⊢
     split
     ·rfl
     ·split at hlk
      ·rename_i e; subst e; exact hdeps d hdm
      ·exact hclosed k hk hlk d hdm
    ·rw [List.filterMap_append]; exact k2
    ·rw [List.filterMap_append]; exact k3.symm.trans hfin)
   unfold wpOp
   rw [ho]
   exact hwp

def ExeC {V : Type} (P : Program) (n : Nat) (ops : Array Oper) (o : Oper) (β : V → Actn) (R : V → Prop) : Prop :=
 ∀ s, (∀ v, (β v).ok s) → ∀ F bs a w, ARel n F bs s a w → ∀ (next : Act → World → Prop) (Q : Exit → Act → World → Prop),
  (∀ v, R v → ∀ F' bs' a' w', ARel n F' bs' ((β v).app s) a' w' → AStep F bs s w F' bs' ((β v).app s) w' → next a' w') →
  if Region.wanted o (yielded ops a.tmps) then o.wp P a w next Q ∨ (o.asks P a w ∧ LetsOut Q) else next (a.put o.dst undef) w
def GExeC {V : Type} (P : Program) (n : Nat) (g : GO) (β : V → Actn) (R : V → Prop) : Prop := ∀ ops o, goOf ops o = some g → ExeC P n ops o β R
theorem exe_callC {V : Type} (val : V → PV) (R : V → Prop) (v0 : V) {n : Nat} {st : ASt} {g : GO} {rd ws : List (Ref × AObj)} {f : Operand} {args : Array Operand} {ts : Array TypeId} {fid : FuncId} {cap xs : List PV}
  (hop : g.op = .call { callee := .value f, args, argTypes := ts }) (hg : guardA st.env g.guard = some true) (hf : evalPV st f = some (.fn fid cap)) (hx : evalsPV st args.toList = some xs) (hd : okDst n g.dst = true) (hb : bodyB P fid = true)
  (h : ∀ u, Agree rd u → ACalls P fid (xs ++ cap) u fun pv fr' => ∃ v, R v ∧ pv = val v ∧ fr' = wr u ws) : GExeC P n g (fun v => actOf st g (val v) rd ws) R := fun ops o ho s hs F bs a w hr next Q hn => by
 obtain ⟨h3, h4, h5⟩ := goOf_guard ho s.env
 obtain ⟨hsee, hgd, hag⟩ := actOf_sees (hs v0)
 rw [if_pos (wantedA_ok hr (h3.trans (guard_local hgd hg)))]
 refine .inl ?_
 have e1 : evalPV s f = some (.fn fid cap) := hsee.ev (by rw [hop]; simp [opndsO]) hf
 have e2 : evalsPV s args.toList = some xs := hsee.evs (fun x hx => by rw [hop]; simp only [opndsO]; exact List.mem_cons_of_mem _ hx) hx
 have hfv := evalPV_rel hr e1
 simp only [VRel] at hfv
 obtain ⟨cv, hfv, hcap⟩ := hfv
 have hargs := evalsPV_rel hr e2
 have hall : VRels F bs s.fr (xs ++ cap) ((args.map a.eval) ++ cv).toList := by
  simp only [Array.toList_append, Array.toList_map]
  exact hargs.append hcap
 have hcalls := h s.fr hag F bs w _ hr.mem hall
 have hrun : (execOp a.eval o).run P w = .ok (.enter fid ((args.map a.eval) ++ cv)) w := by
  simp only [execOp, ← h5, hop, resolve, hfv, Deferred.ofValue, Sem.run_bind, Sem.run_pure, Result.andThen_ok, invoke, Array.empty_append]
  exact run_callFunc_body hb _ w
 unfold Oper.wp
 rw [hrun]
 refine hcalls.mono ?_
 rintro e w' ⟨v', pv, F', bs', up', rfl, ⟨v, hR, rfl, rfl⟩, h6, h7, h8⟩
 have hset : (s.setFr (wr s.fr ws)).fr = wr s.fr ws := setFr_wr s ws
 obtain ⟨h9, h10⟩ := hr.step (st1 := s.setFr (wr s.fr ws)) (by rw [hset]; exact h6) (by rw [hset]; exact h8) (ASt.setFr_env _ _)
 have hp := h9.put (x := val v) (v := v') (dst := o.dst) (by rw [← h4]; exact hd) (by rw [hset]; exact h7)
 have e : (s.setFr (wr s.fr ws)).put o.dst (val v) = (actOf st g (val v) rd ws).app s := by rw [Actn.app, ← h4]; rfl
 refine hn v hR F' bs' _ w' (by rw [← e]; exact hp) ?_
 rw [← e]
 cases o.dst with
 | none => exact h10
 | some t => exact ⟨h10.le, h10.ev, h10.keeps, h10.owns⟩


theorem listed_set {ops : Array Oper} {listed : Array Bool} {i : Nat} (hsz : listed.size = ops.size) (h1 : i < ops.size) (k : Nat) : (listed.setIfInBounds i true).getD k true = if k = i then true else listed.getD k true := by
 rw [Array.getD_eq_getD_getElem?, Array.getD_eq_getD_getElem?, Array.getElem?_setIfInBounds]
 by_cases e : i = k
 ·subst e; simp [hsz, h1]
 ·rw [if_neg e, if_neg (fun h => e h.symm)]
theorem rem_next {ops : Array Oper} {listed : Array Bool} {l1 l2 : List Nat} {i : Nat} (hsz : listed.size = ops.size) (h1 : i < ops.size) (hnd : (l1 ++ i :: l2).Nodup) (hrem : ∀ k, k ∈ l1 ++ i :: l2 ↔ k < ops.size ∧ listed.getD k true = false) (k : Nat) : k ∈ l1 ++ l2 ↔ k < ops.size ∧ (listed.setIfInBounds i true).getD k true = false := by
 have hnd1 := List.nodup_append.1 hnd
 have hnd2 := List.nodup_cons.1 hnd1.2.1
 rw [listed_set hsz h1]
 have hk := hrem k
 constructor
 ·intro hm
  have hm2 : k ∈ l1 ++ i :: l2 := by
   rcases List.mem_append.1 hm with h | h
   ·exact List.mem_append_left _ h
   ·exact List.mem_append_right _ (List.mem_cons_of_mem _ h)
  obtain ⟨h5, h6⟩ := hk.1 hm2
  refine ⟨h5, ?_⟩
  have hne : k ≠ i := by
   rintro rfl
   rcases List.mem_append.1 hm with h | h
   ·exact hnd1.2.2 k h k List.mem_cons_self rfl
   ·exact hnd2.1 h
  rw [if_neg hne]
  exact h6
 ·rintro ⟨h5, h6⟩
  split at h6
  ·simp at h6
  ·rename_i hne
   have hm := hk.2 ⟨h5, h6⟩
   rcases List.mem_append.1 hm with h | h
   ·exact List.mem_append_left _ h
   ·rcases List.mem_cons.1 h with h | h
    ·exact absurd h hne
    ·exact List.mem_append_right _ h
theorem nodup_less {l1 l2 : List Nat} {i : Nat} (hnd : (l1 ++ i :: l2).Nodup) : (l1 ++ l2).Nodup := by
 have hnd1 := List.nodup_append.1 hnd
 have hnd2 := List.nodup_cons.1 hnd1.2.1
 exact List.nodup_append.2 ⟨hnd1.1, hnd2.2, fun x hx y hy => hnd1.2.2 x hx y (List.mem_cons_of_mem _ hy)⟩
theorem pair_less {R : Nat → Nat → Prop} {l1 l2 : List Nat} {i : Nat} (h : (l1 ++ i :: l2).Pairwise R) : (l1 ++ l2).Pairwise R ∧ (∀ k ∈ l1, R k i) := by
 have hsplit := List.pairwise_append.1 h
 have hcons := List.pairwise_cons.1 hsplit.2.1
 exact ⟨List.pairwise_append.2 ⟨hsplit.1, hcons.2, fun x hx y hy => hsplit.2.2 x hx y (List.mem_cons_of_mem _ hy)⟩, fun k hk => hsplit.2.2 k hk i List.mem_cons_self⟩
theorem fm_split {acts : Nat → Option Actn} {l1 l2 : List Nat} {i : Nat} {α : Actn} (h : acts i = some α) : (l1 ++ i :: l2).filterMap acts = l1.filterMap acts ++ α :: l2.filterMap acts := by
 rw [List.filterMap_append, List.filterMap_cons, h]
theorem fm_congr {α : Type} {f g : Nat → Option α} : ∀ {l : List Nat}, (∀ k ∈ l, f k = g k) → l.filterMap f = l.filterMap g
 | [], _ => rfl
 | x :: l, h => by rw [List.filterMap_cons, List.filterMap_cons, h x (by simp), fm_congr fun k hk => h k (List.mem_cons_of_mem _ hk)]
theorem draw_choice {n : Nat} {ops : Array Oper} {V : Type} (v0 : V) {acts : V → Nat → Option Actn} {R : V → Prop} {β : V → Actn} {deps : List (List Nat)} {c : Nat} {ord2 : List Nat} (hd : depsOk ops deps = true)
  (hexe : ∀ v (i : Nat) (o : Oper) (α : Actn), i ≠ c → ops[i]? = some o → acts v i = some α → Exe P n ops o α) (hβ : ∀ v, acts v c = some (β v)) (hexc : ∀ o, ops[c]? = some o → ExeC P n ops o β R) (h2 : ∀ i ∈ ord2, c ∈ deps.getD i [])
  {Q : Exit → ASt → Prop} {sf : V → ASt} (hQ : ∀ v, R v → Q .normal (sf v)) {F0 : Fz} {bs0 : Bns} {s0 : ASt} {w0 : World} :
  ∀ (fuel : Nat) (listed : Array Bool) (rem1 : List Nat) (s : ASt) (F : Fz) (bs : Bns) (a : Act) (w : World), listed.size = ops.size → (rem1 ++ c :: ord2).length ≤ fuel →
   (∀ i, i ∈ rem1 ++ c :: ord2 ↔ i < ops.size ∧ listed.getD i true = false) → (rem1 ++ c :: ord2).Nodup → (∀ i ∈ rem1, ∀ v, acts v i = acts v0 i) → (∀ v, ∀ i ∈ rem1 ++ c :: ord2, ∃ α, acts v i = some α) → (∀ v, (rem1 ++ c :: ord2).Pairwise (Apart (acts v) deps)) → (∀ k, k < ops.size → listed.getD k true = true → ∀ d ∈ deps.getD k [], listed.getD d true = true) →
   (∀ v, Chain ((rem1 ++ c :: ord2).filterMap (acts v)) s ∧ (fin ((rem1 ++ c :: ord2).filterMap (acts v)) s).eqv (sf v)) → ARel n F bs s a w → AStep F0 bs0 s0 w0 F bs s w → wpAny P .any ops (APost n F0 bs0 s0 w0 Q) fuel listed a w := by
 intro fuel
 induction fuel with
 | zero =>
  intro listed rem1 s F bs a w hsz hfuel
  simp at hfuel
 | succ fuel ih =>
  intro listed rem1 s F bs a w hsz hfuel hrem hnd hinv hact hpw hclosed hch hr hs
  refine ⟨fun hnil => ?_, fun i hi => ?_⟩
  ·have := least_ready hd hsz hrem hnil
   simp at this
  ·rw [ready_memS] at hi
   obtain ⟨h1, hli, o, ho, h3⟩ := hi
   have him : i ∈ rem1 ++ c :: ord2 := (hrem i).2 ⟨h1, hli⟩
   obtain ⟨ds, hds, hdd, _⟩ := depsOk_at hd ho
   have hdeps : ∀ d ∈ deps.getD i [], listed.getD d true = true := by
    intro d hdm
    rw [List.getD_eq_getElem?_getD, hds, Option.getD_some] at hdm
    obtain ⟨hlt, hor⟩ := hdd d hdm
    have ontrue : ∀ k, listed.getD k false = true → listed.getD k true = true ∧ k < listed.size := fun k hk => by
     by_cases hh : k < listed.size
     ·refine ⟨?_, hh⟩
      rw [Array.getD_eq_getD_getElem?, Array.getElem?_eq_getElem hh] at hk ⊢
      exact hk
     ·rw [Array.getD_eq_getD_getElem?, Array.getElem?_eq_none (by omega)] at hk; simp at hk
    rcases hor with ⟨e, he, rfl, hb⟩ | ⟨e, he, hb, hm⟩
    ·exact (ontrue _ (h3 e he hb)).1
    ·obtain ⟨h4, h5⟩ := ontrue _ (h3 e he hb)
     exact hclosed e.on (by omega) h4 d hm
   have closed' : ∀ k, k < ops.size → (listed.setIfInBounds i true).getD k true = true → ∀ d ∈ deps.getD k [], (listed.setIfInBounds i true).getD d true = true := by
    intro k hk hlk d hdm
    rw [listed_set hsz h1] at hlk ⊢
    split
    ·rfl
    ·split at hlk
     ·rename_i e; subst e; exact hdeps d hdm
     ·exact hclosed k hk hlk d hdm
   have waits : ∀ k ∈ rem1 ++ c :: ord2, k ∉ deps.getD i [] := fun k hk hm => by
    have := hdeps k hm
    rw [((hrem k).1 hk).2] at this
    simp at this
   rcases List.mem_append.1 him with hi1 | hi1
   ·-- one ahead of the call
    obtain ⟨l1, l2, rfl⟩ := List.append_of_mem hi1
    have e0 : (l1 ++ i :: l2) ++ c :: ord2 = l1 ++ i :: (l2 ++ c :: ord2) := by simp
    have e1 : (l1 ++ l2) ++ c :: ord2 = l1 ++ (l2 ++ c :: ord2) := by simp
    obtain ⟨α, hα⟩ := hact v0 i him
    have hαv : ∀ v, acts v i = some α := fun v => (hinv i hi1 v).trans hα
    have hic : i ≠ c := fun e => (List.nodup_append.1 hnd).2.2 i hi1 c List.mem_cons_self e
    rw [e0] at hrem hnd
    have ext : ∀ v, α.ok s ∧ Chain (((l1 ++ l2) ++ c :: ord2).filterMap (acts v)) (α.app s) ∧ (fin (((l1 ++ l2) ++ c :: ord2).filterMap (acts v)) (α.app s)).eqv (sf v) := fun v => by
     obtain ⟨hcv, hfv⟩ := hch v
     have hpv := hpw v
     rw [e0] at hpv
     obtain ⟨_, hp2⟩ := pair_less hpv
     rw [e0, fm_split (hαv v)] at hcv hfv
     obtain ⟨k1, k2, k3⟩ := Chain.extract (fun γ hγ => by
      obtain ⟨k, hk, hk2⟩ := List.mem_filterMap.1 hγ
      rcases hp2 k hk γ α hk2 (hαv v) with h5 | h5
      ·exact absurd h5 (waits k (by rw [e0]; exact List.mem_append_left _ hk))
      ·exact h5) hcv
     rw [e1, List.filterMap_append]
     exact ⟨k1, k2, k3.symm.trans hfv⟩
    have hwp := hexe v0 i o α hic ho hα s (ext v0).1 F bs a w hr (wpAny P .any ops (APost n F0 bs0 s0 w0 Q) fuel (listed.setIfInBounds i true)) (APost n F0 bs0 s0 w0 Q) (fun F' bs' a' w' hr' hs' => by
     refine ih (listed.setIfInBounds i true) (l1 ++ l2) (α.app s) F' bs' a' w' (by simpa using hsz) (by simp at hfuel ⊢; omega) (fun k => ?_) ?_ (fun k hk v => hinv k ?_ v) (fun v k hk => hact v k ?_) (fun v => ?_) closed' (fun v => (ext v).2) hr' (hs.trans hs')
     ·rw [e1]; exact rem_next hsz h1 hnd hrem k
     ·rw [e1]; exact nodup_less hnd
     ·rcases List.mem_append.1 hk with h | h
      ·exact List.mem_append_left _ h
      ·exact List.mem_append_right _ (List.mem_cons_of_mem _ h)
     ·rw [e1] at hk
      rw [e0]
      rcases List.mem_append.1 hk with h | h
      ·exact List.mem_append_left _ h
      ·exact List.mem_append_right _ (List.mem_cons_of_mem _ h)
     ·have hpv := hpw v
      rw [e0] at hpv
      rw [e1]; exact (pair_less hpv).1)
    unfold wpOp
    rw [ho]
    exact hwp
   ·rcases List.mem_cons.1 hi1 with rfl | hi2
    ·-- the call
     have ext : ∀ v, (β v).ok s ∧ Chain ((rem1 ++ ord2).filterMap (acts v)) ((β v).app s) ∧ (fin ((rem1 ++ ord2).filterMap (acts v)) ((β v).app s)).eqv (sf v) := fun v => by
      obtain ⟨hcv, hfv⟩ := hch v
      obtain ⟨_, hp2⟩ := pair_less (hpw v)
      rw [fm_split (hβ v)] at hcv hfv
      obtain ⟨k1, k2, k3⟩ := Chain.extract (fun γ hγ => by
       obtain ⟨k, hk, hk2⟩ := List.mem_filterMap.1 hγ
       rcases hp2 k hk γ (β v) hk2 (hβ v) with h5 | h5
       ·exact absurd h5 (waits k (List.mem_append_left _ hk))
       ·exact h5) hcv
      rw [List.filterMap_append]
      exact ⟨k1, k2, k3.symm.trans hfv⟩
     have hwp := hexc o ho s (fun v => (ext v).1) F bs a w hr (wpAny P .any ops (APost n F0 bs0 s0 w0 Q) fuel (listed.setIfInBounds i true)) (APost n F0 bs0 s0 w0 Q) (fun v hv F' bs' a' w' hr' hs' => by
      have hnc : ∀ k ∈ rem1 ++ ord2, k ≠ i := fun k hk e => by
       subst e
       rcases List.mem_append.1 hk with h | h
       ·exact (List.nodup_append.1 hnd).2.2 k h k List.mem_cons_self rfl
       ·exact (List.nodup_cons.1 (List.nodup_append.1 hnd).2.1).1 h
      refine draw_ord (acts := fun k => if k = i then none else acts v k) hd (fun k o' α' ho' ha => ?_) (hQ v hv) fuel (listed.setIfInBounds i true) (rem1 ++ ord2) ((β v).app s) F' bs' a' w' (by simpa using hsz) (by simp at hfuel ⊢; omega) (rem_next hsz h1 hnd hrem) (nodup_less hnd) (fun k hk => ?_) ?_ closed' ?_ ?_ hr' (hs.trans hs')
      ·by_cases e : k = i
       ·simp [e] at ha
       ·simp only [if_neg e] at ha
        exact hexe v k o' α' e ho' ha
      ·simp only [if_neg (hnc k hk)]
       refine hact v k ?_
       rcases List.mem_append.1 hk with h | h
       ·exact List.mem_append_left _ h
       ·exact List.mem_append_right _ (List.mem_cons_of_mem _ h)
      ·refine (pair_less (hpw v)).1.imp fun {x y} h α' β' hx hy => ?_
       have hx' : acts v x = some α' := by
        by_cases e : x = i
        ·simp [e] at hx
        ·simpa only [if_neg e] using hx
       have hy' : acts v y = some β' := by
        by_cases e : y = i
        ·simp [e] at hy
        ·simpa only [if_neg e] using hy
       exact h α' β' hx' hy'
      ·rw [fm_congr (g := acts v) (fun k hk => by simp only [if_neg (hnc k hk)])]
       exact (ext v).2.1
      ·rw [fm_congr (g := acts v) (fun k hk => by simp only [if_neg (hnc k hk)])]
       exact (ext v).2.2)
     unfold wpOp
     rw [ho]
     exact hwp
    ·exact absurd (h2 i hi2) (waits c (List.mem_append_right _ List.mem_cons_self))

def DX (P : Program) (n : Nat) (deps : List (List Nat)) (c : Nat) (l : List GO) (acc : List Met) (st : ASt) (K : ASt → Prop) : Prop :=
 ∃ (V : Type) (_ : V) (R : V → Prop) (l1 : List GO) (g : GO) (l2 : List GO) (as1 : List Actn) (st1 : ASt) (β : V → Actn) (as2 : V → List Actn) (st' : V → ASt), l = l1 ++ g :: l2 ∧ acc.length + l1.length = c ∧ Plan P n l1 st as1 st1 ∧ GExeC P n g β R ∧
  ∀ v, (β v).ok st1 ∧ (β v).fits g ∧ Plan P n l2 ((β v).app st1) (as2 v) (st' v) ∧ metAll deps (acc ++ as1.map Actn.met ++ (β v).met :: (as2 v).map Actn.met) = true ∧ (R v → K (st' v))
theorem DX.cons {n : Nat} {deps : List (List Nat)} {c : Nat} {g : GO} {gs : List GO} {acc : List Met} {st st1 : ASt} {K : ASt → Prop} {α : Actn} (h1 : GExe P n g α) (h2 : α.ok st) (h3 : α.fits g) (h4 : α.app st = st1) (h : DX P n deps c gs (acc ++ [α.met]) st1 K) : DX P n deps c (g :: gs) acc st K := by
 obtain ⟨V, v0, R, l1, g', l2, as1, st2, β, as2, st', rfl, hc, hp, hx, hv⟩ := h
 refine ⟨V, v0, R, g :: l1, g', l2, α :: as1, st2, β, as2, st', rfl, by simp at hc ⊢; omega, .cons h1 h2 h3 h4 hp, hx, fun v => ?_⟩
 obtain ⟨k1, k2, k3, k4, k5⟩ := hv v
 exact ⟨k1, k2, k3, by simpa using k4, k5⟩
theorem DX.run {n : Nat} {deps : List (List Nat)} {c : Nat} {K : ASt → Prop} : ∀ {l : List GO} {acc : List Met} {st : ASt}, DX P n deps c (runD P n l acc st).2.2 (runD P n l acc st).1 (runD P n l acc st).2.1 K → DX P n deps c l acc st K
 | [], acc, st, h => h
 | g :: gs, acc, st, h => by
  simp only [runD] at h
  split at h
  ·rename_i hd
   split at h
   ·rename_i hg
    split at h
    ·rename_i hp
     split at h
     ·rename_i v st1 hs
      obtain ⟨h1, h2⟩ := exe_pure hg hp hs hd
      refine DX.cons h1 (actOf_self fun p hp => by simp at hp) actOf_fits h2 (DX.run ?_)
      simpa [Actn.met, actOf] using h
     ·exact h
    ·split at h
     ·rename_i r ht
      split at h
      ·rename_i v st1 hs
       obtain ⟨h1, h2⟩ := exe_write hg ht hs hd
       refine DX.cons h1 (actOf_self fun p hp => by simp at hp) actOf_fits h2 (DX.run ?_)
       have hw : (turnedO st1 r).map (·.1) = [r] := by
        obtain ⟨o, h3, _, h4⟩ := stepW_local ht (actOf_sees (actOf_self (g := g) (v := v) (rd := []) (ws := []) (fun p hp => by simp at hp))).1 hs
        obtain ⟨o0, h5⟩ := Option.isSome_iff_exists.1 h4
        rw [turnedO, h3, ASt.setFr_fset, look, fget_fset_same _ _ _ _ _ h5]
        rfl
       simpa [Actn.met, actOf, hw] using h
      ·exact h
     ·split at h
      ·rename_i k hk
       split at h
       ·rename_i v st1 hs
        have hkd : look st.fr 0 k = some .dead := by have := (spareAt_ok hk).2; simpa [ASt.fr] using this
        obtain ⟨h1, h2, h3⟩ := exe_fresh hkd hg hs hd
        refine DX.cons h1 h3 actOf_fits h2 (DX.run ?_)
        have hw : (turnedO st1 (0, k)).map (·.1) = [(0, k)] := by
         obtain ⟨o, h4, _⟩ := stepD_local (actOf_sees (actOf_self (g := g) (v := v) (rd := []) (ws := []) (fun p hp => by simp at hp))).1 hs
         rw [turnedO, h4, ASt.at_fr, look, fget_fset_same _ _ _ _ _ hkd]
         rfl
        simpa [Actn.met, actOf, hw] using h
       ·exact h
      ·exact h
   ·rename_i hg
    refine DX.cons (α := ⟨g.dst, .tup [], guardNeed st.env g.guard, [], [], [], []⟩) (st1 := st.put g.dst (.tup [])) (exe_skip hd rfl rfl rfl (fun s hs => guard_local hs.1 hg)) ⟨fun p hp => (needsA_in (st := st) (g := g) (List.mem_append_left _ hp)).2, fun p hp => by simp at hp, fun p hp => by simp at hp⟩ ⟨rfl, fun p hp => (needsA_in (st := st) (g := g) (List.mem_append_left _ hp)).1, fun p hp => by simp at hp⟩ rfl (DX.run ?_)
    simpa [Actn.met] using h
   ·exact h
  ·exact h
theorem DX.sim {n : Nat} {st : ASt} {deps : List (List Nat)} {c : Nat} {K : ASt → Prop} {l l' : List GO} {acc acc' : List Met} {st' : ASt} (h : DX P n deps c l' acc' st' K) (hr : runD P n l acc st = (acc', st', l') := by (try simp only [fx, lookupV, updateV, lookupK, updateK, slicePV, pe0, pe1, pe2, pe3, pe4, pe5, pe6, pe7, pr0, pr1, Nat.reduceAdd, Nat.reduceMul, Nat.reduceLeDiff, Nat.reduceLT, Nat.reduceEqDiff, Nat.reduceBEq, Nat.reduceSub, reduceCtorEq, reduceIte, Int.reduceToNat, Int.reduceLE, Int.reduceEq, Int.reduceNe, Int.reduceBEq, Int.reduceBNe, Int.reduceLT, Int.reduceGT, Int.reduceGE, Int.reduceNeg]); with_reducible rfl) : DX P n deps c l acc st K := DX.run (by rw [hr]; exact h)
theorem DX.call {n : Nat} {deps : List (List Nat)} {c : Nat} {K : ASt → Prop} {gs : List GO} {acc : List Met} {st : ASt} {f : Operand} {args : Array Operand} {ts : Array TypeId} {dst : Option Nat} {gd : Option (Nat × Bool)} {fid : FuncId} {cap xs : List PV} (v : PV) (rd ws : List (Ref × AObj))
  (hg : guardA st.env gd = some true) (hf : evalPV st f = some (.fn fid cap)) (hx : evalsPV st args.toList = some xs) (hd : okDst n dst = true) (hb : bodyB P fid = true)
  (hrd : Agree rd st.fr) (h : ∀ u, Agree rd u → ACalls P fid (xs ++ cap) u fun pv fr' => pv = v ∧ fr' = wr u ws)
  (hk : DX P n deps c gs (acc ++ [⟨rd.map (·.1), ws.map (·.1), [], []⟩]) ((st.setFr (wr st.fr ws)).put dst v) K) :
  DX P n deps c (⟨dst, .call { callee := .value f, args, argTypes := ts }, gd⟩ :: gs) acc st K :=
 DX.cons (exe_call rfl hg hf hx hd hb h) (actOf_self hrd) actOf_fits rfl hk
theorem DX.callC {V : Type} (v0 : V) (val : V → PV) (R : V → Prop) {n : Nat} {deps : List (List Nat)} {c : Nat} {K : ASt → Prop} {gs : List GO} {acc : List Met} {st : ASt} {f : Operand} {args : Array Operand} {ts : Array TypeId} {dst : Option Nat} {gd : Option (Nat × Bool)} {fid : FuncId} {cap xs : List PV} (rd ws : List (Ref × AObj))
  (hc : acc.length = c) (hg : guardA st.env gd = some true) (hf : evalPV st f = some (.fn fid cap)) (hx : evalsPV st args.toList = some xs) (hd : okDst n dst = true) (hb : bodyB P fid = true)
  (hrd : Agree rd st.fr) (h : ∀ u, Agree rd u → ACalls P fid (xs ++ cap) u fun pv fr' => ∃ v, R v ∧ pv = val v ∧ fr' = wr u ws)
  (hk : ∀ v, DOps P n deps gs (acc ++ [⟨rd.map (·.1), ws.map (·.1), [], []⟩]) ((st.setFr (wr st.fr ws)).put dst (val v)) fun s => R v → K s) :
  DX P n deps c (⟨dst, .call { callee := .value f, args, argTypes := ts }, gd⟩ :: gs) acc st K := by
 have hx2 := exe_callC val R v0 (g := ⟨dst, .call { callee := .value f, args, argTypes := ts }, gd⟩) rfl hg hf hx hd hb h
 refine ⟨V, v0, R, [], _, gs, [], st, _, fun v => (hk v).choose, fun v => (hk v).choose_spec.choose, rfl, by simpa using hc, .nil st, hx2, fun v => ?_⟩
 obtain ⟨k1, k2, k3⟩ := (hk v).choose_spec.choose_spec
 exact ⟨actOf_self hrd, actOf_fits, k1, by rw [List.map_nil, List.append_nil]; rw [List.append_assoc] at k2; exact k2, k3⟩
def depsP (ord : List Nat) (deps : List (List Nat)) : List (List Nat) := ord.map fun j => (List.range ord.length).filter fun p => (deps.getD j []).contains (ord.getD p 0)
def ordOk (ord : List Nat) (m : Nat) : Bool := ord.length == m && (List.range m).all (fun i => ord.contains i) && ord.all (fun i => decide (i < m)) && decide ord.Nodup
def sufC (ord : List Nat) (deps : List (List Nat)) (c : Nat) : Bool := (ord.drop (c + 1)).all fun j => (deps.getD j []).contains (ord.getD c 0)
theorem nat_getD {l : List Nat} {i : Nat} (h : i < l.length) : l[i]? = some (l.getD i 0) := by
 rw [List.getD_eq_getElem?_getD, List.getElem?_eq_getElem h]
 rfl
theorem depsP_mem {ord : List Nat} {deps : List (List Nat)} {i j : Nat} (hj : j < ord.length) (h : i ∈ (depsP ord deps).getD j []) : ord.getD i 0 ∈ deps.getD (ord.getD j 0) [] := by
 unfold depsP at h
 rw [List.getD_eq_getElem?_getD, List.getElem?_map, nat_getD hj] at h
 simp only [Option.map_some, Option.getD_some, List.mem_filter, List.contains_iff_mem] at h
 exact h.2
theorem Plan.size {n : Nat} : ∀ {l : List GO} {st st' : ASt} {as : List Actn}, Plan P n l st as st' → as.length = l.length
 | _, _, _, _, .nil st => rfl
 | _, _, _, _, .cons _ _ _ _ h => by simp [h.size]
theorem mem_getD' {l : List Nat} {x : Nat} (h : x ∈ l) : ∃ p, p < l.length ∧ l.getD p 0 = x := by
 obtain ⟨p, hp, e⟩ := List.getElem_of_mem h
 exact ⟨p, hp, by rw [List.getD_eq_getElem?_getD, List.getElem?_eq_getElem hp]; exact e⟩
theorem idx_some {ord : List Nat} (hnd : ord.Nodup) {k : Nat} (hk : k < ord.length) : ord.idxOf (ord.getD k 0) = k := by
 have h := hnd.idxOf_getElem k hk
 rw [List.getD_eq_getElem?_getD, List.getElem?_eq_getElem hk]
 exact h
theorem fm_all {α : Type} {f : Nat → Option α} : ∀ {l : List Nat}, (∀ k ∈ l, ∃ x, f k = some x) → (l.filterMap f).length = l.length ∧ ∀ p : Nat, (l.filterMap f)[p]? = l[p]?.bind f
 | [], _ => ⟨rfl, fun p => by simp⟩
 | x :: l, h => by
  obtain ⟨y, hy⟩ := h x (by simp)
  obtain ⟨h1, h2⟩ := fm_all (l := l) fun k hk => h k (List.mem_cons_of_mem _ hk)
  rw [List.filterMap_cons, hy]
  refine ⟨by simp [h1], fun p => ?_⟩
  cases p with
  | zero => simp [hy]
  | succ p => simpa using h2 p
theorem Chain.append : ∀ {l1 l2 : List Actn} {s : ASt}, Chain l1 s → Chain l2 (fin l1 s) → Chain (l1 ++ l2) s
 | [], _, _, _, h => h
 | α :: l1, l2, s, h1, h2 => ⟨h1.1, Chain.append h1.2 h2⟩
theorem fin_append : ∀ (l1 l2 : List Actn) (s : ASt), fin (l1 ++ l2) s = fin l2 (fin l1 s)
 | [], _, _ => rfl
 | α :: l1, l2, s => fin_append l1 l2 (α.app s)
theorem AWp.draw_kX {n : Nat} {ops : Array Oper} {id : Nat} {lo : List GO} {deps : List (List Nat)} {ord : List Nat} {c : Nat} {Q : Exit → ASt → Prop} {st : ASt} (hm : P.follows .mixedOrders = true) (hl : gosOf ops (ord.filterMap (ops[·]?)) = some lo) (ho : ordOk ord ops.size = true) (hd : depsOk ops deps = true) (hs : slotsB (depsP ord deps) lo = true) (hsuf : sufC ord deps c = true)
  (h : DX P n (depsP ord deps) c lo [] st (Q .normal)) : AWp P n (.region id ops true) Q st := fun F bs a w hr => by
 obtain ⟨V, v0, R, l1, g, l2, as1, st1, β, as2, st', rfl, hc, hp1, hx, hv⟩ := h
 simp only [ordOk, Bool.and_eq_true, beq_iff_eq, List.all_eq_true, List.mem_range, List.contains_iff_mem, decide_eq_true_eq] at ho
 obtain ⟨⟨⟨ho1, ho2⟩, ho3⟩, ho4⟩ := ho
 have hcl : c = l1.length := by simp at hc; omega
 obtain ⟨fm1, fm2⟩ := fm_all (f := (ops[·]?)) (l := ord) fun k hk => ⟨ops[k]'(ho3 k hk), Array.getElem?_eq_getElem (ho3 k hk)⟩
 obtain ⟨g1, g2⟩ := gosOf_get hl
 rw [fm1] at g1
 have hlen : ord.length = l1.length + (l2.length + 1) := by rw [← g1]; simp
 have hclt : c < ord.length := by omega
 obtain ⟨q1, q2, q3, q4⟩ := hp1.get
 have alen : ∀ v, (as1 ++ β v :: as2 v).length = ord.length := fun v => by
  have := (hv v).2.2.1.size
  simp only [List.length_append, List.length_cons]
  omega
 have opAt : ∀ p, p < ord.length → ∀ o, ops[ord.getD p 0]? = some o → ∀ g', (l1 ++ g :: l2)[p]? = some g' → goOf ops o = some g' := fun p hp o hop g' hg' => g2 p o g' (by rw [fm2, nat_getD hp]; exact hop) hg'
 have tab : ∀ v p α, (as1 ++ β v :: as2 v)[p]? = some α → ∃ g', (l1 ++ g :: l2)[p]? = some g' ∧ α.fits g' ∧ (p ≠ c → GExe P n g' α) := fun v p α hα => by
  obtain ⟨k1, k2, k3, k4, k5⟩ := hv v
  obtain ⟨r1, r2, r3, r4⟩ := k3.get
  rcases Nat.lt_or_ge p c with hpc | hpc
  ·rw [List.getElem?_append_left (by omega)] at hα ⊢
   obtain ⟨g', e1, e2, e3⟩ := q4 p α hα
   exact ⟨g', e1, e3, fun _ => e2⟩
  ·rw [List.getElem?_append_right (by omega)] at hα ⊢
   rw [q1] at hα
   cases hpe : p - l1.length with
   | zero =>
    rw [hpe] at hα
    simp only [List.getElem?_cons_zero, Option.some.injEq] at hα
    subst hα
    exact ⟨g, by simp, k2, fun hne => absurd (by omega) hne⟩
   | succ q =>
    rw [hpe] at hα
    rw [List.getElem?_cons_succ] at hα ⊢
    obtain ⟨g', e1, e2, e3⟩ := r4 q α hα
    exact ⟨g', e1, e3, fun _ => e2⟩
 obtain ⟨acts, hacts⟩ : ∃ acts : V → Nat → Option Actn, acts = fun v k => (as1 ++ β v :: as2 v)[ord.idxOf k]? := ⟨_, rfl⟩
 have actAt : ∀ v p, p < ord.length → acts v (ord.getD p 0) = (as1 ++ β v :: as2 v)[p]? := fun v p hp => by rw [hacts]; simp only [idx_some ho4 hp]
 have posOf : ∀ k ∈ ord, ∃ p, p < ord.length ∧ ord.getD p 0 = k := fun k hk => mem_getD' hk
 have hfm : ∀ v, ord.filterMap (acts v) = as1 ++ β v :: as2 v := fun v => by
  obtain ⟨e1, e2⟩ := fm_all (f := acts v) (l := ord) fun k hk => by
   obtain ⟨p, hp, rfl⟩ := posOf k hk
   rw [actAt v p hp]
   exact ⟨_, List.getElem?_eq_getElem (by rw [alen]; exact hp)⟩
  refine List.ext_getElem? fun p => ?_
  rw [e2]
  by_cases hp : p < ord.length
  ·rw [nat_getD hp, Option.bind_some, actAt v p hp]
  ·rw [List.getElem?_eq_none (by omega), List.getElem?_eq_none (by rw [alen]; omega)]; rfl
 have hsplit : ord = ord.take c ++ ord.getD c 0 :: ord.drop (c + 1) := by
  have e := List.take_append_drop c ord
  have e2 : ord.drop c = ord.getD c 0 :: ord.drop (c + 1) := by
   rw [List.drop_eq_getElem_cons hclt, List.getD_eq_getElem?_getD, List.getElem?_eq_getElem hclt]
   rfl
  rw [← e2]
  exact e.symm
 have hβ : ∀ v, acts v (ord.getD c 0) = some (β v) := fun v => by
  rw [actAt v c hclt, List.getElem?_append_right (by omega), show c - as1.length = 0 by omega]
  rfl
 refine wp_region_any hm ?_
 have hr' : ARel n F bs st a { w with drawn := w.drawn + 1 } := ⟨hr.mem.heap rfl, hr.size, hr.env, hr.defers⟩
 have hs' : AStep F bs st w F bs st { w with drawn := w.drawn + 1 } := ⟨Fz.le_refl F, .refl _ _, ⟨rfl, rfl, rfl, Nat.le_refl _, fun _ _ _ => rfl⟩, Owns.refl _ _ _⟩
 refine draw_choice v0 (acts := acts) (R := R) (β := β) (c := ord.getD c 0) (ord2 := ord.drop (c + 1)) hd (fun v i o α hic hoi hα => ?_) hβ (fun o hoc => ?_) (fun i hi => ?_) (sf := st') (fun v hR => (hv v).2.2.2.2 hR) ops.size (Array.replicate ops.size false) (ord.take c) st F bs a _ (by simp) (by rw [← hsplit]; omega) (fun i => ?_) (by rw [← hsplit]; exact ho4) (fun i hi v => ?_) (fun v i hi => ?_) (fun v => ?_) (fun k hk hlk => ?_) (fun v => ?_) hr' hs'
 ·rw [hacts] at hα
  simp only at hα
  have hlt := (List.getElem?_eq_some_iff.1 hα).1
  rw [alen] at hlt
  have hio : i ∈ ord := by
   rw [← List.idxOf_lt_length_iff]; exact hlt
  obtain ⟨p, hp, rfl⟩ := posOf i hio
  rw [idx_some ho4 hp] at hα
  obtain ⟨g', e1, e2, e3⟩ := tab v p α hα
  exact e3 (fun e => hic (by rw [e])) ops o (opAt p hp o hoi g' e1)
 ·exact hx ops o (opAt c hclt o hoc g (by rw [hcl, List.getElem?_append_right (Nat.le_refl _), Nat.sub_self]; rfl))
 ·simp only [sufC, List.all_eq_true, List.contains_iff_mem] at hsuf
  exact hsuf i hi
 ·rw [← hsplit]
  simp only [Array.getD_eq_getD_getElem?, Array.getElem?_replicate]
  constructor
  ·intro h
   have := ho3 i h
   exact ⟨this, by simp [this]⟩
  ·exact fun h => ho2 i h.1
 ·obtain ⟨p, hp, e⟩ := mem_getD' hi
  have hpc : p < c := by simp at hp; omega
  have e2 : ord.getD p 0 = i := by
   rw [← e]
   simp only [List.getD_eq_getElem?_getD, List.getElem?_take, if_pos hpc]
  rw [← e2, actAt v p (by omega), actAt v0 p (by omega), List.getElem?_append_left (by omega), List.getElem?_append_left (by omega)]
 ·rw [← hsplit] at hi
  obtain ⟨p, hp, rfl⟩ := posOf i hi
  rw [actAt v p hp]
  exact ⟨_, List.getElem?_eq_getElem (by rw [alen]; exact hp)⟩
 ·rw [← hsplit, List.pairwise_iff_getElem]
  intro i j hi hj hij α γ hα hγ
  have ei : ord[i] = ord.getD i 0 := by rw [List.getD_eq_getElem?_getD, List.getElem?_eq_getElem hi]; rfl
  have ej : ord[j] = ord.getD j 0 := by rw [List.getD_eq_getElem?_getD, List.getElem?_eq_getElem hj]; rfl
  rw [ei, actAt v i hi] at hα
  rw [ej, actAt v j hj] at hγ
  obtain ⟨ga, ha, hfa, _⟩ := tab v i α hα
  obtain ⟨gb, hb, hfb, _⟩ := tab v j γ hγ
  rw [ei, ej]
  by_cases hdep : i ∈ (depsP ord deps).getD j []
  ·exact .inl (depsP_mem hj hdep)
  ·refine .inr (indep_of hfa hfb ?_ ?_)
   ·have h2 := (hv v).2.2.2.1
    have em : [] ++ as1.map Actn.met ++ (β v).met :: (as2 v).map Actn.met = (as1 ++ β v :: as2 v).map Actn.met := by simp
    rw [em] at h2
    simp only [metAll, List.all_eq_true, List.mem_range, List.length_map] at h2
    have hj2 := (List.getElem?_eq_some_iff.1 hγ).1
    have := h2 j hj2
    simp only [List.getElem?_map, hγ, Option.map_some, List.all_eq_true, List.mem_range] at this
    have := this i hij
    simp only [List.getElem?_map, hα, Option.map_some, Bool.or_eq_true, List.contains_iff_mem] at this
    exact this.resolve_left hdep
   ·simp only [slotsB, List.all_eq_true, List.mem_range] at hs
    have hj2 := (List.getElem?_eq_some_iff.1 hb).1
    have := hs j hj2
    simp only [hb, List.all_eq_true, List.mem_range] at this
    have := this i hij
    simp only [ha, Bool.or_eq_true, List.contains_iff_mem] at this
    exact this.resolve_left hdep
 ·rw [Array.getD_eq_getD_getElem?, Array.getElem?_replicate, if_pos hk] at hlk
  simp at hlk
 ·rw [← hsplit, hfm v]
  obtain ⟨k1, k2, k3, k4, k5⟩ := hv v
  obtain ⟨r1, r2, r3, r4⟩ := k3.get
  refine ⟨Chain.append q2 ?_, ?_⟩
  ·rw [q3]; exact ⟨k1, r2⟩
  ·rw [fin_append, q3]
   show ASt.eqv (fin (as2 v) ((β v).app st1)) (st' v)
   rw [r3]
   exact .refl _
def nthL : List Oper → Nat → Option Oper
 | [], _ => none
 | o :: _, 0 => some o
 | _ :: l, i + 1 => nthL l i
def pickL (l : List Oper) : List Nat → List Oper
 | [] => []
 | i :: is => match nthL l i with
  | some o => o :: pickL l is
  | none => pickL l is
theorem nthL_eq : ∀ (l : List Oper) (i : Nat), nthL l i = l[i]?
 | [], i => by simp [nthL]
 | o :: l, 0 => by simp [nthL]
 | o :: l, i + 1 => by simp [nthL, nthL_eq l i]
theorem pickL_eq (ops : Array Oper) : ∀ (is : List Nat), pickL ops.toList is = is.filterMap (ops[·]?)
 | [] => rfl
 | i :: is => by
  have e : nthL ops.toList i = ops[i]? := by rw [nthL_eq, Array.getElem?_toList]
  rw [pickL, List.filterMap_cons, e, pickL_eq ops is]
  cases ops[i]? <;> rfl
theorem Run.drawX {n : Nat} {Q : Exit → ASt → Prop} {st : ASt} {k : List KF} {ops : Array Oper} {id : Nat} {lo : List GO} (ord : List Nat) (c : Nat) (h : ∀ K : ASt → Prop, (∀ s, End P n Q k s → K s) → ∀ D, depsP ord (depsOf ops.toList []) = D → DX P n D c lo [] st K) (hm : P.follows .mixedOrders = true := by kernel_rfl) (hl : gosOf ops (pickL ops.toList ord) = some lo := by rfl) (ho : ordOk ord ops.size = true := by kernel_rfl) (hd : depsOk ops (depsOf ops.toList []) = true := by kernel_rfl) (hs : slotsB (depsP ord (depsOf ops.toList [])) lo = true := by kernel_rfl) (hsuf : sufC ord (depsOf ops.toList []) c = true := by kernel_rfl) : Run P n Q k (.region id ops true) st :=
 AWp.draw_kX (Q := kq P n k Q) hm (by rw [pickL_eq] at hl; exact hl) ho hd hs hsuf (h (End P n Q k) (fun _ h => h) _ rfl)
end Go.Proofs.YtkjfdacjjogpcaaPi

