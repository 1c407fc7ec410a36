/- Regions that draw their order, in the abstract program logic: operations that do not meet may be run in any order that the edges allow. No Go text in it. -/
import Derived.Test.YtkjfdacjjogpcaaPiRun
import Derived.Orders
set_option linter.unusedVariables false
set_option linter.unusedSimpArgs false
namespace Go.Proofs.YtkjfdacjjogpcaaPi
variable {P : Program}

structure Actn where
 dst : Option Nat
 v : PV
 need : List (Nat × PV)
 reads : List ((Nat × Nat) × AObj)
 writes : List ((Nat × Nat) × AObj)
 /-- Single cells of boxes that are met. -/
 soft : List ((Nat × Nat) × Nat × PV)
 /-- Cells that are left as they were in boxes that are turned. -/
 keeps : List ((Nat × Nat) × Nat)
def cellOf (c : Nat) : AObj → Option PV
 | .box cs => cs[c]?
 | _ => none
def cellAt (fr : Frs) (r : Nat × Nat) (c : Nat) : Option PV := (look fr r.1 r.2).bind (cellOf c)
def Actn.ok (α : Actn) (s : ASt) : Prop := (∀ p ∈ α.need, eget s.env p.1 = some p.2) ∧ (∀ p ∈ α.reads, look s.fr p.1.1 p.1.2 = some p.2) ∧ (∀ p ∈ α.soft, cellAt s.fr p.1 p.2.1 = some p.2.2)
def Actn.fair (α : Actn) : Prop := ∀ p ∈ α.keeps, ∀ q ∈ α.writes, q.1 = p.1 → ∃ r ∈ α.reads, r.1 = p.1 ∧ cellOf p.2 r.2 = cellOf p.2 q.2
def Actn.spares (α β : Actn) : Prop := ∀ p ∈ β.soft, ∀ q ∈ α.writes, q.1 = p.1 → ∃ r ∈ α.reads, r.1 = p.1 ∧ cellOf p.2.1 r.2 = cellOf p.2.1 q.2
def wr : Frs → List ((Nat × Nat) × AObj) → Frs
 | fr, [] => fr
 | fr, (r, o) :: ws => wr (fset fr r.1 r.2 o) ws
theorem wr_cons : ∀ (ws : List ((Nat × Nat) × AObj)) {l : List AObj} {u : Frs}, ∃ l' u', wr (l :: u) ws = l' :: u'
 | [], l, u => ⟨l, u, rfl⟩
 | (r, o) :: ws, l, u => by
  obtain ⟨l1, u1, h⟩ := fset_cons (fr := u) (f := l) (d := r.1) (j := r.2) (o := o)
  simp only [wr, h]
  exact wr_cons ws
def Actn.app (α : Actn) (s : ASt) : ASt := (s.setFr (wr s.fr α.writes)).put α.dst α.v
theorem ASt.put_fr (s : ASt) (d : Option Nat) (v : PV) : (s.put d v).fr = s.fr := by cases d <;> rfl
theorem setFr_wr (s : ASt) (ws : List ((Nat × Nat) × AObj)) : (s.setFr (wr s.fr ws)).fr = wr s.fr ws := by
 obtain ⟨l, u, h⟩ := wr_cons ws (l := s.loc) (u := s.up)
 show (s.setFr (wr (s.loc :: s.up) ws)).fr = wr (s.loc :: s.up) ws
 rw [h]
 rfl
theorem Actn.app_fr (α : Actn) (s : ASt) : (α.app s).fr = wr s.fr α.writes := by rw [Actn.app, ASt.put_fr, setFr_wr]
theorem Actn.app_env (α : Actn) (s : ASt) (t : Nat) : eget (α.app s).env t = if α.dst = some t then some α.v else eget s.env t := by
 unfold Actn.app
 cases h : α.dst with
 | none => simp [ASt.put, ASt.setFr_env]
 | some d =>
  simp only [ASt.put, eget_eput, ASt.setFr_env, Option.some.injEq]
  by_cases e : t = d
  ·subst e; simp
  ·rw [if_neg e, if_neg (fun k => e k.symm)]
def ASt.eqv (s s' : ASt) : Prop := (∀ t, eget s.env t = eget s'.env t) ∧ s.fr = s'.fr
theorem ASt.eqv.refl (s : ASt) : s.eqv s := ⟨fun _ => rfl, rfl⟩
theorem ASt.eqv.trans {a b c : ASt} (h : a.eqv b) (k : b.eqv c) : a.eqv c := ⟨fun t => (h.1 t).trans (k.1 t), h.2.trans k.2⟩
theorem ASt.eqv.symm {a b : ASt} (h : a.eqv b) : b.eqv a := ⟨fun t => (h.1 t).symm, h.2.symm⟩
theorem Actn.ok_eqv {α : Actn} {s s' : ASt} (h : s.eqv s') (k : α.ok s) : α.ok s' := ⟨fun p hp => by rw [← h.1]; exact k.1 p hp, fun p hp => by rw [← h.2]; exact k.2.1 p hp, fun p hp => by rw [← h.2]; exact k.2.2 p hp⟩
theorem Actn.app_eqv {α : Actn} {s s' : ASt} (h : s.eqv s') : (α.app s).eqv (α.app s') := ⟨fun t => by rw [Actn.app_env, Actn.app_env, h.1], by rw [Actn.app_fr, Actn.app_fr, h.2]⟩
def Actn.indep (α β : Actn) : Prop :=
 (∀ t, α.dst = some t → β.dst ≠ some t ∧ ∀ p ∈ β.need, p.1 ≠ t) ∧ (∀ t, β.dst = some t → ∀ p ∈ α.need, p.1 ≠ t) ∧
 (∀ p ∈ α.writes, (∀ q ∈ β.reads, p.1 ≠ q.1) ∧ (∀ q ∈ β.writes, p.1 ≠ q.1)) ∧ (∀ p ∈ β.writes, ∀ q ∈ α.reads, p.1 ≠ q.1) ∧ α.spares β ∧ β.spares α
theorem fget_wr_ne : ∀ (ws : List ((Nat × Nat) × AObj)) (fr : Frs) (r : Nat × Nat), (∀ p ∈ ws, p.1 ≠ r) → fget (wr fr ws) r.1 r.2 = fget fr r.1 r.2
 | [], fr, r, _ => rfl
 | (q, o) :: ws, fr, r, h => by
  simp only [wr]
  rw [fget_wr_ne ws _ r (fun p hp => h p (List.mem_cons_of_mem _ hp)), fget_fset, if_neg]
  rintro ⟨h1, h2⟩
  exact h (q, o) List.mem_cons_self (Prod.ext h1.symm h2.symm)
theorem fset_comm {α : Type} : ∀ (fr : List (List α)) (d j d' j' : Nat) (x y : α), ¬ (d = d' ∧ j = j') → fset (fset fr d j x) d' j' y = fset (fset fr d' j' y) d j x
 | [], d, j, d', j', x, y, _ => rfl
 | f :: fr, 0, j, 0, j', x, y, h => by simp only [fset]; rw [List.set_comm _ _ (fun e => h ⟨rfl, e⟩)]
 | f :: fr, 0, j, d' + 1, j', x, y, h => rfl
 | f :: fr, d + 1, j, 0, j', x, y, h => rfl
 | f :: fr, d + 1, j, d' + 1, j', x, y, h => by simp only [fset]; rw [fset_comm fr d j d' j' x y (fun e => h ⟨by omega, e.2⟩)]
theorem wr_fset (ws : List ((Nat × Nat) × AObj)) : ∀ (fr : Frs) (r : Nat × Nat) (o : AObj), (∀ p ∈ ws, p.1 ≠ r) → wr (fset fr r.1 r.2 o) ws = fset (wr fr ws) r.1 r.2 o := by
 induction ws with
 | nil => intro fr r o _; rfl
 | cons p ws ih =>
  intro fr r o h
  obtain ⟨q, o'⟩ := p
  simp only [wr]
  rw [fset_comm fr r.1 r.2 q.1 q.2 o o' (fun e => h (q, o') List.mem_cons_self (Prod.ext e.1.symm e.2.symm)), ih _ r o (fun p hp => h p (List.mem_cons_of_mem _ hp))]
theorem wr_comm : ∀ (ws us : List ((Nat × Nat) × AObj)) (fr : Frs), (∀ p ∈ ws, ∀ q ∈ us, p.1 ≠ q.1) → wr (wr fr ws) us = wr (wr fr us) ws
 | [], us, fr, _ => rfl
 | (r, o) :: ws, us, fr, h => by
  simp only [wr]
  rw [wr_comm ws us _ (fun p hp => h p (List.mem_cons_of_mem _ hp)), wr_fset us fr r o (fun q hq e => h (r, o) List.mem_cons_self q hq e.symm)]
theorem cell_wr {r : Nat × Nat} {c : Nat} {x : Option PV} : ∀ (ws : List ((Nat × Nat) × AObj)) (fr : Frs), (∀ q ∈ ws, q.1 = r → cellOf c q.2 = x ∧ (look fr r.1 r.2).isSome) → cellAt fr r c = x → cellAt (wr fr ws) r c = x
 | [], fr, _, h => h
 | (q, o) :: ws, fr, hw, h => by
  simp only [wr]
  refine cell_wr ws _ (fun p hp e => ?_) ?_
  ·obtain ⟨h1, h2⟩ := hw p (List.mem_cons_of_mem _ hp) e
   refine ⟨h1, ?_⟩
   rw [look, fget_fset]
   split
   ·rename_i e
    rw [Option.isSome_map, ← e.1, ← e.2]; exact h2
   ·exact h2
  ·unfold cellAt at h ⊢
   rw [look, fget_fset]
   split
   ·rename_i e
    obtain ⟨h1, h2⟩ := hw (q, o) List.mem_cons_self (Prod.ext e.1.symm e.2.symm)
    obtain ⟨o0, h3⟩ := Option.isSome_iff_exists.1 h2
    rw [look] at h3
    rw [← e.1, ← e.2, h3]
    exact h1
   ·exact h
theorem cell_keep {α : Actn} {s : ASt} (ha : α.ok s) {r : Nat × Nat} {c : Nat} (hk : ∀ q ∈ α.writes, q.1 = r → ∃ x ∈ α.reads, x.1 = r ∧ cellOf c x.2 = cellOf c q.2) : cellAt (wr s.fr α.writes) r c = cellAt s.fr r c := by
 refine cell_wr _ _ (fun q hq e => ?_) rfl
 obtain ⟨x, h1, h2, h3⟩ := hk q hq e
 have h4 := ha.2.1 x h1
 rw [h2] at h4
 refine ⟨?_, by rw [h4]; rfl⟩
 rw [cellAt, h4, ← h3]
 rfl
theorem Actn.swap {α β : Actn} {s : ASt} (hi : α.indep β) (ha : α.ok s) (hb : β.ok (α.app s)) : β.ok s ∧ α.ok (β.app s) ∧ (β.app (α.app s)).eqv (α.app (β.app s)) := by
 obtain ⟨h1, h2, h3, h4, h5, h6⟩ := hi
 have hb' : β.ok s := by
  refine ⟨fun p hp => ?_, fun p hp => ?_, fun p hp => ?_⟩
  ·have := hb.1 p hp
   rw [Actn.app_env] at this
   split at this
   ·rename_i e; exact absurd rfl ((h1 _ e).2 p hp)
   ·exact this
  ·have := hb.2.1 p hp
   rw [Actn.app_fr] at this
   rw [← this]
   exact (fget_wr_ne _ _ p.1 (fun q hq e => (h3 q hq).1 p hp e)).symm
  ·have := hb.2.2 p hp
   rw [Actn.app_fr, cell_keep ha (fun q hq e => h5 p hp q hq e)] at this
   exact this
 refine ⟨hb', ⟨fun p hp => ?_, fun p hp => ?_, fun p hp => ?_⟩, fun t => ?_, ?_⟩
 ·rw [Actn.app_env, if_neg (fun e => h2 _ e p hp rfl)]
  exact ha.1 p hp
 ·rw [Actn.app_fr, ← ha.2.1 p hp]
  exact fget_wr_ne _ _ p.1 (fun q hq e => h4 q hq p hp e)
 ·rw [Actn.app_fr, cell_keep hb' (fun q hq e => h6 p hp q hq e)]
  exact ha.2.2 p hp
 ·simp only [Actn.app_env]
  by_cases e1 : β.dst = some t
  ·rw [if_pos e1, if_neg (fun e => (h1 t e).1 e1), if_pos e1]
  ·rw [if_neg e1, if_neg e1]
 ·simp only [Actn.app_fr]
  exact wr_comm _ _ _ (fun p hp q hq => (h3 p hp).2 q hq)
def Chain : List Actn → ASt → Prop
 | [], _ => True
 | α :: l, s => α.ok s ∧ Chain l (α.app s)
def fin : List Actn → ASt → ASt
 | [], s => s
 | α :: l, s => fin l (α.app s)
theorem Chain.eqv : ∀ {l : List Actn} {s s' : ASt}, s.eqv s' → Chain l s → Chain l s'
 | [], s, s', _, _ => trivial
 | α :: l, s, s', h, k => ⟨Actn.ok_eqv h k.1, Chain.eqv (Actn.app_eqv h) k.2⟩
theorem fin_eqv : ∀ {l : List Actn} {s s' : ASt}, s.eqv s' → (fin l s).eqv (fin l s')
 | [], s, s', h => h
 | α :: l, s, s', h => fin_eqv (l := l) (Actn.app_eqv h)
theorem Chain.extract {β : Actn} {l2 : List Actn} : ∀ {l1 : List Actn} {s : ASt}, (∀ α ∈ l1, α.indep β) → Chain (l1 ++ β :: l2) s → β.ok s ∧ Chain (l1 ++ l2) (β.app s) ∧ (fin (l1 ++ β :: l2) s).eqv (fin (l1 ++ l2) (β.app s))
 | [], s, _, h => ⟨h.1, h.2, .refl _⟩
 | α :: l1, s, hi, h => by
  obtain ⟨h1, h2⟩ := h
  obtain ⟨h3, h4, h5⟩ := Chain.extract (fun a ha => hi a (List.mem_cons_of_mem _ ha)) h2
  obtain ⟨h6, h7, h8⟩ := Actn.swap (hi α List.mem_cons_self) h1 h3
  exact ⟨h6, ⟨h7, Chain.eqv h8 h4⟩, h5.trans (fin_eqv (l := l1 ++ l2) h8)⟩

def Exe (P : Program) (n : Nat) (ops : Array Oper) (o : Oper) (α : Actn) : Prop :=
 ∀ s, α.ok s → ∀ F bs a w, ARel n F bs s a w → ∀ (next : Act → World → Prop) (Q : Exit → Act → World → Prop),
  (∀ F' bs' a' w', ARel n F' bs' (α.app s) a' w' → AStep F bs s w F' bs' (α.app s) w' → next a' w') →
  if Region.wanted o (yielded ops a.tmps) then o.wp P a w next Q ∨ (o.asks P a w ∧ LetsOut Q) else next (a.put o.dst undef) w
theorem ARel.eqv {n : Nat} {F : Fz} {bs : Bns} {s s' : ASt} {a : Act} {w : World} (h : s.eqv s') (k : ARel n F bs s a w) : ARel n F bs s' a w :=
 ⟨by rw [← h.2]; exact k.mem, k.size, fun t v hv => by rw [← h.1] at hv; rw [← h.2]; exact k.env t v hv, k.defers⟩

def depsOk (ops : Array Oper) (deps : List (List Nat)) : Bool :=
 deps.length == ops.size && (List.range ops.size).all fun i =>
  match ops[i]?, deps[i]? with
  | some o, some ds => ds.all (fun d => decide (d < i) && (o.after.toList.any (fun e => e.on == d && Region.binds .any e) || o.after.toList.any (fun e => Region.binds .any e && ((deps.getD e.on []).contains d)))) &&
    o.after.toList.all (fun e => !Region.binds .any e || decide (e.on < i))
  | _, _ => false
theorem depsOk_at {ops : Array Oper} {deps : List (List Nat)} (h : depsOk ops deps = true) {i : Nat} {o : Oper} (ho : ops[i]? = some o) : ∃ ds, deps[i]? = some ds ∧
  (∀ d ∈ ds, d < i ∧ ((∃ e ∈ o.after, e.on = d ∧ Region.binds .any e = true) ∨ ∃ e ∈ o.after, Region.binds .any e = true ∧ d ∈ deps.getD e.on [])) ∧ ∀ e ∈ o.after, Region.binds .any e = true → e.on < i := by
 simp only [depsOk, Bool.and_eq_true, beq_iff_eq, List.all_eq_true, List.mem_range] at h
 have hi := (Array.getElem?_eq_some_iff.1 ho).1
 have := h.2 i hi
 rw [ho] at this
 split at this
 ·rename_i o' ds h1 h2
  cases h1
  simp only [Bool.and_eq_true, List.all_eq_true, Bool.or_eq_true, decide_eq_true_eq, List.any_eq_true, Array.mem_toList_iff, beq_iff_eq, Bool.not_eq_true', List.contains_iff_mem] at this
  refine ⟨ds, h2, fun d hd => ?_, fun e he hb => ?_⟩
  ·obtain ⟨h3, h4⟩ := this.1 d hd
   refine ⟨h3, h4.imp (fun ⟨e, h5, h6⟩ => ⟨e, h5, h6.1, h6.2⟩) (fun ⟨e, h5, h6⟩ => ⟨e, h5, h6.1, h6.2⟩)⟩
  ·rcases this.2 e he with h5 | h5
   ·rw [hb] at h5; simp at h5
   ·exact h5
 ·simp at this
theorem draw_any {n : Nat} {ops : Array Oper} {acts : List Actn} {deps : List (List Nat)} (hd : depsOk ops deps = true) (hl : acts.length = ops.size)
  (hexe : ∀ (i : Nat) (o : Oper) (α : Actn), ops[i]? = some o → acts[i]? = some α → Exe P n ops o α)
  (hpair : ∀ (i j : Nat) (α β : Actn), i < j → acts[i]? = some α → acts[j]? = some β → i ∈ deps.getD j [] ∨ α.indep β)
  {Q : Exit → ASt → Prop} {sf : ASt} (hQ : Q .normal sf) {F0 : Fz} {bs0 : Bns} {s0 : ASt} {w0 : World} :
  ∀ (fuel : Nat) (listed : Array Bool) (rem : List Nat) (s : ASt) (F : Fz) (bs : Bns) (a : Act) (w : World), listed.size = ops.size → rem.length ≤ fuel →
   (∀ i, i ∈ rem ↔ i < ops.size ∧ listed.getD i true = false) → rem.Pairwise (· < ·) → (∀ k, k < ops.size → listed.getD k true = true → ∀ d ∈ deps.getD k [], listed.getD d true = true) →
   Chain (rem.filterMap (acts[·]?)) s → (fin (rem.filterMap (acts[·]?)) s).eqv sf → ARel n F bs s a w → AStep F0 bs0 s0 w0 F bs s w → wpAny P .any ops (APost n F0 bs0 s0 w0 Q) fuel listed a w := by
 have fin_ok : ∀ (F : Fz) (bs : Bns) (s : ASt) (a : Act) (w : World), s.eqv sf → ARel n F bs s a w → AStep F0 bs0 s0 w0 F bs s w → APost n F0 bs0 s0 w0 Q .normal a w := fun F bs s a w he hr hs => by
  have hup : s.up = sf.up := by have := he.2; simp only [ASt.fr, List.cons.injEq] at this; exact this.2
  exact ⟨sf, F, bs, hQ, hr.eqv he, hs.le, by rw [← hup]; exact hs.ev, hs.keeps, by rw [← he.2]; exact hs.owns⟩
 have ready_mem : ∀ (listed : Array Bool) i, i ∈ Region.ready .any ops listed ↔ i < ops.size ∧ listed.getD i true = false ∧ ∃ o, ops[i]? = some o ∧ ∀ e ∈ o.after, Region.binds .any e = true → listed.getD e.on false = true := by
  intro listed i
  simp only [Region.ready, List.mem_filter, List.mem_range, Bool.and_eq_true, Bool.not_eq_true']
  constructor
  ·rintro ⟨h1, h2, h3⟩
   refine ⟨h1, h2, ops[i], Array.getElem?_eq_getElem h1, fun e he hb => ?_⟩
   rw [Array.getElem?_eq_getElem h1] at h3
   simp only [Option.map_some, Option.getD_some, Array.all_eq_true_iff_forall_mem, Bool.or_eq_true, Bool.not_eq_true'] at h3
   rcases h3 e he with h4 | h4
   ·rw [hb] at h4; simp at h4
   ·exact h4
  ·rintro ⟨h1, h2, o, h3, h4⟩
   refine ⟨h1, h2, ?_⟩
   rw [h3]
   simp only [Option.map_some, Option.getD_some, Array.all_eq_true_iff_forall_mem, Bool.or_eq_true, Bool.not_eq_true']
   intro e he
   cases hb : Region.binds .any e with
   | false => exact .inl rfl
   | true => exact .inr (h4 e he hb)
 have least : ∀ (listed : Array Bool) (rem : List Nat), (∀ i, i ∈ rem ↔ i < ops.size ∧ listed.getD i true = false) → rem.Pairwise (· < ·) → listed.size = ops.size → Region.ready .any ops listed = [] → rem = [] := by
  intro listed rem hrem hsort hsz hnil
  cases rem with
  | nil => rfl
  | cons i rem =>
   exfalso
   obtain ⟨h1, h2⟩ := (hrem i).1 List.mem_cons_self
   have : i ∈ Region.ready .any ops listed := by
    rw [ready_mem]
    refine ⟨h1, h2, ops[i], Array.getElem?_eq_getElem h1, fun e he hb => ?_⟩
    obtain ⟨ds, _, _, h3⟩ := depsOk_at hd (Array.getElem?_eq_getElem h1)
    have hlt := h3 e he hb
    have hel : e.on < listed.size := by omega
    rw [Array.getD_eq_getD_getElem?, Array.getElem?_eq_getElem hel, Option.getD_some]
    cases hv : listed[e.on] with
    | true => rfl
    | false =>
     have : e.on ∈ i :: rem := (hrem e.on).2 ⟨by omega, by rw [Array.getD_eq_getD_getElem?, Array.getElem?_eq_getElem hel, Option.getD_some]; exact hv⟩
     rcases List.mem_cons.1 this with h4 | h4
     ·omega
     ·have := (List.pairwise_cons.1 hsort).1 _ h4
      omega
   rw [hnil] at this
   simp at this
 intro fuel
 induction fuel with
 | zero =>
  intro listed rem s F bs a w hsz hfuel hrem hsort hclosed hch hfin hr hs
  have hrn : rem = [] := List.eq_nil_of_length_eq_zero (by omega)
  subst hrn
  refine ⟨?_, fin_ok F bs s a w hfin hr hs⟩
  cases hready : Region.ready .any ops listed with
  | nil => rfl
  | cons i l =>
   have hm : i ∈ Region.ready .any ops listed := by rw [hready]; exact List.mem_cons_self
   rw [ready_mem] at hm
   have := (hrem i).2 ⟨hm.1, hm.2.1⟩
   simp at this
 | succ fuel ih =>
  intro listed rem s F bs a w hsz hfuel hrem hsort hclosed hch hfin hr hs
  refine ⟨fun hnil => ?_, fun i hi => ?_⟩
  ·have hrn := least listed rem hrem hsort hsz hnil
   subst hrn
   exact fin_ok F bs s a w hfin hr hs
  ·rw [ready_mem] at hi
   obtain ⟨h1, h2, o, ho, h3⟩ := hi
   have him : i ∈ rem := (hrem i).2 ⟨h1, h2⟩
   obtain ⟨l1, l2, rfl⟩ := List.append_of_mem him
   have hα : ∃ α, acts[i]? = some α := ⟨acts[i]'(by omega), List.getElem?_eq_getElem (by omega)⟩
   obtain ⟨α, hα⟩ := hα
   obtain ⟨ds, hds, hdd, _⟩ := depsOk_at hd ho
   have hdeps : ∀ d ∈ deps.getD i [], listed.getD d true = true := by
    intro d hdm
    rw [List.getD_eq_getElem?_getD, hds, Option.getD_some] at hdm
    obtain ⟨hlt, hor⟩ := hdd d hdm
    rcases hor with ⟨e, he, rfl, hb⟩ | ⟨e, he, hb, hm⟩
    ·have := h3 e he hb
     rw [Array.getD_eq_getD_getElem?] at this ⊢
     rw [Array.getElem?_eq_getElem (by omega)] at this ⊢
     exact this
    ·have h4 := h3 e he hb
     have hel : e.on < listed.size := by
      rw [Array.getD_eq_getD_getElem?] at h4
      by_cases hh : e.on < listed.size
      ·exact hh
      ·rw [Array.getElem?_eq_none (by omega)] at h4; simp at h4
     refine hclosed e.on (by omega) ?_ d hm
     rw [Array.getD_eq_getD_getElem?] at h4 ⊢
     rw [Array.getElem?_eq_getElem hel] at h4 ⊢
     exact h4
   have hsplit := List.pairwise_append.1 hsort
   have hcons := List.pairwise_cons.1 hsplit.2.1
   have hfm : (l1 ++ i :: l2).filterMap (acts[·]?) = l1.filterMap (acts[·]?) ++ α :: l2.filterMap (acts[·]?) := by
    rw [List.filterMap_append, List.filterMap_cons, hα]
   rw [hfm] at hch hfin
   have hind : ∀ β ∈ l1.filterMap (acts[·]?), β.indep α := by
    intro β hβ
    obtain ⟨k, hk, hk2⟩ := List.mem_filterMap.1 hβ
    have hlt := hsplit.2.2 k hk i List.mem_cons_self
    rcases hpair k i β α hlt hk2 hα with h5 | h5
    ·have := hdeps k h5
     have h6 := (hrem k).1 (List.mem_append_left _ hk)
     rw [this] at h6
     simp at h6
    ·exact h5
   obtain ⟨k1, k2, k3⟩ := Chain.extract hind hch
   have hwp := hexe i o α ho hα s k1 F bs a w hr (wpAny P .any ops (APost n F0 bs0 s0 w0 Q) fuel (listed.setIfInBounds i true)) (APost n F0 bs0 s0 w0 Q) (fun F' bs' a' w' hr' hs' => by
    have hilt : i < listed.size := by omega
    have hget : ∀ k, (listed.setIfInBounds i true).getD k true = if k = i then true else listed.getD k true := by
     intro k
     rw [Array.getD_eq_getD_getElem?, Array.getD_eq_getD_getElem?, Array.getElem?_setIfInBounds]
     by_cases e : i = k
     ·subst e; simp [hilt]
     ·rw [if_neg e, if_neg (fun h => e h.symm)]
    refine ih (listed.setIfInBounds i true) (l1 ++ l2) (α.app s) F' bs' a' w' (by simpa using hsz) (by simp at hfuel ⊢; omega) (fun k => ?_) ?_ ?_ ?_ ?_ hr' (hs.trans hs')
    ·rw [hget]
     have hk := hrem k
     constructor
     ·intro hm
      have hm2 : k ∈ l1 ++ i :: l2 := by
       rcases List.mem_append.1 hm with h | h
       ·exact List.mem_append_left _ h
       ·exact List.mem_append_right _ (List.mem_cons_of_mem _ h)
      obtain ⟨h5, h6⟩ := hk.1 hm2
      refine ⟨h5, ?_⟩
      have hne : k ≠ i := by
       rintro rfl
       rcases List.mem_append.1 hm with h | h
       ·have := hsplit.2.2 k h k List.mem_cons_self; omega
       ·have := hcons.1 k h; omega
      rw [if_neg hne]
      exact h6
     ·rintro ⟨h5, h6⟩
      split at h6
      ·simp at h6
      ·rename_i hne
       have hm := hk.2 ⟨h5, h6⟩
       rcases List.mem_append.1 hm with h | h
       ·exact List.mem_append_left _ h
       ·rcases List.mem_cons.1 h with h | h
        ·exact absurd h hne
        ·exact List.mem_append_right _ h
    ·refine List.pairwise_append.2 ⟨hsplit.1, hcons.2, fun x hx y hy => hsplit.2.2 x hx y (List.mem_cons_of_mem _ hy)⟩
    ·intro k hk hlk d hdm
     rw [hget] at hlk ⊢
     split
     ·rfl
     ·split at hlk
      ·rename_i e; subst e; exact hdeps d hdm
      ·exact hclosed k hk hlk d hdm
    ·rw [List.filterMap_append]; exact k2
    ·rw [List.filterMap_append]; exact k3.symm.trans hfin)
   unfold wpOp
   rw [ho]
   exact hwp
theorem AWp.draw {n : Nat} {ops : Array Oper} {id : Nat} {acts : List Actn} {deps : List (List Nat)} (hm : P.follows .mixedOrders = true) (hd : depsOk ops deps = true) (hl : acts.length = ops.size)
  (hexe : ∀ (i : Nat) (o : Oper) (α : Actn), ops[i]? = some o → acts[i]? = some α → Exe P n ops o α)
  (hpair : ∀ (i j : Nat) (α β : Actn), i < j → acts[i]? = some α → acts[j]? = some β → i ∈ deps.getD j [] ∨ α.indep β)
  {Q : Exit → ASt → Prop} {st : ASt} (hch : Chain acts st) (hQ : Q .normal (fin acts st)) : AWp P n (.region id ops true) Q st := fun F bs a w hr => by
 refine wp_region_any hm ?_
 have hall : (List.range ops.size).filterMap (acts[·]?) = acts := by
  rw [← hl]
  apply List.ext_getElem?
  intro i
  have : ∀ (l : List Actn), (List.range l.length).filterMap (l[·]?) = l := by
   intro l
   induction l with
   | nil => rfl
   | cons x l ih =>
    rw [List.length_cons, List.range_succ_eq_map, List.filterMap_cons]
    simp only [List.getElem?_cons_zero, List.filterMap_map]
    congr 1
  rw [this]
 have hr' : ARel n F bs st a { w with drawn := w.drawn + 1 } := ⟨hr.mem.heap rfl, hr.size, hr.env, hr.defers⟩
 have hs' : AStep F bs st w F bs st { w with drawn := w.drawn + 1 } := ⟨Fz.le_refl F, .refl _ _, ⟨rfl, rfl, rfl, Nat.le_refl _, fun _ _ _ => rfl⟩, Owns.refl _ _ _⟩
 refine draw_any hd hl hexe hpair (sf := fin acts st) hQ ops.size (Array.replicate ops.size false) (List.range ops.size) st F bs a _ (by simp) (by simp) (fun i => ?_) (List.pairwise_lt_range) (fun k hk hlk => ?_) ?_ ?_ hr' hs'
 ·simp only [List.mem_range, Array.getD_eq_getD_getElem?, Array.getElem?_replicate]
  constructor
  ·intro h; exact ⟨h, by simp [h]⟩
  ·exact fun h => h.1
 ·rw [Array.getD_eq_getD_getElem?, Array.getElem?_replicate, if_pos hk] at hlk
  simp at hlk
 ·rw [hall]; exact hch
 ·rw [hall]; exact .refl _
end Go.Proofs.YtkjfdacjjogpcaaPi

