/- Regions that draw their order, in the abstract program logic: new objects, calls, and the whole region in the order of the text. No Go text in it. -/
import Derived.Test.YtkjfdacjjogpcaaPiDact
set_option linter.unusedVariables false
set_option linter.unusedSimpArgs false
namespace Go.Proofs.YtkjfdacjjogpcaaPi
variable {P : Program}

/-! ### new objects -/
def stepD (P : Program) (st : ASt) (k : Nat) : Op → Option (PV × ASt)
 | .alloc t => allocD P st k t
 | .box _ x => (evalPV st x).bind (boxD st k)
 | .buildSlice t n ps => (evalParts st ps.toList).bind fun ys => litD P st k t n ys
 | .makeSlice t l c => match evalPV st l, evalPV st c with
  | some u, some v => makeD P st k t u v
  | _, _ => none
 | _ => none
theorem stepD_ok {n : Nat} {st st1 : ASt} {k : Nat} {op : Op} {z : PV} (hkd : look st.fr 0 k = some .dead) (hk : stepD P st k op = some (z, st1)) : OpOk P n st op z st1 := fun F bs a w hr o ho => by
 have key : st1.env = st.env → (∃ v w' bs', (execOp a.eval o).run P w = Result.ok (Next.value v) w' ∧ MRel F bs' st1.fr w' ∧ CStep F bs st.fr w F bs' st1.fr w' ∧ VRel F bs' st1.fr z v) →
   ∃ r v w' F' bs', (execOp a.eval o).run P w = .ok r w' ∧ (r = .value v ∨ r = .skip ∧ v = undef) ∧ MRel F' bs' st1.fr w' ∧ CStep F bs st.fr w F' bs' st1.fr w' ∧ VRel F' bs' st1.fr z v ∧ st1.env = st.env :=
  fun he ⟨v, w', bs', h1, h2, h3, h4⟩ => ⟨.value v, v, w', F, bs', h1, .inl rfl, h2, h3, h4, he⟩
 unfold stepD at hk
 split at hk
 ·have he : st1.env = st.env := by
   simp only [allocD, Option.map_eq_some_iff, Prod.mk.injEq] at hk
   obtain ⟨_, _, _, rfl⟩ := hk
   exact ASt.at_env _ _ _
  obtain ⟨v, w', bs', h1, h2, h3, h4⟩ := allocD_ok hr hkd hk (.tuple #[])
  exact key he ⟨v, w', bs', by simp [execOp, ho, h1], h2, h3, h4⟩
 ·rename_i t x
  simp only [Option.bind_eq_some_iff] at hk
  obtain ⟨v, hv, hk⟩ := hk
  have he : st1.env = st.env := by
   simp only [boxD, Option.map_eq_some_iff, Prod.mk.injEq] at hk
   obtain ⟨_, _, _, rfl⟩ := hk
   exact ASt.at_env _ _ _
  obtain ⟨v, w', bs', h1, h2, h3, h4⟩ := boxD_ok (P := P) (t := t) hr hkd (evalPV_rel hr hv) hk
  exact key he ⟨v, w', bs', by simp [execOp, ho, h1], h2, h3, h4⟩
 ·rename_i t len ps
  simp only [Option.bind_eq_some_iff] at hk
  obtain ⟨ys, hy, hk⟩ := hk
  have he : st1.env = st.env := by
   unfold litD at hk
   repeat' split at hk
   all_goals simp only [reduceCtorEq, Option.some.injEq, Prod.mk.injEq] at hk
   obtain ⟨_, rfl⟩ := hk
   exact ASt.at_env _ _ _
  obtain ⟨v, w', bs', h1, h2, h3, h4⟩ := litD_ok hr hkd hy hk
  refine key he ⟨v, w', bs', ?_, h2, h3, h4⟩
  have e : ps.map (fun (i, x) => (i, a.eval x)) = (ps.toList.map fun (i, x) => (i, a.eval x)).toArray := by apply Array.ext'; simp
  simp only [execOp, ho, e, Sem.run_bind, h1, Result.andThen_ok, Sem.run_pure]
 ·rename_i t l c
  split at hk
  ·rename_i u v hu hv
   have he : st1.env = st.env := by
    unfold makeD at hk
    repeat' split at hk
    all_goals simp only [reduceCtorEq, Option.some.injEq, Prod.mk.injEq] at hk
    obtain ⟨_, rfl⟩ := hk
    exact ASt.at_env _ _ _
   obtain ⟨v, w', bs', h1, h2, h3, h4⟩ := makeD_ok hr hkd (evalPV_rel hr hu) (evalPV_rel hr hv) hk
   exact key he ⟨v, w', bs', by simp [execOp, ho, h1], h2, h3, h4⟩
  ·simp at hk
 ·simp at hk
theorem stepD_local {st s st1 : ASt} {k : Nat} {op : Op} {v : PV} (hs : Sees st s op) (h : stepD P st k op = some (v, st1)) : ∃ o, st1 = st.at k o ∧ stepD P s k op = some (v, s.at k o) := by
 unfold stepD at h
 split at h
 ·simp only [allocD, Option.map_eq_some_iff, Prod.mk.injEq] at h
  obtain ⟨z, h1, rfl, rfl⟩ := h
  exact ⟨_, rfl, by simp [stepD, allocD, h1]⟩
 ·rename_i t x
  simp only [Option.bind_eq_some_iff] at h
  obtain ⟨u, hu, h⟩ := h
  simp only [boxD, Option.map_eq_some_iff, Prod.mk.injEq] at h
  obtain ⟨cs, h1, rfl, rfl⟩ := h
  exact ⟨_, rfl, by simp [stepD, hs.ev (show x ∈ opndsO (.box t x) by simp [opndsO]) hu, boxD, h1]⟩
 ·rename_i t len ps
  simp only [Option.bind_eq_some_iff] at h
  obtain ⟨ys, hy, h⟩ := h
  have hy' := hs.evp (fun p hp => by simp only [opndsO]; exact List.mem_map_of_mem hp) hy
  unfold litD at h
  split at h
  ·rename_i e h1
   split at h
   ·rename_i sz z h2 h3
    split at h
    ·rename_i hc
     split at h
     ·rename_i cs h4
      split at h
      ·rename_i rows h5
       simp only [Option.some.injEq, Prod.mk.injEq] at h
       obtain ⟨rfl, rfl⟩ := h
       exact ⟨_, rfl, by simp only [stepD, hy', Option.bind_some, litD, h1, h2, h3, if_pos hc, h4, h5]⟩
      ·simp at h
     ·simp at h
    ·simp at h
   ·simp at h
  ·simp at h
 ·rename_i t l c
  split at h
  ·rename_i u w hu hw
   have hu' := hs.ev (show l ∈ opndsO (.makeSlice t l c) by simp [opndsO]) hu
   have hw' := hs.ev (show c ∈ opndsO (.makeSlice t l c) by simp [opndsO]) hw
   unfold makeD at h
   split at h
   ·split at h
    ·rename_i e h1
     split at h
     ·rename_i sz by_ z h2 h3 h4
      split at h
      ·rename_i hc
       simp only [Option.some.injEq, Prod.mk.injEq] at h
       obtain ⟨rfl, rfl⟩ := h
       exact ⟨_, rfl, by simp only [stepD, hu', hw', makeD, h1, h2, h3, h4, if_pos hc]⟩
      ·simp at h
     ·simp at h
    ·simp at h
   ·simp at h
  ·simp at h
 ·simp at h
theorem exe_fresh {n : Nat} {st st1 : ASt} {g : GO} {v : PV} {k : Nat} (hkd : look st.fr 0 k = some .dead) (hg : guardA st.env g.guard = some true) (h : stepD P st k g.op = some (v, st1)) (hd : okDst n g.dst = true) :
  GExe P n g (actOf st g v [((0, k), .dead)] (turnedO st1 (0, k))) ∧ (actOf st g v [((0, k), .dead)] (turnedO st1 (0, k))).app st = st1.put g.dst v ∧ (actOf st g v [((0, k), .dead)] (turnedO st1 (0, k))).ok st := by
 have hself : Agree [((0, k), AObj.dead)] st.fr := fun p hp => by simp at hp; subst hp; exact hkd
 obtain ⟨o, h1, _⟩ := stepD_local (actOf_sees (actOf_self (g := g) (v := v) (rd := []) (ws := []) (fun p hp => by simp at hp))).1 h
 have hw : turnedO st1 (0, k) = [((0, k), o)] := by
  rw [turnedO, h1, ASt.at_fr, look, fget_fset_same _ _ _ _ _ hkd]
 rw [hw]
 refine ⟨exe_op hd rfl (fun s hs => guard_local (actOf_sees hs).2.1 hg) (fun s hs => ?_), by rw [h1]; rfl, actOf_self hself⟩
 obtain ⟨o', h3, h4⟩ := stepD_local (actOf_sees hs).1 h
 have : o' = o := by
  have := congrArg ASt.fr (h1.symm.trans h3)
  rw [ASt.at_fr, ASt.at_fr] at this
  have := congrArg (fun f => fget f 0 k) this
  simp only [fget_fset_same _ _ _ _ _ hkd, Option.some.injEq] at this
  exact this.symm
 subst this
 exact stepD_ok ((actOf_sees hs).2.2 ((0, k), .dead) (by simp)) h4
theorem Ghost.spare {n : Nat} {st : ASt} : Ghost n st (st.push .dead) := fun F bs a w h => by
 have hm := h.mem
 have hsh := hm.shape
 cases bs with
 | nil => simp [ASt.fr] at hsh
 | cons b0 bs =>
  obtain ⟨h1, h2, h3⟩ := hm.push (F' := F) (w' := w) .dead (none, 0) (fun b hb => rfl) (Fz.le_refl F) (fun _ _ _ => rfl) (fun b q v hb hq => hm.fz b q v hq) (fun b hb => by simp at hb) trivial
  obtain ⟨h4, h5⟩ := h.moved (fr' := (st.push .dead).fr) h1 ⟨Fz.le_refl F, h2, .refl _ _ _, h3⟩ (by rw [setFr_push])
  rw [setFr_push] at h4 h5
  exact ⟨F, _, h4, h5⟩
def ASt.pushN (st : ASt) : Nat → ASt
 | 0 => st
 | k + 1 => (st.push .dead).pushN k
theorem Ghost.spares {n : Nat} : ∀ (k : Nat) {st : ASt}, Ghost n st (st.pushN k)
 | 0, st => .refl _ _
 | k + 1, st => Ghost.trans .spare (Ghost.spares k)

/-! ### calls -/
mutual
def PV.calm : PV → Bool
 | .agg cs => calms cs
 | .tup cs => calms cs
 | .ms _ _ _ => false
 | .full _ => false
 | .nils => false
 | .fn _ cap => calms cap
 | _ => true
def calms : List PV → Bool
 | [] => true
 | x :: xs => x.calm && calms xs
end
theorem exe_call {n : Nat} {st : ASt} {g : GO} {v : PV} {rd ws : List (Ref × AObj)} {f : Operand} {args : Array Operand} {ts : Array TypeId} {fid : FuncId} {cap xs : List PV}
  (hop : g.op = .call { callee := .value f, args, argTypes := ts }) (hg : guardA st.env g.guard = some true) (hf : evalPV st f = some (.fn fid cap)) (hx : evalsPV st args.toList = some xs) (hd : okDst n g.dst = true) (hb : bodyB P fid = true)
  (h : ∀ u, Agree rd u → ACalls P fid (xs ++ cap) u fun pv fr' => pv = v ∧ fr' = wr u ws) : GExe P n g (actOf st g v rd ws) := fun ops o ho s hs F bs a w hr next Q hn => by
 obtain ⟨h3, h4, h5⟩ := goOf_guard ho s.env
 obtain ⟨hsee, hgd, hag⟩ := actOf_sees hs
 rw [if_pos (wantedA_ok hr (h3.trans (guard_local hgd hg)))]
 refine .inl ?_
 have e1 : evalPV s f = some (.fn fid cap) := hsee.ev (by rw [hop]; simp [opndsO]) hf
 have e2 : evalsPV s args.toList = some xs := hsee.evs (fun x hx => by rw [hop]; simp only [opndsO]; exact List.mem_cons_of_mem _ hx) hx
 have hfv := evalPV_rel hr e1
 simp only [VRel] at hfv
 obtain ⟨cv, hfv, hcap⟩ := hfv
 have hargs := evalsPV_rel hr e2
 have hall : VRels F bs s.fr (xs ++ cap) ((args.map a.eval) ++ cv).toList := by
  simp only [Array.toList_append, Array.toList_map]
  exact hargs.append hcap
 have hcalls := h s.fr hag F bs w _ hr.mem hall
 have hrun : (execOp a.eval o).run P w = .ok (.enter fid ((args.map a.eval) ++ cv)) w := by
  simp only [execOp, ← h5, hop, resolve, hfv, Deferred.ofValue, Sem.run_bind, Sem.run_pure, Result.andThen_ok, invoke, Array.empty_append]
  exact run_callFunc_body hb _ w
 unfold Oper.wp
 rw [hrun]
 refine hcalls.mono ?_
 rintro e w' ⟨v', pv, F', bs', up', rfl, ⟨rfl, rfl⟩, h6, h7, h8⟩
 have hset : (s.setFr (wr s.fr ws)).fr = wr s.fr ws := setFr_wr s ws
 obtain ⟨h9, h10⟩ := hr.step (st1 := s.setFr (wr s.fr ws)) (by rw [hset]; exact h6) (by rw [hset]; exact h8) (ASt.setFr_env _ _)
 have hp := h9.put (x := pv) (v := v') (dst := o.dst) (by rw [← h4]; exact hd) (by rw [hset]; exact h7)
 have e : (s.setFr (wr s.fr ws)).put o.dst pv = (actOf st g pv rd ws).app s := by rw [Actn.app, ← h4]; rfl
 refine hn F' bs' _ w' (by rw [← e]; exact hp) ?_
 rw [← e]
 cases o.dst with
 | none => exact h10
 | some t => exact ⟨h10.le, h10.ev, h10.keeps, h10.owns⟩

/-! ### the whole region -/
structure Met where
 rd : List Ref
 wr : List Ref
 soft : List (Ref × Nat)
 keeps : List (Ref × Nat)
def Actn.met (α : Actn) : Met := ⟨α.reads.map (·.1), α.writes.map (·.1), α.soft.map (fun p => (p.1, p.2.1)), α.keeps⟩
def softB (a b : Met) : Bool := b.soft.all fun p => !a.wr.contains p.1 || a.keeps.contains p
def meetB (a b : Met) : Bool := a.wr.all (fun r => !b.rd.contains r && !b.wr.contains r) && b.wr.all (fun r => !a.rd.contains r) && (softB a b && softB b a)
theorem spares_of {α β : Actn} (h : α.fair) (hm : softB α.met β.met = true) : α.spares β := fun p hp q hq e => by
 simp only [softB, Actn.met, List.all_eq_true, Bool.or_eq_true, Bool.not_eq_true'] at hm
 rcases hm (p.1, p.2.1) (List.mem_map.2 ⟨p, hp, rfl⟩) with h1 | h1
 ·have h2 : (α.writes.map (·.1)).contains p.1 = true := by rw [List.contains_iff_mem, ← e]; exact List.mem_map_of_mem hq
  simp only at h1
  rw [h2] at h1; simp at h1
 ·exact h (p.1, p.2.1) (by simpa using h1) q hq e
def metAll (deps : List (List Nat)) (l : List Met) : Bool := (List.range l.length).all fun j => match l[j]? with
 | some b => (List.range j).all fun i => (deps.getD j []).contains i || (match l[i]? with
  | some a => meetB a b
  | none => true)
 | none => true
def slotsB (deps : List (List Nat)) (l : List GO) : Bool := (List.range l.length).all fun j => match l[j]? with
 | some b => (List.range j).all fun i => (deps.getD j []).contains i || (match l[i]? with
  | some a => (match a.dst with
   | some t => !(b.dst == some t) && !(slotsO b).contains t
   | none => true) && (match b.dst with
   | some t => !(slotsO a).contains t
   | none => true)
  | none => true)
 | none => true
theorem indep_of {α β : Actn} {a b : GO} (hα : α.fits a) (hβ : β.fits b) (hm : meetB α.met β.met = true) (hs : ((match a.dst with
   | some t => !(b.dst == some t) && !(slotsO b).contains t
   | none => true) && (match b.dst with
   | some t => !(slotsO a).contains t
   | none => true)) = true) : α.indep β := by
 simp only [Bool.and_eq_true] at hs
 simp only [meetB, Bool.and_eq_true] at hm
 obtain ⟨hm, hm2, hm3⟩ := hm
 simp only [Actn.met, List.all_eq_true, Bool.not_eq_true', Bool.and_eq_true] at hm
 refine ⟨fun t ht => ?_, fun t ht p hp e => ?_, fun p hp => ⟨fun q hq e => ?_, fun q hq e => ?_⟩, fun p hp q hq e => ?_, spares_of hα.2.2 hm2, spares_of hβ.2.2 hm3⟩
 ·rw [hα.1] at ht
  rw [ht] at hs
  simp only [Bool.and_eq_true, Bool.not_eq_true', beq_eq_false_iff_ne] at hs
  refine ⟨by rw [hβ.1]; exact hs.1.1, fun p hp e => ?_⟩
  have := hβ.2.1 p hp
  rw [e, ← List.contains_iff_mem] at this
  rw [this] at hs
  simp at hs
 ·rw [hβ.1] at ht
  rw [ht] at hs
  have := hα.2.1 p hp
  rw [e, ← List.contains_iff_mem] at this
  simp only [this] at hs
  simp at hs
 ·have h1 := (hm.1 p.1 (List.mem_map_of_mem hp)).1
  have h2 : (β.reads.map (·.1)).contains p.1 = true := by rw [List.contains_iff_mem, e]; exact List.mem_map_of_mem hq
  rw [h2] at h1; simp at h1
 ·have h1 := (hm.1 p.1 (List.mem_map_of_mem hp)).2
  have h2 : (β.writes.map (·.1)).contains p.1 = true := by rw [List.contains_iff_mem, e]; exact List.mem_map_of_mem hq
  rw [h2] at h1; simp at h1
 ·have h1 := hm.2 p.1 (List.mem_map_of_mem hp)
  have h2 : (α.reads.map (·.1)).contains p.1 = true := by rw [List.contains_iff_mem, e]; exact List.mem_map_of_mem hq
  rw [h2] at h1; simp at h1
inductive Plan (P : Program) (n : Nat) : List GO → ASt → List Actn → ASt → Prop
 | nil (st : ASt) : Plan P n [] st [] st
 | cons {g : GO} {gs : List GO} {α : Actn} {as : List Actn} {st st1 st' : ASt} : GExe P n g α → α.ok st → α.fits g → α.app st = st1 → Plan P n gs st1 as st' → Plan P n (g :: gs) st (α :: as) st'
def DOps (P : Program) (n : Nat) (deps : List (List Nat)) (l : List GO) (acc : List Met) (st : ASt) (K : ASt → Prop) : Prop :=
 ∃ as st', Plan P n l st as st' ∧ metAll deps (acc ++ as.map Actn.met) = true ∧ K st'
theorem DOps.nil {n : Nat} {deps : List (List Nat)} {acc : List Met} {st : ASt} {K : ASt → Prop} (h : metAll deps acc = true) (hk : K st) : DOps P n deps [] acc st K := ⟨[], st, .nil st, by simpa using h, hk⟩
theorem DOps.cons {n : Nat} {deps : List (List Nat)} {g : GO} {gs : List GO} {acc : List Met} {st st1 : ASt} {K : ASt → Prop} {α : Actn} (h1 : GExe P n g α) (h2 : α.ok st) (h3 : α.fits g) (h4 : α.app st = st1) (h : DOps P n deps gs (acc ++ [α.met]) st1 K) : DOps P n deps (g :: gs) acc st K := by
 obtain ⟨as, st', h5, h6, h7⟩ := h
 exact ⟨α :: as, st', .cons h1 h2 h3 h4 h5, by simpa using h6, h7⟩
def spareAt : Nat → List AObj → Option Nat
 | _, [] => none
 | k, .dead :: _ => some k
 | k, _ :: l => spareAt (k + 1) l
theorem spareAt_ok : ∀ {l : List AObj} {k j : Nat}, spareAt k l = some j → k ≤ j ∧ l[j - k]? = some .dead
 | [], k, j, h => by simp [spareAt] at h
 | o :: l, k, j, h => by
  have rest : spareAt (k + 1) l = some j → k ≤ j ∧ (o :: l)[j - k]? = some .dead := fun h => by
   obtain ⟨h1, h2⟩ := spareAt_ok h
   refine ⟨by omega, ?_⟩
   rw [show j - k = (j - (k + 1)) + 1 by omega, List.getElem?_cons_succ]
   exact h2
  cases o with
  | dead =>
   simp only [spareAt, Option.some.injEq] at h
   subst h
   exact ⟨Nat.le_refl _, by simp⟩
  | _ => exact rest h
def runD (P : Program) (n : Nat) : List GO → List Met → ASt → List Met × ASt × List GO
 | [], acc, st => (acc, st, [])
 | g :: gs, acc, st => if okDst n g.dst then (match guardA st.env g.guard with
  | some true => if pureO g.op then (match stepV P st g.op with
    | some (v, st1) => runD P n gs (acc ++ [⟨(refsOf st.fr (valsO st (opndsM g.op))).map (·.1), [], [], []⟩]) (st1.put g.dst v)
    | none => (acc, st, g :: gs))
   else (match tgtO st g.op with
    | some r => (match stepV P st g.op with
     | some (v, st1) => runD P n gs (acc ++ [⟨(refsOf st.fr (valsO st (opndsM g.op))).map (·.1), [r], [], []⟩]) (st1.put g.dst v)
     | none => (acc, st, g :: gs))
    | none => (match spareAt 0 st.loc with
     | some k => (match stepD P st k g.op with
      | some (v, st1) => runD P n gs (acc ++ [⟨(refsOf st.fr (valsO st (opndsM g.op))).map (·.1) ++ [(0, k)], [(0, k)], [], []⟩]) (st1.put g.dst v)
      | none => (acc, st, g :: gs))
     | none => (acc, st, g :: gs)))
  | some false => runD P n gs (acc ++ [⟨[], [], [], []⟩]) (st.put g.dst (.tup []))
  | none => (acc, st, g :: gs)) else (acc, st, g :: gs)
theorem DOps.run {n : Nat} {deps : List (List Nat)} {K : ASt → Prop} : ∀ {l : List GO} {acc : List Met} {st : ASt}, DOps P n deps (runD P n l acc st).2.2 (runD P n l acc st).1 (runD P n l acc st).2.1 K → DOps P n deps l acc st K
 | [], acc, st, h => h
 | g :: gs, acc, st, h => by
  simp only [runD] at h
  split at h
  ·rename_i hd
   split at h
   ·rename_i hg
    split at h
    ·rename_i hp
     split at h
     ·rename_i v st1 hs
      obtain ⟨h1, h2⟩ := exe_pure hg hp hs hd
      refine DOps.cons h1 (actOf_self fun p hp => by simp at hp) actOf_fits h2 (DOps.run ?_)
      simpa [Actn.met, actOf] using h
     ·exact h
    ·split at h
     ·rename_i r ht
      split at h
      ·rename_i v st1 hs
       obtain ⟨h1, h2⟩ := exe_write hg ht hs hd
       refine DOps.cons h1 (actOf_self fun p hp => by simp at hp) actOf_fits h2 (DOps.run ?_)
       have hw : (turnedO st1 r).map (·.1) = [r] := by
        obtain ⟨o, h3, _, h4⟩ := stepW_local ht (actOf_sees (actOf_self (g := g) (v := v) (rd := []) (ws := []) (fun p hp => by simp at hp))).1 hs
        obtain ⟨o0, h5⟩ := Option.isSome_iff_exists.1 h4
        rw [turnedO, h3, ASt.setFr_fset, look, fget_fset_same _ _ _ _ _ h5]
        rfl
       simpa [Actn.met, actOf, hw] using h
      ·exact h
     ·split at h
      ·rename_i k hk
       split at h
       ·rename_i v st1 hs
        have hkd : look st.fr 0 k = some .dead := by have := (spareAt_ok hk).2; simpa [ASt.fr] using this
        obtain ⟨h1, h2, h3⟩ := exe_fresh hkd hg hs hd
        refine DOps.cons h1 h3 actOf_fits h2 (DOps.run ?_)
        have hw : (turnedO st1 (0, k)).map (·.1) = [(0, k)] := by
         obtain ⟨o, h4, _⟩ := stepD_local (actOf_sees (actOf_self (g := g) (v := v) (rd := []) (ws := []) (fun p hp => by simp at hp))).1 hs
         rw [turnedO, h4, ASt.at_fr, look, fget_fset_same _ _ _ _ _ hkd]
         rfl
        simpa [Actn.met, actOf, hw] using h
       ·exact h
      ·exact h
   ·rename_i hg
    refine DOps.cons (α := ⟨g.dst, .tup [], guardNeed st.env g.guard, [], [], [], []⟩) (st1 := st.put g.dst (.tup [])) (exe_skip hd rfl rfl rfl (fun s hs => guard_local hs.1 hg)) ⟨fun p hp => (needsA_in (st := st) (g := g) (List.mem_append_left _ hp)).2, fun p hp => by simp at hp, fun p hp => by simp at hp⟩ ⟨rfl, fun p hp => (needsA_in (st := st) (g := g) (List.mem_append_left _ hp)).1, fun p hp => by simp at hp⟩ rfl (DOps.run ?_)
    simpa [Actn.met] using h
   ·exact h
  ·exact h
theorem DOps.call {n : Nat} {deps : List (List Nat)} {K : ASt → Prop} {gs : List GO} {acc : List Met} {st : ASt} {f : Operand} {args : Array Operand} {ts : Array TypeId} {dst : Option Nat} {gd : Option (Nat × Bool)} {fid : FuncId} {cap xs : List PV} (v : PV) (rd ws : List (Ref × AObj))
  (hg : guardA st.env gd = some true) (hf : evalPV st f = some (.fn fid cap)) (hx : evalsPV st args.toList = some xs) (hd : okDst n dst = true) (hb : bodyB P fid = true)
  (hrd : Agree rd st.fr) (h : ∀ u, Agree rd u → ACalls P fid (xs ++ cap) u fun pv fr' => pv = v ∧ fr' = wr u ws)
  (hk : DOps P n deps gs (acc ++ [⟨rd.map (·.1), ws.map (·.1), [], []⟩]) ((st.setFr (wr st.fr ws)).put dst v) K) :
  DOps P n deps (⟨dst, .call { callee := .value f, args, argTypes := ts }, gd⟩ :: gs) acc st K :=
 DOps.cons (exe_call rfl hg hf hx hd hb h) (actOf_self hrd) actOf_fits rfl hk
theorem Plan.get {n : Nat} : ∀ {l : List GO} {st st' : ASt} {as : List Actn}, Plan P n l st as st' → as.length = l.length ∧ Chain as st ∧ fin as st = st' ∧ ∀ (i : Nat) (α : Actn), as[i]? = some α → ∃ g : GO, l[i]? = some g ∧ GExe P n g α ∧ α.fits g
 | _, _, _, _, .nil st => ⟨rfl, trivial, rfl, fun i α h => by simp at h⟩
 | _, _, _, _, .cons (g := g) h1 h2 h3 h4 h5 => by
  obtain ⟨h6, h7, h8, h9⟩ := h5.get
  subst h4
  refine ⟨by simp [h6], ⟨h2, h7⟩, h8, fun i α hα => ?_⟩
  cases i with
  | zero => simp at hα; subst hα; exact ⟨g, rfl, h1, h3⟩
  | succ i => simpa using h9 i α (by simpa using hα)
theorem gosOf_get {ops : Array Oper} : ∀ {l : List Oper} {gs : List GO}, gosOf ops l = some gs → gs.length = l.length ∧ ∀ (i : Nat) (o : Oper) (g : GO), l[i]? = some o → gs[i]? = some g → goOf ops o = some g
 | [], gs, h => by simp only [gosOf, Option.some.injEq] at h; subst h; exact ⟨rfl, fun i o g h => by simp at h⟩
 | o :: l, gs, h => by
  simp only [gosOf] at h
  split at h
  ·rename_i g gs' h1 h2
   simp only [Option.some.injEq] at h
   subst h
   obtain ⟨h3, h4⟩ := gosOf_get h2
   refine ⟨by simp [h3], fun i o' g' ho hg => ?_⟩
   cases i with
   | zero => simp at ho hg; subst ho hg; exact h1
   | succ i => exact h4 i o' g' (by simpa using ho) (by simpa using hg)
  ·simp at h
theorem AWp.draw_k {n : Nat} {ops : Array Oper} {id : Nat} {l : List GO} {deps : List (List Nat)} {Q : Exit → ASt → Prop} {st : ASt} (hm : P.follows .mixedOrders = true) (hl : gosOf ops ops.toList = some l) (hd : depsOk ops deps = true) (hs : slotsB deps l = true)
  (h : DOps P n deps l [] st (Q .normal)) : AWp P n (.region id ops true) Q st := by
 obtain ⟨as, st', h1, h2, h3⟩ := h
 obtain ⟨h4, h5, h6, h7⟩ := h1.get
 obtain ⟨h8, h9⟩ := gosOf_get hl
 refine AWp.draw (acts := as) hm hd (by rw [h4, h8]; simp) (fun i o α ho hα => ?_) (fun i j α β hij hα hβ => ?_) h5 (by rw [h6]; exact h3)
 ·obtain ⟨g, hg, hex, _⟩ := h7 i α hα
  exact hex ops o (h9 i o g (by simpa using ho) hg)
 ·obtain ⟨a, ha, _, hfa⟩ := h7 i α hα
  obtain ⟨b, hb, _, hfb⟩ := h7 j β hβ
  by_cases hdep : i ∈ deps.getD j []
  ·exact .inl hdep
  ·refine .inr (indep_of hfa hfb ?_ ?_)
   ·simp only [List.nil_append, metAll, List.all_eq_true, List.mem_range, List.length_map] at h2
    have hj := (List.getElem?_eq_some_iff.1 hβ).1
    have := h2 j hj
    simp only [List.getElem?_map, hβ, Option.map_some, List.all_eq_true, List.mem_range] at this
    have := this i hij
    simp only [List.getElem?_map, hα, Option.map_some, Bool.or_eq_true, List.contains_iff_mem] at this
    exact this.resolve_left hdep
   ·simp only [slotsB, List.all_eq_true, List.mem_range] at hs
    have hj := (List.getElem?_eq_some_iff.1 hb).1
    have := hs j hj
    simp only [hb, List.all_eq_true, List.mem_range] at this
    have := this i hij
    simp only [ha, Bool.or_eq_true, List.contains_iff_mem] at this
    exact this.resolve_left hdep
end Go.Proofs.YtkjfdacjjogpcaaPi

