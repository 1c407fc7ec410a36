/- Stacks: the last object of the call's own, a row, is cut to its first elements; no other handle leads to it. No Go text in it. -/
import Derived.Test.YtdgpmopcmacicaaPiNest
set_option linter.unusedVariables false
set_option linter.unusedSimpArgs false
namespace Go.Proofs.YtdgpmopcmacicaaPi
variable {P : Program}

theorem popRow_ok {n m : Nat} {env e : List (Nat × PV)} {L : List AObj} {up : Frs} {t sz : Nat} {rows : List (List Im)} (hm : m ≤ rows.length) (he : ehas env e)
    (h1 : unders L.length (e.map (·.2)) = true) (h2 : L.all (AObj.under L.length) = true) {F : Fz} {bs : Bns} {a : Act} {w : World} (h : ARel n F bs ⟨env, L ++ [.row t sz rows 0], up⟩ a w) :
    ARel n F bs ⟨e, L ++ [.row t sz (rows.take m) 0], up⟩ a w ∧ AStep F bs ⟨env, L ++ [.row t sz rows 0], up⟩ w F bs ⟨e, L ++ [.row t sz (rows.take m) 0], up⟩ w ∧
    ∀ A c, VRel F bs ((L ++ [.row t sz rows 0]) :: up) (.ms 0 L.length rows.length) (.slice A rows.length c) → rows ≠ [] → (∃ b, A = some ⟨b, 0, none⟩) ∧ 0 < c ∧ VRel F bs ((L ++ [.row t sz (rows.take m) 0]) :: up) (.ms 0 L.length m) (.slice A m c) := by
  have hmm := h.mem
  have hsh := hmm.shape
  cases bs with
  | nil => simp [ASt.fr] at hsh
  | cons b0 bs =>
    simp only [ASt.fr, List.map_cons, List.cons.injEq, List.length_append, List.length_cons, List.length_nil] at hsh
    have hfr : (⟨env, L ++ [.row t sz rows 0], up⟩ : ASt).fr = (L ++ [.row t sz rows 0]) :: up := rfl
    rw [hfr] at hmm
    have hlast : look ((L ++ [AObj.row t sz rows 0]) :: up) 0 L.length = some (.row t sz rows 0) := by simp
    have hlast2 : look ((L ++ [AObj.row t sz (rows.take m) 0]) :: up) 0 L.length = some (.row t sz (rows.take m) 0) := by simp
    obtain ⟨A, hA⟩ := look_bnd hmm.shape hlast
    obtain ⟨k1, k2, k3, k4, k5, k6⟩ := hmm.obj 0 L.length _ _ hlast hA
    have m4 := hmm.trunc L.length (by rw [List.take_left' rfl]; exact h2)
    rw [List.take_left' rfl] at m4
    have hb0 : b0 = b0.take L.length ++ [A] := by
      have h3 : b0.take (L.length + 1) = b0 := List.take_of_length_le (by omega)
      have h4 : b0[L.length]? = some A := by simpa [bnd] using hA
      refine h3.symm.trans ?_
      rw [List.take_add_one, h4]
      rfl
    have m5 := m4.gain (.row t sz (rows.take m) 0) A (fun b hb d j ho => by
        have ho2 : Own (b0 :: bs) ((L ++ [.row t sz rows 0]) :: up) d j b ∧ (d = 0 → j < L.length) := by
          obtain ⟨o, k, p1, p2, p3⟩ := ho
          cases d with
          | succ d => exact ⟨⟨o, k, by simpa only [look_succ] using p1, p2, by simpa only [bnd, look_succ] using p3⟩, fun e => by omega⟩
          | zero =>
            have hj : j < L.length := by simp only [look_zero] at p1; exact (List.getElem?_eq_some_iff.1 p1).1
            refine ⟨⟨o, k, ?_, p2, ?_⟩, fun _ => hj⟩
            · simp only [look_zero] at p1 ⊢; rw [List.getElem?_append_left hj]; exact p1
            · simp only [bnd, look_zero, List.getElem?_take, hj, if_true] at p3 ⊢; exact p3
        have hown : Own (b0 :: bs) ((L ++ [.row t sz rows 0]) :: up) 0 L.length b := ⟨.row t sz rows 0, A.2, hlast, trivial, by rw [hA, ← hb]⟩
        obtain ⟨e2, e3⟩ := hmm.inj _ _ _ _ _ ho2.1 hown
        have := ho2.2 e2
        omega) (by
        refine ⟨k1, by rw [List.length_take]; omega, k3, Nat.zero_le _, k5, fun b hb => ?_⟩
        obtain ⟨arr, g1, g2, g3, g4, g5⟩ := k6 b hb
        refine ⟨arr, g1, g2, fun i r hr => ?_, g4, g5⟩
        rw [List.getElem?_take] at hr
        split at hr
        · exact g3 i r hr
        · simp at hr)
    rw [← hb0] at m5
    obtain ⟨m5, m6⟩ := m5
    refine ⟨⟨m5, h.size, fun u v hv => ⟨(h.env u v (ehas_mem he _ (eget_mem hv))).1, ?_⟩, h.defers⟩, ⟨Fz.le_refl F, .refl _ _, .refl _ _ _, ?_⟩, ?_⟩
    · have hin : ∀ {e : List (Nat × PV)} {t : Nat} {v : PV}, unders L.length (e.map (·.2)) = true → eget e t = some v → v.under L.length = true := by
        intro e
        induction e with
        | nil => intro t v _ h; simp [eget] at h
        | cons p e ih =>
          intro t v h1 h2
          simp only [List.map_cons, unders, Bool.and_eq_true] at h1
          simp only [eget] at h2
          split at h2
          · simp only [Option.some.injEq] at h2; subst h2; exact h1.1
          · exact ih h1.2 h2
      have w1 := (h.env u v (ehas_mem he _ (eget_mem hv))).2
      rw [hfr] at w1
      have w2 := VRel.trunc (hin h1 hv) w1
      rw [List.take_left' rfl] at w2
      exact VRel.move (Fz.le_refl F) m6 w2
    · intro d j b ⟨o, k, p1, p2, p3⟩
      refine .inl ⟨d, j, ?_⟩
      cases d with
      | succ d => exact ⟨o, k, p1, p2, p3⟩
      | zero =>
        simp only [ASt.fr, look_zero] at p1
        by_cases hj : j < L.length
        · rw [List.getElem?_append_left hj] at p1
          exact ⟨o, k, by simp only [ASt.fr, look_zero]; rw [List.getElem?_append_left hj]; exact p1, p2, p3⟩
        · have hj2 := (List.getElem?_eq_some_iff.1 p1).1
          simp at hj2
          have hj3 : j = L.length := by omega
          subst hj3
          exact ⟨.row t sz rows 0, k, hlast, trivial, p3⟩
    · intro A' c hv hne
      simp only [VRel] at hv ⊢
      obtain ⟨A2, c2, r1, r2, t2, sz2, rows2, fz2, a2, r3, r4, r5, r6⟩ := hv
      cases r1
      rw [hlast] at r3
      cases r3
      rw [hA] at r4
      cases r4
      obtain ⟨r7, r8⟩ := r6 rfl
      have hrl : 0 < rows.length := List.length_pos_iff.2 hne
      refine ⟨?_, by omega, A', c, rfl, by omega, t, sz, rows.take m, 0, A, hlast2, hA, by rw [List.length_take]; omega, fun _ => ⟨r7, r8⟩⟩
      cases hA1 : A.1 with
      | none => have := k5 hA1; omega
      | some b => exact ⟨b, by rw [r7, hA1]; rfl⟩
theorem AOps.pop {n : Nat} {ops : Array Oper} {rest : List Oper} {o : Oper} {Q : Exit → ASt → Prop} {T e0 : TypeId} {x hi : Operand} {k : IntKind} {m : Nat} {env : List (Nat × PV)} {L : List AObj} {up : Frs} {t sz : Nat} {rows : List (List Im)} (e : List (Nat × PV))
    (hg : wantedA ops env o = some true) (hop : o.op = .slice T x none (some hi) none) (hx : evalPV ⟨env, L ++ [.row t sz rows 0], up⟩ x = some (.ms 0 L.length rows.length)) (hhi : evalPV ⟨env, L ++ [.row t sz rows 0], up⟩ hi = some (.im (.int k m)))
    (hT : elemT P T = some e0) {s0 : Nat} (hs : sizeT P e0 = some s0) (hm : m ≤ rows.length) (hne : rows ≠ []) (he : ehas env e) (h1 : unders L.length (e.map (·.2)) = true) (h2 : L.all (AObj.under L.length) = true) (hd : okDst n o.dst = true)
    (h : AOps P n ops rest Q ((⟨e, L ++ [.row t sz (rows.take m) 0], up⟩ : ASt).put o.dst (.ms 0 L.length m))) : AOps P n ops (o :: rest) Q ⟨env, L ++ [.row t sz rows 0], up⟩ := fun F bs a w hr => by
  unfold wpList
  rw [if_pos (wantedA_ok hr hg)]
  refine .inl ?_
  obtain ⟨p1, p2, p3⟩ := popRow_ok hm he h1 h2 hr
  have hxv := evalPV_rel hr hx
  have hhv := evalPV_rel hr hhi
  have hxv2 := hxv
  simp only [VRel] at hxv2
  obtain ⟨A, c, hv, hc, _⟩ := hxv2
  rw [hv] at hxv
  obtain ⟨⟨b, hb⟩, hc0, q⟩ := p3 A c hxv hne
  have hbd := bounds_ok (P := P) (F := F) (bs := bs) (fr := (⟨env, L ++ [.row t sz rows 0], up⟩ : ASt).fr) (w := w) true rows.length c (lo := none) (hi := some (.im (.int k m))) (mx := none) (vlo := none) (vhi := some (a.eval hi)) (vmx := none) (l := 0) (h := m) (m := c) rfl (by simp [boundPV]) rfl trivial hhv trivial (fun e => absurd rfl e) (Nat.zero_le _) (by omega) (Nat.le_refl _) (fun _ => by omega)
  have hrun : (execOp a.eval o).run P w = .ok (.value (.slice A m c)) w := by
    subst hb
    simp [execOp, hop, hv, Instr.sliceAt, Instr.slice, run_underlying (elemT_some hT), hbd, run_sizeT hs, add_none]
    try omega
  unfold Oper.wp
  rw [hrun]
  have hp := p1.put (dst := o.dst) hd q
  refine wpList_mono ?_ (h F bs _ w hp)
  rintro e' a2 w2 ⟨st2, F2, bs2, h3, h4, h5⟩
  refine ⟨st2, F2, bs2, h3, h4, p2.trans ?_⟩
  cases hdst : o.dst with
  | none => rw [hdst] at h5; exact h5
  | some t => rw [hdst] at h5; exact ⟨h5.le, h5.ev, h5.keeps, h5.owns⟩
theorem GOps.pop {n : Nat} {Q : Exit → ASt → Prop} {gs : List GO} {dst : Option Nat} {gd : Option (Nat × Bool)} {T e0 : TypeId} {x hi : Operand} {k : IntKind} {env : List (Nat × PV)} {loc : List AObj} {up : Frs} {t sz s0 : Nat} {rows : List (List Im)} (e : List (Nat × PV)) (L : List AObj) (m : Nat)
    (h : GOps P n gs Q ((⟨e, L ++ [.row t sz (rows.take m) 0], up⟩ : ASt).put dst (.ms 0 L.length m))) (he : ehas env e) (hm : m ≤ rows.length) (hne : rows ≠ []) (hx : evalPV ⟨env, L ++ [.row t sz rows 0], up⟩ x = some (.ms 0 L.length rows.length)) (hhi : evalPV ⟨env, L ++ [.row t sz rows 0], up⟩ hi = some (.im (.int k m)))
    (hloc : loc = L ++ [.row t sz rows 0] := by rfl) (hT : elemT P T = some e0 := by rfl) (hs : sizeT P e0 = some s0 := by rfl) (h1 : unders L.length (e.map (·.2)) = true := by rfl) (h2 : L.all (AObj.under L.length) = true := by rfl) (hg : guardA env gd = some true := by rfl) (hd : okDst n dst = true := by rfl) :
    GOps P n (⟨dst, .slice T x none (some hi) none, gd⟩ :: gs) Q ⟨env, loc, up⟩ := fun ops l' hl => by
  subst hloc
  obtain ⟨o, l, rfl, h3, h4⟩ := gosOf_cons hl
  obtain ⟨h5, h6, h7⟩ := goOf_guard h3 env
  simp only at h5 h6 h7
  refine AOps.pop e (h5.trans hg) h7.symm hx hhi hT hs hm hne he h1 h2 (by rw [← h6]; exact hd) ?_
  rw [← h6]
  exact h ops l h4
end Go.Proofs.YtdgpmopcmacicaaPi
