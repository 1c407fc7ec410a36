/- Part 4 of the proof: the texts WKB, WKC, WKD, PBack, WNA, one behind the other. Each holds for every input that it names; no condition is hidden. -/
import Derived.Test.YtdgpmopcmacicaaM3
import Derived.Test.YtdgpmopcmacicaaPiRes
import Derived.Test.YtdgpmopcmacicaaM2
import Derived.Test.YtdgpmopcmacicaaPiNest
/- The walk of what gives each literal a net (With$1): an inverter is made where none is yet. -/
set_option linter.unusedVariables false
set_option linter.unusedSimpArgs false
set_option maxRecDepth 100000
namespace Go.Proofs.YtdgpmopcmacicaaPi
set_option maxHeartbeats 4000000
theorem FirstM_ok (inn out : List ByteArray) (d nf ng no : Nat) (h1 : inn.length ≤ 1000) (h2 : nf ≤ 1000) (up : Frs) : ACalls Try.prog 124 [.agg [.im (.sl (strs inn)), .im (.sl (strs out)), .ms d 3 nf, .ms d 4 ng, .ms d 5 no]] up fun v u => v = .i (2 + inn.length + nf) ∧ u = up := by
  have w1 : IntKind.i64.wrap (2 + (inn.length : Int)) = 2 + (inn.length : Int) := wrap64 (by omega)
  have w2 : IntKind.i64.wrap (2 + (inn.length : Int) + nf) = 2 + (inn.length : Int) + nf := wrap64 (by omega)
  refine ACalls.code Try.func124 rfl 11 rfl (by simp) [.tmp 2] rfl fun Q hQ => ?_
  simp only [ups, PV.up, argEnv]
  have ft := And.intro ty_2 (And.intro ty_3 (And.intro ty_9 (And.intro ty_27 (And.intro ty_57 (And.intro ty_60 (And.intro ty_197 trivial))))))
  refine Run.seq ?_
  have fx := And.intro w2 (And.intro w1 (And.intro strs_len ft))
  refine Run.go ?_
  refine End.kp [1] ?_
  refine Run.seq ?_
  refine Run.go ?_
  refine End.kp [2] ?_
  refine Run.ret (hQ _ _ ⟨.inr rfl, _, rfl, _, rfl, ?_⟩)
  exact ⟨rfl, rfl⟩
theorem NetsM_ok (inn out : List ByteArray) (d nf ng no : Nat) (h1 : inn.length ≤ 1000) (h2 : nf ≤ 1000) (h3 : ng ≤ 1000) (up : Frs) : ACalls Try.prog 122 [.agg [.im (.sl (strs inn)), .im (.sl (strs out)), .ms d 3 nf, .ms d 4 ng, .ms d 5 no]] up fun v u => v = .i (2 + inn.length + nf + ng) ∧ u = up := by
  have w3 : IntKind.i64.wrap (2 + (inn.length : Int) + nf + ng) = 2 + (inn.length : Int) + nf + ng := wrap64 (by omega)
  refine ACalls.code Try.func122 rfl 9 rfl (by simp) [.tmp 2] rfl fun Q hQ => ?_
  simp only [ups, PV.up, argEnv]
  have ft := And.intro ty_3 (And.intro ty_58 (And.intro ty_60 (And.intro ty_200 trivial)))
  refine Run.seq ?_
  have fx := And.intro w3 ft
  refine Run.go ?_
  refine End.kp [1] ?_
  refine Run.seq ?_
  refine Run.drawA fun K hK => ?_
  refine DOps.sim ?_
  refine DOps.call (.i (2 + inn.length + nf)) [] [] rfl rfl rfl rfl (by kernel_rfl) (by simp [Agree]) (fun u hu => FirstM_ok inn out (d + 1) nf ng no h1 h2 u) ?_
  refine DOps.sim ?_
  refine DOps.nil (metAll_quiet rfl) (hK _ ?_); clear hK K
  refine End.kp [2] ?_
  refine Run.ret (hQ _ _ ⟨.inr rfl, _, rfl, _, rfl, ?_⟩)
  exact ⟨rfl, rfl⟩
/-- The literals that have a net of their own, in the order in which they got it. -/
def mapI (I : List (Int × Int)) : List (List Im × Im) := I.map fun p => ([.int .i64 p.1], .int .i64 p.2)
def lookI (l : Int) : List (Int × Int) → Nat → Option (Nat × Int)
  | [], _ => none
  | p :: I, i => if l = p.1 then some (i, p.2) else lookI l I (i + 1)
theorem same_int (a b : Int) : sameIm Try.prog 34 (.int .i64 a) (.int .i64 b) = some (decide (a = b)) := by
  simp only [sameIm, ty_34, Option.isSome_some, if_true]
  rfl
theorem findI (l : Int) : ∀ (I : List (Int × Int)) (i : Nat), findIm Try.prog 34 (.int .i64 l) (mapI I) i = some ((lookI l I i).map fun q => (q.1, .int .i64 q.2))
  | [], i => rfl
  | p :: I, i => by
    simp only [mapI, List.map_cons, findIm, same_int, lookI]
    by_cases h : l = p.1
    · rw [if_pos h, decide_eq_true h]; rfl
    · rw [if_neg h, decide_eq_false h]; exact findI l I (i + 1)
theorem findI_last (l v : Int) : ∀ (I : List (Int × Int)) (i : Nat), lookI l I i = none → findIm Try.prog 34 (.int .i64 l) (mapI I ++ [([.int .i64 l], .int .i64 v)]) i = some (some (i + I.length, .int .i64 v))
  | [], i, _ => by simp [mapI, findIm, same_int]
  | p :: I, i, h => by
    simp only [lookI] at h
    split at h
    · simp at h
    · rename_i hne
      simp only [mapI, List.map_cons, List.cons_append, findIm, same_int, decide_eq_false hne]
      have := findI_last l v I (i + 1) h
      simp only [mapI] at this
      rw [this]
      simp; omega
/-- What the state becomes: the net, the literals known, the gates. -/
def atN (nb : Int) (l : Int) (I : List (Int × Int)) (G : List LGate) : Int × List (Int × Int) × List LGate :=
  if 1 < l ∧ l % 2 = 0 then (netOf l, I, G) else match lookI l I 0 with
  | some (_, k) => (k, I, G)
  | none => (nb + G.length, I ++ [(l, nb + G.length)], G ++ [⟨1, [netOf l]⟩])
theorem at_even (inn out : List ByteArray) (nf no : Nat) (I : List (Int × Int)) (G : List LGate) (l : Int) (h0 : 0 ≤ l) (h1 : l ≤ 1000000) (b1 : inn.length ≤ 1000) (b2 : nf ≤ 1000) (b3 : G.length ≤ 900) (u0 : Frs) (k7 : fget u0 0 7 = some (.box [.map 0 6])) (k6 : fget u0 0 6 = some (.map (mapI I))) (k2 : fget u0 0 2 = some (.box [.im (.sl (strs inn)), .im (.sl (strs out)), .ms 0 3 nf, .ms 0 4 G.length, .ms 0 5 no])) (k4 : fget u0 0 4 = some (.row 200 3 (G.map LGate.im) 0)) (he : 1 < l ∧ l % 2 = 0) : ACalls Try.prog 121 [.i l, .ptr 0 7 0, .ptr 0 2 0] u0 fun v u => v = .i (netOf l) ∧ u = u0 := by
  have hm : l.tmod 2 = l % 2 := tmod2 l h0
  have hml : IntKind.i64.wrap (l % 2) = l % 2 := wrap64 (by omega)
  
  have g1 : decide (l > 1) = true := decide_eq_true (by omega)
  have g2 : (l % 2 == 0) = true := by rw [he.2]; rfl
  refine ACalls.code Try.func121 rfl 40 rfl (by simp) [.tmp 4] rfl fun Q hQ => ?_
  simp only [ups, PV.up, argEnv]
  have ft := And.intro ty_2 (And.intro ty_3 (And.intro ty_4 (And.intro ty_22 (And.intro ty_34 (And.intro ty_58 (And.intro ty_60 (And.intro ty_200 (And.intro ty_201 trivial))))))))
  refine Run.seq ?_
  have fx := And.intro g2 (And.intro g1 (And.intro hml (And.intro hm ft)))
  refine Run.go ?_
  refine End.kp [0, 1, 2] ?_
  refine Run.seq ?_
  refine Run.seq ?_
  refine Run.go ?_
  refine End.kp [0, 1, 2, 13] ?_
  refine Run.cond _ rfl (fun hb => ?_) (fun hb => ?_)
  · have hb2 := hb
    refine Run.seq ?_
    have fx := And.intro g2 (And.intro g1 (And.intro hml (And.intro hm ft)))
    refine Run.region rfl fun K hK => GOps.sim ?_
    refine GOps.call rfl rfl rfl rfl (by kernel_rfl) (ACalls.sim ?_)
    refine (netLit_ok l h0 h1 _).mono fun v u hv => ?_
    obtain ⟨rfl, rfl⟩ := hv
    refine ⟨_, _, rfl, GOps.sim ?_⟩
    refine GOps.done (hK _ ?_); clear hK K
    refine End.kp [4] ?_
    refine Run.ret (hQ _ _ ⟨.inr rfl, _, rfl, _, rfl, ?_⟩)
    exact ⟨rfl, rfl⟩
  · have hb2 := hb
    simp at hb
theorem at_old (inn out : List ByteArray) (nf no : Nat) (I : List (Int × Int)) (G : List LGate) (l : Int) (h0 : 0 ≤ l) (h1 : l ≤ 1000000) (b1 : inn.length ≤ 1000) (b2 : nf ≤ 1000) (b3 : G.length ≤ 900) (u0 : Frs) (k7 : fget u0 0 7 = some (.box [.map 0 6])) (k6 : fget u0 0 6 = some (.map (mapI I))) (k2 : fget u0 0 2 = some (.box [.im (.sl (strs inn)), .im (.sl (strs out)), .ms 0 3 nf, .ms 0 4 G.length, .ms 0 5 no])) (k4 : fget u0 0 4 = some (.row 200 3 (G.map LGate.im) 0)) (he : ¬ (1 < l ∧ l % 2 = 0)) (q : Nat) (k : Int) (hq : lookI l I 0 = some (q, k)) : ACalls Try.prog 121 [.i l, .ptr 0 7 0, .ptr 0 2 0] u0 fun v u => v = .i k ∧ u = u0 := by
  have hm : l.tmod 2 = l % 2 := tmod2 l h0
  have hml : IntKind.i64.wrap (l % 2) = l % 2 := wrap64 (by omega)
  
  have hf : findIm Try.prog 34 (.int .i64 l) (mapI I) 0 = some (some (q, .int .i64 k)) := by rw [findI, hq]; rfl
  refine ACalls.code Try.func121 rfl 40 rfl (by simp) [.tmp 4] rfl fun Q hQ => ?_
  simp only [ups, PV.up, argEnv]
  have ft := And.intro ty_2 (And.intro ty_3 (And.intro ty_4 (And.intro ty_22 (And.intro ty_34 (And.intro ty_58 (And.intro ty_60 (And.intro ty_200 (And.intro ty_201 trivial))))))))
  refine Run.seq ?_
  have fx := And.intro hf (And.intro k6 (And.intro k7 (And.intro hml (And.intro hm ft))))
  refine Run.go ?_
  refine End.kp [0, 1, 2] ?_
  refine Run.seq ?_
  refine Run.seq ?_
  rcases Bool.eq_false_or_eq_true (decide (l > 1)) with hs1 | hs1
  · skip
    have g2 : (l % 2 == 0) = false := beq_eq_false_iff_ne.2 fun e => he ⟨of_decide_eq_true hs1, e⟩
    have fx := And.intro g2 (And.intro hs1 (And.intro hf (And.intro k6 (And.intro k7 (And.intro hml (And.intro hm ft))))))
    refine Run.go ?_
    refine End.kp [0, 1, 2, 13] ?_
    refine Run.cond _ rfl (fun hb => ?_) (fun hb => ?_)
    · have hb2 := hb
      simp at hb
    · have hb2 := hb
      refine Run.skip ?_
      refine End.kp [0, 1, 2] ?_
      refine Run.seq ?_
      refine Run.seq ?_
      have fx := And.intro g2 (And.intro hs1 (And.intro hf (And.intro k6 (And.intro k7 (And.intro hml (And.intro hm ft))))))
      refine Run.go ?_
      refine End.kp [0, 1, 2, 5, 6] ?_
      refine Run.seq ?_
      refine Run.go ?_
      refine End.kp [0, 1, 2, 5, 22] ?_
      refine Run.cond _ rfl (fun hb => ?_) (fun hb => ?_)
      · have hb3 := hb
        refine Run.seq ?_
        have fx := And.intro g2 (And.intro hs1 (And.intro hf (And.intro k6 (And.intro k7 (And.intro hml (And.intro hm ft))))))
        refine Run.go ?_
        refine End.kp [4] ?_
        refine Run.ret (hQ _ _ ⟨.inr rfl, _, rfl, _, rfl, ?_⟩)
        exact ⟨rfl, rfl⟩
      · have hb3 := hb
        simp at hb
  · skip
    have g2 := hs1
    have fx := And.intro g2 (And.intro hs1 (And.intro hf (And.intro k6 (And.intro k7 (And.intro hml (And.intro hm ft))))))
    refine Run.go ?_
    refine End.kp [0, 1, 2, 13] ?_
    refine Run.cond _ rfl (fun hb => ?_) (fun hb => ?_)
    · have hb2 := hb
      simp at hb
    · have hb2 := hb
      refine Run.skip ?_
      refine End.kp [0, 1, 2] ?_
      refine Run.seq ?_
      refine Run.seq ?_
      have fx := And.intro g2 (And.intro hs1 (And.intro hf (And.intro k6 (And.intro k7 (And.intro hml (And.intro hm ft))))))
      refine Run.go ?_
      refine End.kp [0, 1, 2, 5, 6] ?_
      refine Run.seq ?_
      refine Run.go ?_
      refine End.kp [0, 1, 2, 5, 22] ?_
      refine Run.cond _ rfl (fun hb => ?_) (fun hb => ?_)
      · have hb3 := hb
        refine Run.seq ?_
        have fx := And.intro g2 (And.intro hs1 (And.intro hf (And.intro k6 (And.intro k7 (And.intro hml (And.intro hm ft))))))
        refine Run.go ?_
        refine End.kp [4] ?_
        refine Run.ret (hQ _ _ ⟨.inr rfl, _, rfl, _, rfl, ?_⟩)
        exact ⟨rfl, rfl⟩
      · have hb3 := hb
        simp at hb
theorem at_new (inn out : List ByteArray) (nf no : Nat) (I : List (Int × Int)) (G : List LGate) (l : Int) (h0 : 0 ≤ l) (h1 : l ≤ 1000000) (b1 : inn.length ≤ 1000) (b2 : nf ≤ 1000) (b3 : G.length ≤ 900) (u0 : Frs) (k7 : fget u0 0 7 = some (.box [.map 0 6])) (k6 : fget u0 0 6 = some (.map (mapI I))) (k2 : fget u0 0 2 = some (.box [.im (.sl (strs inn)), .im (.sl (strs out)), .ms 0 3 nf, .ms 0 4 G.length, .ms 0 5 no])) (k4 : fget u0 0 4 = some (.row 200 3 (G.map LGate.im) 0)) (he : ¬ (1 < l ∧ l % 2 = 0)) (hq : lookI l I 0 = none) : ACalls Try.prog 121 [.i l, .ptr 0 7 0, .ptr 0 2 0] u0 fun v u => v = .i (2 + inn.length + nf + G.length) ∧ u = fset (fset (fset u0 0 6 (.map (mapI I ++ [([.int .i64 l], .int .i64 (2 + inn.length + nf + G.length))]))) 0 4 (.row 200 3 ((G ++ [(⟨1, [netOf l]⟩ : LGate)]).map LGate.im) 0)) 0 2 (.box [.im (.sl (strs inn)), .im (.sl (strs out)), .ms 0 3 nf, .ms 0 4 (G.length + 1), .ms 0 5 no]) := by
  have hm : l.tmod 2 = l % 2 := tmod2 l h0
  have hml : IntKind.i64.wrap (l % 2) = l % 2 := wrap64 (by omega)
  
  have hf : findIm Try.prog 34 (.int .i64 l) (mapI I) 0 = some none := by rw [findI, hq]; rfl
  have hfl := findI_last l (2 + inn.length + nf + G.length) I 0 hq
  have hap : (G.length + 1) * 40 ≤ 140737488355328 := by omega
  have hgl : (G.map LGate.im).length = G.length := by simp
  have ne : ∀ (u : Frs) (j j' : Nat) (o : AObj), j ≠ j' → fget (fset u 0 j o) 0 j' = fget u 0 j' := fun u j j' o h => by rw [fget_fset, if_neg (fun e => h e.2.symm)]
  have se : ∀ (u : Frs) (j : Nat) (o o0 : AObj), fget u 0 j = some o0 → fget (fset u 0 j o) 0 j = some o := fun u j o o0 h => fget_fset_same _ _ _ _ _ h
  have q2 := fun o => (ne u0 6 2 o (by decide)).trans k2
  have q4 := fun o => (ne u0 6 4 o (by decide)).trans k4
  have q7 := fun o => (ne u0 6 7 o (by decide)).trans k7
  have q6 := fun o => se u0 6 o _ k6
  have p2 := fun o o' => (ne (fset u0 0 6 o) 4 2 o' (by decide)).trans (q2 o)
  have p7 := fun o o' => (ne (fset u0 0 6 o) 4 7 o' (by decide)).trans (q7 o)
  have p6 := fun o o' => (ne (fset u0 0 6 o) 4 6 o' (by decide)).trans (q6 o)
  have r7 := fun o o' o'' => (ne (fset (fset u0 0 6 o) 0 4 o') 2 7 o'' (by decide)).trans (p7 o o')
  have r6 := fun o o' o'' => (ne (fset (fset u0 0 6 o) 0 4 o') 2 6 o'' (by decide)).trans (p6 o o')
  refine ACalls.code Try.func121 rfl 40 rfl (by simp) [.tmp 4] rfl fun Q hQ => ?_
  simp only [ups, PV.up, argEnv]
  have ft := And.intro ty_2 (And.intro ty_3 (And.intro ty_4 (And.intro ty_22 (And.intro ty_34 (And.intro ty_58 (And.intro ty_60 (And.intro ty_200 (And.intro ty_201 trivial))))))))
  refine Run.seq ?_
  have fx := And.intro r6 (And.intro r7 (And.intro p6 (And.intro p7 (And.intro p2 (And.intro q6 (And.intro q7 (And.intro q4 (And.intro q2 (And.intro hgl (And.intro hap (And.intro hfl (And.intro hf (And.intro k4 (And.intro k2 (And.intro k6 (And.intro k7 (And.intro hml (And.intro hm ft))))))))))))))))))
  refine Run.go ?_
  refine End.kp [0, 1, 2] ?_
  refine Run.seq ?_
  refine Run.seq ?_
  rcases Bool.eq_false_or_eq_true (decide (l > 1)) with hs1 | hs1
  · skip
    have g2 : (l % 2 == 0) = false := beq_eq_false_iff_ne.2 fun e => he ⟨of_decide_eq_true hs1, e⟩
    have fx := And.intro g2 (And.intro hs1 (And.intro r6 (And.intro r7 (And.intro p6 (And.intro p7 (And.intro p2 (And.intro q6 (And.intro q7 (And.intro q4 (And.intro q2 (And.intro hgl (And.intro hap (And.intro hfl (And.intro hf (And.intro k4 (And.intro k2 (And.intro k6 (And.intro k7 (And.intro hml (And.intro hm ft))))))))))))))))))))
    refine Run.go ?_
    refine End.kp [0, 1, 2, 13] ?_
    refine Run.cond _ rfl (fun hb => ?_) (fun hb => ?_)
    · have hb2 := hb
      simp at hb
    · have hb2 := hb
      refine Run.skip ?_
      refine End.kp [0, 1, 2] ?_
      refine Run.seq ?_
      refine Run.seq ?_
      have fx := And.intro g2 (And.intro hs1 (And.intro r6 (And.intro r7 (And.intro p6 (And.intro p7 (And.intro p2 (And.intro q6 (And.intro q7 (And.intro q4 (And.intro q2 (And.intro hgl (And.intro hap (And.intro hfl (And.intro hf (And.intro k4 (And.intro k2 (And.intro k6 (And.intro k7 (And.intro hml (And.intro hm ft))))))))))))))))))))
      refine Run.go ?_
      refine End.kp [0, 1, 2, 5, 6] ?_
      refine Run.seq ?_
      refine Run.go ?_
      refine End.kp [0, 1, 2, 5, 22] ?_
      refine Run.cond _ rfl (fun hb => ?_) (fun hb => ?_)
      · have hb3 := hb
        simp at hb
      · have hb3 := hb
        refine Run.skip ?_
        refine End.kp [0, 1, 2] ?_
        refine Run.seq ?_
        have fx := And.intro g2 (And.intro hs1 (And.intro r6 (And.intro r7 (And.intro p6 (And.intro p7 (And.intro p2 (And.intro q6 (And.intro q7 (And.intro q4 (And.intro q2 (And.intro hgl (And.intro hap (And.intro hfl (And.intro hf (And.intro k4 (And.intro k2 (And.intro k6 (And.intro k7 (And.intro hml (And.intro hm ft))))))))))))))))))))
        refine Run.drawA fun K hK => ?_
        refine DOps.sim ?_
        refine DOps.call (.i (2 + inn.length + nf + G.length)) [] [] rfl rfl rfl rfl (by kernel_rfl) (by simp [Agree]) (fun u hu => NetsM_ok inn out 1 nf G.length no b1 b2 (by omega) u) ?_
        refine DOps.sim ?_
        refine DOps.updV (d := 1) (j := 6) (mapI I) hf (by exact k6) ?_
        refine DOps.sim ?_
        refine DOps.nil (by rfl) (hK _ ?_); clear hK K
        refine End.kp [0, 1, 2] ?_
        refine Run.seq ?_
        refine Run.ghost (.spares 1) ?_
        simp only [ASt.pushN, ASt.push, List.append_assoc, List.cons_append, List.nil_append]
        refine Run.drawA fun K hK => ?_
        refine DOps.sim ?_
        refine DOps.call (.i (netOf l)) [] [] rfl rfl rfl rfl (by kernel_rfl) (by simp [Agree]) (fun u hu => netLit_ok l h0 h1 u) ?_
        refine DOps.litF ?_
        refine DOps.sim ?_
        refine DOps.nil (by rfl) (hK _ ?_); clear hK K
        refine End.kp [0, 1] ?_
        refine Run.seq ?_
        have fx := And.intro g2 (And.intro hs1 (And.intro r6 (And.intro r7 (And.intro p6 (And.intro p7 (And.intro p2 (And.intro q6 (And.intro q7 (And.intro q4 (And.intro q2 (And.intro hgl (And.intro hap (And.intro hfl (And.intro hf (And.intro k4 (And.intro k2 (And.intro k6 (And.intro k7 (And.intro hml (And.intro hm ft))))))))))))))))))))
        refine Run.go ?_
        refine End.kp [4] ?_
        refine Run.ret (hQ _ _ ⟨.inr rfl, _, rfl, _, rfl, ?_⟩)
        exact ⟨rfl, by rw [List.map_append]; rfl⟩
  · skip
    have g2 := hs1
    have fx := And.intro g2 (And.intro hs1 (And.intro r6 (And.intro r7 (And.intro p6 (And.intro p7 (And.intro p2 (And.intro q6 (And.intro q7 (And.intro q4 (And.intro q2 (And.intro hgl (And.intro hap (And.intro hfl (And.intro hf (And.intro k4 (And.intro k2 (And.intro k6 (And.intro k7 (And.intro hml (And.intro hm ft))))))))))))))))))))
    refine Run.go ?_
    refine End.kp [0, 1, 2, 13] ?_
    refine Run.cond _ rfl (fun hb => ?_) (fun hb => ?_)
    · have hb2 := hb
      simp at hb
    · have hb2 := hb
      refine Run.skip ?_
      refine End.kp [0, 1, 2] ?_
      refine Run.seq ?_
      refine Run.seq ?_
      have fx := And.intro g2 (And.intro hs1 (And.intro r6 (And.intro r7 (And.intro p6 (And.intro p7 (And.intro p2 (And.intro q6 (And.intro q7 (And.intro q4 (And.intro q2 (And.intro hgl (And.intro hap (And.intro hfl (And.intro hf (And.intro k4 (And.intro k2 (And.intro k6 (And.intro k7 (And.intro hml (And.intro hm ft))))))))))))))))))))
      refine Run.go ?_
      refine End.kp [0, 1, 2, 5, 6] ?_
      refine Run.seq ?_
      refine Run.go ?_
      refine End.kp [0, 1, 2, 5, 22] ?_
      refine Run.cond _ rfl (fun hb => ?_) (fun hb => ?_)
      · have hb3 := hb
        simp at hb
      · have hb3 := hb
        refine Run.skip ?_
        refine End.kp [0, 1, 2] ?_
        refine Run.seq ?_
        have fx := And.intro g2 (And.intro hs1 (And.intro r6 (And.intro r7 (And.intro p6 (And.intro p7 (And.intro p2 (And.intro q6 (And.intro q7 (And.intro q4 (And.intro q2 (And.intro hgl (And.intro hap (And.intro hfl (And.intro hf (And.intro k4 (And.intro k2 (And.intro k6 (And.intro k7 (And.intro hml (And.intro hm ft))))))))))))))))))))
        refine Run.drawA fun K hK => ?_
        refine DOps.sim ?_
        refine DOps.call (.i (2 + inn.length + nf + G.length)) [] [] rfl rfl rfl rfl (by kernel_rfl) (by simp [Agree]) (fun u hu => NetsM_ok inn out 1 nf G.length no b1 b2 (by omega) u) ?_
        refine DOps.sim ?_
        refine DOps.updV (d := 1) (j := 6) (mapI I) hf (by exact k6) ?_
        refine DOps.sim ?_
        refine DOps.nil (by rfl) (hK _ ?_); clear hK K
        refine End.kp [0, 1, 2] ?_
        refine Run.seq ?_
        refine Run.ghost (.spares 1) ?_
        simp only [ASt.pushN, ASt.push, List.append_assoc, List.cons_append, List.nil_append]
        refine Run.drawA fun K hK => ?_
        refine DOps.sim ?_
        refine DOps.call (.i (netOf l)) [] [] rfl rfl rfl rfl (by kernel_rfl) (by simp [Agree]) (fun u hu => netLit_ok l h0 h1 u) ?_
        refine DOps.litF ?_
        refine DOps.sim ?_
        refine DOps.nil (by rfl) (hK _ ?_); clear hK K
        refine End.kp [0, 1] ?_
        refine Run.seq ?_
        have fx := And.intro g2 (And.intro hs1 (And.intro r6 (And.intro r7 (And.intro p6 (And.intro p7 (And.intro p2 (And.intro q6 (And.intro q7 (And.intro q4 (And.intro q2 (And.intro hgl (And.intro hap (And.intro hfl (And.intro hf (And.intro k4 (And.intro k2 (And.intro k6 (And.intro k7 (And.intro hml (And.intro hm ft))))))))))))))))))))
        refine Run.go ?_
        refine End.kp [4] ?_
        refine Run.ret (hQ _ _ ⟨.inr rfl, _, rfl, _, rfl, ?_⟩)
        exact ⟨rfl, by rw [List.map_append]; rfl⟩
end Go.Proofs.YtdgpmopcmacicaaPi

/- The walk of With: the netlist of a graph. -/
set_option linter.unusedVariables false
set_option linter.unusedSimpArgs false
set_option maxRecDepth 100000
namespace Go.Proofs.YtdgpmopcmacicaaPi
set_option maxHeartbeats 8000000
def wsAt (inn out : List ByteArray) (nf no : Nat) (I : List (Int × Int)) (G : List LGate) : List (Ref × AObj) :=
  [((0, 6), .map (mapI I)), ((0, 4), .row 200 3 (G.map LGate.im) 0), ((0, 2), .box [.im (.sl (strs inn)), .im (.sl (strs out)), .ms 0 3 nf, .ms 0 4 G.length, .ms 0 5 no])]
theorem at_ok (inn out : List ByteArray) (nf no : Nat) (I : List (Int × Int)) (G : List LGate) (l : Int) (h0 : 0 ≤ l) (h1 : l ≤ 1000000) (b1 : inn.length ≤ 1000) (b2 : nf ≤ 1000) (b3 : G.length ≤ 900) (u0 : Frs) (hu : Agree (((0, 7), .box [.map 0 6]) :: wsAt inn out nf no I G) u0) :
    ACalls Try.prog 121 [.i l, .ptr 0 7 0, .ptr 0 2 0] u0 fun v u => v = .i (atN (2 + inn.length + nf) l I G).1 ∧ u = wr u0 (wsAt inn out nf no (atN (2 + inn.length + nf) l I G).2.1 (atN (2 + inn.length + nf) l I G).2.2) := by
  have k7 : fget u0 0 7 = some (.box [.map 0 6]) := hu ((0, 7), .box [.map 0 6]) (by simp)
  have k6 : fget u0 0 6 = some (.map (mapI I)) := hu ((0, 6), .map (mapI I)) (by simp [wsAt])
  have k4 : fget u0 0 4 = some (.row 200 3 (G.map LGate.im) 0) := hu ((0, 4), .row 200 3 (G.map LGate.im) 0) (by simp [wsAt])
  have k2 : fget u0 0 2 = some (.box [.im (.sl (strs inn)), .im (.sl (strs out)), .ms 0 3 nf, .ms 0 4 G.length, .ms 0 5 no]) := hu ((0, 2), .box [.im (.sl (strs inn)), .im (.sl (strs out)), .ms 0 3 nf, .ms 0 4 G.length, .ms 0 5 no]) (by simp [wsAt])
  have self : u0 = wr u0 (wsAt inn out nf no I G) := by
    simp only [wsAt, wr]
    rw [fset_self u0 0 6 _ k6, fset_self u0 0 4 _ k4, fset_self u0 0 2 _ k2]
  unfold atN
  by_cases he : 1 < l ∧ l % 2 = 0
  · rw [if_pos he]
    exact (at_even inn out nf no I G l h0 h1 b1 b2 b3 u0 k7 k6 k2 k4 he).mono fun v u hv => ⟨hv.1, hv.2.trans self⟩
  · rw [if_neg he]
    cases hq : lookI l I 0 with
    | some p =>
      obtain ⟨q, k⟩ := p
      exact (at_old inn out nf no I G l h0 h1 b1 b2 b3 u0 k7 k6 k2 k4 he q k hq).mono fun v u hv => ⟨hv.1, hv.2.trans self⟩
    | none =>
      refine (at_new inn out nf no I G l h0 h1 b1 b2 b3 u0 k7 k6 k2 k4 he hq).mono fun v u hv => ⟨hv.1, hv.2.trans ?_⟩
      simp only [wsAt, wr, mapI, List.map_append, List.map_cons, List.map_nil, List.length_append, List.length_cons, List.length_nil, Nat.zero_add]
/-- The gate of an and. -/
def andG (p : Int × Int) : LGate := ⟨2 ^ (3 - (p.1 % 2 + 2 * (p.2 % 2))).toNat, [netOf p.1, netOf p.2]⟩
def stO (nb : Int) (S : List Int × List (Int × Int) × List LGate) (l : Int) : List Int × List (Int × Int) × List LGate := (S.1 ++ [(atN nb l S.2.1 S.2.2).1], (atN nb l S.2.1 S.2.2).2)
def stF (nb : Int) (S : List (Int × Int) × List (Int × Int) × List LGate) (p : Int × Int) : List (Int × Int) × List (Int × Int) × List LGate :=
  (S.1 ++ [((atN nb p.1 S.2.1 S.2.2).1, (atN nb p.2 (atN nb p.1 S.2.1 S.2.2).2.1 (atN nb p.1 S.2.1 S.2.2).2.2).1)], (atN nb p.2 (atN nb p.1 S.2.1 S.2.2).2.1 (atN nb p.1 S.2.1 S.2.2).2.2).2)
def flop0 (r : LReg) : LFlop := ⟨r.name, 0, 0, r.init⟩
def flopsAt (regs : List LReg) (ds : List (Int × Int)) : List LFlop := (List.range regs.length).map fun k => ⟨((regs.map LReg.name).getD k ByteArray.empty), (ds.getD k (0, 0)).1, (ds.getD k (0, 0)).2, ((regs.map LReg.init).getD k false)⟩
def nbG (g : LGraph) : Int := 2 + g.inn.length + g.regs.length
def outsS (g : LGraph) (i : Nat) : List Int × List (Int × Int) × List LGate := (g.outs.take i).foldl (stO (nbG g)) ([], [(0, 0), (1, 1)], g.ands.map andG)
def flopsS (g : LGraph) (d en : List Int) (i : Nat) : List (Int × Int) × List (Int × Int) × List LGate := ((d.zip en).take i).foldl (stF (nbG g)) ([], (outsS g g.outs.length).2)
/-- The netlist of a graph whose flip-flops take d under en. -/
def withV (g : LGraph) (d en : List Int) : LNet := ⟨g.inn, g.out, flopsAt g.regs (flopsS g d en g.regs.length).1, (flopsS g d en g.regs.length).2.2, (outsS g g.outs.length).1⟩
theorem outsS_next (g : LGraph) (i : Nat) (x : Int) (h : g.outs[i]? = some x) : outsS g (i + 1) = stO (nbG g) (outsS g i) x := by simp [outsS, List.take_add_one, h]
theorem flopsS_next (g : LGraph) (d en : List Int) (i : Nat) (x y : Int) (h : d[i]? = some x) (h2 : en[i]? = some y) : flopsS g d en (i + 1) = stF (nbG g) (flopsS g d en i) (x, y) := by
  have : (d.zip en)[i]? = some (x, y) := by rw [List.getElem?_zip_eq_some]; exact ⟨h, h2⟩
  simp [flopsS, List.take_add_one, this]
theorem atN_len (nb l : Int) (I : List (Int × Int)) (G : List LGate) : (atN nb l I G).2.2.length ≤ G.length + 1 := by
  unfold atN
  split
  · simp
  · split <;> simp
theorem outsS_len (g : LGraph) : ∀ i, i ≤ g.outs.length → (outsS g i).1.length = i ∧ (outsS g i).2.2.length ≤ g.ands.length + i
  | 0, _ => by simp [outsS]
  | i + 1, h => by
    obtain ⟨h1, h2⟩ := outsS_len g i (by omega)
    obtain ⟨x, hx⟩ : ∃ x, g.outs[i]? = some x := ⟨_, List.getElem?_eq_getElem (by omega)⟩
    rw [outsS_next g i x hx]
    have := atN_len (nbG g) x (outsS g i).2.1 (outsS g i).2.2
    simp only [stO, List.length_append, List.length_cons, List.length_nil]
    omega
theorem flopsS_len (g : LGraph) (d en : List Int) : ∀ i, i ≤ d.length → i ≤ en.length → (flopsS g d en i).1.length = i ∧ (flopsS g d en i).2.2.length ≤ g.ands.length + g.outs.length + 2 * i
  | 0, _, _ => by
    have := (outsS_len g g.outs.length (Nat.le_refl _)).2
    simp [flopsS]
    exact this
  | i + 1, h, h' => by
    obtain ⟨h1, h2⟩ := flopsS_len g d en i (by omega) (by omega)
    obtain ⟨x, hx⟩ : ∃ x, d[i]? = some x := ⟨_, List.getElem?_eq_getElem (by omega)⟩
    obtain ⟨y, hy⟩ : ∃ y, en[i]? = some y := ⟨_, List.getElem?_eq_getElem (by omega)⟩
    rw [flopsS_next g d en i x y hx hy]
    have h3 := atN_len (nbG g) x (flopsS g d en i).2.1 (flopsS g d en i).2.2
    have h4 := atN_len (nbG g) y (atN (nbG g) x (flopsS g d en i).2.1 (flopsS g d en i).2.2).2.1 (atN (nbG g) x (flopsS g d en i).2.1 (flopsS g d en i).2.2).2.2
    simp only [stF, List.length_append, List.length_cons, List.length_nil]
    omega
theorem flopsAt_len (regs : List LReg) (ds : List (Int × Int)) : (flopsAt regs ds).length = regs.length := by simp [flopsAt]
theorem flopsAt_nil (regs : List LReg) : flopsAt regs [] = regs.map flop0 := by
  refine List.ext_getElem? fun k => ?_
  by_cases h : k < regs.length
  · simp [flopsAt, h, flop0]
  · rw [List.getElem?_eq_none (by rw [flopsAt_len]; omega), List.getElem?_eq_none (by simp; omega)]
theorem flopsAt_get (regs : List LReg) (ds : List (Int × Int)) (k : Nat) (r : LReg) (h : regs[k]? = some r) : (flopsAt regs ds)[k]? = some ⟨r.name, (ds.getD k (0, 0)).1, (ds.getD k (0, 0)).2, r.init⟩ := by
  obtain ⟨hk, he⟩ := List.getElem?_eq_some_iff.1 h
  subst he
  simp [flopsAt, hk, List.getD_eq_getElem?_getD]
theorem flopsAt_set (regs : List LReg) (ds : List (Int × Int)) (r : LReg) (v1 v2 : Int) (h : regs[ds.length]? = some r) : (flopsAt regs ds).set ds.length ⟨r.name, v1, v2, r.init⟩ = flopsAt regs (ds ++ [(v1, v2)]) := by
  refine List.ext_getElem? fun k => ?_
  rw [List.getElem?_set, flopsAt_len]
  have hk := (List.getElem?_eq_some_iff.1 h).1
  by_cases e : ds.length = k
  · subst e
    rw [if_pos rfl, if_pos hk, flopsAt_get _ _ _ r h]
    simp [List.getD_eq_getElem?_getD]
  · rw [if_neg e]
    by_cases h2 : k < regs.length
    · obtain ⟨r2, hr2⟩ : ∃ r2, regs[k]? = some r2 := ⟨_, List.getElem?_eq_getElem h2⟩
      rw [flopsAt_get _ _ _ r2 hr2, flopsAt_get _ _ _ r2 hr2]
      have : (ds ++ [(v1, v2)]).getD k (0, 0) = ds.getD k (0, 0) := by
        simp only [List.getD_eq_getElem?_getD]
        by_cases h3 : k < ds.length
        · rw [List.getElem?_append_left h3]
        · rw [List.getElem?_append_right (by omega), List.getElem?_eq_none (l := ds) (by omega), List.getElem?_eq_none (by simp; omega)]
      rw [this]
    · rw [List.getElem?_eq_none (by rw [flopsAt_len]; omega), List.getElem?_eq_none (by rw [flopsAt_len]; omega)]
theorem wsAt_eq (inn out : List ByteArray) (nf no : Nat) (I : List (Int × Int)) (G : List LGate) : wsAt inn out nf no I G = [((0, 6), .map (mapI I)), ((0, 4), .row 200 3 (G.map LGate.im) 0), ((0, 2), .box [.im (.sl (strs inn)), .im (.sl (strs out)), .ms 0 3 nf, .ms 0 4 G.length, .ms 0 5 no])] := rfl
theorem ConcatDE_ok (d en : List Int) (h1 : d.length ≤ 1000) (h2 : en.length ≤ 1000) (up : Frs) : ACalls Try.prog 119 [.im (.sl [[.sl (ints d)], [.sl (ints en)]])] up fun v u => v = .im (.sl (ints (d ++ en))) ∧ u = up := by
  by_cases h : 0 < sumL [d, en]
  · have := ConcatL_ok [d, en] h (by simp [sumL]; omega) (by simp) up
    simpa using this
  · have e1 : d = [] := by cases d with | nil => rfl | cons x l => simp [sumL] at h
    have e2 : en = [] := by cases en with | nil => rfl | cons x l => simp [sumL] at h
    subst e1 e2
    exact ConcatL0_ok up
theorem and_k (a b : Int) (ha : 0 ≤ a) (hb : 0 ≤ b) : ∃ k : Nat, k ≤ 3 ∧ bits .andNot .i64 3 (bits .or .i64 (a % 2) (IntKind.i64.wrap (b % 2 * 2 ^ min 1 IntKind.i64.bits))) = (k : Int) ∧ (3 - (a % 2 + 2 * (b % 2))).toNat = k := by
  rcases (show a % 2 = 0 ∨ a % 2 = 1 by omega) with h1 | h1 <;> rcases (show b % 2 = 0 ∨ b % 2 = 1 by omega) with h2 | h2 <;> rw [h1, h2]
  · exact ⟨3, by decide, by decide, by decide⟩
  · exact ⟨1, by decide, by decide, by decide⟩
  · exact ⟨2, by decide, by decide, by decide⟩
  · exact ⟨0, by decide, by decide, by decide⟩
theorem With_ok (g : LGraph) (hg : GraphOk g) (h100 : g.ands.length ≤ 100) (d en : List Int) (hd : d.length = g.regs.length) (he : en.length = g.regs.length) (hr : ∀ x ∈ d ++ en, 0 ≤ x ∧ x < 2 * (1 + (g.inn.length : Int) + g.regs.length + g.ands.length)) (hok : NetOk (withV g d en)) (up : Frs) : ACalls Try.prog 78 [g.pv, .im (.sl (ints d)), .im (.sl (ints en))] up fun v u => v = .tup [(withV g d en).pv, .i 0] ∧ u = up := by
  have hg2 := hg
  obtain ⟨z1, z2, z3, z4, z5⟩ := hg.small
  have e1 : ((d.length : Int) != g.regs.length) = false := by rw [hd]; simp
  have e2 : ((en.length : Int) != g.regs.length) = false := by rw [he]; simp
  refine ACalls.code Try.func78 rfl 176 rfl (by simp) [.cell 6 60, .tmp 7] rfl fun Q hQ => ?_
  simp only [ups, PV.up, argEnv]
  have ft := And.intro ty_2 (And.intro ty_3 (And.intro ty_4 (And.intro ty_9 (And.intro ty_22 (And.intro ty_27 (And.intro ty_29 (And.intro ty_30 (And.intro ty_31 (And.intro ty_33 (And.intro ty_34 (And.intro ty_37 (And.intro ty_39 (And.intro ty_47 (And.intro ty_57 (And.intro ty_58 (And.intro ty_60 (And.intro ty_121 (And.intro ty_171 (And.intro ty_197 (And.intro ty_198 (And.intro ty_200 (And.intro ty_201 (And.intro ty_246 trivial)))))))))))))))))))))))
  refine Run.seq ?_
  have fx := And.intro e2 (And.intro e1 (And.intro ints_len (And.intro nd_len (And.intro rim_len (And.intro strs_len ft)))))
  refine Run.go ?_
  refine End.kp [1, 2, 3, 6] ?_
  refine Run.seq ?_
  refine Run.seq ?_
  refine Run.region rfl fun K hK => GOps.sim ?_
  refine GOps.call rfl rfl rfl rfl (by kernel_rfl) (ACalls.sim ?_)
  refine (Check_ok g hg _).mono fun v u hv => ?_
  obtain ⟨rfl, rfl⟩ := hv
  refine ⟨_, _, rfl, GOps.sim ?_⟩
  refine GOps.done (hK _ ?_); clear hK K
  refine End.kp [1, 2, 3, 6, 8] ?_
  refine Run.seq ?_
  refine Run.go ?_
  refine End.kp [1, 2, 3, 6, 8, 26] ?_
  refine Run.cond _ rfl (fun hb => ?_) (fun hb => ?_)
  · have hb2 := hb
    simp at hb
  · have hb2 := hb
    refine Run.skip ?_
    refine End.kp [1, 2, 3, 6] ?_
    refine Run.seq ?_
    refine Run.seq ?_
    have fx := And.intro e2 (And.intro e1 (And.intro ints_len (And.intro nd_len (And.intro rim_len (And.intro strs_len ft)))))
    refine Run.go ?_
    refine End.kp [1, 2, 3, 6, 42] ?_
    refine Run.cond _ rfl (fun hb => ?_) (fun hb => ?_)
    · have hb2 := hb
      simp at hb
    · have hb2 := hb
      refine Run.skip ?_
      refine End.kp [1, 2, 3, 6] ?_
      refine Run.seq ?_
      refine Run.seq ?_
      have fx := And.intro e2 (And.intro e1 (And.intro ints_len (And.intro nd_len (And.intro rim_len (And.intro strs_len ft)))))
      refine Run.region rfl fun K hK => GOps.sim ?_
      refine GOps.call rfl rfl rfl rfl (by kernel_rfl) (ACalls.sim ?_)
      refine (ConcatDE_ok d en (by omega) (by omega) _).mono fun v u hv => ?_
      obtain ⟨rfl, rfl⟩ := hv
      refine ⟨_, _, rfl, GOps.sim ?_⟩
      refine GOps.done (hK _ ?_); clear hK K
      refine End.kp [1, 2, 3, 6, 47, 48, 49] ?_
      refine Run.block ?_
      refine Run.ghost (Ghost.form [(1, .im (.sl (ints d))), (2, .im (.sl (ints en))), (3, .ptr 0 0 0), (6, .ptr 0 1 0), (47, .im (.sl (ints (d ++ en)))), (48, .i (d ++ en).length), (49, .i (0 : Nat))] 2 ⟨rfl, rfl, rfl, rfl, rfl, rfl, rfl, trivial⟩ rfl rfl) ?_
      refine Run.loop (fun m s => ∃ i : Nat, m = (d ++ en).length - i ∧ i ≤ (d ++ en).length ∧ s = ⟨[(1, .im (.sl (ints d))), (2, .im (.sl (ints en))), (3, .ptr 0 0 0), (6, .ptr 0 1 0), (47, .im (.sl (ints (d ++ en)))), (48, .i (d ++ en).length), (49, .i (i : Nat))], [.box [.im (.sl (strs g.inn)), .im (.sl (strs g.out)), .im (.sl (g.regs.map LReg.im)), .im (.sl (g.ands.map nd)), .im (.sl (ints g.outs))], .box [.nils, .nils, .nils, .nils, .nils]], up⟩) (d ++ en).length ⟨0, rfl, by omega, rfl⟩ fun m s hI => ?_
      obtain ⟨i, rfl, hi, rfl⟩ := hI
      refine Run.seq ?_
      have fx := And.intro e2 (And.intro e1 (And.intro ints_len (And.intro nd_len (And.intro rim_len (And.intro strs_len ft)))))
      refine Run.go ?_
      refine End.kp [1, 2, 3, 6, 47, 48, 49, 50] ?_
      refine Run.seq ?_
      refine Run.cond _ rfl (fun hb => ?_) (fun hb => ?_)
      · have hb3 := of_decide_eq_true hb
        have hin : i < (d ++ en).length := by omega
        have wi := wsucc hin (by rw [List.length_append]; omega)
        obtain ⟨x, hxi, hxm, hx⟩ := int_at (d ++ en) i hin
        obtain ⟨x1, x2⟩ := hr x hxm
        have hq := tdiv2 x x1 (by omega)
        have c1 : decide (x < 0) = false := decide_eq_false (by omega)
        have c2 : decide (1 + (g.inn.length : Int) + g.regs.length + g.ands.length ≤ x / 2) = false := decide_eq_false (by omega)
        refine Run.skip ?_
        refine End.kp [1, 2, 3, 6, 47, 48, 49] ?_
        refine Run.seq ?_
        refine Run.block ?_
        refine Run.seq ?_
        have fx := And.intro (@Int.toNat_natCast) (And.intro (@Int.natCast_nonneg) (And.intro (@ge_iff_le Int _) (And.intro c2 (And.intro c1 (And.intro hq (And.intro hx (And.intro wi (And.intro e2 (And.intro e1 (And.intro ints_len (And.intro nd_len (And.intro rim_len (And.intro strs_len ft)))))))))))))
        refine Run.go ?_
        refine End.kp [1, 2, 3, 6, 10, 47, 48, 49] ?_
        refine Run.seq ?_
        refine Run.region rfl fun K hK => GOps.sim ?_
        refine GOps.call rfl rfl rfl rfl (by kernel_rfl) (ACalls.sim ?_)
        refine (GNodes_ok g hg.small _).mono fun v u hv => ?_
        obtain ⟨rfl, rfl⟩ := hv
        refine ⟨_, _, rfl, GOps.sim ?_⟩
        refine GOps.done (hK _ ?_); clear hK K
        refine End.kp [1, 2, 3, 6, 47, 48, 49, 61] ?_
        refine Run.cond _ rfl (fun hb => ?_) (fun hb => ?_)
        · have hb2 := hb
          simp at hb
        · have hb2 := hb
          refine Run.skip ?_
          refine End.blk ?_
          refine End.kp [1, 2, 3, 6, 47, 48, 49] ?_
          have fx := And.intro (@Int.toNat_natCast) (And.intro (@Int.natCast_nonneg) (And.intro (@ge_iff_le Int _) (And.intro c2 (And.intro c1 (And.intro hq (And.intro hx (And.intro wi (And.intro e2 (And.intro e1 (And.intro ints_len (And.intro nd_len (And.intro rim_len (And.intro strs_len ft)))))))))))))
          refine Run.go ?_
          refine End.lp ?_
          refine ⟨(d ++ en).length - (i + 1), _, by omega, Ghost.form [(1, .im (.sl (ints d))), (2, .im (.sl (ints en))), (3, .ptr 0 0 0), (6, .ptr 0 1 0), (47, .im (.sl (ints (d ++ en)))), (48, .i (d ++ en).length), (49, .i (i + 1 : Nat))] 2 ⟨rfl, rfl, rfl, rfl, rfl, rfl, rfl, trivial⟩ rfl rfl, i + 1, rfl, by omega, rfl⟩
      · have hb3 := hb
        refine Run.exit rfl ?_
        refine End.kp [1, 2, 3, 6] ?_
        refine Run.seq ?_
        refine Run.ghost (.spares 1) ?_
        simp only [ASt.pushN, ASt.push, List.append_assoc, List.cons_append, List.nil_append]
        have fx := And.intro e2 (And.intro e1 (And.intro ints_len (And.intro nd_len (And.intro rim_len (And.intro strs_len ft)))))
        refine Run.drawA fun K hK => ?_
        refine DOps.sim ?_
        refine DOps.call (.im (.sl (strs g.inn))) [] [] rfl rfl rfl rfl (by kernel_rfl) (by simp [Agree]) (fun u hu => CloneS_ok g.inn (by omega) u) ?_
        refine DOps.sim ?_
        refine DOps.call (.im (.sl (strs g.out))) [] [] rfl rfl rfl rfl (by kernel_rfl) (by simp [Agree]) (fun u hu => CloneS_ok g.out (by omega) u) ?_
        refine DOps.sim ?_
        refine DOps.nil (by rfl) (hK _ ?_); clear hK K
        refine End.kp [1, 2, 3, 6, 11] ?_
        refine Run.seq ?_
        refine Run.seq ?_
        refine Run.go ?_
        refine End.kp [1, 2, 3, 6, 11, 72, 73, 74] ?_
        refine Run.block ?_
        refine Run.ghost (Ghost.thawBox (j := 2) (i := 2) 197 5 (by decide) rfl rfl) ?_
        refine Run.ghost (Ghost.thawBox (j := 2) (i := 3) 200 3 (by decide) rfl rfl) ?_
        refine Run.ghost (Ghost.thawBox (j := 2) (i := 4) 3 1 (by decide) rfl rfl) ?_
        refine Run.ghost (Ghost.form [(1, .im (.sl (ints d))), (2, .im (.sl (ints en))), (3, .ptr 0 0 0), (6, .ptr 0 1 0), (11, .ptr 0 2 0), (72, .im (.sl (g.regs.map LReg.im))), (73, .i g.regs.length), (74, .i (0 : Nat))] 6 ⟨rfl, rfl, rfl, rfl, rfl, rfl, rfl, rfl, trivial⟩ rfl rfl) ?_
        refine Run.loop (fun m s => ∃ i : Nat, m = g.regs.length - i ∧ i ≤ g.regs.length ∧ s = ⟨[(1, .im (.sl (ints d))), (2, .im (.sl (ints en))), (3, .ptr 0 0 0), (6, .ptr 0 1 0), (11, .ptr 0 2 0), (72, .im (.sl (g.regs.map LReg.im))), (73, .i g.regs.length), (74, .i (i : Nat))], [.box [.im (.sl (strs g.inn)), .im (.sl (strs g.out)), .im (.sl (g.regs.map LReg.im)), .im (.sl (g.ands.map nd)), .im (.sl (ints g.outs))], .box [.nils, .nils, .nils, .nils, .nils], .box [.im (.sl (strs g.inn)), .im (.sl (strs g.out)), .ms 0 3 (i), .ms 0 4 0, .ms 0 5 0], .row 197 5 (((g.regs.take (i)).map flop0).map LFlop.im) 0, .row 200 3 (([]).map LGate.im) 0, .row 3 1 (ints ([])) 0], up⟩) g.regs.length ⟨0, rfl, by omega, rfl⟩ fun m s hI => ?_
        obtain ⟨i, rfl, hi, rfl⟩ := hI
        refine Run.seq ?_
        have fx := And.intro e2 (And.intro e1 (And.intro ints_len (And.intro nd_len (And.intro rim_len (And.intro strs_len ft)))))
        refine Run.go ?_
        refine End.kp [1, 2, 3, 6, 11, 72, 73, 74, 75] ?_
        refine Run.seq ?_
        refine Run.cond _ rfl (fun hb => ?_) (fun hb => ?_)
        · have hb3 := of_decide_eq_true hb
          have hin : i < g.regs.length := by omega
          have wi := wsucc hin (by omega)
          obtain ⟨r, hri, hrm, hrr⟩ := reg_at g.regs i hin
          have hap : (i + 1) * 48 ≤ 140737488355328 := by omega
          have hil : (((g.regs.take i).map flop0).map LFlop.im).length = i := by simp; omega
          have hnx : ((g.regs.take (i + 1)).map flop0).map LFlop.im = ((g.regs.take i).map flop0).map LFlop.im ++ [[.str r.name, .int .i64 (-1), .int .i64 0, .int .i64 0, .bool r.init]] := by simp [List.take_add_one, hri, flop0]
          refine Run.skip ?_
          refine End.kp [1, 2, 3, 6, 11, 72, 73, 74] ?_
          refine Run.seq ?_
          refine Run.block ?_
          refine Run.seq ?_
          have fx := And.intro (@Int.toNat_natCast) (And.intro (@Int.natCast_nonneg) (And.intro hil (And.intro hap (And.intro hrr (And.intro wi (And.intro e2 (And.intro e1 (And.intro ints_len (And.intro nd_len (And.intro rim_len (And.intro strs_len ft)))))))))))
          refine Run.go ?_
          refine End.kp [1, 2, 3, 6, 11, 13, 72, 73, 74] ?_
          refine Run.go ?_
          refine End.blk ?_
          refine End.kp [1, 2, 3, 6, 11, 72, 73, 74] ?_
          refine Run.go ?_
          refine End.lp ?_
          refine ⟨g.regs.length - (i + 1), _, by omega, Ghost.form [(1, .im (.sl (ints d))), (2, .im (.sl (ints en))), (3, .ptr 0 0 0), (6, .ptr 0 1 0), (11, .ptr 0 2 0), (72, .im (.sl (g.regs.map LReg.im))), (73, .i g.regs.length), (74, .i (i + 1 : Nat))] 6 ⟨rfl, rfl, rfl, rfl, rfl, rfl, rfl, rfl, trivial⟩ rfl rfl, i + 1, rfl, by omega, by rw [hnx]; rfl⟩
        · have hb3 := of_decide_eq_false hb
          have hie : i = g.regs.length := by omega
          subst hie
          rw [List.take_length]
          refine Run.exit rfl ?_
          refine End.kp [1, 2, 3, 6, 11] ?_
          refine Run.seq ?_
          refine Run.seq ?_
          have fx := And.intro e2 (And.intro e1 (And.intro ints_len (And.intro nd_len (And.intro rim_len (And.intro strs_len ft)))))
          refine Run.go ?_
          refine End.kp [1, 2, 3, 6, 11, 90, 91, 92] ?_
          refine Run.block ?_
          refine Run.ghost (Ghost.form [(1, .im (.sl (ints d))), (2, .im (.sl (ints en))), (3, .ptr 0 0 0), (6, .ptr 0 1 0), (11, .ptr 0 2 0), (90, .im (.sl (g.ands.map nd))), (91, .i g.ands.length), (92, .i (0 : Nat))] 6 ⟨rfl, rfl, rfl, rfl, rfl, rfl, rfl, rfl, trivial⟩ rfl rfl) ?_
          refine Run.loop (fun m s => ∃ i : Nat, m = g.ands.length - i ∧ i ≤ g.ands.length ∧ s = ⟨[(1, .im (.sl (ints d))), (2, .im (.sl (ints en))), (3, .ptr 0 0 0), (6, .ptr 0 1 0), (11, .ptr 0 2 0), (90, .im (.sl (g.ands.map nd))), (91, .i g.ands.length), (92, .i (i : Nat))], [.box [.im (.sl (strs g.inn)), .im (.sl (strs g.out)), .im (.sl (g.regs.map LReg.im)), .im (.sl (g.ands.map nd)), .im (.sl (ints g.outs))], .box [.nils, .nils, .nils, .nils, .nils], .box [.im (.sl (strs g.inn)), .im (.sl (strs g.out)), .ms 0 3 g.regs.length, .ms 0 4 (i), .ms 0 5 0], .row 197 5 ((g.regs.map flop0).map LFlop.im) 0, .row 200 3 (((g.ands.take (i)).map andG).map LGate.im) 0, .row 3 1 (ints ([])) 0], up⟩) g.ands.length ⟨0, rfl, by omega, rfl⟩ fun m s hI => ?_
          obtain ⟨i, rfl, hi, rfl⟩ := hI
          refine Run.seq ?_
          have fx := And.intro e2 (And.intro e1 (And.intro ints_len (And.intro nd_len (And.intro rim_len (And.intro strs_len ft)))))
          refine Run.go ?_
          refine End.kp [1, 2, 3, 6, 11, 90, 91, 92, 93] ?_
          refine Run.seq ?_
          refine Run.cond _ rfl (fun hb => ?_) (fun hb => ?_)
          · have hb3 := of_decide_eq_true hb
            have hin : i < g.ands.length := by omega
            have wi := wsucc hin (by omega)
            obtain ⟨p, hpi, hpm, hpp⟩ := node_at g.ands i hin
            obtain ⟨⟨x1, x2⟩, y1, y2⟩ := hg.ands i p hpi
            have t1 := tmod2 p.1 x1
            have t2 := tmod2 p.2 y1
            have t3 : IntKind.i64.wrap (p.1 % 2) = p.1 % 2 := wrap64 (by omega)
            have t4 : IntKind.i64.wrap (p.2 % 2) = p.2 % 2 := wrap64 (by omega)
            obtain ⟨k, k1, k2, k3⟩ := and_k p.1 p.2 x1 y1
            have u1 := shlU k (by omega)
            have hk0 : ((k : Int) < 0) = False := by simp
            have hap : (i + 1) * 40 ≤ 140737488355328 := by omega
            have hil : (((g.ands.take i).map andG).map LGate.im).length = i := by simp; omega
            have hnx : (g.ands.take (i + 1)).map andG = (g.ands.take i).map andG ++ [andG p] := by simp [List.take_add_one, hpi]
            have hgp : (andG p).im = [.int .i64 (-1), .int .u64 ((2 ^ k : Nat) : Int), .sl (ints [netOf p.1, netOf p.2])] := by simp [andG, LGate.im, k3]
            refine Run.skip ?_
            refine End.kp [1, 2, 3, 6, 11, 90, 91, 92] ?_
            refine Run.seq ?_
            refine Run.block ?_
            refine Run.seq ?_
            have fx := And.intro (@Int.toNat_natCast) (And.intro (@Int.natCast_nonneg) (And.intro hil (And.intro hap (And.intro hk0 (And.intro u1 (And.intro k2 (And.intro t4 (And.intro t3 (And.intro t2 (And.intro t1 (And.intro hpp (And.intro wi (And.intro e2 (And.intro e1 (And.intro ints_len (And.intro nd_len (And.intro rim_len (And.intro strs_len ft))))))))))))))))))
            refine Run.go ?_
            refine End.kp [1, 2, 3, 6, 11, 15, 90, 91, 92] ?_
            refine Run.seq ?_
            refine Run.go ?_
            refine End.kp [1, 2, 3, 6, 11, 15, 16, 90, 91, 92] ?_
            refine Run.ghost (.spares 1) ?_
            simp only [ASt.pushN, ASt.push, List.append_assoc, List.cons_append, List.nil_append]
            refine Run.drawA fun K hK => ?_
            refine DOps.sim ?_
            refine DOps.call (.i (netOf p.1)) [] [] rfl rfl rfl rfl (by kernel_rfl) (by simp [Agree]) (fun u hu => netLit_ok p.1 x1 (by omega) u) ?_
            refine DOps.sim ?_
            refine DOps.call (.i (netOf p.2)) [] [] rfl rfl rfl rfl (by kernel_rfl) (by simp [Agree]) (fun u hu => netLit_ok p.2 y1 (by omega) u) ?_
            refine DOps.litF ?_
            refine DOps.sim ?_
            refine DOps.nil (by rfl) (hK _ ?_); clear hK K
            refine End.blk ?_
            refine End.kp [1, 2, 3, 6, 11, 90, 91, 92] ?_
            have fx := And.intro (@Int.toNat_natCast) (And.intro (@Int.natCast_nonneg) (And.intro hil (And.intro hap (And.intro hk0 (And.intro u1 (And.intro k2 (And.intro t4 (And.intro t3 (And.intro t2 (And.intro t1 (And.intro hpp (And.intro wi (And.intro e2 (And.intro e1 (And.intro ints_len (And.intro nd_len (And.intro rim_len (And.intro strs_len ft))))))))))))))))))
            refine Run.go ?_
            refine End.lp ?_
            refine ⟨g.ands.length - (i + 1), _, by omega, Ghost.form [(1, .im (.sl (ints d))), (2, .im (.sl (ints en))), (3, .ptr 0 0 0), (6, .ptr 0 1 0), (11, .ptr 0 2 0), (90, .im (.sl (g.ands.map nd))), (91, .i g.ands.length), (92, .i (i + 1 : Nat))] 6 ⟨rfl, rfl, rfl, rfl, rfl, rfl, rfl, rfl, trivial⟩ rfl rfl, i + 1, rfl, by omega, by rw [hnx, List.map_append, List.map_cons, hgp]; rfl⟩
          · have hb3 := of_decide_eq_false hb
            have hie : i = g.ands.length := by omega
            subst hie
            rw [List.take_length]
            refine Run.exit rfl ?_
            refine End.kp [1, 2, 3, 6, 11] ?_
            refine Run.seq ?_
            have fx := And.intro e2 (And.intro e1 (And.intro ints_len (And.intro nd_len (And.intro rim_len (And.intro strs_len ft)))))
            refine Run.region rfl fun K hK => GOps.sim ?_
            refine GOps.insert (d := 0) (j := 6) [] rfl ?_
            refine GOps.insert (d := 0) (j := 6) [([.int .i64 0], .int .i64 0)] (findI 1 [(0, 0)] 0) (GOps.sim ?_)
            refine GOps.done (hK _ ?_); clear hK K
            refine End.kp [1, 2, 3, 6, 11, 17] ?_
            refine Run.seq ?_
            have fx := And.intro e2 (And.intro e1 (And.intro ints_len (And.intro nd_len (And.intro rim_len (And.intro strs_len ft)))))
            refine Run.go ?_
            refine End.kp [1, 2, 3, 6, 11, 18] ?_
            refine Run.seq ?_
            refine Run.seq ?_
            refine Run.go ?_
            refine End.kp [1, 2, 6, 11, 18, 125, 126, 127] ?_
            refine Run.block ?_
            refine Run.ghost (Ghost.form [(1, .im (.sl (ints d))), (2, .im (.sl (ints en))), (6, .ptr 0 1 0), (11, .ptr 0 2 0), (18, .fn 121 [.ptr 0 7 0, .ptr 0 2 0]), (125, .im (.sl (ints g.outs))), (126, .i g.outs.length), (127, .i (0 : Nat))] 8 ⟨rfl, rfl, rfl, rfl, rfl, rfl, rfl, rfl, trivial⟩ rfl rfl) ?_
            refine Run.loop (fun m s => ∃ i : Nat, m = g.outs.length - i ∧ i ≤ g.outs.length ∧ s = ⟨[(1, .im (.sl (ints d))), (2, .im (.sl (ints en))), (6, .ptr 0 1 0), (11, .ptr 0 2 0), (18, .fn 121 [.ptr 0 7 0, .ptr 0 2 0]), (125, .im (.sl (ints g.outs))), (126, .i g.outs.length), (127, .i (i : Nat))], [.box [.im (.sl (strs g.inn)), .im (.sl (strs g.out)), .im (.sl (g.regs.map LReg.im)), .im (.sl (g.ands.map nd)), .im (.sl (ints g.outs))], .box [.nils, .nils, .nils, .nils, .nils], .box [.im (.sl (strs g.inn)), .im (.sl (strs g.out)), .ms 0 3 g.regs.length, .ms 0 4 (outsS g (i)).2.2.length, .ms 0 5 (i)], .row 197 5 ((g.regs.map flop0).map LFlop.im) 0, .row 200 3 (((outsS g (i)).2.2).map LGate.im) 0, .row 3 1 (ints ((outsS g (i)).1)) 0, .map (mapI (outsS g (i)).2.1), .box [.map 0 6]], up⟩) g.outs.length ⟨0, rfl, by omega, by rw [show (outsS g 0).2.2.length = g.ands.length from by simp [outsS]]; rfl⟩ fun m s hI => ?_
            obtain ⟨i, rfl, hi, rfl⟩ := hI
            refine Run.seq ?_
            have fx := And.intro e2 (And.intro e1 (And.intro ints_len (And.intro nd_len (And.intro rim_len (And.intro strs_len ft)))))
            refine Run.go ?_
            refine End.kp [1, 2, 6, 11, 18, 125, 126, 127, 128] ?_
            refine Run.seq ?_
            refine Run.cond _ rfl (fun hb => ?_) (fun hb => ?_)
            · have hb3 := of_decide_eq_true hb
              have hin : i < g.outs.length := by omega
              have wi := wsucc hin (by omega)
              obtain ⟨x, hxi, hxm, hx⟩ := int_at g.outs i hin
              obtain ⟨x1, x2⟩ := hg.outs x hxm
              obtain ⟨l1, l2⟩ := outsS_len g i (by omega)
              have hnx := outsS_next g i x hxi
              have hap : (i + 1) * 8 ≤ 140737488355328 := by omega
              have hil : (ints (outsS g i).1).length = i := by rw [ints_len, l1]
              refine Run.skip ?_
              refine End.kp [1, 2, 6, 11, 18, 125, 126, 127] ?_
              refine Run.seq ?_
              refine Run.block ?_
              refine Run.seq ?_
              have fx := And.intro (@Int.toNat_natCast) (And.intro (@Int.natCast_nonneg) (And.intro wsAt_eq (And.intro hil (And.intro hap (And.intro hx (And.intro wi (And.intro e2 (And.intro e1 (And.intro ints_len (And.intro nd_len (And.intro rim_len (And.intro strs_len ft))))))))))))
              refine Run.go ?_
              refine End.kp [1, 2, 6, 11, 18, 20, 125, 126, 127] ?_
              refine Run.ghost (.spares 1) ?_
              simp only [ASt.pushN, ASt.push, List.append_assoc, List.cons_append, List.nil_append]
              refine Run.drawA fun K hK => ?_
              refine DOps.sim1 ?_
              refine DOps.loadS ?_
              refine DOps.sim ?_
              refine DOps.callK (.i (atN (nbG g) x (outsS g i).2.1 (outsS g i).2.2).1) (((0, 7), .box [.map 0 6]) :: wsAt g.inn g.out g.regs.length i (outsS g i).2.1 (outsS g i).2.2) (wsAt g.inn g.out g.regs.length i (atN (nbG g) x (outsS g i).2.1 (outsS g i).2.2).2.1 (atN (nbG g) x (outsS g i).2.1 (outsS g i).2.2).2.2) [((0, 2), 4)] rfl rfl rfl rfl (by kernel_rfl) (by simp [Agree, wsAt, ASt.fr, look, fget]) (fun u hu => at_ok g.inn g.out g.regs.length i _ _ x x1 (by omega) (by omega) (by omega) (by omega) u hu) (by simp [wsAt, cellOf]) ?_
              refine DOps.sim ?_
              refine DOps.nil (by rfl) (hK _ ?_); clear hK K
              refine End.blk ?_
              refine End.kp [1, 2, 6, 11, 18, 125, 126, 127] ?_
              have fx := And.intro (@Int.toNat_natCast) (And.intro (@Int.natCast_nonneg) (And.intro wsAt_eq (And.intro hil (And.intro hap (And.intro hx (And.intro wi (And.intro e2 (And.intro e1 (And.intro ints_len (And.intro nd_len (And.intro rim_len (And.intro strs_len ft))))))))))))
              refine Run.go ?_
              refine End.lp ?_
              refine ⟨g.outs.length - (i + 1), _, by omega, Ghost.form [(1, .im (.sl (ints d))), (2, .im (.sl (ints en))), (6, .ptr 0 1 0), (11, .ptr 0 2 0), (18, .fn 121 [.ptr 0 7 0, .ptr 0 2 0]), (125, .im (.sl (ints g.outs))), (126, .i g.outs.length), (127, .i (i + 1 : Nat))] 8 ⟨rfl, rfl, rfl, rfl, rfl, rfl, rfl, rfl, trivial⟩ rfl rfl, i + 1, rfl, by omega, by rw [hnx]; simp only [stO, ints, List.map_append, List.map_cons, List.map_nil]; rfl⟩
            · have hb3 := of_decide_eq_false hb
              have hie : i = g.outs.length := by omega
              subst hie
              have hfl0 : ((g.regs.map flop0).map LFlop.im).length = g.regs.length := by simp
              refine Run.exit rfl ?_
              refine End.kp [1, 2, 6, 11, 18] ?_
              refine Run.seq ?_
              refine Run.seq ?_
              have fx := And.intro hfl0 (And.intro e2 (And.intro e1 (And.intro ints_len (And.intro nd_len (And.intro rim_len (And.intro strs_len ft))))))
              refine Run.go ?_
              refine End.kp [1, 2, 6, 11, 18, 142, 143] ?_
              refine Run.block ?_
              refine Run.ghost (Ghost.form [(1, .im (.sl (ints d))), (2, .im (.sl (ints en))), (6, .ptr 0 1 0), (11, .ptr 0 2 0), (18, .fn 121 [.ptr 0 7 0, .ptr 0 2 0]), (142, .i g.regs.length), (143, .i (0 : Nat))] 8 ⟨rfl, rfl, rfl, rfl, rfl, rfl, rfl, trivial⟩ rfl rfl) ?_
              refine Run.loop (fun m s => ∃ i : Nat, m = g.regs.length - i ∧ i ≤ g.regs.length ∧ s = ⟨[(1, .im (.sl (ints d))), (2, .im (.sl (ints en))), (6, .ptr 0 1 0), (11, .ptr 0 2 0), (18, .fn 121 [.ptr 0 7 0, .ptr 0 2 0]), (142, .i g.regs.length), (143, .i (i : Nat))], [.box [.im (.sl (strs g.inn)), .im (.sl (strs g.out)), .im (.sl (g.regs.map LReg.im)), .im (.sl (g.ands.map nd)), .im (.sl (ints g.outs))], .box [.nils, .nils, .nils, .nils, .nils], .box [.im (.sl (strs g.inn)), .im (.sl (strs g.out)), .ms 0 3 g.regs.length, .ms 0 4 (flopsS g d en (i)).2.2.length, .ms 0 5 g.outs.length], .row 197 5 ((flopsAt g.regs (flopsS g d en (i)).1).map LFlop.im) 0, .row 200 3 (((flopsS g d en (i)).2.2).map LGate.im) 0, .row 3 1 (ints ((outsS g g.outs.length).1)) 0, .map (mapI (flopsS g d en (i)).2.1), .box [.map 0 6]], up⟩) g.regs.length ⟨0, rfl, by omega, by rw [show (flopsS g d en 0).1 = [] from rfl, flopsAt_nil]; rfl⟩ fun m s hI => ?_
              obtain ⟨i, rfl, hi, rfl⟩ := hI
              refine Run.seq ?_
              have fx := And.intro hfl0 (And.intro e2 (And.intro e1 (And.intro ints_len (And.intro nd_len (And.intro rim_len (And.intro strs_len ft))))))
              refine Run.go ?_
              refine End.kp [1, 2, 6, 11, 18, 142, 143, 144] ?_
              refine Run.seq ?_
              refine Run.cond _ rfl (fun hb => ?_) (fun hb => ?_)
              · have hb3 := of_decide_eq_true hb
                have hin : i < g.regs.length := by omega
                have wi := wsucc hin (by omega)
                obtain ⟨x, hxi, hxm, hx⟩ := int_at d i (by omega)
                obtain ⟨y, hyi, hym, hy⟩ := int_at en i (by omega)
                obtain ⟨x1, x2⟩ := hr x (List.mem_append_left _ hxm)
                obtain ⟨y1, y2⟩ := hr y (List.mem_append_right _ hym)
                obtain ⟨r, hri, hrm, hrr⟩ := reg_at g.regs i hin
                obtain ⟨l1, l2⟩ := flopsS_len g d en i (by omega) (by omega)
                have l3 := atN_len (nbG g) x (flopsS g d en i).2.1 (flopsS g d en i).2.2
                have hnx := flopsS_next g d en i x y hxi hyi
                have hil : (i : Int) < (g.regs.length : Int) := by omega
                have hdl : (i : Int) < (d.length : Int) := by omega
                have hel : (i : Int) < (en.length : Int) := by omega
                have hfr : ((flopsAt g.regs (flopsS g d en i).1).map LFlop.im)[i]? = some [.str r.name, .int .i64 (-1), .int .i64 0, .int .i64 0, .bool r.init] := by
                  rw [List.getElem?_map, flopsAt_get _ _ i r hri]
                  have : (flopsS g d en i).1.getD i (0, 0) = (0, 0) := by rw [List.getD_eq_getElem?_getD, List.getElem?_eq_none (by omega)]; rfl
                  rw [this]
                  rfl
                have hl0 : ((flopsAt g.regs (flopsS g d en i).1).map LFlop.im).length = g.regs.length := by rw [List.length_map, flopsAt_len]
                have hs1 : ∀ r', (((flopsAt g.regs (flopsS g d en i).1).map LFlop.im).set i r')[i]? = some r' := fun r' => List.getElem?_set_self (by rw [hl0]; exact hin)
                have hl1 : ∀ r', (((flopsAt g.regs (flopsS g d en i).1).map LFlop.im).set i r').length = g.regs.length := fun r' => by rw [List.length_set, hl0]
                have hset : ∀ (a : List Im) (u v : Int), (((flopsAt g.regs (flopsS g d en i).1).map LFlop.im).set i a).set i [.str r.name, .int .i64 (-1), .int .i64 u, .int .i64 v, .bool r.init] = (flopsAt g.regs ((flopsS g d en i).1 ++ [(u, v)])).map LFlop.im := fun a u v => by
                  have := flopsAt_set g.regs (flopsS g d en i).1 r u v (by rw [l1]; exact hri)
                  rw [List.set_set, ← this, List.map_set, l1]
                refine Run.skip ?_
                refine End.kp [1, 2, 6, 11, 18, 142, 143] ?_
                refine Run.seq ?_
                refine Run.block ?_
                refine Run.seq ?_
                have fx := And.intro (@Int.toNat_natCast) (And.intro (@Int.natCast_nonneg) (And.intro wsAt_eq (And.intro hl1 (And.intro hs1 (And.intro hl0 (And.intro hfr (And.intro hel (And.intro hdl (And.intro hil (And.intro hy (And.intro hx (And.intro wi (And.intro hfl0 (And.intro e2 (And.intro e1 (And.intro ints_len (And.intro nd_len (And.intro rim_len (And.intro strs_len ft)))))))))))))))))))
                refine Run.go ?_
                refine End.kp [1, 2, 6, 11, 18, 21, 142, 143] ?_
                refine Run.seq ?_
                refine Run.drawA fun K hK => ?_
                refine DOps.sim1 ?_
                refine DOps.loadS ?_
                refine DOps.sim ?_
                refine DOps.callK (.i (atN (nbG g) x (flopsS g d en i).2.1 (flopsS g d en i).2.2).1) (((0, 7), .box [.map 0 6]) :: wsAt g.inn g.out g.regs.length g.outs.length (flopsS g d en i).2.1 (flopsS g d en i).2.2) (wsAt g.inn g.out g.regs.length g.outs.length (atN (nbG g) x (flopsS g d en i).2.1 (flopsS g d en i).2.2).2.1 (atN (nbG g) x (flopsS g d en i).2.1 (flopsS g d en i).2.2).2.2) [((0, 2), 2)] rfl rfl rfl rfl (by kernel_rfl) (by simp [Agree, wsAt, ASt.fr, look, fget]) (fun u hu => at_ok g.inn g.out g.regs.length g.outs.length _ _ x x1 (by omega) (by omega) (by omega) (by omega) u hu) (by simp [wsAt, cellOf]) ?_
                refine DOps.sim ?_
                refine DOps.nil (by rfl) (hK _ ?_); clear hK K
                refine End.kp [1, 2, 6, 11, 18, 21, 142, 143] ?_
                have fx := And.intro (@Int.toNat_natCast) (And.intro (@Int.natCast_nonneg) (And.intro wsAt_eq (And.intro hl1 (And.intro hs1 (And.intro hl0 (And.intro hfr (And.intro hel (And.intro hdl (And.intro hil (And.intro hy (And.intro hx (And.intro wi (And.intro hfl0 (And.intro e2 (And.intro e1 (And.intro ints_len (And.intro nd_len (And.intro rim_len (And.intro strs_len ft)))))))))))))))))))
                refine Run.drawA fun K hK => ?_
                refine DOps.sim1 ?_
                refine DOps.loadS ?_
                refine DOps.sim ?_
                refine DOps.callK (.i (atN (nbG g) y (atN (nbG g) x (flopsS g d en i).2.1 (flopsS g d en i).2.2).2.1 (atN (nbG g) x (flopsS g d en i).2.1 (flopsS g d en i).2.2).2.2).1) (((0, 7), .box [.map 0 6]) :: wsAt g.inn g.out g.regs.length g.outs.length (atN (nbG g) x (flopsS g d en i).2.1 (flopsS g d en i).2.2).2.1 (atN (nbG g) x (flopsS g d en i).2.1 (flopsS g d en i).2.2).2.2) (wsAt g.inn g.out g.regs.length g.outs.length (atN (nbG g) y (atN (nbG g) x (flopsS g d en i).2.1 (flopsS g d en i).2.2).2.1 (atN (nbG g) x (flopsS g d en i).2.1 (flopsS g d en i).2.2).2.2).2.1 (atN (nbG g) y (atN (nbG g) x (flopsS g d en i).2.1 (flopsS g d en i).2.2).2.1 (atN (nbG g) x (flopsS g d en i).2.1 (flopsS g d en i).2.2).2.2).2.2) [((0, 2), 2)] rfl rfl rfl rfl (by kernel_rfl) (by simp [Agree, wsAt, ASt.fr, look, fget]) (fun u hu => at_ok g.inn g.out g.regs.length g.outs.length _ _ y y1 (by omega) (by omega) (by omega) (by omega) u hu) (by simp [wsAt, cellOf]) ?_
                refine DOps.sim ?_
                refine DOps.nil (by rfl) (hK _ ?_); clear hK K
                refine End.blk ?_
                refine End.kp [1, 2, 6, 11, 18, 142, 143] ?_
                have fx := And.intro (@Int.toNat_natCast) (And.intro (@Int.natCast_nonneg) (And.intro wsAt_eq (And.intro hl1 (And.intro hs1 (And.intro hl0 (And.intro hfr (And.intro hel (And.intro hdl (And.intro hil (And.intro hy (And.intro hx (And.intro wi (And.intro hfl0 (And.intro e2 (And.intro e1 (And.intro ints_len (And.intro nd_len (And.intro rim_len (And.intro strs_len ft)))))))))))))))))))
                refine Run.go ?_
                refine End.lp ?_
                refine ⟨g.regs.length - (i + 1), _, by omega, Ghost.form [(1, .im (.sl (ints d))), (2, .im (.sl (ints en))), (6, .ptr 0 1 0), (11, .ptr 0 2 0), (18, .fn 121 [.ptr 0 7 0, .ptr 0 2 0]), (142, .i g.regs.length), (143, .i (i + 1 : Nat))] 8 ⟨rfl, rfl, rfl, rfl, rfl, rfl, rfl, trivial⟩ rfl rfl, i + 1, rfl, by omega, by rw [hnx]; simp only [stF]; rw [← hset]; rfl⟩
              · have hb3 := of_decide_eq_false hb
                have hie : i = g.regs.length := by omega
                subst hie
                have hlf : ((flopsAt g.regs (flopsS g d en g.regs.length).1).map LFlop.im).length = g.regs.length := by rw [List.length_map, flopsAt_len]
                have hlg : ((flopsS g d en g.regs.length).2.2.map LGate.im).length = (flopsS g d en g.regs.length).2.2.length := by simp
                have hlo : (ints (outsS g g.outs.length).1).length = g.outs.length := by rw [ints_len]; exact (outsS_len g _ (Nat.le_refl _)).1
                refine Run.exit rfl ?_
                refine End.kp [6, 11] ?_
                refine Run.seq ?_
                refine Run.seq ?_
                refine Run.ghost (Ghost.boxShut (j := 2) (i := 2) (r := 3) rfl rfl rfl hlf) ?_
                refine Run.ghost (Ghost.boxShut (j := 2) (i := 3) (r := 4) rfl rfl rfl hlg) ?_
                refine Run.ghost (Ghost.boxShut (j := 2) (i := 4) (r := 5) rfl rfl rfl hlo) ?_
                simp only [List.set_cons_succ, List.set_cons_zero]
                have fx := And.intro hlo (And.intro hlg (And.intro hlf (And.intro hfl0 (And.intro e2 (And.intro e1 (And.intro ints_len (And.intro nd_len (And.intro rim_len (And.intro strs_len ft)))))))))
                refine Run.region rfl fun K hK => GOps.sim ?_
                refine GOps.call rfl rfl rfl rfl (by kernel_rfl) (ACalls.sim ?_)
                refine (Form_ok (withV g d en) hok _).mono fun v u hv => ?_
                obtain ⟨rfl, rfl⟩ := hv
                refine ⟨_, _, rfl, GOps.sim ?_⟩
                refine GOps.done (hK _ ?_); clear hK K
                refine End.kp [6, 11, 22] ?_
                refine Run.seq ?_
                refine Run.go ?_
                refine End.kp [6, 11, 22, 172] ?_
                refine Run.cond _ rfl (fun hb => ?_) (fun hb => ?_)
                · have hb2 := hb
                  simp at hb
                · have hb2 := hb
                  refine Run.skip ?_
                  refine End.kp [6, 11] ?_
                  refine Run.seq ?_
                  have fx := And.intro hlo (And.intro hlg (And.intro hlf (And.intro hfl0 (And.intro e2 (And.intro e1 (And.intro ints_len (And.intro nd_len (And.intro rim_len (And.intro strs_len ft)))))))))
                  refine Run.go ?_
                  refine End.kp [6, 7] ?_
                  refine Run.resC hQ ?_
                  exact ⟨rfl, rfl⟩
end Go.Proofs.YtdgpmopcmacicaaPi

/- The walks of netlist.Init, netlist.Run and netlist.Of. -/
set_option linter.unusedVariables false
set_option linter.unusedSimpArgs false
set_option maxRecDepth 100000
namespace Go.Proofs.YtdgpmopcmacicaaPi
set_option maxHeartbeats 4000000
def nextsM (n : LNet) (v : List Int) : List Int := nextsF n v 0 n.flops
def initN (n : LNet) : List Bool := n.flops.map LFlop.init
def runN (n : LNet) : List Int → List (List Bool) → List (List Bool)
  | _, [] => []
  | st, r :: t => laneB (outV n (valuesV n (lanes0 r) st)) :: runN n (nextsM n (valuesV n (lanes0 r) st)) t
theorem NInit_ok (n : LNet) (hg : NetSmall n) (up : Frs) : ACalls Try.prog 84 [n.pv] up fun v u => v = .im (.sl (bools (initN n))) ∧ u = up := by
  obtain ⟨z1, z2, z3, z4, z5⟩ := hg
  have hc : (0 : Int) ≤ n.flops.length := by omega
  have hm1 : ((1 : Nat) : Int) * (n.flops.length : Int) ≤ 281474976710656 := by omega
  have hm2 : (n.flops.length : Int) ≤ 9223372036854775807 := by omega
  refine ACalls.code Try.func84 rfl 25 rfl (by simp) [.tmp 2] rfl fun Q hQ => ?_
  simp only [ups, PV.up, argEnv]
  have ft := And.intro ty_2 (And.intro ty_3 (And.intro ty_4 (And.intro ty_57 (And.intro ty_60 (And.intro ty_71 (And.intro ty_197 trivial))))))
  refine Run.seq ?_
  have fx := And.intro hm2 (And.intro hm1 (And.intro hc (And.intro fim_len ft)))
  refine Run.go ?_
  refine End.kp [1] ?_
  refine Run.seq ?_
  refine Run.go ?_
  refine End.kp [1, 3] ?_
  refine Run.seq ?_
  refine Run.seq ?_
  refine Run.go ?_
  refine End.kp [3, 11, 12, 13] ?_
  refine Run.block ?_
  refine Run.ghost (Ghost.form [(3, .ms 0 1 n.flops.length), (11, .im (.sl (n.flops.map LFlop.im))), (12, .i n.flops.length), (13, .i (0 : Nat))] 2 ⟨rfl, rfl, rfl, rfl, trivial⟩ rfl rfl) ?_
  refine Run.loop (fun m s => ∃ (i : Nat), m = n.flops.length - i ∧ i ≤ n.flops.length ∧ s = ⟨[(3, .ms 0 1 n.flops.length), (11, .im (.sl (n.flops.map LFlop.im))), (12, .i n.flops.length), (13, .i (i : Nat))], [.box [.im (.sl (strs n.inn)), .im (.sl (strs n.out)), .im (.sl (n.flops.map LFlop.im)), .im (.sl (n.gates.map LGate.im)), .im (.sl (ints n.outs))], .row 4 1 ((n.flops.take i).map (fun r => [Im.bool r.init]) ++ List.replicate (n.flops.length - i) [.bool false]) 0], up⟩) n.flops.length ⟨0, rfl, by omega, by simp⟩ fun m s hI => ?_
  obtain ⟨i, rfl, hi, rfl⟩ := hI
  have hrl := fill_len (fun r => [Im.bool r.init]) n.flops [.bool false] i hi
  refine Run.seq ?_
  have fx := And.intro hrl (And.intro hm2 (And.intro hm1 (And.intro hc (And.intro fim_len ft))))
  refine Run.go ?_
  refine End.kp [3, 11, 12, 13, 14] ?_
  refine Run.seq ?_
  refine Run.cond _ rfl (fun hb => ?_) (fun hb => ?_)
  · have hb := of_decide_eq_true hb
    have hin : i < n.flops.length := by omega
    have wi := wsucc hin (by omega)
    obtain ⟨f, hfi, hfm, hf⟩ := flop_at n.flops i hin
    have hri := fill_get (fun r => [Im.bool r.init]) n.flops [.bool false] i hin
    have hfd : n.flops.getD i ⟨ByteArray.empty, 0, 0, false⟩ = f := by simp [hfi]
    have hfm2 := fill_map (fun r => [Im.bool r.init]) n.flops [.bool false] ⟨ByteArray.empty, 0, 0, false⟩ i hin
    rw [hfd] at hfm2
    refine Run.skip ?_
    refine End.kp [3, 11, 12, 13] ?_
    refine Run.seq ?_
    refine Run.block ?_
    refine Run.seq ?_
    have fx := And.intro hri (And.intro hin (And.intro (@Int.ofNat_lt) (And.intro (@Int.toNat_natCast) (And.intro (@Int.natCast_nonneg) (And.intro hf (And.intro wi (And.intro hrl (And.intro hm2 (And.intro hm1 (And.intro hc (And.intro fim_len ft)))))))))))
    refine Run.go ?_
    refine End.kp [3, 4, 5, 11, 12, 13] ?_
    refine Run.go ?_
    refine End.blk ?_
    refine End.kp [3, 11, 12, 13] ?_
    refine Run.go ?_
    refine End.lp ?_
    refine ⟨n.flops.length - (i + 1), _, by omega, Ghost.form [(3, .ms 0 1 n.flops.length), (11, .im (.sl (n.flops.map LFlop.im))), (12, .i n.flops.length), (13, .i (i + 1 : Nat))] 2 ⟨rfl, rfl, rfl, rfl, trivial⟩ rfl rfl, i + 1, rfl, by omega, ?_⟩
    rw [← hfm2]
    rfl
  · have hb := of_decide_eq_false hb
    have hiN : i = n.flops.length := by omega
    subst hiN
    rw [fill_all] at hrl ⊢
    refine Run.exit rfl ?_
    refine End.kp [3] ?_
    refine Run.seq ?_
    refine Run.ghost (Ghost.shut (t := 3) (j := 1) rfl rfl hrl) ?_
    simp only [eput, edel]
    have fx := And.intro hrl (And.intro hm2 (And.intro hm1 (And.intro hc (And.intro fim_len ft))))
    refine Run.go ?_
    refine End.kp [2] ?_
    refine Run.ret (hQ _ _ ⟨.inr rfl, _, rfl, _, rfl, ?_⟩)
    exact ⟨by simp [initN], rfl⟩
theorem NRun_ok (n : LNet) (hg : NetOk n) (tr : List (List Bool)) (hn : tr.length ≤ 64) (ht : ∀ r ∈ tr, r.length = n.inn.length) (up : Frs) : ACalls Try.prog 29 [n.pv, .im (.sl (boolss tr))] up fun v u => v = .tup [.im (.sl (boolss (runN n (lanes0 (initN n)) tr))), .i 0] ∧ u = up := by
  have hsm := hg.small
  obtain ⟨z1, z2, z3, z4, z5⟩ := hg.small
  have d1 : decide ((tr.length : Int) > 64) = false := decide_eq_false (by omega)
  refine ACalls.code Try.func29 rfl 63 rfl (by simp) [.tmp 4, .tmp 5] rfl fun Q hQ => ?_
  simp only [ups, PV.up, argEnv]
  have ft := And.intro ty_3 (And.intro ty_4 (And.intro ty_9 (And.intro ty_27 (And.intro ty_39 (And.intro ty_60 (And.intro ty_63 (And.intro ty_71 (And.intro ty_98 (And.intro ty_171 trivial)))))))))
  refine Run.seq ?_
  have fx := And.intro d1 (And.intro strs_len (And.intro bools_len (And.intro boolss_len ft)))
  refine Run.go ?_
  refine End.kp [1, 2] ?_
  refine Run.seq ?_
  refine Run.seq ?_
  refine Run.region rfl fun K hK => GOps.sim ?_
  refine GOps.call rfl rfl rfl rfl (by kernel_rfl) (ACalls.sim ?_)
  refine (Form_ok n hg _).mono fun v u hv => ?_
  obtain ⟨rfl, rfl⟩ := hv
  refine ⟨_, _, rfl, GOps.sim ?_⟩
  refine GOps.done (hK _ ?_); clear hK K
  refine End.kp [1, 2, 6] ?_
  refine Run.seq ?_
  refine Run.go ?_
  refine End.kp [1, 2, 6, 18] ?_
  refine Run.cond _ rfl (fun hb => ?_) (fun hb => ?_)
  · have hb := hb
    simp at hb
  · have hb := hb
    refine Run.skip ?_
    refine End.kp [1, 2] ?_
    refine Run.seq ?_
    refine Run.seq ?_
    have fx := And.intro d1 (And.intro strs_len (And.intro bools_len (And.intro boolss_len ft)))
    refine Run.go ?_
    refine End.kp [1, 2, 22] ?_
    refine Run.cond _ rfl (fun hb => ?_) (fun hb => ?_)
    · have hb := hb
      simp at hb
    · have hb := hb
      refine Run.skip ?_
      refine End.kp [1, 2] ?_
      refine Run.seq ?_
      refine Run.seq ?_
      have fx := And.intro d1 (And.intro strs_len (And.intro bools_len (And.intro boolss_len ft)))
      refine Run.go ?_
      refine End.kp [1, 2, 23, 24, 25] ?_
      refine Run.block ?_
      refine Run.ghost (Ghost.form [(1, .im (.sl (boolss tr))), (2, .ptr 0 0 0), (23, .im (.sl (boolss tr))), (24, .i tr.length), (25, .i (0 : Nat))] 1 ⟨rfl, rfl, rfl, rfl, rfl, trivial⟩ rfl rfl) ?_
      refine Run.loop (fun m s => ∃ (i : Nat), m = tr.length - i ∧ i ≤ tr.length ∧ s = ⟨[(1, .im (.sl (boolss tr))), (2, .ptr 0 0 0), (23, .im (.sl (boolss tr))), (24, .i tr.length), (25, .i (i : Nat))], [.box [.im (.sl (strs n.inn)), .im (.sl (strs n.out)), .im (.sl (n.flops.map LFlop.im)), .im (.sl (n.gates.map LGate.im)), .im (.sl (ints n.outs))]], up⟩) tr.length ⟨0, rfl, by omega, rfl⟩ fun m s hI => ?_
      obtain ⟨i, rfl, hi, rfl⟩ := hI
      refine Run.seq ?_
      have fx := And.intro d1 (And.intro strs_len (And.intro bools_len (And.intro boolss_len ft)))
      refine Run.go ?_
      refine End.kp [1, 2, 23, 24, 25, 26] ?_
      refine Run.seq ?_
      refine Run.cond _ rfl (fun hb => ?_) (fun hb => ?_)
      · have hb := of_decide_eq_true hb
        have hin : i < tr.length := by omega
        have wi := wsucc hin (by omega)
        obtain ⟨r, hri, hrm, _, hr⟩ := boolss_at tr i hin
        have d2 : ((r.length : Int) != n.inn.length) = false := by rw [ht r hrm]; simp
        refine Run.skip ?_
        refine End.kp [1, 2, 23, 24, 25] ?_
        refine Run.seq ?_
        refine Run.block ?_
        refine Run.seq ?_
        have fx := And.intro (@Int.toNat_natCast) (And.intro (@Int.natCast_nonneg) (And.intro d2 (And.intro hr (And.intro wi (And.intro d1 (And.intro strs_len (And.intro bools_len (And.intro boolss_len ft))))))))
        refine Run.go ?_
        refine End.kp [1, 2, 8, 23, 24, 25] ?_
        refine Run.seq ?_
        refine Run.go ?_
        refine End.kp [1, 2, 23, 24, 25, 34] ?_
        refine Run.cond _ rfl (fun hb => ?_) (fun hb => ?_)
        · have hb := hb
          simp at hb
        · have hb := hb
          refine Run.skip ?_
          refine End.blk ?_
          refine End.kp [1, 2, 23, 24, 25] ?_
          have fx := And.intro (@Int.toNat_natCast) (And.intro (@Int.natCast_nonneg) (And.intro d2 (And.intro hr (And.intro wi (And.intro d1 (And.intro strs_len (And.intro bools_len (And.intro boolss_len ft))))))))
          refine Run.go ?_
          refine End.lp ?_
          refine ⟨tr.length - (i + 1), _, by omega, Ghost.form [(1, .im (.sl (boolss tr))), (2, .ptr 0 0 0), (23, .im (.sl (boolss tr))), (24, .i tr.length), (25, .i (i + 1 : Nat))] 1 ⟨rfl, rfl, rfl, rfl, rfl, trivial⟩ rfl rfl, i + 1, rfl, by omega, rfl⟩
      · have hb := of_decide_eq_false hb
        refine Run.exit rfl ?_
        refine End.kp [1, 2] ?_
        refine Run.seq ?_
        have fx := And.intro d1 (And.intro strs_len (And.intro bools_len (And.intro boolss_len ft)))
        refine Run.region rfl fun K hK => GOps.sim ?_
        refine GOps.call rfl rfl rfl rfl (by kernel_rfl) (ACalls.sim ?_)
        refine (NInit_ok n hsm _).mono fun v u hv => ?_
        obtain ⟨rfl, rfl⟩ := hv
        refine ⟨_, _, rfl, GOps.sim ?_⟩
        refine GOps.call rfl rfl rfl rfl (by kernel_rfl) (ACalls.sim ?_)
        refine (Lanes_ok (initN n) (by simp [initN]; omega) _).mono fun v u hv => ?_
        obtain ⟨rfl, rfl⟩ := hv
        refine ⟨_, _, rfl, GOps.sim ?_⟩
        refine GOps.done (hK _ ?_); clear hK K
        refine End.kp [1, 2, 9] ?_
        refine Run.seq ?_
        refine Run.go ?_
        refine End.kp [1, 2, 9, 10] ?_
        refine Run.seq ?_
        refine Run.seq ?_
        refine Run.go ?_
        refine End.kp [2, 9, 10, 39, 40, 41] ?_
        refine Run.block ?_
        refine Run.ghost (Ghost.thaw (u := 10) 71 1 (by decide) rfl) ?_
        refine Run.ghost (Ghost.form [(2, .ptr 0 0 0), (9, .im (.sl (us (lanes0 (initN n))))), (10, .ms 0 1 (0)), (39, .im (.sl (boolss tr))), (40, .i tr.length), (41, .i (0 : Nat))] 2 ⟨rfl, rfl, rfl, rfl, rfl, rfl, trivial⟩ rfl rfl) ?_
        refine Run.loop (fun m s => ∃ (i : Nat) (st : List Int) (dn : List (List Bool)), m = tr.length - i ∧ i ≤ tr.length ∧ dn.length = i ∧ st.length = n.flops.length ∧ dn ++ runN n st (tr.drop i) = runN n (lanes0 (initN n)) tr ∧ s = ⟨[(2, .ptr 0 0 0), (9, .im (.sl (us st))), (10, .ms 0 1 (i)), (39, .im (.sl (boolss tr))), (40, .i tr.length), (41, .i (i : Nat))], [.box [.im (.sl (strs n.inn)), .im (.sl (strs n.out)), .im (.sl (n.flops.map LFlop.im)), .im (.sl (n.gates.map LGate.im)), .im (.sl (ints n.outs))], .row 71 1 (boolss dn) 0], up⟩) tr.length ⟨0, _, [], rfl, by omega, rfl, by simp [initN], rfl, rfl⟩ fun m s hI => ?_
        obtain ⟨i, st, dn, rfl, hi, hdn, hst, hR, rfl⟩ := hI
        have hap : (i + 1) * 24 ≤ 140737488355328 := by omega
        refine Run.seq ?_
        have fx := And.intro hap (And.intro hdn (And.intro d1 (And.intro strs_len (And.intro bools_len (And.intro boolss_len ft)))))
        refine Run.go ?_
        refine End.kp [2, 9, 10, 39, 40, 41, 42] ?_
        refine Run.seq ?_
        refine Run.cond _ rfl (fun hb => ?_) (fun hb => ?_)
        · have hb := of_decide_eq_true hb
          have hin : i < tr.length := by omega
          have wi := wsucc hin (by omega)
          obtain ⟨r, hri, hrm, _, hr⟩ := boolss_at tr i hin
          have hrl := ht r hrm
          have hdr : tr.drop i = r :: tr.drop (i + 1) := by
            obtain ⟨h, e⟩ := List.getElem?_eq_some_iff.1 hri
            rw [← e]
            exact List.drop_eq_getElem_cons h
          rw [hdr, runN] at hR
          refine Run.skip ?_
          refine End.kp [2, 9, 10, 39, 40, 41] ?_
          refine Run.seq ?_
          refine Run.block ?_
          refine Run.seq ?_
          have fx := And.intro (@Int.toNat_natCast) (And.intro (@Int.natCast_nonneg) (And.intro hr (And.intro wi (And.intro hap (And.intro hdn (And.intro d1 (And.intro strs_len (And.intro bools_len (And.intro boolss_len ft)))))))))
          refine Run.go ?_
          refine End.kp [2, 9, 10, 12, 39, 40, 41] ?_
          refine Run.seq ?_
          refine Run.drawA fun K hK => ?_
          refine DOps.sim ?_
          refine DOps.call (.im (.sl (us (lanes0 r)))) [] [] rfl rfl rfl rfl (by kernel_rfl) (by simp [Agree]) (fun u hu => Lanes_ok r (by omega) u) ?_
          refine DOps.sim ?_
          refine DOps.call (.im (.sl (us (valuesV n (lanes0 r) st)))) [] [] rfl rfl rfl rfl (by kernel_rfl) (by simp [Agree]) (fun u hu => values_ok n hg (lanes0 r) st (by simpa using hrl) hst u) ?_
          refine DOps.sim ?_
          refine DOps.call (.tup [.im (.sl (us (outV n (valuesV n (lanes0 r) st)))), .im (.sl (us (nextsM n (valuesV n (lanes0 r) st))))]) [] [] rfl rfl rfl rfl (by kernel_rfl) (by simp [Agree]) (fun u hu => nresults_ok n hg (valuesV n (lanes0 r) st) (by rw [valuesV_len n _ _ (by simpa using hrl) hst]) u) ?_
          refine DOps.sim ?_
          refine DOps.nil (metAll_quiet rfl) (hK _ ?_); clear hK K
          refine End.kp [2, 10, 13, 14, 39, 40, 41] ?_
          refine Run.region rfl fun K hK => GOps.sim ?_
          refine GOps.call rfl rfl rfl rfl (by kernel_rfl) (ACalls.sim ?_)
          refine (Lane_ok _ (by simp [outV]; omega) _).mono fun v u hv => ?_
          obtain ⟨rfl, rfl⟩ := hv
          refine ⟨_, _, rfl, GOps.sim ?_⟩
          refine GOps.done (hK _ ?_); clear hK K
          refine End.blk ?_
          refine End.kp [2, 9, 10, 39, 40, 41] ?_
          refine Run.go ?_
          refine End.lp ?_
          refine ⟨tr.length - (i + 1), _, by omega, Ghost.form [(2, .ptr 0 0 0), (9, .im (.sl (us (nextsM n (valuesV n (lanes0 r) st))))), (10, .ms 0 1 ((i + 1))), (39, .im (.sl (boolss tr))), (40, .i tr.length), (41, .i (i + 1 : Nat))] 2 ⟨rfl, rfl, rfl, rfl, rfl, rfl, trivial⟩ rfl rfl, i + 1, nextsM n (valuesV n (lanes0 r) st), dn ++ [laneB (outV n (valuesV n (lanes0 r) st))], rfl, by omega, by simp [hdn], by simp [nextsM, nextsF_len], by simpa using hR, ?_⟩
          simp
        · have hb := of_decide_eq_false hb
          have hiN : i = tr.length := by omega
          subst hiN
          rw [List.drop_length, runN, List.append_nil] at hR
          refine Run.exit rfl ?_
          refine End.kp [10] ?_
          refine Run.seq ?_
          refine Run.ghost (Ghost.shut (t := 10) (j := 1) rfl rfl (by rw [boolss_len, hdn])) ?_
          simp only [eput, edel]
          have fx := And.intro hap (And.intro hdn (And.intro d1 (And.intro strs_len (And.intro bools_len (And.intro boolss_len ft)))))
          refine Run.go ?_
          refine End.kp [4, 5] ?_
          refine Run.ret (hQ _ _ ⟨.inr rfl, _, rfl, _, rfl, ?_⟩)
          exact ⟨by rw [hR], rfl⟩
-- GONE Of_ok
end Go.Proofs.YtdgpmopcmacicaaPi

/- Plain law: the netlist of a graph shows what the graph shows. -/
set_option linter.unusedVariables false
set_option linter.unusedSimpArgs false
namespace Go.Proofs.YtdgpmopcmacicaaPi
set_option maxHeartbeats 1000000

/- Lane 0 of a gate. -/
theorem matchBit : ∀ i, i < 6 → ∀ k : Nat, k < 64 → (bits .and .i64 ((k : Int).fdiv (2 ^ min i IntKind.i64.bits)) 1 == 1) = k.testBit i := by decide +kernel
def matchK (k : Nat) : List Int → Nat → Bool
  | [], _ => true
  | v :: vs, i => (k.testBit i == bit0 v) && matchK k vs (i + 1)
theorem bit0_andNot (x y : Int) : bit0 (bits .andNot .u64 x y) = (bit0 x && !bit0 y) := by
  show bit0 (IntKind.u64.wrap (BitVec.ofInt 64 x &&& ~~~ BitVec.ofInt 64 y).toNat) = _
  rw [back0]
  simp [bit0]
theorem lookIns_bit (k : Nat) (hk : k < 64) : ∀ (vs : List Int) (i : Nat) (all : Int), i + vs.length ≤ 6 → bit0 (lookIns k vs i all) = (bit0 all && matchK k vs i)
  | [], i, all, _ => by simp [lookIns, matchK]
  | v :: vs, i, all, h => by
    simp only [List.length_cons] at h
    rw [lookIns, lookIns_bit k hk vs (i + 1) _ (by omega), matchK, matchBit i (by omega) k hk]
    cases k.testBit i
    · simp [bit0_andNot, Bool.and_assoc]
    · simp [bit0_and, Bool.and_assoc]
theorem matchK_iff (k : Nat) : ∀ (vs : List Int) (i : Nat), matchK k vs i = true ↔ ∀ q, q < vs.length → k.testBit (i + q) = bit0 (vs.getD q 0)
  | [], i => by simp [matchK]
  | v :: vs, i => by
    rw [matchK, Bool.and_eq_true, matchK_iff k vs (i + 1), beq_iff_eq]
    constructor
    · intro ⟨h1, h2⟩ q hq
      cases q with
      | zero => simpa using h1
      | succ q =>
        have := h2 q (by simpa using hq)
        rw [show i + (q + 1) = i + 1 + q by omega, this]
        simp
    · intro h
      refine ⟨by simpa using h 0 (by simp), fun q hq => ?_⟩
      have := h (q + 1) (by simpa using hq)
      rw [show i + 1 + q = i + (q + 1) by omega, this]
      simp
theorem idx_testBit (f : Int → Bool) (l : List Int) : ∀ n q, q < n → (idxL f l n).testBit q = f (l.getD q 0)
  | 0, q, h => by omega
  | n + 1, q, h => by
    rw [idxL]
    have hlt := idxL_lt f l n
    by_cases hq : q = n
    · subst hq
      split
      · rename_i hf
        rw [Nat.testBit_two_pow_add_eq, Nat.testBit_lt_two_pow hlt, hf]
        rfl
      · rename_i hf
        rw [Nat.testBit_lt_two_pow hlt]
        simpa using hf
    · have ih := idx_testBit f l n q (by omega)
      split
      · rw [Nat.testBit_two_pow_add_gt (by omega), ih]
      · exact ih
theorem match_idx (k : Nat) (vs : List Int) (hk : k < 2 ^ vs.length) : matchK k vs 0 = decide (k = idxL bit0 vs vs.length) := by
  rw [Bool.eq_iff_iff, matchK_iff, decide_eq_true_iff]
  constructor
  · intro h
    rw [idx_bits bit0 vs k vs.length (fun q hq => by rw [← h q hq, Nat.zero_add]), Nat.mod_eq_of_lt hk]
  · intro h q hq
    rw [h, Nat.zero_add, idx_testBit _ _ _ _ hq]
theorem tb_bit (t : Int) (ht : U64 t) (k : Nat) (hk : k < 64) : (bits .and .u64 (t.fdiv (2 ^ min k IntKind.u64.bits)) 1 == 0) = !tb t k := by
  have hm : min k IntKind.u64.bits = k := by simp only [IntKind.bits]; omega
  have h1 := one_iff (t.fdiv (2 ^ k))
  have h2 : bit0 (t.fdiv (2 ^ k)) = tb t k := tb_shift t ht k 0
  rw [hm, ← h2, ← h1]
  rcases bit_and_one (t.fdiv (2 ^ k)) with h | h <;> rw [h] <;> rfl
def anyOf (t : Int) (ins : List Int) : Nat → Nat → Bool
  | 0, _ => false
  | n + 1, k => (tb t k && matchK k ins 0) || anyOf t ins n (k + 1)
theorem lookOut_bit (t : Int) (ht : U64 t) (ins : List Int) (hi : ins.length ≤ 6) : ∀ (n k : Nat) (out : Int), k + n ≤ 64 → bit0 (lookOut t ins n k out) = (bit0 out || anyOf t ins n k)
  | 0, k, out, _ => by simp [lookOut, anyOf]
  | n + 1, k, out, h => by
    rw [lookOut, lookOut_bit t ht ins hi n (k + 1) _ (by omega), anyOf, tb_bit t ht k (by omega)]
    cases tb t k
    · simp
    · have e : bit0 18446744073709551615 = true := by decide
      simp [bit0_or, lookIns_bit k (by omega) ins 0 _ (by omega), e, Bool.or_assoc]
theorem anyOf_iff (t : Int) (ins : List Int) : ∀ (n k : Nat), anyOf t ins n k = true ↔ ∃ j, k ≤ j ∧ j < k + n ∧ tb t j = true ∧ matchK j ins 0 = true
  | 0, k => by simp [anyOf]; omega
  | n + 1, k => by
    rw [anyOf, Bool.or_eq_true, Bool.and_eq_true, anyOf_iff t ins n (k + 1)]
    constructor
    · rintro (⟨h1, h2⟩ | ⟨j, h1, h2, h3⟩)
      · exact ⟨k, by omega, by omega, h1, h2⟩
      · exact ⟨j, by omega, by omega, h3⟩
    · rintro ⟨j, h1, h2, h3⟩
      by_cases e : j = k
      · subst e; exact .inl h3
      · exact .inr ⟨j, by omega, by omega, h3⟩
theorem look_bit (t : Int) (ht : U64 t) (ins : List Int) (hi : ins.length ≤ 6) : bit0 (lookV t ins) = tb t (idxL bit0 ins ins.length) := by
  have hp := pow_le64 hi
  have hlt := idxL_lt bit0 ins ins.length
  rw [lookV, lookOut_bit t ht ins hi _ _ _ (by omega)]
  have e : bit0 0 = false := by decide
  rw [e, Bool.false_or, Bool.eq_iff_iff, anyOf_iff]
  constructor
  · rintro ⟨j, _, h2, h3, h4⟩
    rw [match_idx j ins (by omega), decide_eq_true_iff] at h4
    rw [← h4]; exact h3
  · intro h
    exact ⟨_, by omega, by omega, h, by rw [match_idx _ ins hlt]; simp⟩
theorem gate_bit (g : LGate) (v : List Int) (h6 : g.ins.length ≤ 6) (ht : U64 g.table) : bit0 (gateVal g v) = tb g.table (idxL bit0 (g.ins.map fun k => v.getD k.toNat 0) g.ins.length) := by
  rw [gateVal, look_bit _ ht _ (by simpa using h6), List.length_map]

/- Nets of nodes. -/
theorem valsN_app : ∀ (gs hs : List LGate) (v : List Int), valsN (gs ++ hs) v = valsN hs (valsN gs v)
  | [], hs, v => rfl
  | g :: gs, hs, v => by rw [List.cons_append, valsN, valsN_app gs hs, valsN]
theorem valsN_snoc (gs : List LGate) (g : LGate) (v : List Int) : valsN (gs ++ [g]) v = valsN gs v ++ [gateVal g (valsN gs v)] := by rw [valsN_app]; rfl
abbrev nb0 (inn st : List Int) : List Int := [0, 18446744073709551615] ++ inn ++ st
theorem nb0_len (inn st : List Int) : (nb0 inn st).length = 2 + inn.length + st.length := by simp; omega
theorem getD_app_left {v w : List Int} {k : Nat} (h : k < v.length) : (v ++ w).getD k 0 = v.getD k 0 := by
  simp only [List.getD_eq_getElem?_getD]
  rw [List.getElem?_append_left h]
theorem getD_app_end (v : List Int) (x : Int) : (v ++ [x]).getD v.length 0 = x := by simp
theorem app_get_end {α : Type} {v : List α} {x : α} {j : Nat} (h : v.length = j) : (v ++ [x])[j]? = some x := by subst h; simp
theorem valsN_keep (gs hs : List LGate) (v : List Int) (k : Nat) (hk : k < v.length + gs.length) : (valsN (gs ++ hs) v).getD k 0 = (valsN gs v).getD k 0 := by
  rw [valsN_app, valsN_pre _ _ _ (by rw [valsN_len]; exact hk)]
theorem and_tab (a b : Int) (x y : Bool) : tb (2 ^ (3 - (a % 2 + 2 * (b % 2))).toNat) (if y = true then 2 ^ 1 + (if x = true then 2 ^ 0 + 0 else 0) else (if x = true then 2 ^ 0 + 0 else 0)) = ((if a % 2 = 1 then !x else x) && (if b % 2 = 1 then !y else y)) := by
  rcases (show a % 2 = 0 ∨ a % 2 = 1 by omega) with h | h <;> rcases (show b % 2 = 0 ∨ b % 2 = 1 by omega) with h' | h' <;> rw [h, h'] <;> cases x <;> cases y <;> decide
theorem and_u64 (a b : Int) : U64 (2 ^ (3 - (a % 2 + 2 * (b % 2))).toNat) := by
  rcases (show a % 2 = 0 ∨ a % 2 = 1 by omega) with h | h <;> rcases (show b % 2 = 0 ∨ b % 2 = 1 by omega) with h' | h' <;> rw [h, h'] <;> exact ⟨by decide, by decide⟩
theorem one_u64 : U64 1 := ⟨by decide, by decide⟩
theorem inv_tab (x : Bool) : tb 1 (if x = true then 2 ^ 0 + 0 else 0) = !x := by cases x <;> decide
def netK (k : Nat) : Nat := if k = 0 then 0 else k + 1
theorem netOf_K (l : Int) (h : 0 ≤ l) : (netOf l).toNat = netK (l / 2).toNat := by
  unfold netOf netK
  by_cases h2 : l < 2
  · rw [if_pos h2, if_pos (by omega)]; rfl
  · rw [if_neg h2, if_neg (by omega)]; omega
theorem lb_of_node (v : List Int) (l : Int) (x : Bool) (h : x = bit0 (v.getD (l / 2).toNat 0)) : (if l % 2 = 1 then !x else x) = lb v l := by
  rw [lb_def, h]
section
variable {g : LGraph} (hg : GraphOk g) {inn st : List Int} (h1 : inn.length = g.inn.length) (h2 : st.length = g.regs.length)
include hg h1 h2
theorem ands_nets : ∀ i, i ≤ g.ands.length → ∀ k, k < 1 + g.inn.length + g.regs.length + i → bit0 ((valsN ((g.ands.take i).map andG) (nb0 inn st)).getD (netK k) 0) = bit0 ((graphVals g inn st).getD k 0)
  | 0, _, k, hk => by
    have hw : (graphVals g inn st).getD k 0 = ([0] ++ inn ++ st).getD k 0 := by rw [graphVals, valsA_pre _ _ _ (by simp; omega)]
    rw [hw]
    simp only [List.take_zero, List.map_nil, valsN, netK]
    cases k with
    | zero => simp
    | succ k => simp
  | i + 1, hi, k, hk => by
    obtain ⟨p, hp⟩ : ∃ p, g.ands[i]? = some p := ⟨_, List.getElem?_eq_getElem (by omega)⟩
    have ih := ands_nets i (by omega)
    have hlen : (valsN ((g.ands.take i).map andG) (nb0 inn st)).length = 2 + g.inn.length + g.regs.length + i := by
      rw [valsN_len, nb0_len, List.length_map, List.length_take]; omega
    have et : (g.ands.take (i + 1)).map andG = (g.ands.take i).map andG ++ [andG p] := by simp [List.take_add_one, hp]
    rw [et, valsN_snoc]
    generalize hv : valsN ((g.ands.take i).map andG) (nb0 inn st) = v at ih hlen
    by_cases he : k = 1 + g.inn.length + g.regs.length + i
    · have hk2 : netK k = v.length := by unfold netK; rw [if_neg (by omega), hlen, he]; omega
      obtain ⟨⟨a1, a2⟩, a3, a4⟩ := hg.ands i p hp
      have e1 := ih (p.1 / 2).toNat (by omega)
      have e2 := ih (p.2 / 2).toNat (by omega)
      rw [← netOf_K _ a1] at e1
      rw [← netOf_K _ a3] at e2
      rw [hk2, getD_app_end, gate_bit _ _ (by simp [andG]) (and_u64 _ _), he, node_lb hg h1 h2 i p hp]
      have := and_tab p.1 p.2 (bit0 (v.getD (netOf p.1).toNat 0)) (bit0 (v.getD (netOf p.2).toNat 0))
      rw [lb_of_node _ p.1 _ e1, lb_of_node _ p.2 _ e2] at this
      rw [← this]
      rfl
    · have hk2 : netK k < v.length := by unfold netK; split <;> omega
      rw [getD_app_left hk2]
      exact ih k (by omega)
theorem lit_net (E : List LGate) (l : Int) (l0 : 0 ≤ l) (l1 : l < 2 * (1 + (g.inn.length : Int) + g.regs.length + g.ands.length)) : bit0 ((valsN (g.ands.map andG ++ E) (nb0 inn st)).getD (netOf l).toNat 0) = bit0 ((graphVals g inn st).getD (l / 2).toNat 0) := by
  have := ands_nets hg h1 h2 g.ands.length (Nat.le_refl _) (l / 2).toNat (by omega)
  rw [List.take_length] at this
  rw [valsN_keep _ _ _ _ (by rw [nb0_len, List.length_map, netOf_K _ l0]; unfold netK; split <;> omega), netOf_K _ l0, this]
end

/- The literals that get nets. -/
structure AtRes (g : LGraph) (l k : Int) (G : List LGate) : Prop where
  lo : 0 ≤ k
  hi : k < nbG g + G.length
  val : ∀ inn st : List Int, inn.length = g.inn.length → st.length = g.regs.length → bit0 ((valsN G (nb0 inn st)).getD k.toNat 0) = lb (graphVals g inn st) l
theorem AtRes.app {g : LGraph} {l k : Int} {G : List LGate} (h : AtRes g l k G) (E : List LGate) : AtRes g l k (G ++ E) := by
  have h0 := h.lo
  have h1 := h.hi
  unfold nbG at h1
  refine ⟨h0, by unfold nbG; simp only [List.length_append]; omega, fun inn st e1 e2 => ?_⟩
  rw [valsN_keep _ _ _ _ (by rw [nb0_len]; omega)]
  exact h.val inn st e1 e2
structure WInv (g : LGraph) (I : List (Int × Int)) (G : List LGate) : Prop where
  pre : ∃ J, I = (0, 0) :: (1, 1) :: J
  gates : ∃ E, G = g.ands.map andG ++ E ∧ ∀ x ∈ E, ∃ l, 0 ≤ l ∧ l < 2 * (1 + (g.inn.length : Int) + g.regs.length + g.ands.length) ∧ x = ⟨1, [netOf l]⟩
  keys : ∀ p ∈ I, AtRes g p.1 p.2 G
theorem lookI_mem (l : Int) : ∀ (I : List (Int × Int)) (i : Nat) (q : Nat × Int), lookI l I i = some q → (l, q.2) ∈ I
  | [], i, q, h => by simp [lookI] at h
  | p :: I, i, q, h => by
    rw [lookI] at h
    split at h
    · rename_i e
      simp only [Option.some.injEq] at h
      subst h
      subst e
      simp
    · exact List.mem_cons_of_mem _ (lookI_mem l I _ q h)
theorem netOf_range {l n : Int} (h0 : 0 ≤ l) (h1 : l < 2 * n) : 0 ≤ netOf l ∧ netOf l < 1 + n := by
  unfold netOf; split <;> omega
theorem atN_ok {g : LGraph} (hg : GraphOk g) {I : List (Int × Int)} {G : List LGate} (hI : WInv g I G) (l : Int) (l0 : 0 ≤ l) (l1 : l < 2 * (1 + (g.inn.length : Int) + g.regs.length + g.ands.length)) :
    WInv g (atN (nbG g) l I G).2.1 (atN (nbG g) l I G).2.2 ∧ AtRes g l (atN (nbG g) l I G).1 (atN (nbG g) l I G).2.2 ∧ ∃ E, (atN (nbG g) l I G).2.2 = G ++ E := by
  obtain ⟨E, hE, hx⟩ := hI.gates
  have hr := netOf_range l0 l1
  have hGl : g.ands.length ≤ G.length := by rw [hE]; simp
  unfold atN
  split
  · rename_i h
    refine ⟨hI, ⟨hr.1, by unfold nbG; simp only; omega, fun inn st e1 e2 => ?_⟩, [], by simp⟩
    simp only
    rw [hE, lit_net hg e1 e2 E l l0 l1, lb_def, if_neg (by omega)]
  · rename_i h
    split
    · rename_i q k hk
      exact ⟨hI, hI.keys _ (lookI_mem l I 0 _ hk), [], by simp⟩
    · rename_i hk
      have hodd : l % 2 = 1 := by
        obtain ⟨J, hJ⟩ := hI.pre
        rw [hJ, lookI, lookI] at hk
        split at hk
        · simp at hk
        · split at hk
          · simp at hk
          · simp only at *
            omega
      have hat : AtRes g l (nbG g + G.length) (G ++ [⟨1, [netOf l]⟩]) := by
        refine ⟨by unfold nbG; omega, by simp only [List.length_append, List.length_cons, List.length_nil]; omega, fun inn st e1 e2 => ?_⟩
        have e3 : (nbG g + (G.length : Int)).toNat = (valsN G (nb0 inn st)).length := by rw [valsN_len, nb0_len]; unfold nbG; omega
        rw [valsN_snoc, e3, getD_app_end, gate_bit _ _ (by simp) one_u64]
        have := inv_tab (bit0 ((valsN G (nb0 inn st)).getD (netOf l).toNat 0))
        have e4 : bit0 ((valsN G (nb0 inn st)).getD (netOf l).toNat 0) = bit0 ((graphVals g inn st).getD (l / 2).toNat 0) := by rw [hE]; exact lit_net hg e1 e2 E l l0 l1
        rw [lb_def, if_pos hodd, ← e4, ← this]
        rfl
      refine ⟨⟨?_, ⟨E ++ [⟨1, [netOf l]⟩], by rw [hE, List.append_assoc], fun x hx' => ?_⟩, fun p hp => ?_⟩, hat, _, rfl⟩
      · obtain ⟨J, hJ⟩ := hI.pre
        exact ⟨J ++ [(l, nbG g + G.length)], by simp [hJ]⟩
      · rcases List.mem_append.1 hx' with h' | h'
        · exact hx x h'
        · exact ⟨l, l0, l1, by simpa using h'⟩
      · rcases List.mem_append.1 hp with h' | h'
        · exact (hI.keys p h').app _
        · have e : p = (l, nbG g + G.length) := by simpa using h'
          subst e
          exact hat
theorem winv0 {g : LGraph} (hg : GraphOk g) : WInv g [(0, 0), (1, 1)] (g.ands.map andG) := by
  refine ⟨⟨[], rfl⟩, ⟨[], by simp, fun x hx => by simp at hx⟩, fun p hp => ?_⟩
  have hz : ∀ inn st : List Int, inn.length = g.inn.length → st.length = g.regs.length → bit0 ((graphVals g inn st).getD 0 0) = false := fun inn st e1 e2 => by
    rw [graphVals, valsA_pre _ _ _ (by simp)]
    simp [bit0]
  have hb : ∀ inn st : List Int, ∀ k, k < 2 → (valsN (g.ands.map andG) (nb0 inn st)).getD k 0 = (nb0 inn st).getD k 0 := fun inn st k hk => valsN_pre _ _ _ (by rw [nb0_len]; omega)
  simp only [List.mem_cons, List.not_mem_nil, or_false] at hp
  rcases hp with rfl | rfl
  · refine ⟨by omega, by unfold nbG; simp only; omega, fun inn st e1 e2 => ?_⟩
    have := hz inn st e1 e2
    simp only
    rw [lb_def, if_neg (by omega), show ((0 : Int) / 2).toNat = 0 by rfl, this, show (0 : Int).toNat = 0 by rfl, hb _ _ 0 (by omega)]
    simp [bit0]
  · refine ⟨by omega, by unfold nbG; simp only; omega, fun inn st e1 e2 => ?_⟩
    have := hz inn st e1 e2
    simp only
    rw [lb_def, if_pos (by omega), show ((1 : Int) / 2).toNat = 0 by rfl, this, show (1 : Int).toNat = 1 by rfl, hb _ _ 1 (by omega)]
    simp [bit0]
theorem outsS_ok {g : LGraph} (hg : GraphOk g) : ∀ i, i ≤ g.outs.length → WInv g (outsS g i).2.1 (outsS g i).2.2 ∧ ∀ (j : Nat) (x : Int), j < i → g.outs[j]? = some x → ∃ k : Int, (outsS g i).1[j]? = some k ∧ AtRes g x k (outsS g i).2.2
  | 0, _ => ⟨by simpa [outsS] using winv0 hg, fun j x h => by omega⟩
  | i + 1, h => by
    obtain ⟨ih1, ih2⟩ := outsS_ok hg i (by omega)
    obtain ⟨x, hx⟩ : ∃ x, g.outs[i]? = some x := ⟨_, List.getElem?_eq_getElem (by omega)⟩
    have hl := (outsS_len g i (by omega)).1
    obtain ⟨r0, r1⟩ := hg.outs x (List.mem_of_getElem? hx)
    obtain ⟨a1, a2, E, a3⟩ := atN_ok hg ih1 x r0 r1
    rw [outsS_next g i x hx]
    refine ⟨a1, fun j y hj hy => ?_⟩
    by_cases e : j = i
    · subst e
      rw [hx] at hy
      cases hy
      exact ⟨_, app_get_end hl, a2⟩
    · obtain ⟨k, k1, k2⟩ := ih2 j y (by omega) hy
      refine ⟨k, ?_, ?_⟩
      · simp only [stO]; rw [List.getElem?_append_left (by omega)]; exact k1
      · show AtRes g y k (atN _ _ _ _).2.2
        rw [a3]; exact k2.app E
theorem flopsS_ok {g : LGraph} (hg : GraphOk g) (d en : List Int) (hd : d.length = g.regs.length) (he : en.length = g.regs.length) (hr : ∀ x ∈ d ++ en, 0 ≤ x ∧ x < 2 * (1 + (g.inn.length : Int) + g.regs.length + g.ands.length)) :
    ∀ i, i ≤ g.regs.length → WInv g (flopsS g d en i).2.1 (flopsS g d en i).2.2 ∧ (∃ E, (flopsS g d en i).2.2 = (outsS g g.outs.length).2.2 ++ E) ∧ ∀ (j : Nat) (x y : Int), j < i → d[j]? = some x → en[j]? = some y → AtRes g x ((flopsS g d en i).1.getD j (0, 0)).1 (flopsS g d en i).2.2 ∧ AtRes g y ((flopsS g d en i).1.getD j (0, 0)).2 (flopsS g d en i).2.2
  | 0, _ => ⟨by simpa [flopsS] using (outsS_ok hg g.outs.length (Nat.le_refl _)).1, ⟨[], by simp [flopsS]⟩, fun j x y h => by omega⟩
  | i + 1, h => by
    obtain ⟨ih1, ⟨E0, ih0⟩, ih2⟩ := flopsS_ok hg d en hd he hr i (by omega)
    obtain ⟨x, hx⟩ : ∃ x, d[i]? = some x := ⟨_, List.getElem?_eq_getElem (by omega)⟩
    obtain ⟨y, hy⟩ : ∃ y, en[i]? = some y := ⟨_, List.getElem?_eq_getElem (by omega)⟩
    have hl := (flopsS_len g d en i (by omega) (by omega)).1
    obtain ⟨r0, r1⟩ := hr x (List.mem_append_left _ (List.mem_of_getElem? hx))
    obtain ⟨s0, s1⟩ := hr y (List.mem_append_right _ (List.mem_of_getElem? hy))
    obtain ⟨a1, a2, E, a3⟩ := atN_ok hg ih1 x r0 r1
    obtain ⟨b1, b2, E', b3⟩ := atN_ok hg a1 y s0 s1
    rw [flopsS_next g d en i x y hx hy]
    refine ⟨b1, ⟨E0 ++ E ++ E', ?_⟩, fun j x' y' hj hx' hy' => ?_⟩
    · show (atN _ _ _ _).2.2 = _
      rw [b3, a3, ih0]
      simp
    · by_cases e : j = i
      · subst e
        rw [hx] at hx'
        rw [hy] at hy'
        cases hx'
        cases hy'
        have hg' : (stF (nbG g) (flopsS g d en j) (x, y)).1.getD j (0, 0) = ((atN (nbG g) x (flopsS g d en j).2.1 (flopsS g d en j).2.2).1, (atN (nbG g) y (atN (nbG g) x (flopsS g d en j).2.1 (flopsS g d en j).2.2).2.1 (atN (nbG g) x (flopsS g d en j).2.1 (flopsS g d en j).2.2).2.2).1) := by
          simp only [stF, List.getD_eq_getElem?_getD]
          rw [List.getElem?_append_right (by omega)]
          simp [hl]
        rw [hg']
        refine ⟨?_, b2⟩
        show AtRes g x _ (atN _ _ _ _).2.2
        rw [b3]
        exact a2.app E'
      · obtain ⟨k1, k2⟩ := ih2 j x' y' (by omega) hx' hy'
        have hg' : (stF (nbG g) (flopsS g d en i) (x, y)).1.getD j (0, 0) = (flopsS g d en i).1.getD j (0, 0) := by
          simp only [stF, List.getD_eq_getElem?_getD]
          rw [List.getElem?_append_left (by omega)]
        rw [hg']
        refine ⟨?_, ?_⟩
        · show AtRes g x' _ (atN _ _ _ _).2.2
          rw [b3, a3]; exact (k1.app E).app E'
        · show AtRes g y' _ (atN _ _ _ _).2.2
          rw [b3, a3]; exact (k2.app E).app E'
/-- What the netlist of a graph is. -/
structure WithLaw (g : LGraph) (d en : List Int) : Prop where
  ok : NetOk (withV g d en)
  two : ∀ (i : Nat) (x : LGate), (withV g d en).gates[i]? = some x → x.ins.length ≤ 2
  u64 : ∀ x ∈ (withV g d en).gates, U64 x.table
  outs : ∀ (j : Nat) (x : Int), g.outs[j]? = some x → ∃ k : Int, (withV g d en).outs[j]? = some k ∧ AtRes g x k (withV g d en).gates
  flops : ∀ (j : Nat) (r : LReg) (x y : Int), g.regs[j]? = some r → d[j]? = some x → en[j]? = some y → ∃ f : LFlop, (withV g d en).flops[j]? = some f ∧ f.init = r.init ∧ AtRes g x f.d (withV g d en).gates ∧ AtRes g y f.en (withV g d en).gates
theorem flopsAt_names (regs : List LReg) (ds : List (Int × Int)) : (flopsAt regs ds).map LFlop.name = regs.map LReg.name := by
  refine List.ext_getElem? fun k => ?_
  rw [List.getElem?_map, List.getElem?_map]
  cases h : regs[k]? with
  | none => rw [List.getElem?_eq_none (by rw [flopsAt_len]; exact List.getElem?_eq_none_iff.1 h)]; rfl
  | some r => rw [flopsAt_get _ _ _ r h]; rfl
theorem tabAnd {a b : Int} (t : Int) (h : bits .andNot .u64 t 15 = 0) : bits .andNot .u64 t (2 ^ ((2 : Int) ^ [a, b].length).toNat - 1) = 0 := h
theorem tabInv {a : Int} : bits .andNot .u64 1 (2 ^ ((2 : Int) ^ [a].length).toNat - 1) = 0 := (by decide : bits .andNot .u64 1 3 = 0)
theorem withLaw {g : LGraph} (hg : GraphOk g) (b1 : g.inn.length ≤ 100) (b2 : g.out.length ≤ 100) (b3 : g.regs.length ≤ 20) (b4 : g.ands.length + g.outs.length + 2 * g.regs.length ≤ 100) (d en : List Int) (hd : d.length = g.regs.length) (he : en.length = g.regs.length) (hr : ∀ x ∈ d ++ en, 0 ≤ x ∧ x < 2 * (1 + (g.inn.length : Int) + g.regs.length + g.ands.length)) : WithLaw g d en := by
  obtain ⟨o1, o2⟩ := outsS_ok hg g.outs.length (Nat.le_refl _)
  obtain ⟨f1, ⟨E, f2⟩, f3⟩ := flopsS_ok hg d en hd he hr g.regs.length (Nat.le_refl _)
  have ol := (outsS_len g g.outs.length (Nat.le_refl _)).1
  obtain ⟨fl, fg⟩ := flopsS_len g d en g.regs.length (by omega) (by omega)
  have hfl : (withV g d en).flops.length = g.regs.length := flopsAt_len _ _
  have hnb : ∀ k : Int, k < nbG g + (withV g d en).gates.length → k < 2 + (withV g d en).inn.length + (withV g d en).flops.length + (withV g d en).gates.length := fun k hk => by
    rw [hfl]; unfold nbG at hk; exact hk
  have hnames : (withV g d en).inn ++ (withV g d en).flops.map LFlop.name = g.inn ++ g.regs.map LReg.name := by simp only [withV, flopsAt_names]
  have hgt : ∀ (i : Nat) (x : LGate), (withV g d en).gates[i]? = some x → (∃ p, g.ands[i]? = some p ∧ x = andG p) ∨ (g.ands.length ≤ i ∧ ∃ l, 0 ≤ l ∧ l < 2 * (1 + (g.inn.length : Int) + g.regs.length + g.ands.length) ∧ x = ⟨1, [netOf l]⟩) := fun i x hx => by
    obtain ⟨E', e1, e2⟩ := f1.gates
    simp only [withV] at hx
    rw [e1, List.getElem?_append, List.length_map] at hx
    split at hx
    · rw [List.getElem?_map, Option.map_eq_some_iff] at hx
      obtain ⟨p, hp, rfl⟩ := hx
      exact .inl ⟨p, hp, rfl⟩
    · exact .inr ⟨by omega, e2 x (List.mem_of_getElem? hx)⟩
  have houts : ∀ (j : Nat) (x : Int), g.outs[j]? = some x → ∃ k : Int, (withV g d en).outs[j]? = some k ∧ AtRes g x k (withV g d en).gates := fun j x hx => by
    obtain ⟨k, k1, k2⟩ := o2 j x (List.getElem?_eq_some_iff.1 hx).1 hx
    refine ⟨k, k1, ?_⟩
    show AtRes g x k (flopsS g d en g.regs.length).2.2
    rw [f2]
    exact k2.app E
  have hflops : ∀ (j : Nat) (r : LReg) (x y : Int), g.regs[j]? = some r → d[j]? = some x → en[j]? = some y → ∃ f : LFlop, (withV g d en).flops[j]? = some f ∧ f.init = r.init ∧ AtRes g x f.d (withV g d en).gates ∧ AtRes g y f.en (withV g d en).gates := fun j r x y h1 h2 h3 => by
    obtain ⟨k1, k2⟩ := f3 j x y (List.getElem?_eq_some_iff.1 h1).1 h2 h3
    exact ⟨_, flopsAt_get _ _ _ r h1, rfl, k1, k2⟩
  refine ⟨⟨⟨b1, b2, by rw [hfl]; omega, by simp only [withV]; omega, by simp only [withV]; omega⟩, ?_, ?_, hg.onames, hg.onodup, by simp only [withV]; rw [ol]; exact hg.olen, fun i x hx => ?_, ⟨fun f hf => ?_, fun k hk => ?_⟩⟩, fun i x hx => ?_, fun x hx => ?_, houts, hflops⟩
  · rw [hnames]; exact hg.names
  · rw [hnames]; exact hg.nodup
  · rw [hfl]
    rcases hgt i x hx with ⟨p, hp, rfl⟩ | ⟨hi, l, l0, l1, rfl⟩
    · refine ⟨by simp [andG], ?_, fun k hk => ?_⟩
      · simp only [andG]
        rcases (show p.1 % 2 = 0 ∨ p.1 % 2 = 1 by omega) with h | h <;> rcases (show p.2 % 2 = 0 ∨ p.2 % 2 = 1 by omega) with h' | h' <;> rw [h, h'] <;> exact tabAnd _ (by decide)
      · obtain ⟨⟨a1, a2⟩, a3, a4⟩ := hg.ands i p hp
        simp only [andG, List.mem_cons, List.not_mem_nil, or_false] at hk
        simp only [withV]
        rcases hk with rfl | rfl
        · have := netOf_range a1 a2; omega
        · have := netOf_range a3 a4; omega
    · refine ⟨by simp, tabInv, fun k hk => ?_⟩
      simp only [List.mem_cons, List.not_mem_nil, or_false] at hk
      subst hk
      have := netOf_range l0 l1
      simp only [withV]
      omega
  · obtain ⟨j, hj⟩ := List.mem_iff_getElem?.1 hf
    have hjl := (List.getElem?_eq_some_iff.1 hj).1
    rw [hfl] at hjl
    obtain ⟨f', e1, _, e3, e4⟩ := hflops j _ _ _ (List.getElem?_eq_getElem hjl) (List.getElem?_eq_getElem (by omega)) (List.getElem?_eq_getElem (by omega))
    rw [hj] at e1
    cases e1
    exact ⟨⟨e3.lo, hnb _ e3.hi⟩, e4.lo, hnb _ e4.hi⟩
  · obtain ⟨j, hj⟩ := List.mem_iff_getElem?.1 hk
    have hjl := (List.getElem?_eq_some_iff.1 hj).1
    have hjl2 : j < g.outs.length := by simp only [withV] at hjl; omega
    obtain ⟨k', e1, e2⟩ := houts j _ (List.getElem?_eq_getElem hjl2)
    rw [hj] at e1
    cases e1
    exact ⟨e2.lo, hnb _ e2.hi⟩
  · rcases hgt i x hx with ⟨p, hp, rfl⟩ | ⟨hi, l, l0, l1, rfl⟩
    · simp [andG]
    · simp
  · obtain ⟨i, hi⟩ := List.mem_iff_getElem?.1 hx
    rcases hgt i x hi with ⟨p, hp, rfl⟩ | ⟨_, l, l0, l1, rfl⟩
    · exact and_u64 _ _
    · exact one_u64
/-- A flip-flop's next state, in lane 0. -/
theorem nextF_bit (n : LNet) (v : List Int) (i : Nat) (f : LFlop) : bit0 (nextF n v i f) = if bit0 (v.getD f.en.toNat 0) = true then bit0 (v.getD f.d.toNat 0) else bit0 (v.getD (2 + n.inn.length + i) 0) := by
  have e : (2 + (n.inn.length : Int) + i).toNat = 2 + n.inn.length + i := by omega
  rw [nextF, bit0_or, bit0_and, bit0_and, bit0_not, e]
  cases bit0 (v.getD f.en.toNat 0) <;> simp
/-- The run of a netlist whose outputs and next states are, in lane 0, those of a graph. -/
theorem run_same {n : LNet} {g : LGraph} (hi : n.inn.length = g.inn.length) (hl : n.flops.length = g.regs.length) (ho : n.outs.length = g.outs.length)
    (H1 : ∀ inn st st' : List Int, inn.length = g.inn.length → same0 st st' → st.length = g.regs.length → ∀ (j : Nat) (x k : Int), g.outs[j]? = some x → n.outs[j]? = some k → bit0 ((valuesV n inn st).getD k.toNat 0) = lb (graphVals g inn st') x)
    (H2 : ∀ inn st st' : List Int, inn.length = g.inn.length → same0 st st' → st.length = g.regs.length → ∀ (j : Nat) (r : LReg) (f : LFlop), g.regs[j]? = some r → n.flops[j]? = some f → bit0 (nextF n (valuesV n inn st) j f) = lb (graphVals g inn st') r.next) :
    ∀ (t : List (List Bool)) (st st' : List Int), (∀ r ∈ t, r.length = g.inn.length) → same0 st st' → st.length = g.regs.length → runN n st t = runG g st' t
  | [], st, st', _, _, _ => rfl
  | r :: t, st, st', hr, hs, hst => by
    have hin : (lanes0 r).length = g.inn.length := by simpa using hr r (by simp)
    have k1 := H1 (lanes0 r) st st' hin hs hst
    have k2 := H2 (lanes0 r) st st' hin hs hst
    simp only [runN, runG]
    generalize valuesV n (lanes0 r) st = v at k1 k2
    generalize graphVals g (lanes0 r) st' = w at k1 k2
    have e1 : laneB (outV n v) = laneB (outsG g w) := by
      rw [laneB_bit0, laneB_bit0]
      refine List.ext_getElem? fun j => ?_
      simp only [outV, outsG, List.getElem?_map]
      cases hx : g.outs[j]? with
      | none => rw [List.getElem?_eq_none (by rw [ho]; exact List.getElem?_eq_none_iff.1 hx)]; rfl
      | some x =>
        obtain ⟨k, hk⟩ : ∃ k, n.outs[j]? = some k := ⟨_, List.getElem?_eq_getElem (by have := (List.getElem?_eq_some_iff.1 hx).1; omega)⟩
        rw [hk]
        simp only [Option.map_some, Option.some.injEq]
        exact k1 j x k hx hk
    have e2 : same0 (nextsM n v) (nextsG g w) := by
      refine ⟨by rw [nextsM, nextsF_len, nextsG, List.length_map, hl], fun j => ?_⟩
      simp only [nextsM, nextsG, List.getD_eq_getElem?_getD, List.getElem?_map]
      cases hx : g.regs[j]? with
      | none => rw [List.getElem?_eq_none (by rw [nextsF_len, hl]; exact List.getElem?_eq_none_iff.1 hx)]; rfl
      | some x =>
        obtain ⟨f, hf⟩ : ∃ f, n.flops[j]? = some f := ⟨_, List.getElem?_eq_getElem (by have := (List.getElem?_eq_some_iff.1 hx).1; omega)⟩
        rw [nextsF_get n v n.flops 0 j f hf]
        simp only [Option.map_some, Option.getD_some, Nat.zero_add]
        exact k2 j x f hx hf
    rw [e1, run_same hi hl ho H1 H2 t _ _ (fun x hx => hr x (by simp [hx])) e2 (by rw [nextsM, nextsF_len, hl])]
theorem lb_same {v v' : List Int} (h : same0 v v') (l : Int) : lb v l = lb v' l := same0_of h l
theorem with_run {g : LGraph} (hg : GraphOk g) {d en : List Int} (hd : d.length = g.regs.length) (he : en.length = g.regs.length) (hw : WithLaw g d en)
    (H : ∀ inn st : List Int, inn.length = g.inn.length → st.length = g.regs.length → ∀ (j : Nat) (r : LReg) (x y : Int), g.regs[j]? = some r → d[j]? = some x → en[j]? = some y → (if lb (graphVals g inn st) y = true then lb (graphVals g inn st) x else bit0 (st.getD j 0)) = lb (graphVals g inn st) r.next)
    (t : List (List Bool)) (hr : ∀ r ∈ t, r.length = g.inn.length) : runN (withV g d en) (lanes0 (initN (withV g d en))) t = runI g t := by
  have hfl : (withV g d en).flops.length = g.regs.length := flopsAt_len _ _
  have hol : (withV g d en).outs.length = g.outs.length := by simp only [withV]; exact (outsS_len g g.outs.length (Nat.le_refl _)).1
  have e0 : initN (withV g d en) = initG g := by
    unfold initN initG
    refine List.ext_getElem? fun j => ?_
    rw [List.getElem?_map, List.getElem?_map]
    cases hx : g.regs[j]? with
    | none => rw [List.getElem?_eq_none (by rw [hfl]; exact List.getElem?_eq_none_iff.1 hx)]; rfl
    | some r =>
      have hjl := (List.getElem?_eq_some_iff.1 hx).1
      obtain ⟨f, f1, f2, _⟩ := hw.flops j r _ _ hx (List.getElem?_eq_getElem (by omega)) (List.getElem?_eq_getElem (by omega))
      rw [f1]; simp [f2]
  rw [runI, e0]
  refine run_same rfl hfl hol (fun inn st st' h1 hs h2 j x k hx hk => ?_) (fun inn st st' h1 hs h2 j r f hx hf => ?_) t _ _ hr (same0_refl _) (by simp [initG])
  · obtain ⟨k', k1, k2⟩ := hw.outs j x hx
    rw [hk] at k1
    cases k1
    rw [valuesV, k2.val inn st h1 h2, lb_same (same0_vals g inn hs)]
  · have hjl := (List.getElem?_eq_some_iff.1 hx).1
    obtain ⟨f', f1, _, f3, f4⟩ := hw.flops j r _ _ hx (List.getElem?_eq_getElem (by omega)) (List.getElem?_eq_getElem (by omega))
    rw [hf] at f1
    cases f1
    have := H inn st h1 h2 j r _ _ hx (List.getElem?_eq_getElem (by omega)) (List.getElem?_eq_getElem (by omega))
    rw [nextF_bit, valuesV, f3.val inn st h1 h2, f4.val inn st h1 h2, ← lb_same (same0_vals g inn hs), ← this]
    congr 2
    rw [valsN_pre _ _ _ (by rw [nb0_len]; simp only [withV]; omega)]
    simp only [List.getD_eq_getElem?_getD, withV]
    rw [List.getElem?_append_right (by simp; omega)]
    congr 2
    simp
    omega
end Go.Proofs.YtdgpmopcmacicaaPi

/- The walks of ways and Copy of netlists: a row of gates as a box whose cells name rows of their own. -/
set_option linter.unusedVariables false
set_option linter.unusedSimpArgs false
set_option maxRecDepth 100000
namespace Go.Proofs.YtdgpmopcmacicaaPi
set_option maxHeartbeats 4000000
theorem CloneIX_nil (f : List AObj) (rest : Frs) : ACalls Try.prog 145 [.im (.sl (([] : List Int).map iI))] (f :: rest) fun v u => v = .ms 0 (f.length + 0) 0 ∧ u = (f ++ [.row 3 1 (([] : List Int).map iI) 0]) :: rest := by
  refine ACalls.codeX Try.func145 rfl 8 rfl (by simp) [.tmp 2] rfl fun Q hQ => ?_
  simp only [ups, PV.up, argEnv]
  have ft := And.intro ty_3 (And.intro ty_4 (And.intro ty_22 trivial))
  refine Run.seq ?_
  have fx := And.intro (@List.map_nil.{0, 0}) ft
  refine Run.go ?_
  refine End.kp [0] ?_
  refine Run.seq ?_
  refine Run.seq ?_
  refine Run.go ?_
  refine End.kp [0, 4] ?_
  refine Run.cond_any rfl ?_ ?_
  · skip
    refine Run.seq ?_
    have fx := And.intro (@List.map_nil.{0, 0}) ft
    refine Run.go ?_
    refine End.move (Ghost.thaw (u := 2) 3 1 (by decide) rfl) ?_
    refine End.kp [2] ?_
    refine Run.ret (hQ _ _ ⟨.inr rfl, _, rfl, _, _, rfl, ?_⟩)
    exact ⟨rfl, rfl⟩
  · skip
    refine Run.skip ?_
    refine End.kp [0] ?_
    refine Run.seq ?_
    have fx := And.intro (@List.map_nil.{0, 0}) ft
    refine Run.go ?_
    refine End.kp [2] ?_
    refine Run.ret (hQ _ _ ⟨.inr rfl, _, rfl, _, _, rfl, ?_⟩)
    exact ⟨rfl, rfl⟩
theorem CloneIX_cons (x : Int) (xs : List Int) (h : xs.length ≤ 1000000) (f : List AObj) (rest : Frs) : ACalls Try.prog 145 [.im (.sl ((x :: xs).map iI))] (f :: rest) fun v u => v = .ms 0 (f.length + 0) (x :: xs).length ∧ u = (f ++ [.row 3 1 ((x :: xs).map iI) 0]) :: rest := by
  have hall : (xs.map iI).all (fun r => r.length == 1) = true := by simp
  have hlen : (xs.length + 1) * 8 ≤ 140737488355328 := by omega
  refine ACalls.codeX Try.func145 rfl 8 rfl (by simp) [.tmp 2] rfl fun Q hQ => ?_
  simp only [ups, PV.up, argEnv]
  have ft := And.intro ty_3 (And.intro ty_4 (And.intro ty_22 trivial))
  refine Run.seq ?_
  have fx := And.intro (@List.length_map.{0, 0}) (And.intro hlen (And.intro hall (And.intro (@List.map_cons.{0, 0}) ft)))
  refine Run.go ?_
  refine End.kp [0] ?_
  refine Run.seq ?_
  refine Run.seq ?_
  refine Run.go ?_
  refine End.kp [0, 4] ?_
  refine Run.cond _ rfl (fun hb => ?_) (fun hb => ?_)
  · have hb := hb
    simp at hb
  · have hb := hb
    refine Run.skip ?_
    refine End.kp [0] ?_
    refine Run.seq ?_
    have fx := And.intro (@List.length_map.{0, 0}) (And.intro hlen (And.intro hall (And.intro (@List.map_cons.{0, 0}) ft)))
    refine Run.go ?_
    refine End.kp [2] ?_
    refine Run.ret (hQ _ _ ⟨.inr rfl, _, rfl, _, _, rfl, ?_⟩)
    exact ⟨rfl, rfl⟩
theorem CloneIX_ok (q : List Int) (h : q.length ≤ 1000000) (f : List AObj) (rest : Frs) : ACalls Try.prog 145 [.im (.sl (q.map iI))] (f :: rest) fun v u => v = .ms 0 (f.length + 0) q.length ∧ u = (f ++ [.row 3 1 (q.map iI) 0]) :: rest := by
  cases q with
  | nil => exact CloneIX_nil f rest
  | cons x xs => exact CloneIX_cons x xs (by simp at h; omega) f rest
theorem CloneII_nil (k : Nat) (up : Frs) (hk : fget up 0 k = some .dead) : ACalls Try.prog 145 [.im (.sl (([] : List Int).map iI))] up fun v u => v = .ms 0 k 0 ∧ u = fset up 0 k (.row 3 1 (([] : List Int).map iI) 0) := by
  refine ACalls.codeI Try.func145 rfl 8 rfl (by simp) [.tmp 2] rfl k fun Q hQ => ?_
  simp only [ups, PV.up, argEnv]
  have ft := And.intro ty_3 (And.intro ty_4 (And.intro ty_22 trivial))
  refine Run.seq ?_
  have fx := And.intro (@List.map_nil.{0, 0}) ft
  refine Run.go ?_
  refine End.kp [0] ?_
  refine Run.seq ?_
  refine Run.seq ?_
  refine Run.go ?_
  refine End.kp [0, 4] ?_
  refine Run.cond_any rfl ?_ ?_
  · skip
    refine Run.seq ?_
    have fx := And.intro (@List.map_nil.{0, 0}) ft
    refine Run.go ?_
    refine End.move (Ghost.thaw (u := 2) 3 1 (by decide) rfl) ?_
    refine End.kp [2] ?_
    have fx := And.intro (@List.map_nil.{0, 0}) ft
    refine Run.resI 0 hQ hk ?_
    exact ⟨rfl, rfl⟩
  · skip
    refine Run.skip ?_
    refine End.kp [0] ?_
    refine Run.seq ?_
    have fx := And.intro (@List.map_nil.{0, 0}) ft
    refine Run.go ?_
    refine End.kp [2] ?_
    refine Run.resI 0 hQ hk ?_
    exact ⟨rfl, rfl⟩
theorem CloneII_cons (k : Nat) (x : Int) (xs : List Int) (h : xs.length ≤ 1000000) (up : Frs) (hk : fget up 0 k = some .dead) : ACalls Try.prog 145 [.im (.sl ((x :: xs).map iI))] up fun v u => v = .ms 0 k (x :: xs).length ∧ u = fset up 0 k (.row 3 1 ((x :: xs).map iI) 0) := by
  have hall : (xs.map iI).all (fun r => r.length == 1) = true := by simp
  have hlen : (xs.length + 1) * 8 ≤ 140737488355328 := by omega
  refine ACalls.codeI Try.func145 rfl 8 rfl (by simp) [.tmp 2] rfl k fun Q hQ => ?_
  simp only [ups, PV.up, argEnv]
  have ft := And.intro ty_3 (And.intro ty_4 (And.intro ty_22 trivial))
  refine Run.seq ?_
  have fx := And.intro (@List.length_map.{0, 0}) (And.intro hlen (And.intro hall (And.intro (@List.map_cons.{0, 0}) ft)))
  refine Run.go ?_
  refine End.kp [0] ?_
  refine Run.seq ?_
  refine Run.seq ?_
  refine Run.go ?_
  refine End.kp [0, 4] ?_
  refine Run.cond _ rfl (fun hb => ?_) (fun hb => ?_)
  · have hb := hb
    simp at hb
  · have hb := hb
    refine Run.skip ?_
    refine End.kp [0] ?_
    refine Run.seq ?_
    have fx := And.intro (@List.length_map.{0, 0}) (And.intro hlen (And.intro hall (And.intro (@List.map_cons.{0, 0}) ft)))
    refine Run.go ?_
    refine End.kp [2] ?_
    refine Run.resI 0 hQ hk ?_
    exact ⟨rfl, rfl⟩
theorem CloneII_ok (q : List Int) (h : q.length ≤ 1000000) (k : Nat) (up : Frs) (hk : fget up 0 k = some .dead) : ACalls Try.prog 145 [.im (.sl (q.map iI))] up fun v u => v = .ms 0 k q.length ∧ u = fset up 0 k (.row 3 1 (q.map iI) 0) := by
  cases q with
  | nil => exact CloneII_nil k up hk
  | cons x xs => exact CloneII_cons k x xs (by simp at h; omega) up hk
theorem CloneFI_nil (k : Nat) (up : Frs) (hk : fget up 0 k = some .dead) : ACalls Try.prog 160 [.im (.sl (([] : List LFlop).map LFlop.im))] up fun v u => v = .ms 0 k 0 ∧ u = fset up 0 k (.row 197 5 (([] : List LFlop).map LFlop.im) 0) := by
  refine ACalls.codeI Try.func160 rfl 8 rfl (by simp) [.tmp 2] rfl k fun Q hQ => ?_
  simp only [ups, PV.up, argEnv]
  have ft := And.intro ty_4 (And.intro ty_57 (And.intro ty_197 trivial))
  refine Run.seq ?_
  have fx := And.intro (@List.map_nil.{0, 0}) ft
  refine Run.go ?_
  refine End.kp [0] ?_
  refine Run.seq ?_
  refine Run.seq ?_
  refine Run.go ?_
  refine End.kp [0, 4] ?_
  refine Run.cond_any rfl ?_ ?_
  · skip
    refine Run.seq ?_
    have fx := And.intro (@List.map_nil.{0, 0}) ft
    refine Run.go ?_
    refine End.move (Ghost.thaw (u := 2) 197 5 (by decide) rfl) ?_
    refine End.kp [2] ?_
    have fx := And.intro (@List.map_nil.{0, 0}) ft
    refine Run.resI 0 hQ hk ?_
    exact ⟨rfl, rfl⟩
  · skip
    refine Run.skip ?_
    refine End.kp [0] ?_
    refine Run.seq ?_
    have fx := And.intro (@List.map_nil.{0, 0}) ft
    refine Run.go ?_
    refine End.kp [2] ?_
    refine Run.resI 0 hQ hk ?_
    exact ⟨rfl, rfl⟩
theorem CloneFI_cons (k : Nat) (x : LFlop) (xs : List LFlop) (h : xs.length ≤ 1000000) (up : Frs) (hk : fget up 0 k = some .dead) : ACalls Try.prog 160 [.im (.sl ((x :: xs).map LFlop.im))] up fun v u => v = .ms 0 k (x :: xs).length ∧ u = fset up 0 k (.row 197 5 ((x :: xs).map LFlop.im) 0) := by
  have hall : (xs.map LFlop.im).all (fun r => r.length == 5) = true := by simp
  have hlen : (xs.length + 1) * 48 ≤ 140737488355328 := by omega
  refine ACalls.codeI Try.func160 rfl 8 rfl (by simp) [.tmp 2] rfl k fun Q hQ => ?_
  simp only [ups, PV.up, argEnv]
  have ft := And.intro ty_4 (And.intro ty_57 (And.intro ty_197 trivial))
  refine Run.seq ?_
  have fx := And.intro (@List.length_map.{0, 0}) (And.intro hlen (And.intro hall (And.intro (@List.map_cons.{0, 0}) ft)))
  refine Run.go ?_
  refine End.kp [0] ?_
  refine Run.seq ?_
  refine Run.seq ?_
  refine Run.go ?_
  refine End.kp [0, 4] ?_
  refine Run.cond _ rfl (fun hb => ?_) (fun hb => ?_)
  · have hb := hb
    simp at hb
  · have hb := hb
    refine Run.skip ?_
    refine End.kp [0] ?_
    refine Run.seq ?_
    have fx := And.intro (@List.length_map.{0, 0}) (And.intro hlen (And.intro hall (And.intro (@List.map_cons.{0, 0}) ft)))
    refine Run.go ?_
    refine End.kp [2] ?_
    refine Run.resI 0 hQ hk ?_
    exact ⟨rfl, rfl⟩
theorem CloneFI_ok (q : List LFlop) (h : q.length ≤ 1000000) (k : Nat) (up : Frs) (hk : fget up 0 k = some .dead) : ACalls Try.prog 160 [.im (.sl (q.map LFlop.im))] up fun v u => v = .ms 0 k q.length ∧ u = fset up 0 k (.row 197 5 (q.map LFlop.im) 0) := by
  cases q with
  | nil => exact CloneFI_nil k up hk
  | cons x xs => exact CloneFI_cons k x xs (by simp at h; omega) up hk
theorem CloneGI_nil (k : Nat) (up : Frs) (hk : fget up 0 k = some .dead) : ACalls Try.prog 161 [.im (.sl (([] : List LGate).map LGate.im))] up fun v u => v = .ms 0 k 0 ∧ u = fset up 0 k (.row 200 3 (([] : List LGate).map LGate.im) 0) := by
  refine ACalls.codeI Try.func161 rfl 8 rfl (by simp) [.tmp 2] rfl k fun Q hQ => ?_
  simp only [ups, PV.up, argEnv]
  have ft := And.intro ty_4 (And.intro ty_58 (And.intro ty_200 trivial))
  refine Run.seq ?_
  have fx := And.intro (@List.map_nil.{0, 0}) ft
  refine Run.go ?_
  refine End.kp [0] ?_
  refine Run.seq ?_
  refine Run.seq ?_
  refine Run.go ?_
  refine End.kp [0, 4] ?_
  refine Run.cond_any rfl ?_ ?_
  · skip
    refine Run.seq ?_
    have fx := And.intro (@List.map_nil.{0, 0}) ft
    refine Run.go ?_
    refine End.move (Ghost.thaw (u := 2) 200 3 (by decide) rfl) ?_
    refine End.kp [2] ?_
    have fx := And.intro (@List.map_nil.{0, 0}) ft
    refine Run.resI 0 hQ hk ?_
    exact ⟨rfl, rfl⟩
  · skip
    refine Run.skip ?_
    refine End.kp [0] ?_
    refine Run.seq ?_
    have fx := And.intro (@List.map_nil.{0, 0}) ft
    refine Run.go ?_
    refine End.kp [2] ?_
    refine Run.resI 0 hQ hk ?_
    exact ⟨rfl, rfl⟩
theorem CloneGI_cons (k : Nat) (x : LGate) (xs : List LGate) (h : xs.length ≤ 1000000) (up : Frs) (hk : fget up 0 k = some .dead) : ACalls Try.prog 161 [.im (.sl ((x :: xs).map LGate.im))] up fun v u => v = .ms 0 k (x :: xs).length ∧ u = fset up 0 k (.row 200 3 ((x :: xs).map LGate.im) 0) := by
  have hall : (xs.map LGate.im).all (fun r => r.length == 3) = true := by simp
  have hlen : (xs.length + 1) * 40 ≤ 140737488355328 := by omega
  refine ACalls.codeI Try.func161 rfl 8 rfl (by simp) [.tmp 2] rfl k fun Q hQ => ?_
  simp only [ups, PV.up, argEnv]
  have ft := And.intro ty_4 (And.intro ty_58 (And.intro ty_200 trivial))
  refine Run.seq ?_
  have fx := And.intro (@List.length_map.{0, 0}) (And.intro hlen (And.intro hall (And.intro (@List.map_cons.{0, 0}) ft)))
  refine Run.go ?_
  refine End.kp [0] ?_
  refine Run.seq ?_
  refine Run.seq ?_
  refine Run.go ?_
  refine End.kp [0, 4] ?_
  refine Run.cond _ rfl (fun hb => ?_) (fun hb => ?_)
  · have hb := hb
    simp at hb
  · have hb := hb
    refine Run.skip ?_
    refine End.kp [0] ?_
    refine Run.seq ?_
    have fx := And.intro (@List.length_map.{0, 0}) (And.intro hlen (And.intro hall (And.intro (@List.map_cons.{0, 0}) ft)))
    refine Run.go ?_
    refine End.kp [2] ?_
    refine Run.resI 0 hQ hk ?_
    exact ⟨rfl, rfl⟩
theorem CloneGI_ok (q : List LGate) (h : q.length ≤ 1000000) (k : Nat) (up : Frs) (hk : fget up 0 k = some .dead) : ACalls Try.prog 161 [.im (.sl (q.map LGate.im))] up fun v u => v = .ms 0 k q.length ∧ u = fset up 0 k (.row 200 3 (q.map LGate.im) 0) := by
  cases q with
  | nil => exact CloneGI_nil k up hk
  | cons x xs => exact CloneGI_cons k x xs (by simp at h; omega) up hk
/-- The nets that a netlist is for. -/
def flopW (l : List LFlop) : List Int := (l.map fun f => [f.d, f.en]).flatten
theorem flopW_len (l : List LFlop) : (flopW l).length = 2 * l.length := by
  induction l with
  | nil => rfl
  | cons f l ih => simp only [flopW, List.map_cons, List.flatten_cons, List.length_append, List.length_cons, List.length_nil] at *; omega
def waysN (n : LNet) : List Int := n.outs ++ flopW n.flops
theorem ways_ok (n : LNet) (hn : NetSmall n) (up : Frs) : ACalls Try.prog 123 [n.pv] up fun v u => v = .im (.sl (ints (waysN n))) ∧ u = up := by
  obtain ⟨z1, z2, z3, z4, z5⟩ := hn
  refine ACalls.code Try.func123 rfl 25 rfl (by simp) [.tmp 2] rfl fun Q hQ => ?_
  simp only [ups, PV.up, argEnv]
  have ft := And.intro ty_2 (And.intro ty_3 (And.intro ty_4 (And.intro ty_22 (And.intro ty_57 (And.intro ty_60 (And.intro ty_197 trivial))))))
  refine Run.seq ?_
  have fx := And.intro fim_len ft
  refine Run.go ?_
  refine End.kp [1] ?_
  refine Run.seq ?_
  refine Run.region rfl fun K hK => GOps.sim ?_
  refine GOps.call rfl rfl rfl rfl (by kernel_rfl) (ACalls.sim ?_)
  refine (CloneIX_ok n.outs (by omega) _ _).mono fun v u hv => ?_
  obtain ⟨rfl, rfl⟩ := hv
  refine ⟨_, _, rfl, GOps.sim ?_⟩
  refine GOps.done (hK _ ?_); clear hK K
  refine End.kp [1, 3] ?_
  refine Run.seq ?_
  refine Run.seq ?_
  refine Run.go ?_
  refine End.kp [3, 10, 11, 12] ?_
  refine Run.block ?_
  refine Run.ghost (Ghost.form [(3, .ms 0 1 (n.outs.length + 2 * 0)), (10, .im (.sl (n.flops.map LFlop.im))), (11, .i n.flops.length), (12, .i (0 : Nat))] 2 ⟨rfl, rfl, rfl, rfl, trivial⟩ rfl rfl) ?_
  refine Run.loop (fun m st => ∃ (i : Nat), m = n.flops.length - i ∧ i ≤ n.flops.length ∧ st = ⟨[(3, .ms 0 1 (n.outs.length + 2 * i)), (10, .im (.sl (n.flops.map LFlop.im))), (11, .i n.flops.length), (12, .i (i : Nat))], [.box [.im (.sl (strs n.inn)), .im (.sl (strs n.out)), .im (.sl (n.flops.map LFlop.im)), .im (.sl (n.gates.map LGate.im)), .im (.sl (ints n.outs))], .row 3 1 (ints (n.outs ++ flopW (n.flops.take i))) 0], up⟩) n.flops.length ⟨0, rfl, by omega, by simp [flopW]⟩ fun m st hI => ?_
  obtain ⟨i, rfl, hi, rfl⟩ := hI
  have hsl : (ints (n.outs ++ flopW (n.flops.take i))).length = n.outs.length + 2 * i := by rw [ints_len, List.length_append, flopW_len, List.length_take]; omega
  have hap : (n.outs.length + 2 * i + 2) * 8 ≤ 140737488355328 := by omega
  refine Run.seq ?_
  have fx := And.intro hap (And.intro hsl (And.intro fim_len ft))
  refine Run.go ?_
  refine End.kp [3, 10, 11, 12, 13] ?_
  refine Run.seq ?_
  refine Run.cond _ rfl (fun hb => ?_) (fun hb => ?_)
  · have hb2 := of_decide_eq_true hb
    have hin : i < n.flops.length := by omega
    have wi := wsucc hin (by omega)
    obtain ⟨f, hf, hfm, hgt⟩ := flop_at n.flops i hin
    have htk : flopW (n.flops.take (i + 1)) = flopW (n.flops.take i) ++ [f.d, f.en] := by simp [flopW, List.take_add_one, hf]
    refine Run.skip ?_
    refine End.kp [3, 10, 11, 12] ?_
    refine Run.seq ?_
    refine Run.block ?_
    refine Run.seq ?_
    have fx := And.intro (@Int.toNat_natCast) (And.intro (@Int.natCast_nonneg) (And.intro hgt (And.intro wi (And.intro hap (And.intro hsl (And.intro fim_len ft))))))
    refine Run.go ?_
    refine End.kp [3, 5, 10, 11, 12] ?_
    refine Run.go ?_
    refine End.blk ?_
    refine End.kp [3, 10, 11, 12] ?_
    refine Run.go ?_
    refine End.lp ?_
    refine ⟨n.flops.length - (i + 1), _, by omega, Ghost.form [(3, .ms 0 1 (n.outs.length + 2 * (i + 1))), (10, .im (.sl (n.flops.map LFlop.im))), (11, .i n.flops.length), (12, .i (i + 1 : Nat))] 2 ⟨rfl, rfl, rfl, rfl, trivial⟩ rfl rfl, i + 1, rfl, by omega, ?_⟩
    rw [htk]
    simp
  · have hb2 := of_decide_eq_false hb
    have hiN : i = n.flops.length := by omega
    subst hiN
    rw [List.take_length] at hsl ⊢
    refine Run.exit rfl ?_
    refine End.kp [3] ?_
    refine Run.seq ?_
    refine Run.ghost (Ghost.shut (t := 3) (j := 1) rfl rfl hsl) ?_
    simp only [eput, edel]
    have fx := And.intro hap (And.intro hsl (And.intro fim_len ft))
    refine Run.go ?_
    refine End.kp [2] ?_
    refine Run.ret (hQ _ _ ⟨.inr rfl, _, rfl, _, rfl, ?_⟩)
    exact ⟨rfl, rfl⟩
def AObj.isDead : AObj → Bool
  | .dead => true
  | _ => false
/-- The cells of gates: of data, and with inputs in rows of their own. -/
def cellD (g : LGate) : List PV := [.i (-1), .im (.int .u64 g.table), .im (.sl (ints g.ins))]
def cellM (b : Nat) (g : LGate) : List PV := [.i (-1), .im (.int .u64 g.table), .ms 0 b g.ins.length]
def cellsG : Nat → List LGate → List PV
  | _, [] => []
  | b, g :: gs => cellM b g ++ cellsG (b + 1) gs
def cellsD (gs : List LGate) : List PV := (gs.map cellD).flatten
def rowsG (gs : List LGate) : List AObj := gs.map fun g => .row 3 1 (ints g.ins) 0
theorem cellsG_len : ∀ (gs : List LGate) (b : Nat), (cellsG b gs).length = gs.length * 3
  | [], b => rfl
  | g :: gs, b => by simp only [cellsG, cellM, List.length_append, List.length_cons, List.length_nil, cellsG_len gs (b + 1)]; omega
theorem cellsD_len : ∀ gs : List LGate, (cellsD gs).length = gs.length * 3
  | [] => rfl
  | g :: gs => by
    have := cellsD_len gs
    simp only [cellsD, cellD, List.map_cons, List.flatten_cons, List.length_append, List.length_cons, List.length_nil] at *; omega
theorem cellsG_snoc (g : LGate) : ∀ (gs : List LGate) (b : Nat), cellsG b (gs ++ [g]) = cellsG b gs ++ cellM (b + gs.length) g
  | [], b => by simp [cellsG]
  | x :: gs, b => by
    rw [List.cons_append, cellsG, cellsG_snoc g gs (b + 1), cellsG, List.append_assoc, List.length_cons, show b + 1 + gs.length = b + (gs.length + 1) by omega]
theorem cellsD_rows (gs : List LGate) : (gs.map LGate.im).flatten.map PV.im = cellsD gs := by
  induction gs with
  | nil => rfl
  | cons g gs ih =>
    simp only [List.map_cons, List.flatten_cons, List.map_append, ih, cellsD]
    rfl
/-- The first i gates have rows. -/
def midG (gs : List LGate) (i : Nat) : List PV := cellsG 6 (gs.take i) ++ cellsD (gs.drop i)
theorem midG_zero (gs : List LGate) : midG gs 0 = cellsD gs := by simp [midG, cellsG]
theorem midG_all (gs : List LGate) : midG gs gs.length = cellsG 6 gs := by simp [midG, cellsD]
theorem midG_len (gs : List LGate) (i : Nat) : (midG gs i).length = gs.length * 3 := by
  rw [midG, List.length_append, cellsG_len, cellsD_len, List.length_take, List.length_drop]; omega
theorem midG_split (gs : List LGate) (i : Nat) (g : LGate) (h : gs[i]? = some g) : midG gs i = cellsG 6 (gs.take i) ++ (cellD g ++ cellsD (gs.drop (i + 1))) := by
  obtain ⟨hi, he⟩ := List.getElem?_eq_some_iff.1 h
  rw [midG, List.drop_eq_getElem_cons hi, he]
  rfl
theorem midG_next (gs : List LGate) (i : Nat) (g : LGate) (h : gs[i]? = some g) : midG gs (i + 1) = cellsG 6 (gs.take i) ++ (cellM (i + 6) g ++ cellsD (gs.drop (i + 1))) := by
  obtain ⟨hi, he⟩ := List.getElem?_eq_some_iff.1 h
  have e : gs.take (i + 1) = gs.take i ++ [g] := by simp [List.take_add_one, h]
  rw [midG, e, cellsG_snoc, List.length_take, Nat.min_eq_left (by omega), Nat.add_comm 6 i, List.append_assoc]
theorem midG_get (gs : List LGate) (i : Nat) (g : LGate) (o : List PV) (h : gs[i]? = some g) : (midG gs i ++ o)[i * 3 + 2]? = some (.im (.sl (ints g.ins))) := by
  obtain ⟨hi, he⟩ := List.getElem?_eq_some_iff.1 h
  have hl : (cellsG 6 (gs.take i)).length = i * 3 := by rw [cellsG_len, List.length_take, Nat.min_eq_left (by omega)]
  rw [midG_split gs i g h, List.append_assoc, List.getElem?_append_right (by omega), hl, show i * 3 + 2 - i * 3 = 2 by omega]
  rfl
theorem midG_set (gs : List LGate) (i : Nat) (g : LGate) (o : List PV) (h : gs[i]? = some g) : (midG gs i ++ o).set (i * 3 + 2) (.ms 0 (i + 6) g.ins.length) = midG gs (i + 1) ++ o := by
  obtain ⟨hi, he⟩ := List.getElem?_eq_some_iff.1 h
  have hl : (cellsG 6 (gs.take i)).length = i * 3 := by rw [cellsG_len, List.length_take, Nat.min_eq_left (by omega)]
  rw [midG_split gs i g h, midG_next gs i g h]
  simp only [List.append_assoc]
  rw [List.set_append_right _ _ (by omega), hl, show i * 3 + 2 - i * 3 = 2 by omega]
  rfl
def CM (n : LNet) (r i : Nat) : List AObj := .box [.im (.sl (strs n.inn)), .im (.sl (strs n.out)), .im (.sl (n.flops.map LFlop.im)), .im (.sl (n.gates.map LGate.im)), .im (.sl (ints n.outs))] :: .box [.nils, .nils, .nils, .nils, .nils] :: .row 197 5 (n.flops.map LFlop.im) 0 :: .row 3 1 (ints n.outs) 0 :: .box [.im (.sl (strs n.inn)), .im (.sl (strs n.out)), .ms 0 2 n.flops.length, .bs 0 5 n.gates.length, .ms 0 3 n.outs.length] :: .box (midG n.gates i ++ List.replicate r .any) :: rowsG (n.gates.take i)
theorem CM_len (n : LNet) (r i : Nat) (h : i ≤ n.gates.length) : (CM n r i).length = 6 + i := by simp [CM, rowsG]; omega
theorem CM_4 (n : LNet) (r i : Nat) (o : List AObj) : (CM n r i ++ o)[4]? = some (.box [.im (.sl (strs n.inn)), .im (.sl (strs n.out)), .ms 0 2 n.flops.length, .bs 0 5 n.gates.length, .ms 0 3 n.outs.length]) := rfl
theorem CM_4' (n : LNet) (r i : Nat) : (CM n r i)[4]? = some (.box [.im (.sl (strs n.inn)), .im (.sl (strs n.out)), .ms 0 2 n.flops.length, .bs 0 5 n.gates.length, .ms 0 3 n.outs.length]) := rfl
theorem CM_5 (n : LNet) (r i : Nat) (o : List AObj) : (CM n r i ++ o)[5]? = some (.box (midG n.gates i ++ List.replicate r .any)) := rfl
theorem CM_1' (n : LNet) (r i : Nat) : (CM n r i)[1]? = some (.box [.nils, .nils, .nils, .nils, .nils]) := rfl
theorem spareAt_app : ∀ (L : List AObj) (k : Nat), (∀ o ∈ L, o.isDead = false) → spareAt k (L ++ [.dead]) = some (k + L.length)
  | [], k, _ => by simp [spareAt]
  | o :: L, k, h => by
    have := h o (by simp)
    have ih := spareAt_app L (k + 1) (fun x hx => h x (by simp [hx]))
    cases o <;> simp_all [spareAt, AObj.isDead] <;> omega
theorem CM_spare (n : LNet) (r i : Nat) (h : i ≤ n.gates.length) : spareAt 0 (CM n r i ++ [.dead]) = some (i + 6) := by
  rw [spareAt_app _ _ (fun o ho => ?_), CM_len n r i h, Nat.zero_add, Nat.add_comm]
  simp only [CM, rowsG, List.mem_cons, List.mem_map] at ho
  rcases ho with rfl | rfl | rfl | rfl | rfl | rfl | ⟨g, _, rfl⟩ <;> rfl
theorem CM_last (n : LNet) (r i : Nat) (h : i ≤ n.gates.length) (o : AObj) : (CM n r i ++ [o])[i + 6]? = some o := by rw [Nat.add_comm, ← CM_len n r i h]; simp
theorem CM_lset (n : LNet) (r i : Nat) (h : i ≤ n.gates.length) (o o' : AObj) : (CM n r i ++ [o]).set (i + 6) o' = CM n r i ++ [o'] := by rw [Nat.add_comm, ← CM_len n r i h]; simp
theorem CM_next (n : LNet) (r i : Nat) (g : LGate) (h : n.gates[i]? = some g) : (CM n r i ++ [AObj.row 3 1 (ints g.ins) 0]).set 5 (AObj.box (midG n.gates (i + 1) ++ List.replicate r PV.any)) = CM n r (i + 1) := by
  have e : rowsG (n.gates.take (i + 1)) = rowsG (n.gates.take i) ++ [.row 3 1 (ints g.ins) 0] := by simp [rowsG, List.take_add_one, h]
  simp only [CM, e, List.cons_append, List.set_cons_succ, List.set_cons_zero]
/-- What Copy gives: the objects and the handle of the gates. -/
structure CopyF (n : LNet) (m : Nat) (gc : PV) (o5 : AObj) : Prop where
  it : (n.gates = [] ∧ gc = .im (.sl []) ∧ o5 = .row 200 3 [] 0) ∨ (n.gates ≠ [] ∧ gc = .bs 0 (m + 5) n.gates.length ∧ ∃ r : Nat, o5 = .box (cellsG (m + 6) n.gates ++ List.replicate r .any))
def agN (n : LNet) (m : Nat) (gc : PV) : List PV := [.im (.sl (strs n.inn)), .im (.sl (strs n.out)), .ms 0 (m + 2) n.flops.length, gc, .ms 0 (m + 3) n.outs.length]
def CF (n : LNet) (m : Nat) (gc : PV) (o5 : AObj) : List AObj := .box [.im (.sl (strs n.inn)), .im (.sl (strs n.out)), .im (.sl (n.flops.map LFlop.im)), .im (.sl (n.gates.map LGate.im)), .im (.sl (ints n.outs))] :: .box (agN n m gc) :: .row 197 5 (n.flops.map LFlop.im) 0 :: .row 3 1 (ints n.outs) 0 :: .box (agN n m gc) :: o5 :: rowsG n.gates
theorem mg_cellsG (m : Nat) : ∀ (gs : List LGate) (b : Nat), mgs m (cellsG b gs) = cellsG (m + b) gs
  | [], b => rfl
  | g :: gs, b => by
    simp only [cellsG, cellM, List.cons_append, List.nil_append, mgs, PV.mg, mg_cellsG m gs (b + 1)]
    rfl
theorem mgs_app (m : Nat) : ∀ xs ys : List PV, mgs m (xs ++ ys) = mgs m xs ++ mgs m ys
  | [], ys => rfl
  | x :: xs, ys => by simp only [List.cons_append, mgs, mgs_app m xs ys]
theorem mgs_any (m : Nat) : ∀ r : Nat, mgs m (List.replicate r .any) = List.replicate r .any
  | 0 => rfl
  | r + 1 => by simp only [List.replicate_succ, mgs, mgs_any m r]; rfl
theorem mg_rowsG (m : Nat) (gs : List LGate) : (rowsG gs).map (AObj.mg m) = rowsG gs := by simp only [rowsG, List.map_map]; rfl
theorem CM_mg (n : LNet) (r m : Nat) : ((CM n r n.gates.length).set 1 (.box [.im (.sl (strs n.inn)), .im (.sl (strs n.out)), .ms 0 2 n.flops.length, .bs 0 5 n.gates.length, .ms 0 3 n.outs.length])).map (AObj.mg m) = CF n m (.bs 0 (m + 5) n.gates.length) (.box (cellsG (m + 6) n.gates ++ List.replicate r .any)) := by
  simp only [CM, CF, agN, midG_all, List.take_length, List.set_cons_succ, List.set_cons_zero, List.map_cons, mg_rowsG, AObj.mg, mgs, mgs_app, mg_cellsG, mgs_any, PV.mg]
theorem NCopy_cons (n : LNet) (hn : NetSmall n) (hne : n.gates ≠ []) (h6 : ∀ g ∈ n.gates, g.ins.length ≤ 6) (f : List AObj) (rest : Frs) : ACalls Try.prog 125 [n.pv] (f :: rest) fun v u => ∃ (gc : PV) (o5 : AObj), CopyF n f.length gc o5 ∧ v = .agg (agN n f.length gc) ∧ u = (f ++ CF n f.length gc o5) :: rest := by
  obtain ⟨z1, z2, z3, z4, z5⟩ := hn
  have hrow : n.gates.map LGate.im ≠ [] := fun e => hne (List.map_eq_nil_iff.1 e)
  refine ACalls.codeX Try.func125 rfl 41 rfl (by simp) [.cell 2 60] rfl fun Q hQ => ?_
  simp only [ups, PV.up, argEnv]
  have ft := And.intro ty_2 (And.intro ty_3 (And.intro ty_4 (And.intro ty_9 (And.intro ty_22 (And.intro ty_27 (And.intro ty_57 (And.intro ty_58 (And.intro ty_60 (And.intro ty_197 (And.intro ty_200 trivial))))))))))
  refine Run.seq ?_
  have fx := And.intro ints_len (And.intro gim_len (And.intro fim_len (And.intro strs_len ft)))
  refine Run.go ?_
  refine End.kp [1, 2] ?_
  refine Run.seq ?_
  refine Run.ghost (.spares 4) ?_
  simp only [ASt.pushN, ASt.push, List.append_assoc, List.cons_append, List.nil_append]
  refine Run.drawA fun K hK => ?_
  refine DOps.sim ?_
  refine DOps.call (.im (.sl (strs n.inn))) [] [] rfl rfl rfl rfl (by kernel_rfl) (by simp [Agree]) (fun u hu => CloneS_ok n.inn (by omega) u) ?_
  refine DOps.sim ?_
  refine DOps.call (.im (.sl (strs n.out))) [] [] rfl rfl rfl rfl (by kernel_rfl) (by simp [Agree]) (fun u hu => CloneS_ok n.out (by omega) u) ?_
  refine DOps.sim ?_
  refine DOps.call (.ms 0 2 n.flops.length) [((0, 2), .dead)] [((0, 2), .row 197 5 (n.flops.map LFlop.im) 0)] rfl rfl rfl rfl (by kernel_rfl) (by simp [Agree, ASt.fr]) (fun u hu => CloneFI_ok n.flops (by omega) 2 u (hu ((0, 2), .dead) (by simp))) ?_
  refine DOps.sim ?_
  refine DOps.call (.ms 0 5 n.gates.length) [((0, 5), .dead)] [((0, 5), .row 200 3 (n.gates.map LGate.im) 0)] rfl rfl rfl rfl (by kernel_rfl) (by simp [Agree, ASt.fr]) (fun u hu => CloneGI_ok n.gates (by omega) 5 u (hu ((0, 5), .dead) (by simp))) ?_
  refine DOps.sim ?_
  refine DOps.call (.ms 0 3 n.outs.length) [((0, 3), .dead)] [((0, 3), .row 3 1 (ints n.outs) 0)] rfl rfl rfl rfl (by kernel_rfl) (by simp [Agree, ASt.fr]) (fun u hu => CloneII_ok n.outs (by omega) 3 u (hu ((0, 3), .dead) (by simp))) ?_
  refine DOps.sim ?_
  refine DOps.nil (by rfl) (hK _ ?_); clear hK K
  refine End.kp [2, 3] ?_
  refine Run.seq ?_
  refine Run.seq ?_
  refine Run.rowBox (q := 4) (i := 3) (rows := n.gates.map LGate.im) (t := 200) (sz := 3) (L := [.box [.im (.sl (strs n.inn)), .im (.sl (strs n.out)), .im (.sl (n.flops.map LFlop.im)), .im (.sl (n.gates.map LGate.im)), .im (.sl (ints n.outs))], .box [.nils, .nils, .nils, .nils, .nils], .row 197 5 (n.flops.map LFlop.im) 0, .row 3 1 (ints n.outs) 0, .box [.im (.sl (strs n.inn)), .im (.sl (strs n.out)), .ms 0 2 n.flops.length, .ms 0 5 n.gates.length, .ms 0 3 n.outs.length]]) rfl (by simp only [gim_len]; rfl) hrow rfl rfl fun r => ?_
  rw [cellsD_rows, gim_len, ← midG_zero]
  refine Run.ghost (.refl _ _ : Ghost _ _ ⟨[(3, .ptr 0 4 0), (2, .ptr 0 1 0)], CM n r 0, f :: rest⟩) ?_
  have fx := And.intro CM_1' (And.intro CM_4' (And.intro ints_len (And.intro gim_len (And.intro fim_len (And.intro strs_len ft)))))
  refine Run.go ?_
  refine End.kp [2, 3, 23, 24] ?_
  refine Run.block ?_
  refine Run.ghost (.keepE (e := [(2, .ptr 0 1 0), (3, .ptr 0 4 0), (23, .i n.gates.length), (24, .i (0 : Nat))]) ⟨rfl, rfl, rfl, rfl, trivial⟩) ?_
  refine Run.loop (fun m s => ∃ i : Nat, m = n.gates.length - i ∧ i ≤ n.gates.length ∧ s = ⟨[(2, .ptr 0 1 0), (3, .ptr 0 4 0), (23, .i n.gates.length), (24, .i (i : Nat))], CM n r i, f :: rest⟩) n.gates.length ⟨0, rfl, by omega, rfl⟩ fun m s hI => ?_
  obtain ⟨i, rfl, hi, rfl⟩ := hI
  refine Run.seq ?_
  have fx := And.intro CM_1' (And.intro CM_4' (And.intro ints_len (And.intro gim_len (And.intro fim_len (And.intro strs_len ft)))))
  refine Run.go ?_
  refine End.kp [2, 3, 23, 24, 25] ?_
  refine Run.seq ?_
  refine Run.cond _ rfl (fun hb => ?_) (fun hb => ?_)
  · have hb2 := of_decide_eq_true hb
    have hin : i < n.gates.length := by omega
    have wi := wsucc hin (by omega)
    obtain ⟨g, hgi, hgm, hg⟩ := gate_at n.gates i hin
    have hil : (i : Int) < (n.gates.length : Int) := by omega
    have g6 := h6 g hgm
    have m1 := midG_get n.gates i g (List.replicate r .any) hgi
    have m2 := midG_set n.gates i g (List.replicate r .any) hgi
    have ml : i * 3 + 2 + 1 ≤ (midG n.gates i ++ List.replicate r PV.any).length := by rw [List.length_append, midG_len]; omega
    have hsp : ∀ x : PV, (midG n.gates i ++ List.replicate r PV.any).take (i * 3 + 2) ++ x :: (midG n.gates i ++ List.replicate r PV.any).drop (i * 3 + 2 + 1) = (midG n.gates i ++ List.replicate r PV.any).set (i * 3 + 2) x := fun x => (List.set_eq_take_append_cons_drop.trans (if_pos ml)).symm
    have c5 := CM_5 n r i
    have c4 := CM_4 n r i
    have cl := CM_last n r i (by omega)
    have cs := CM_lset n r i (by omega)
    have cn := CM_next n r i g hgi
    have c0 := CM_spare n r i (by omega)
    refine Run.skip ?_
    refine End.kp [2, 3, 23, 24] ?_
    refine Run.seq ?_
    refine Run.block ?_
    refine Run.seq ?_
    have fx := And.intro (@Int.toNat_natCast) (And.intro (@Int.natCast_nonneg) (And.intro (@Nat.mul_one) (And.intro downN_ms (And.intro upN_ms (And.intro upN_bs (And.intro c0 (And.intro cs (And.intro cl (And.intro c4 (And.intro c5 (And.intro hsp (And.intro ml (And.intro m2 (And.intro m1 (And.intro hil (And.intro wi (And.intro CM_1' (And.intro CM_4' (And.intro ints_len (And.intro gim_len (And.intro fim_len (And.intro strs_len ft))))))))))))))))))))))
    refine Run.go ?_
    refine End.kp [2, 3, 4, 23, 24] ?_
    refine Run.ghost (.spares 1) ?_
    simp only [ASt.pushN, ASt.push]
    refine Run.drawA fun K hK => ?_
    refine DOps.sim ?_
    refine DOps.call (.ms 0 (i + 6) g.ins.length) [((0, i + 6), .dead)] [((0, i + 6), .row 3 1 (ints g.ins) 0)] rfl rfl rfl rfl (by kernel_rfl) (by simp [Agree, ASt.fr, cl]) (fun u hu => CloneII_ok g.ins (by omega) (i + 6) u (hu ((0, i + 6), .dead) (by simp))) ?_
    refine DOps.sim ?_
    refine DOps.nil (by rfl) (hK _ ?_); clear hK K
    refine End.blk ?_
    refine End.kp [2, 3, 23, 24] ?_
    have fx := And.intro (@Int.toNat_natCast) (And.intro (@Int.natCast_nonneg) (And.intro (@Nat.mul_one) (And.intro downN_ms (And.intro upN_ms (And.intro upN_bs (And.intro c0 (And.intro cs (And.intro cl (And.intro c4 (And.intro c5 (And.intro hsp (And.intro ml (And.intro m2 (And.intro m1 (And.intro hil (And.intro wi (And.intro CM_1' (And.intro CM_4' (And.intro ints_len (And.intro gim_len (And.intro fim_len (And.intro strs_len ft))))))))))))))))))))))
    refine Run.go ?_
    refine End.lp ?_
    refine ⟨n.gates.length - (i + 1), _, by omega, .keepE (e := [(2, .ptr 0 1 0), (3, .ptr 0 4 0), (23, .i n.gates.length), (24, .i (i + 1 : Nat))]) ⟨rfl, rfl, rfl, rfl, trivial⟩, i + 1, rfl, by omega, by rw [← cn]⟩
  · have hb2 := of_decide_eq_false hb
    have hie : i = n.gates.length := by omega
    subst hie
    refine Run.exit rfl ?_
    refine End.kp [2, 3] ?_
    refine Run.seq ?_
    have fx := And.intro CM_1' (And.intro CM_4' (And.intro ints_len (And.intro gim_len (And.intro fim_len (And.intro strs_len ft)))))
    refine Run.go ?_
    refine End.kp [2] ?_
    refine Run.resX hQ ?_
    refine ⟨.bs 0 (f.length + 5) n.gates.length, .box (cellsG (f.length + 6) n.gates ++ List.replicate r .any), ⟨.inr ⟨hne, rfl, r, rfl⟩⟩, by simp [oneOrTup, PV.upN, PV.mg, mgs, agN], ?_⟩
    have e := CM_mg n r f.length
    show (f ++ ((CM n r n.gates.length).set 1 (.box [.im (.sl (strs n.inn)), .im (.sl (strs n.out)), .ms 0 2 n.flops.length, .bs 0 5 n.gates.length, .ms 0 3 n.outs.length])).map (AObj.mg f.length)) :: rest = _
    rw [e]
theorem NCopy_nil (n : LNet) (hn : NetSmall n) (hne : n.gates = []) (f : List AObj) (rest : Frs) : ACalls Try.prog 125 [n.pv] (f :: rest) fun v u => ∃ (gc : PV) (o5 : AObj), CopyF n f.length gc o5 ∧ v = .agg (agN n f.length gc) ∧ u = (f ++ CF n f.length gc o5) :: rest := by
  obtain ⟨z1, z2, z3, z4, z5⟩ := hn
  have g0 : n.gates.map LGate.im = [] := by rw [hne]; rfl
  have g1 : n.gates.length = 0 := by rw [hne]; rfl
  refine ACalls.codeX Try.func125 rfl 41 rfl (by simp) [.cell 2 60] rfl fun Q hQ => ?_
  simp only [ups, PV.up, argEnv]
  have ft := And.intro ty_2 (And.intro ty_3 (And.intro ty_4 (And.intro ty_9 (And.intro ty_22 (And.intro ty_27 (And.intro ty_57 (And.intro ty_58 (And.intro ty_60 (And.intro ty_197 (And.intro ty_200 trivial))))))))))
  refine Run.seq ?_
  have fx := And.intro ints_len (And.intro fim_len (And.intro strs_len ft))
  refine Run.go ?_
  refine End.kp [1, 2] ?_
  refine Run.seq ?_
  refine Run.ghost (.spares 4) ?_
  simp only [ASt.pushN, ASt.push, List.append_assoc, List.cons_append, List.nil_append]
  refine Run.drawA fun K hK => ?_
  refine DOps.sim ?_
  refine DOps.call (.im (.sl (strs n.inn))) [] [] rfl rfl rfl rfl (by kernel_rfl) (by simp [Agree]) (fun u hu => CloneS_ok n.inn (by omega) u) ?_
  refine DOps.sim ?_
  refine DOps.call (.im (.sl (strs n.out))) [] [] rfl rfl rfl rfl (by kernel_rfl) (by simp [Agree]) (fun u hu => CloneS_ok n.out (by omega) u) ?_
  refine DOps.sim ?_
  refine DOps.call (.ms 0 2 n.flops.length) [((0, 2), .dead)] [((0, 2), .row 197 5 (n.flops.map LFlop.im) 0)] rfl rfl rfl rfl (by kernel_rfl) (by simp [Agree, ASt.fr]) (fun u hu => CloneFI_ok n.flops (by omega) 2 u (hu ((0, 2), .dead) (by simp))) ?_
  refine DOps.sim ?_
  refine DOps.call (.ms 0 5 0) [((0, 5), .dead)] [((0, 5), .row 200 3 (n.gates.map LGate.im) 0)] rfl rfl rfl rfl (by kernel_rfl) (by simp [Agree, ASt.fr]) (fun u hu => (by have := CloneGI_ok n.gates (by omega) 5 u (hu ((0, 5), .dead) (by simp)); rw [g1] at this; exact this)) ?_
  refine DOps.sim ?_
  refine DOps.call (.ms 0 3 n.outs.length) [((0, 3), .dead)] [((0, 3), .row 3 1 (ints n.outs) 0)] rfl rfl rfl rfl (by kernel_rfl) (by simp [Agree, ASt.fr]) (fun u hu => CloneII_ok n.outs (by omega) 3 u (hu ((0, 3), .dead) (by simp))) ?_
  refine DOps.sim ?_
  refine DOps.nil (by rfl) (hK _ ?_); clear hK K
  refine End.kp [2, 3] ?_
  refine Run.seq ?_
  refine Run.seq ?_
  refine Run.ghost (Ghost.boxShut (j := 4) (i := 3) (r := 5) rfl rfl rfl (by rw [g0]; rfl)) ?_
  simp only [g0, List.length_nil]
  have fx := And.intro ints_len (And.intro fim_len (And.intro strs_len ft))
  refine Run.go ?_
  refine End.kp [2, 3, 23, 24] ?_
  refine Run.block ?_
  refine Run.ghost (Ghost.form [(2, .ptr 0 1 0), (3, .ptr 0 4 0), (23, .i 0), (24, .i (0 : Nat))] 6 ⟨rfl, rfl, rfl, rfl, trivial⟩ rfl rfl) ?_
  refine Run.loop (fun m s => s = ⟨[(2, .ptr 0 1 0), (3, .ptr 0 4 0), (23, .i 0), (24, .i (0 : Nat))], [.box [.im (.sl (strs n.inn)), .im (.sl (strs n.out)), .im (.sl (n.flops.map LFlop.im)), .im (.sl []), .im (.sl (ints n.outs))], .box [.nils, .nils, .nils, .nils, .nils], .row 197 5 (n.flops.map LFlop.im) 0, .row 3 1 (ints n.outs) 0, .box [.im (.sl (strs n.inn)), .im (.sl (strs n.out)), .ms 0 2 n.flops.length, .im (.sl []), .ms 0 3 n.outs.length], .row 200 3 [] 0], f :: rest⟩) 0 rfl fun m s hI => ?_
  subst hI
  refine Run.seq ?_
  have fx := And.intro ints_len (And.intro fim_len (And.intro strs_len ft))
  refine Run.go ?_
  refine End.kp [2, 3, 23, 24, 25] ?_
  refine Run.seq ?_
  refine Run.cond _ rfl (fun hb => ?_) (fun hb => ?_)
  · have hb2 := hb
    simp at hb
  · have hb2 := hb
    refine Run.exit rfl ?_
    refine End.kp [2, 3] ?_
    refine Run.seq ?_
    have fx := And.intro ints_len (And.intro fim_len (And.intro strs_len ft))
    refine Run.go ?_
    refine End.kp [2] ?_
    refine Run.resX hQ ?_
    refine ⟨.im (.sl []), .row 200 3 [] 0, ⟨.inl ⟨hne, rfl, rfl⟩⟩, by simp [oneOrTup, PV.upN, PV.mg, mgs, agN], ?_⟩
    simp only [CF, agN, hne, rowsG, List.map_nil, List.set_cons_succ, List.set_cons_zero, List.map_cons, AObj.mg, mgs, PV.mg]
    rfl
theorem NCopy_ok (n : LNet) (hn : NetSmall n) (h6 : ∀ g ∈ n.gates, g.ins.length ≤ 6) (f : List AObj) (rest : Frs) : ACalls Try.prog 125 [n.pv] (f :: rest) fun v u => ∃ (gc : PV) (o5 : AObj), CopyF n f.length gc o5 ∧ v = .agg (agN n f.length gc) ∧ u = (f ++ CF n f.length gc o5) :: rest := by
  by_cases h : n.gates = []
  · exact NCopy_nil n hn h f rest
  · exact NCopy_cons n hn h h6 f rest
end Go.Proofs.YtdgpmopcmacicaaPi

