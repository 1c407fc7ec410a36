/- The walks of clones of names, of Name, Names and ends. -/
import Derived.Test.YtkmnmokjlpenhaaWF
set_option linter.unusedVariables false
set_option linter.unusedSimpArgs false
set_option maxRecDepth 100000
namespace Go.Proofs.YtkmnmokjlpenhaaPi
theorem CloneS_nil (up : Frs) : ACalls Try.prog 111 [.im (.sl (strs []))] up fun v u => v = .im (.sl (strs [])) ∧ u = up := by
  refine ACalls.code Try.func111 rfl 8 rfl (by simp) [.tmp 2] rfl fun Q hQ => ?_
  simp only [ups, PV.up, argEnv]
  have ft := And.intro ty_4 (And.intro ty_9 (And.intro ty_26 trivial))
  refine Run.seq ?_
  have fx := And.intro (@List.map_nil.{0, 0}) ft
  refine Run.go ?_
  refine End.kp [0] ?_
  refine Run.seq ?_
  refine Run.seq ?_
  refine Run.go ?_
  refine End.kp [0, 4] ?_
  refine Run.cond_any rfl ?_ ?_
  · skip
    refine Run.seq ?_
    have fx := And.intro (@List.map_nil.{0, 0}) ft
    refine Run.go ?_
    refine End.kp [2] ?_
    refine Run.resC hQ ?_
    exact ⟨rfl, rfl⟩
  · skip
    refine Run.skip ?_
    refine End.kp [0] ?_
    refine Run.seq ?_
    have fx := And.intro (@List.map_nil.{0, 0}) ft
    refine Run.go ?_
    refine End.kp [2] ?_
    refine Run.resC hQ ?_
    exact ⟨rfl, rfl⟩
theorem CloneS_cons (x : ByteArray) (xs : List ByteArray) (h : xs.length ≤ 1000000) (up : Frs) : ACalls Try.prog 111 [.im (.sl (strs (x :: xs)))] up fun v u => v = .im (.sl (strs (x :: xs))) ∧ u = up := by
  have hall : (strs xs).all (fun r => r.length == 1) = true := by simp
  have hlen : ((xs.map fun s => [Im.str s]).length + 1) * 16 ≤ 140737488355328 := by rw [List.length_map]; omega
  refine ACalls.code Try.func111 rfl 8 rfl (by simp) [.tmp 2] rfl fun Q hQ => ?_
  simp only [ups, PV.up, argEnv]
  have ft := And.intro ty_4 (And.intro ty_9 (And.intro ty_26 trivial))
  refine Run.seq ?_
  have fx := And.intro hlen (And.intro hall (And.intro (@List.map_cons.{0, 0}) ft))
  refine Run.go ?_
  refine End.kp [0] ?_
  refine Run.seq ?_
  refine Run.seq ?_
  refine Run.go ?_
  refine End.kp [0, 4] ?_
  refine Run.cond _ rfl (fun hb => ?_) (fun hb => ?_)
  · have hb := hb
    simp at hb
  · have hb := hb
    refine Run.skip ?_
    refine End.kp [0] ?_
    refine Run.seq ?_
    have fx := And.intro hlen (And.intro hall (And.intro (@List.map_cons.{0, 0}) ft))
    refine Run.go ?_
    refine End.move (Ghost.shut (t := 2) (j := 0) rfl rfl rfl) ?_
    simp only [eput, edel]
    refine End.kp [2] ?_
    refine Run.ret (hQ _ _ ⟨.inr rfl, _, rfl, _, rfl, ?_⟩)
    exact ⟨rfl, rfl⟩
theorem CloneS_ok (q : List ByteArray) (h : q.length ≤ 1000000) (up : Frs) : ACalls Try.prog 111 [.im (.sl (strs q))] up fun v u => v = .im (.sl (strs q)) ∧ u = up := by
  cases q with
  | nil => exact CloneS_nil up
  | cons x xs => exact CloneS_cons x xs (by simp at h; omega) up
/-- A name that may be: 1 to 128 letters from 33 to 126. -/
structure NameOk (s : ByteArray) : Prop where
  low : 1 ≤ s.size
  high : s.size ≤ 128
  chars : ∀ b ∈ s.data.toList, 33 ≤ b.toNat ∧ b.toNat ≤ 126
theorem byteRows_len (s : ByteArray) : (byteRows s).length = s.size := by simp [byteRows]
theorem byteRows_get (s : ByteArray) (h : NameOk s) (i : Nat) (hi : i < s.size) : ∃ b : Int, 33 ≤ b ∧ b ≤ 126 ∧ (byteRows s)[i]? = some [.int .u8 b] := by
  have hi2 : i < s.data.toList.length := by simpa using hi
  refine ⟨(s.data.toList[i]).toNat, ?_, ?_, ?_⟩
  · have := (h.chars _ (List.getElem_mem hi2)).1; omega
  · have := (h.chars _ (List.getElem_mem hi2)).2; omega
  · simp only [byteRows, List.getElem?_map, List.getElem?_eq_getElem hi2, Option.map_some]
theorem Name_ok (s : ByteArray) (hs : NameOk s) (up : Frs) : ACalls Try.prog 99 [.im (.str s)] up fun v u => v = .im (.bool true) ∧ u = up := by
  have hlow := hs.low
  have hhigh := hs.high
  have d1 : decide ((s.size : Int) < 1) = false := decide_eq_false (by omega)
  have d2 : decide ((s.size : Int) > 128) = false := decide_eq_false (by omega)
  refine ACalls.code Try.func99 rfl 27 rfl (by simp) [.tmp 2] rfl fun Q hQ => ?_
  simp only [ups, PV.up, argEnv]
  have ft := And.intro ty_3 (And.intro ty_4 (And.intro ty_5 (And.intro ty_9 (And.intro ty_165 trivial))))
  refine Run.seq ?_
  have fx := And.intro byteRows_len (And.intro d2 (And.intro d1 ft))
  refine Run.go ?_
  refine End.kp [0] ?_
  refine Run.seq ?_
  refine Run.seq ?_
  refine Run.go ?_
  refine End.kp [0, 12] ?_
  refine Run.cond _ rfl (fun hb => ?_) (fun hb => ?_)
  · have hb := hb
    simp at hb
  · have hb := hb
    refine Run.skip ?_
    refine End.kp [0] ?_
    refine Run.seq ?_
    refine Run.seq ?_
    have fx := And.intro byteRows_len (And.intro d2 (And.intro d1 ft))
    refine Run.go ?_
    refine End.kp [14, 15, 16] ?_
    refine Run.block ?_
    refine Run.ghost (Ghost.form [(14, .im (.sl (byteRows s))), (15, .i s.size), (16, .i (0 : Nat))] 0 ⟨rfl, rfl, rfl, trivial⟩ rfl rfl) ?_
    refine Run.loop (fun m st => ∃ (i : Nat), m = s.size - i ∧ i ≤ s.size ∧ st = ⟨[(14, .im (.sl (byteRows s))), (15, .i s.size), (16, .i (i : Nat))], [], up⟩) s.size ⟨0, rfl, by omega, rfl⟩ fun m st hI => ?_
    obtain ⟨i, rfl, hi, rfl⟩ := hI
    refine Run.seq ?_
    have fx := And.intro byteRows_len (And.intro d2 (And.intro d1 ft))
    refine Run.go ?_
    refine End.kp [14, 15, 16, 17] ?_
    refine Run.seq ?_
    refine Run.cond _ rfl (fun hb => ?_) (fun hb => ?_)
    · have hb := of_decide_eq_true hb
      have hin : i < s.size := by omega
      have wi := wsucc hin (by omega)
      obtain ⟨b, b1, b2, hg⟩ := byteRows_get s hs i hin
      have d3 : decide (b < 33) = false := decide_eq_false (by omega)
      have d4 : decide (b > 126) = false := decide_eq_false (by omega)
      refine Run.skip ?_
      refine End.kp [14, 15, 16] ?_
      refine Run.seq ?_
      refine Run.block ?_
      refine Run.seq ?_
      have fx := And.intro (@Int.toNat_natCast) (And.intro (@Int.natCast_nonneg) (And.intro d4 (And.intro d3 (And.intro hg (And.intro wi (And.intro byteRows_len (And.intro d2 (And.intro d1 ft))))))))
      refine Run.go ?_
      refine End.kp [4, 14, 15, 16] ?_
      refine Run.seq ?_
      refine Run.go ?_
      refine End.kp [14, 15, 16, 25] ?_
      refine Run.cond _ rfl (fun hb => ?_) (fun hb => ?_)
      · have hb := hb
        simp at hb
      · have hb := hb
        refine Run.skip ?_
        refine End.blk ?_
        refine End.kp [14, 15, 16] ?_
        have fx := And.intro (@Int.toNat_natCast) (And.intro (@Int.natCast_nonneg) (And.intro d4 (And.intro d3 (And.intro hg (And.intro wi (And.intro byteRows_len (And.intro d2 (And.intro d1 ft))))))))
        refine Run.go ?_
        refine End.lp ?_
        refine ⟨s.size - (i + 1), _, by omega, Ghost.form [(14, .im (.sl (byteRows s))), (15, .i s.size), (16, .i (i + 1 : Nat))] 0 ⟨rfl, rfl, rfl, trivial⟩ rfl rfl, i + 1, rfl, by omega, rfl⟩
    · have hb := of_decide_eq_false hb
      refine Run.exit rfl ?_
      refine End.kp [] ?_
      refine Run.seq ?_
      have fx := And.intro byteRows_len (And.intro d2 (And.intro d1 ft))
      refine Run.go ?_
      refine End.kp [2] ?_
      refine Run.ret (hQ _ _ ⟨.inr rfl, _, rfl, _, rfl, ?_⟩)
      exact ⟨rfl, rfl⟩
def ents (l : List ByteArray) : List (List Im × Im) := l.map fun s => ([.str s], .int .i64 1)
theorem same_ne (s x : ByteArray) (h : x ≠ s) : sameIm Try.prog 9 (.str s) (.str x) = some false := by
  simp only [sameIm, ty_9, if_true, Option.some.injEq]
  have := mt (MapKept.bytes_beq s x).1 (fun e => h e.symm)
  simpa using this
theorem find_none (s : ByteArray) : ∀ (l : List ByteArray) (i : Nat), s ∉ l → findIm Try.prog 9 (.str s) (ents l) i = some none
  | [], i, _ => rfl
  | x :: xs, i, h => by
    simp only [List.mem_cons, not_or] at h
    simp only [ents, List.map_cons, findIm, same_ne s x (fun e => h.1 e.symm)]
    exact find_none s xs (i + 1) h.2
theorem find_last (s : ByteArray) (v : Im) : ∀ (l : List ByteArray) (i : Nat), s ∉ l → findIm Try.prog 9 (.str s) (ents l ++ [([.str s], v)]) i = some (some (i + l.length, v))
  | [], i, _ => by
    have : sameIm Try.prog 9 (.str s) (.str s) = some true := by
      simp only [sameIm, ty_9, if_true, Option.some.injEq]
      exact (MapKept.bytes_beq s s).2 rfl
    simp only [ents, List.map_nil, List.nil_append, findIm, this, List.length_nil, Nat.add_zero]
  | x :: xs, i, h => by
    simp only [List.mem_cons, not_or] at h
    simp only [ents, List.map_cons, List.cons_append, findIm, same_ne s x (fun e => h.1 e.symm)]
    have := find_last s v xs (i + 1) h.2
    simp only [ents] at this
    rw [this, List.length_cons]
    congr 3
    omega
theorem nodup_take {l : List ByteArray} (h : l.Nodup) (i : Nat) (hi : i < l.length) : l.getD i ByteArray.empty ∉ l.take i := by
  intro hm
  obtain ⟨k, hk, e⟩ := List.getElem_of_mem hm
  have hk2 : k < i := by simp at hk; omega
  rw [List.getElem_take] at e
  have e2 : l.getD i ByteArray.empty = l[i] := by simp [hi]
  rw [e2] at e
  have := (List.getElem_inj h).1 e
  omega
theorem strs_get (l : List ByteArray) (i : Nat) (h : i < l.length) : (strs l)[i]? = some [.str (l.getD i ByteArray.empty)] := by simp [h]
theorem getD_mem {l : List ByteArray} {i : Nat} (h : i < l.length) : l.getD i ByteArray.empty ∈ l := by
  have e2 : l.getD i ByteArray.empty = l[i] := by simp [h]
  rw [e2]
  exact List.getElem_mem h
theorem Names_ok (q : List ByteArray) (hq : q.length ≤ 1000000) (hv : ∀ s ∈ q, NameOk s) (hd : q.Nodup) (up : Frs) : ACalls Try.prog 133 [.im (.sl (strs q))] up fun v u => v = .i 0 ∧ u = up := by
  refine ACalls.code Try.func133 rfl 25 rfl (by simp) [.tmp 2] rfl fun Q hQ => ?_
  simp only [ups, PV.up, argEnv]
  have ft := And.intro ty_3 (And.intro ty_4 (And.intro ty_9 (And.intro ty_26 (And.intro ty_34 (And.intro ty_208 trivial)))))
  refine Run.seq ?_
  have fx := And.intro strs_len ft
  refine Run.go ?_
  refine End.kp [0] ?_
  refine Run.seq ?_
  refine Run.go ?_
  refine End.kp [0, 3] ?_
  refine Run.seq ?_
  refine Run.seq ?_
  refine Run.go ?_
  refine End.kp [3, 7, 8, 9] ?_
  refine Run.block ?_
  refine Run.ghost (Ghost.form [(3, .map 0 0), (7, .im (.sl (strs q))), (8, .i q.length), (9, .i (0 : Nat))] 1 ⟨rfl, rfl, rfl, rfl, trivial⟩ rfl rfl) ?_
  refine Run.loop (fun m st => ∃ (i : Nat), m = q.length - i ∧ i ≤ q.length ∧ st = ⟨[(3, .map 0 0), (7, .im (.sl (strs q))), (8, .i q.length), (9, .i (i : Nat))], [.map (ents (q.take i))], up⟩) q.length ⟨0, rfl, by omega, rfl⟩ fun m st hI => ?_
  obtain ⟨i, rfl, hi, rfl⟩ := hI
  refine Run.seq ?_
  have fx := And.intro strs_len ft
  refine Run.go ?_
  refine End.kp [3, 7, 8, 9, 10] ?_
  refine Run.seq ?_
  refine Run.cond _ rfl (fun hb => ?_) (fun hb => ?_)
  · have hb := of_decide_eq_true hb
    have hin : i < q.length := by omega
    have wi := wsucc hin (by omega)
    have hg := strs_get q i hin
    have hno := nodup_take hd i hin
    have hnm := hv _ (getD_mem hin)
    have htk := take_snoc q i ByteArray.empty hin
    generalize q.getD i ByteArray.empty = s at hg hno hnm htk
    have hf1 := find_none s (q.take i) 0 hno
    have hf2 := find_last s (.int .i64 1) (q.take i) 0 hno
    have w1 : IntKind.i64.wrap (0 + 1) = 1 := by decide
    refine Run.skip ?_
    refine End.kp [3, 7, 8, 9] ?_
    refine Run.seq ?_
    refine Run.block ?_
    refine Run.seq ?_
    have fx := And.intro (@Int.toNat_natCast) (And.intro (@Int.natCast_nonneg) (And.intro w1 (And.intro hf2 (And.intro hf1 (And.intro hg (And.intro wi (And.intro strs_len ft)))))))
    refine Run.go ?_
    refine End.kp [3, 5, 7, 8, 9] ?_
    refine Run.seq ?_
    refine Run.seq ?_
    refine Run.region rfl fun K hK => GOps.sim ?_
    refine GOps.call rfl rfl rfl rfl (by kernel_rfl) (ACalls.sim ?_)
    refine (Name_ok s hnm _).mono fun v u hv => ?_
    obtain ⟨rfl, rfl⟩ := hv
    refine ⟨_, _, rfl, GOps.sim ?_⟩
    refine GOps.done (hK _ ?_); clear hK K
    refine End.kp [3, 5, 7, 8, 9, 15] ?_
    refine Run.cond _ rfl (fun hb => ?_) (fun hb => ?_)
    · have hb := hb
      simp at hb
    · have hb := hb
      refine Run.skip ?_
      refine End.kp [3, 5, 7, 8, 9] ?_
      refine Run.seq ?_
      have fx := And.intro (@Int.toNat_natCast) (And.intro (@Int.natCast_nonneg) (And.intro w1 (And.intro hf2 (And.intro hf1 (And.intro hg (And.intro wi (And.intro strs_len ft)))))))
      refine Run.go ?_
      refine End.kp [3, 5, 7, 8, 9] ?_
      refine Run.seq ?_
      refine Run.go ?_
      refine End.kp [3, 7, 8, 9, 23] ?_
      refine Run.cond _ rfl (fun hb => ?_) (fun hb => ?_)
      · have hb := hb
        simp at hb
      · have hb := hb
        refine Run.skip ?_
        refine End.blk ?_
        refine End.kp [3, 7, 8, 9] ?_
        have fx := And.intro (@Int.toNat_natCast) (And.intro (@Int.natCast_nonneg) (And.intro w1 (And.intro hf2 (And.intro hf1 (And.intro hg (And.intro wi (And.intro strs_len ft)))))))
        refine Run.go ?_
        refine End.lp ?_
        refine ⟨q.length - (i + 1), _, by omega, Ghost.form [(3, .map 0 0), (7, .im (.sl (strs q))), (8, .i q.length), (9, .i (i + 1 : Nat))] 1 ⟨rfl, rfl, rfl, rfl, trivial⟩ rfl rfl, i + 1, rfl, by omega, ?_⟩
        rw [htk]
        simp [ents]
  · have hb := of_decide_eq_false hb
    refine Run.exit rfl ?_
    refine End.kp [] ?_
    refine Run.seq ?_
    have fx := And.intro strs_len ft
    refine Run.go ?_
    refine End.kp [2] ?_
    refine Run.ret (hQ _ _ ⟨.inr rfl, _, rfl, _, rfl, ?_⟩)
    exact ⟨rfl, rfl⟩
end Go.Proofs.YtkmnmokjlpenhaaPi
