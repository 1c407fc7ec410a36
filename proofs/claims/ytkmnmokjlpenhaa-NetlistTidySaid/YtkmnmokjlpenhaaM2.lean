/- Part 2 of the proof: the texts WG, WH, WI, WJ, WK, PBits, WM, WN, WP, WQ, PLane, WR, PWords, PNames, WX, WY, WGA, WGB, WGC, WGD, WO, WUA, WGE, WTA, WTB, PTB, WGM, WKA, WKB, WKC, WKD, PBack, WNA, one behind the other. Each holds for every input that it names; no condition is hidden. -/
import Derived.Test.YtkmnmokjlpenhaaM1
import Derived.Test.YtkmnmokjlpenhaaPiMerge
import Derived.Test.YtkmnmokjlpenhaaPiGrowB
import Derived.Test.YtkmnmokjlpenhaaPiGrowL
import Derived.Test.YtkmnmokjlpenhaaPiLit
import Derived.Test.YtkmnmokjlpenhaaPiRes
import Derived.Test.YtkmnmokjlpenhaaPiNest
/- The walks of clones of names, of Name, Names and ends. -/
set_option linter.unusedVariables false
set_option linter.unusedSimpArgs false
set_option maxRecDepth 100000
namespace Go.Proofs.YtkmnmokjlpenhaaPi
theorem CloneS_nil (up : Frs) : ACalls Try.prog 111 [.im (.sl (strs []))] up fun v u => v = .im (.sl (strs [])) ∧ u = up := by
  refine ACalls.code Try.func111 rfl 8 rfl (by simp) [.tmp 2] rfl fun Q hQ => ?_
  simp only [ups, PV.up, argEnv]
  have ft := And.intro ty_4 (And.intro ty_9 (And.intro ty_26 trivial))
  refine Run.seq ?_
  have fx := And.intro (@List.map_nil.{0, 0}) ft
  refine Run.go ?_
  refine End.kp [0] ?_
  refine Run.seq ?_
  refine Run.seq ?_
  refine Run.go ?_
  refine End.kp [0, 4] ?_
  refine Run.cond_any rfl ?_ ?_
  · skip
    refine Run.seq ?_
    have fx := And.intro (@List.map_nil.{0, 0}) ft
    refine Run.go ?_
    refine End.kp [2] ?_
    refine Run.resC hQ ?_
    exact ⟨rfl, rfl⟩
  · skip
    refine Run.skip ?_
    refine End.kp [0] ?_
    refine Run.seq ?_
    have fx := And.intro (@List.map_nil.{0, 0}) ft
    refine Run.go ?_
    refine End.kp [2] ?_
    refine Run.resC hQ ?_
    exact ⟨rfl, rfl⟩
theorem CloneS_cons (x : ByteArray) (xs : List ByteArray) (h : xs.length ≤ 1000000) (up : Frs) : ACalls Try.prog 111 [.im (.sl (strs (x :: xs)))] up fun v u => v = .im (.sl (strs (x :: xs))) ∧ u = up := by
  have hall : (strs xs).all (fun r => r.length == 1) = true := by simp
  have hlen : ((xs.map fun s => [Im.str s]).length + 1) * 16 ≤ 140737488355328 := by rw [List.length_map]; omega
  refine ACalls.code Try.func111 rfl 8 rfl (by simp) [.tmp 2] rfl fun Q hQ => ?_
  simp only [ups, PV.up, argEnv]
  have ft := And.intro ty_4 (And.intro ty_9 (And.intro ty_26 trivial))
  refine Run.seq ?_
  have fx := And.intro hlen (And.intro hall (And.intro (@List.map_cons.{0, 0}) ft))
  refine Run.go ?_
  refine End.kp [0] ?_
  refine Run.seq ?_
  refine Run.seq ?_
  refine Run.go ?_
  refine End.kp [0, 4] ?_
  refine Run.cond _ rfl (fun hb => ?_) (fun hb => ?_)
  · have hb := hb
    simp at hb
  · have hb := hb
    refine Run.skip ?_
    refine End.kp [0] ?_
    refine Run.seq ?_
    have fx := And.intro hlen (And.intro hall (And.intro (@List.map_cons.{0, 0}) ft))
    refine Run.go ?_
    refine End.move (Ghost.shut (t := 2) (j := 0) rfl rfl rfl) ?_
    simp only [eput, edel]
    refine End.kp [2] ?_
    refine Run.ret (hQ _ _ ⟨.inr rfl, _, rfl, _, rfl, ?_⟩)
    exact ⟨rfl, rfl⟩
theorem CloneS_ok (q : List ByteArray) (h : q.length ≤ 1000000) (up : Frs) : ACalls Try.prog 111 [.im (.sl (strs q))] up fun v u => v = .im (.sl (strs q)) ∧ u = up := by
  cases q with
  | nil => exact CloneS_nil up
  | cons x xs => exact CloneS_cons x xs (by simp at h; omega) up
/-- A name that may be: 1 to 128 letters from 33 to 126. -/
structure NameOk (s : ByteArray) : Prop where
  low : 1 ≤ s.size
  high : s.size ≤ 128
  chars : ∀ b ∈ s.data.toList, 33 ≤ b.toNat ∧ b.toNat ≤ 126
theorem byteRows_len (s : ByteArray) : (byteRows s).length = s.size := by simp [byteRows]
theorem byteRows_get (s : ByteArray) (h : NameOk s) (i : Nat) (hi : i < s.size) : ∃ b : Int, 33 ≤ b ∧ b ≤ 126 ∧ (byteRows s)[i]? = some [.int .u8 b] := by
  have hi2 : i < s.data.toList.length := by simpa using hi
  refine ⟨(s.data.toList[i]).toNat, ?_, ?_, ?_⟩
  · have := (h.chars _ (List.getElem_mem hi2)).1; omega
  · have := (h.chars _ (List.getElem_mem hi2)).2; omega
  · simp only [byteRows, List.getElem?_map, List.getElem?_eq_getElem hi2, Option.map_some]
theorem Name_ok (s : ByteArray) (hs : NameOk s) (up : Frs) : ACalls Try.prog 99 [.im (.str s)] up fun v u => v = .im (.bool true) ∧ u = up := by
  have hlow := hs.low
  have hhigh := hs.high
  have d1 : decide ((s.size : Int) < 1) = false := decide_eq_false (by omega)
  have d2 : decide ((s.size : Int) > 128) = false := decide_eq_false (by omega)
  refine ACalls.code Try.func99 rfl 27 rfl (by simp) [.tmp 2] rfl fun Q hQ => ?_
  simp only [ups, PV.up, argEnv]
  have ft := And.intro ty_3 (And.intro ty_4 (And.intro ty_5 (And.intro ty_9 (And.intro ty_165 trivial))))
  refine Run.seq ?_
  have fx := And.intro byteRows_len (And.intro d2 (And.intro d1 ft))
  refine Run.go ?_
  refine End.kp [0] ?_
  refine Run.seq ?_
  refine Run.seq ?_
  refine Run.go ?_
  refine End.kp [0, 12] ?_
  refine Run.cond _ rfl (fun hb => ?_) (fun hb => ?_)
  · have hb := hb
    simp at hb
  · have hb := hb
    refine Run.skip ?_
    refine End.kp [0] ?_
    refine Run.seq ?_
    refine Run.seq ?_
    have fx := And.intro byteRows_len (And.intro d2 (And.intro d1 ft))
    refine Run.go ?_
    refine End.kp [14, 15, 16] ?_
    refine Run.block ?_
    refine Run.ghost (Ghost.form [(14, .im (.sl (byteRows s))), (15, .i s.size), (16, .i (0 : Nat))] 0 ⟨rfl, rfl, rfl, trivial⟩ rfl rfl) ?_
    refine Run.loop (fun m st => ∃ (i : Nat), m = s.size - i ∧ i ≤ s.size ∧ st = ⟨[(14, .im (.sl (byteRows s))), (15, .i s.size), (16, .i (i : Nat))], [], up⟩) s.size ⟨0, rfl, by omega, rfl⟩ fun m st hI => ?_
    obtain ⟨i, rfl, hi, rfl⟩ := hI
    refine Run.seq ?_
    have fx := And.intro byteRows_len (And.intro d2 (And.intro d1 ft))
    refine Run.go ?_
    refine End.kp [14, 15, 16, 17] ?_
    refine Run.seq ?_
    refine Run.cond _ rfl (fun hb => ?_) (fun hb => ?_)
    · have hb := of_decide_eq_true hb
      have hin : i < s.size := by omega
      have wi := wsucc hin (by omega)
      obtain ⟨b, b1, b2, hg⟩ := byteRows_get s hs i hin
      have d3 : decide (b < 33) = false := decide_eq_false (by omega)
      have d4 : decide (b > 126) = false := decide_eq_false (by omega)
      refine Run.skip ?_
      refine End.kp [14, 15, 16] ?_
      refine Run.seq ?_
      refine Run.block ?_
      refine Run.seq ?_
      have fx := And.intro (@Int.toNat_natCast) (And.intro (@Int.natCast_nonneg) (And.intro d4 (And.intro d3 (And.intro hg (And.intro wi (And.intro byteRows_len (And.intro d2 (And.intro d1 ft))))))))
      refine Run.go ?_
      refine End.kp [4, 14, 15, 16] ?_
      refine Run.seq ?_
      refine Run.go ?_
      refine End.kp [14, 15, 16, 25] ?_
      refine Run.cond _ rfl (fun hb => ?_) (fun hb => ?_)
      · have hb := hb
        simp at hb
      · have hb := hb
        refine Run.skip ?_
        refine End.blk ?_
        refine End.kp [14, 15, 16] ?_
        have fx := And.intro (@Int.toNat_natCast) (And.intro (@Int.natCast_nonneg) (And.intro d4 (And.intro d3 (And.intro hg (And.intro wi (And.intro byteRows_len (And.intro d2 (And.intro d1 ft))))))))
        refine Run.go ?_
        refine End.lp ?_
        refine ⟨s.size - (i + 1), _, by omega, Ghost.form [(14, .im (.sl (byteRows s))), (15, .i s.size), (16, .i (i + 1 : Nat))] 0 ⟨rfl, rfl, rfl, trivial⟩ rfl rfl, i + 1, rfl, by omega, rfl⟩
    · have hb := of_decide_eq_false hb
      refine Run.exit rfl ?_
      refine End.kp [] ?_
      refine Run.seq ?_
      have fx := And.intro byteRows_len (And.intro d2 (And.intro d1 ft))
      refine Run.go ?_
      refine End.kp [2] ?_
      refine Run.ret (hQ _ _ ⟨.inr rfl, _, rfl, _, rfl, ?_⟩)
      exact ⟨rfl, rfl⟩
def ents (l : List ByteArray) : List (List Im × Im) := l.map fun s => ([.str s], .int .i64 1)
theorem same_ne (s x : ByteArray) (h : x ≠ s) : sameIm Try.prog 9 (.str s) (.str x) = some false := by
  simp only [sameIm, ty_9, if_true, Option.some.injEq]
  have := mt (MapKept.bytes_beq s x).1 (fun e => h e.symm)
  simpa using this
theorem find_none (s : ByteArray) : ∀ (l : List ByteArray) (i : Nat), s ∉ l → findIm Try.prog 9 (.str s) (ents l) i = some none
  | [], i, _ => rfl
  | x :: xs, i, h => by
    simp only [List.mem_cons, not_or] at h
    simp only [ents, List.map_cons, findIm, same_ne s x (fun e => h.1 e.symm)]
    exact find_none s xs (i + 1) h.2
theorem find_last (s : ByteArray) (v : Im) : ∀ (l : List ByteArray) (i : Nat), s ∉ l → findIm Try.prog 9 (.str s) (ents l ++ [([.str s], v)]) i = some (some (i + l.length, v))
  | [], i, _ => by
    have : sameIm Try.prog 9 (.str s) (.str s) = some true := by
      simp only [sameIm, ty_9, if_true, Option.some.injEq]
      exact (MapKept.bytes_beq s s).2 rfl
    simp only [ents, List.map_nil, List.nil_append, findIm, this, List.length_nil, Nat.add_zero]
  | x :: xs, i, h => by
    simp only [List.mem_cons, not_or] at h
    simp only [ents, List.map_cons, List.cons_append, findIm, same_ne s x (fun e => h.1 e.symm)]
    have := find_last s v xs (i + 1) h.2
    simp only [ents] at this
    rw [this, List.length_cons]
    congr 3
    omega
theorem nodup_take {l : List ByteArray} (h : l.Nodup) (i : Nat) (hi : i < l.length) : l.getD i ByteArray.empty ∉ l.take i := by
  intro hm
  obtain ⟨k, hk, e⟩ := List.getElem_of_mem hm
  have hk2 : k < i := by simp at hk; omega
  rw [List.getElem_take] at e
  have e2 : l.getD i ByteArray.empty = l[i] := by simp [hi]
  rw [e2] at e
  have := (List.getElem_inj h).1 e
  omega
theorem strs_get (l : List ByteArray) (i : Nat) (h : i < l.length) : (strs l)[i]? = some [.str (l.getD i ByteArray.empty)] := by simp [h]
theorem getD_mem {l : List ByteArray} {i : Nat} (h : i < l.length) : l.getD i ByteArray.empty ∈ l := by
  have e2 : l.getD i ByteArray.empty = l[i] := by simp [h]
  rw [e2]
  exact List.getElem_mem h
theorem Names_ok (q : List ByteArray) (hq : q.length ≤ 1000000) (hv : ∀ s ∈ q, NameOk s) (hd : q.Nodup) (up : Frs) : ACalls Try.prog 133 [.im (.sl (strs q))] up fun v u => v = .i 0 ∧ u = up := by
  refine ACalls.code Try.func133 rfl 25 rfl (by simp) [.tmp 2] rfl fun Q hQ => ?_
  simp only [ups, PV.up, argEnv]
  have ft := And.intro ty_3 (And.intro ty_4 (And.intro ty_9 (And.intro ty_26 (And.intro ty_34 (And.intro ty_208 trivial)))))
  refine Run.seq ?_
  have fx := And.intro strs_len ft
  refine Run.go ?_
  refine End.kp [0] ?_
  refine Run.seq ?_
  refine Run.go ?_
  refine End.kp [0, 3] ?_
  refine Run.seq ?_
  refine Run.seq ?_
  refine Run.go ?_
  refine End.kp [3, 7, 8, 9] ?_
  refine Run.block ?_
  refine Run.ghost (Ghost.form [(3, .map 0 0), (7, .im (.sl (strs q))), (8, .i q.length), (9, .i (0 : Nat))] 1 ⟨rfl, rfl, rfl, rfl, trivial⟩ rfl rfl) ?_
  refine Run.loop (fun m st => ∃ (i : Nat), m = q.length - i ∧ i ≤ q.length ∧ st = ⟨[(3, .map 0 0), (7, .im (.sl (strs q))), (8, .i q.length), (9, .i (i : Nat))], [.map (ents (q.take i))], up⟩) q.length ⟨0, rfl, by omega, rfl⟩ fun m st hI => ?_
  obtain ⟨i, rfl, hi, rfl⟩ := hI
  refine Run.seq ?_
  have fx := And.intro strs_len ft
  refine Run.go ?_
  refine End.kp [3, 7, 8, 9, 10] ?_
  refine Run.seq ?_
  refine Run.cond _ rfl (fun hb => ?_) (fun hb => ?_)
  · have hb := of_decide_eq_true hb
    have hin : i < q.length := by omega
    have wi := wsucc hin (by omega)
    have hg := strs_get q i hin
    have hno := nodup_take hd i hin
    have hnm := hv _ (getD_mem hin)
    have htk := take_snoc q i ByteArray.empty hin
    generalize q.getD i ByteArray.empty = s at hg hno hnm htk
    have hf1 := find_none s (q.take i) 0 hno
    have hf2 := find_last s (.int .i64 1) (q.take i) 0 hno
    have w1 : IntKind.i64.wrap (0 + 1) = 1 := by decide
    refine Run.skip ?_
    refine End.kp [3, 7, 8, 9] ?_
    refine Run.seq ?_
    refine Run.block ?_
    refine Run.seq ?_
    have fx := And.intro (@Int.toNat_natCast) (And.intro (@Int.natCast_nonneg) (And.intro w1 (And.intro hf2 (And.intro hf1 (And.intro hg (And.intro wi (And.intro strs_len ft)))))))
    refine Run.go ?_
    refine End.kp [3, 5, 7, 8, 9] ?_
    refine Run.seq ?_
    refine Run.seq ?_
    refine Run.region rfl fun K hK => GOps.sim ?_
    refine GOps.call rfl rfl rfl rfl (by kernel_rfl) (ACalls.sim ?_)
    refine (Name_ok s hnm _).mono fun v u hv => ?_
    obtain ⟨rfl, rfl⟩ := hv
    refine ⟨_, _, rfl, GOps.sim ?_⟩
    refine GOps.done (hK _ ?_); clear hK K
    refine End.kp [3, 5, 7, 8, 9, 15] ?_
    refine Run.cond _ rfl (fun hb => ?_) (fun hb => ?_)
    · have hb := hb
      simp at hb
    · have hb := hb
      refine Run.skip ?_
      refine End.kp [3, 5, 7, 8, 9] ?_
      refine Run.seq ?_
      have fx := And.intro (@Int.toNat_natCast) (And.intro (@Int.natCast_nonneg) (And.intro w1 (And.intro hf2 (And.intro hf1 (And.intro hg (And.intro wi (And.intro strs_len ft)))))))
      refine Run.go ?_
      refine End.kp [3, 5, 7, 8, 9] ?_
      refine Run.seq ?_
      refine Run.go ?_
      refine End.kp [3, 7, 8, 9, 23] ?_
      refine Run.cond _ rfl (fun hb => ?_) (fun hb => ?_)
      · have hb := hb
        simp at hb
      · have hb := hb
        refine Run.skip ?_
        refine End.blk ?_
        refine End.kp [3, 7, 8, 9] ?_
        have fx := And.intro (@Int.toNat_natCast) (And.intro (@Int.natCast_nonneg) (And.intro w1 (And.intro hf2 (And.intro hf1 (And.intro hg (And.intro wi (And.intro strs_len ft)))))))
        refine Run.go ?_
        refine End.lp ?_
        refine ⟨q.length - (i + 1), _, by omega, Ghost.form [(3, .map 0 0), (7, .im (.sl (strs q))), (8, .i q.length), (9, .i (i + 1 : Nat))] 1 ⟨rfl, rfl, rfl, rfl, trivial⟩ rfl rfl, i + 1, rfl, by omega, ?_⟩
        rw [htk]
        simp [ents]
  · have hb := of_decide_eq_false hb
    refine Run.exit rfl ?_
    refine End.kp [] ?_
    refine Run.seq ?_
    have fx := And.intro strs_len ft
    refine Run.go ?_
    refine End.kp [2] ?_
    refine Run.ret (hQ _ _ ⟨.inr rfl, _, rfl, _, rfl, ?_⟩)
    exact ⟨rfl, rfl⟩
end Go.Proofs.YtkmnmokjlpenhaaPi

/- The walks of ends and of clones that go over to the caller. -/
set_option linter.unusedVariables false
set_option linter.unusedSimpArgs false
set_option maxRecDepth 100000
namespace Go.Proofs.YtkmnmokjlpenhaaPi
theorem CloneX_nil (f : List AObj) (rest : Frs) : ACalls Try.prog 111 [.im (.sl (strs []))] (f :: rest) fun v u => v = .ms 0 (f.length + 0) 0 ∧ u = (f ++ [.row 9 1 (strs []) 0]) :: rest := by
  refine ACalls.codeX Try.func111 rfl 8 rfl (by simp) [.tmp 2] rfl fun Q hQ => ?_
  simp only [ups, PV.up, argEnv]
  have ft := And.intro ty_4 (And.intro ty_9 (And.intro ty_26 trivial))
  refine Run.seq ?_
  have fx := And.intro (@List.map_nil.{0, 0}) ft
  refine Run.go ?_
  refine End.kp [0] ?_
  refine Run.seq ?_
  refine Run.seq ?_
  refine Run.go ?_
  refine End.kp [0, 4] ?_
  refine Run.cond_any rfl ?_ ?_
  · skip
    refine Run.seq ?_
    have fx := And.intro (@List.map_nil.{0, 0}) ft
    refine Run.go ?_
    refine End.move (Ghost.thaw (u := 2) 9 1 (by decide) rfl) ?_
    refine End.kp [2] ?_
    refine Run.ret (hQ _ _ ⟨.inr rfl, _, rfl, _, _, rfl, ?_⟩)
    exact ⟨rfl, rfl⟩
  · skip
    refine Run.skip ?_
    refine End.kp [0] ?_
    refine Run.seq ?_
    have fx := And.intro (@List.map_nil.{0, 0}) ft
    refine Run.go ?_
    refine End.kp [2] ?_
    refine Run.ret (hQ _ _ ⟨.inr rfl, _, rfl, _, _, rfl, ?_⟩)
    exact ⟨rfl, rfl⟩
theorem CloneX_cons (x : ByteArray) (xs : List ByteArray) (h : xs.length ≤ 1000000) (f : List AObj) (rest : Frs) : ACalls Try.prog 111 [.im (.sl (strs (x :: xs)))] (f :: rest) fun v u => v = .ms 0 (f.length + 0) (x :: xs).length ∧ u = (f ++ [.row 9 1 (strs (x :: xs)) 0]) :: rest := by
  have hall : (strs xs).all (fun r => r.length == 1) = true := by simp
  have hlen : (xs.length + 1) * 16 ≤ 140737488355328 := by omega
  refine ACalls.codeX Try.func111 rfl 8 rfl (by simp) [.tmp 2] rfl fun Q hQ => ?_
  simp only [ups, PV.up, argEnv]
  have ft := And.intro ty_4 (And.intro ty_9 (And.intro ty_26 trivial))
  refine Run.seq ?_
  have fx := And.intro (@List.length_map.{0, 0}) (And.intro hlen (And.intro hall (And.intro (@List.map_cons.{0, 0}) ft)))
  refine Run.go ?_
  refine End.kp [0] ?_
  refine Run.seq ?_
  refine Run.seq ?_
  refine Run.go ?_
  refine End.kp [0, 4] ?_
  refine Run.cond _ rfl (fun hb => ?_) (fun hb => ?_)
  · have hb := hb
    simp at hb
  · have hb := hb
    refine Run.skip ?_
    refine End.kp [0] ?_
    refine Run.seq ?_
    have fx := And.intro (@List.length_map.{0, 0}) (And.intro hlen (And.intro hall (And.intro (@List.map_cons.{0, 0}) ft)))
    refine Run.go ?_
    refine End.kp [2] ?_
    refine Run.ret (hQ _ _ ⟨.inr rfl, _, rfl, _, _, rfl, ?_⟩)
    exact ⟨rfl, rfl⟩
theorem CloneX_ok (q : List ByteArray) (h : q.length ≤ 1000000) (f : List AObj) (rest : Frs) : ACalls Try.prog 111 [.im (.sl (strs q))] (f :: rest) fun v u => v = .ms 0 (f.length + 0) q.length ∧ u = (f ++ [.row 9 1 (strs q) 0]) :: rest := by
  cases q with
  | nil => exact CloneX_nil f rest
  | cons x xs => exact CloneX_cons x xs (by simp at h; omega) f rest
structure EndsOk (n : LNet) : Prop where
  flops : ∀ f ∈ n.flops, (0 ≤ f.d ∧ f.d < 2 + n.inn.length + n.flops.length + n.gates.length) ∧ 0 ≤ f.en ∧ f.en < 2 + n.inn.length + n.flops.length + n.gates.length
  outs : ∀ k ∈ n.outs, 0 ≤ k ∧ k < 2 + n.inn.length + n.flops.length + n.gates.length
abbrev lanes0 (l : List Bool) : List Int := l.map fun b => if b = true then 1 else 0
theorem flop_at (l : List LFlop) (i : Nat) (h : i < l.length) : ∃ f, l[i]? = some f ∧ f ∈ l ∧ (l.map LFlop.im)[i]? = some [.str f.name, .int .i64 (-1), .int .i64 f.d, .int .i64 f.en, .bool f.init] :=
  ⟨l[i], by simp [h], List.getElem_mem h, by simp [h]⟩
theorem gate_at (l : List LGate) (i : Nat) (h : i < l.length) : ∃ g, l[i]? = some g ∧ g ∈ l ∧ (l.map LGate.im)[i]? = some [.int .i64 (-1), .int .u64 g.table, .sl (ints g.ins)] :=
  ⟨l[i], by simp [h], List.getElem_mem h, by simp [h]⟩
theorem int_at (l : List Int) (i : Nat) (h : i < l.length) : ∃ x, l[i]? = some x ∧ x ∈ l ∧ (ints l)[i]? = some [.int .i64 x] :=
  ⟨l[i], by simp [h], List.getElem_mem h, by simp [h]⟩
theorem ends_ok (n : LNet) (hn : NetSmall n) (he : EndsOk n) (up : Frs) : ACalls Try.prog 134 [n.pv] up fun v u => v = .i 0 ∧ u = up := by
  have hn2 := hn
  obtain ⟨z1, z2, z3, z4, z5⟩ := hn
  refine ACalls.code Try.func134 rfl 53 rfl (by simp) [.tmp 2] rfl fun Q hQ => ?_
  simp only [ups, PV.up, argEnv]
  have ft := And.intro ty_2 (And.intro ty_3 (And.intro ty_4 (And.intro ty_22 (And.intro ty_27 (And.intro ty_30 (And.intro ty_34 (And.intro ty_78 trivial)))))))
  refine Run.seq ?_
  have fx := And.intro ints_len (And.intro fim_len ft)
  refine Run.go ?_
  refine End.kp [1] ?_
  refine Run.seq ?_
  refine Run.region rfl fun K hK => GOps.sim ?_
  refine GOps.call rfl rfl rfl rfl (by kernel_rfl) (ACalls.sim ?_)
  refine (Nets_ok n hn2 _).mono fun v u hv => ?_
  obtain ⟨rfl, rfl⟩ := hv
  refine ⟨_, _, rfl, GOps.sim ?_⟩
  refine GOps.done (hK _ ?_); clear hK K
  refine End.kp [1, 3] ?_
  refine Run.seq ?_
  refine Run.seq ?_
  refine Run.go ?_
  refine End.kp [1, 3, 11, 12, 13] ?_
  refine Run.block ?_
  refine Run.ghost (Ghost.form [(1, .ptr 0 0 0), (3, .i (2 + n.inn.length + n.flops.length + n.gates.length)), (11, .im (.sl (n.flops.map LFlop.im))), (12, .i n.flops.length), (13, .i (0 : Nat))] 1 ⟨rfl, rfl, rfl, rfl, rfl, trivial⟩ rfl rfl) ?_
  refine Run.loop (fun m st => ∃ (i : Nat), m = n.flops.length - i ∧ i ≤ n.flops.length ∧ st = ⟨[(1, .ptr 0 0 0), (3, .i (2 + n.inn.length + n.flops.length + n.gates.length)), (11, .im (.sl (n.flops.map LFlop.im))), (12, .i n.flops.length), (13, .i (i : Nat))], [.box [.im (.sl (strs n.inn)), .im (.sl (strs n.out)), .im (.sl (n.flops.map LFlop.im)), .im (.sl (n.gates.map LGate.im)), .im (.sl (ints n.outs))]], up⟩) n.flops.length ⟨0, rfl, by omega, rfl⟩ fun m st hI => ?_
  obtain ⟨i, rfl, hi, rfl⟩ := hI
  refine Run.seq ?_
  have fx := And.intro ints_len (And.intro fim_len ft)
  refine Run.go ?_
  refine End.kp [1, 3, 11, 12, 13, 14] ?_
  refine Run.seq ?_
  refine Run.cond _ rfl (fun hb => ?_) (fun hb => ?_)
  · have hb := of_decide_eq_true hb
    have hin : i < n.flops.length := by omega
    have wi := wsucc hin (by omega)
    obtain ⟨f, _, hfm, hg⟩ := flop_at n.flops i hin
    obtain ⟨⟨e1, e2⟩, e3, e4⟩ := he.flops f hfm
    have d1 : decide (f.d < 0) = false := decide_eq_false (by omega)
    have d2 : decide (f.d ≥ 2 + (n.inn.length : Int) + n.flops.length + n.gates.length) = false := decide_eq_false (by omega)
    have d3 : decide (f.en < 0) = false := decide_eq_false (by omega)
    have d4 : decide (f.en ≥ 2 + (n.inn.length : Int) + n.flops.length + n.gates.length) = false := decide_eq_false (by omega)
    refine Run.skip ?_
    refine End.kp [1, 3, 11, 12, 13] ?_
    refine Run.seq ?_
    refine Run.block ?_
    refine Run.seq ?_
    have fx := And.intro (@Int.toNat_natCast) (And.intro (@Int.natCast_nonneg) (And.intro d4 (And.intro d3 (And.intro d2 (And.intro d1 (And.intro hg (And.intro wi (And.intro ints_len (And.intro fim_len ft)))))))))
    refine Run.go ?_
    refine End.kp [1, 3, 5, 11, 12, 13] ?_
    refine Run.seq ?_
    refine Run.go ?_
    refine End.kp [1, 3, 11, 12, 13, 36] ?_
    refine Run.cond _ rfl (fun hb => ?_) (fun hb => ?_)
    · have hb := hb
      simp at hb
    · have hb := hb
      refine Run.skip ?_
      refine End.blk ?_
      refine End.kp [1, 3, 11, 12, 13] ?_
      have fx := And.intro (@Int.toNat_natCast) (And.intro (@Int.natCast_nonneg) (And.intro d4 (And.intro d3 (And.intro d2 (And.intro d1 (And.intro hg (And.intro wi (And.intro ints_len (And.intro fim_len ft)))))))))
      refine Run.go ?_
      refine End.lp ?_
      refine ⟨n.flops.length - (i + 1), _, by omega, Ghost.form [(1, .ptr 0 0 0), (3, .i (2 + n.inn.length + n.flops.length + n.gates.length)), (11, .im (.sl (n.flops.map LFlop.im))), (12, .i n.flops.length), (13, .i (i + 1 : Nat))] 1 ⟨rfl, rfl, rfl, rfl, rfl, trivial⟩ rfl rfl, i + 1, rfl, by omega, rfl⟩
  · have hb := of_decide_eq_false hb
    refine Run.exit rfl ?_
    refine End.kp [1, 3] ?_
    refine Run.seq ?_
    refine Run.seq ?_
    have fx := And.intro ints_len (And.intro fim_len ft)
    refine Run.go ?_
    refine End.kp [3, 39, 40, 41] ?_
    refine Run.block ?_
    refine Run.ghost (Ghost.form [(3, .i (2 + n.inn.length + n.flops.length + n.gates.length)), (39, .im (.sl (ints n.outs))), (40, .i n.outs.length), (41, .i (0 : Nat))] 0 ⟨rfl, rfl, rfl, rfl, trivial⟩ rfl rfl) ?_
    refine Run.loop (fun m st => ∃ (i : Nat), m = n.outs.length - i ∧ i ≤ n.outs.length ∧ st = ⟨[(3, .i (2 + n.inn.length + n.flops.length + n.gates.length)), (39, .im (.sl (ints n.outs))), (40, .i n.outs.length), (41, .i (i : Nat))], [], up⟩) n.outs.length ⟨0, rfl, by omega, rfl⟩ fun m st hI => ?_
    obtain ⟨i, rfl, hi, rfl⟩ := hI
    refine Run.seq ?_
    have fx := And.intro ints_len (And.intro fim_len ft)
    refine Run.go ?_
    refine End.kp [3, 39, 40, 41, 42] ?_
    refine Run.seq ?_
    refine Run.cond _ rfl (fun hb => ?_) (fun hb => ?_)
    · have hb := of_decide_eq_true hb
      have hin : i < n.outs.length := by omega
      have wi := wsucc hin (by omega)
      obtain ⟨f, _, hfm, hg⟩ := int_at n.outs i hin
      obtain ⟨e1, e2⟩ := he.outs f hfm
      have d1 : decide (f < 0) = false := decide_eq_false (by omega)
      have d2 : decide (f ≥ 2 + (n.inn.length : Int) + n.flops.length + n.gates.length) = false := decide_eq_false (by omega)
      refine Run.skip ?_
      refine End.kp [3, 39, 40, 41] ?_
      refine Run.seq ?_
      refine Run.block ?_
      refine Run.seq ?_
      have fx := And.intro (@Int.toNat_natCast) (And.intro (@Int.natCast_nonneg) (And.intro d2 (And.intro d1 (And.intro hg (And.intro wi (And.intro ints_len (And.intro fim_len ft)))))))
      refine Run.go ?_
      refine End.kp [3, 7, 39, 40, 41] ?_
      refine Run.seq ?_
      refine Run.go ?_
      refine End.kp [3, 39, 40, 41, 51] ?_
      refine Run.cond _ rfl (fun hb => ?_) (fun hb => ?_)
      · have hb := hb
        simp at hb
      · have hb := hb
        refine Run.skip ?_
        refine End.blk ?_
        refine End.kp [3, 39, 40, 41] ?_
        have fx := And.intro (@Int.toNat_natCast) (And.intro (@Int.natCast_nonneg) (And.intro d2 (And.intro d1 (And.intro hg (And.intro wi (And.intro ints_len (And.intro fim_len ft)))))))
        refine Run.go ?_
        refine End.lp ?_
        refine ⟨n.outs.length - (i + 1), _, by omega, Ghost.form [(3, .i (2 + n.inn.length + n.flops.length + n.gates.length)), (39, .im (.sl (ints n.outs))), (40, .i n.outs.length), (41, .i (i + 1 : Nat))] 0 ⟨rfl, rfl, rfl, rfl, trivial⟩ rfl rfl, i + 1, rfl, by omega, rfl⟩
    · have hb := of_decide_eq_false hb
      refine Run.exit rfl ?_
      refine End.kp [] ?_
      refine Run.seq ?_
      have fx := And.intro ints_len (And.intro fim_len ft)
      refine Run.go ?_
      refine End.kp [2] ?_
      refine Run.ret (hQ _ _ ⟨.inr rfl, _, rfl, _, rfl, ?_⟩)
      exact ⟨rfl, rfl⟩
end Go.Proofs.YtkmnmokjlpenhaaPi

/- The walk of Form: a netlist whose parts are in order is accepted. -/
set_option linter.unusedVariables false
set_option linter.unusedSimpArgs false
set_option maxRecDepth 100000
namespace Go.Proofs.YtkmnmokjlpenhaaPi

structure NetOk (n : LNet) : Prop where
  small : NetSmall n
  names : ∀ s ∈ n.inn ++ n.flops.map LFlop.name, NameOk s
  nodup : (n.inn ++ n.flops.map LFlop.name).Nodup
  onames : ∀ s ∈ n.out, NameOk s
  onodup : n.out.Nodup
  olen : n.out.length = n.outs.length
  gates : ∀ (i : Nat) (g : LGate), n.gates[i]? = some g → g.ins.length ≤ 6 ∧ bits .andNot .u64 g.table (2 ^ ((2 : Int) ^ g.ins.length).toNat - 1) = 0 ∧ ∀ k ∈ g.ins, 0 ≤ k ∧ k < 2 + n.inn.length + n.flops.length + i
  ends : EndsOk n
abbrev nms (n : LNet) (i : Nat) : List ByteArray := n.inn ++ (n.flops.take i).map LFlop.name
theorem nms_len (n : LNet) (i : Nat) (h : i ≤ n.flops.length) : (strs (nms n i)).length = n.inn.length + i := by simp; omega
theorem nms_next (n : LNet) (i : Nat) (f : LFlop) (h : n.flops[i]? = some f) : nms n (i + 1) = nms n i ++ [f.name] := by simp [nms, List.take_add_one, h]
theorem Form_ok (n : LNet) (hn : NetOk n) (up : Frs) : ACalls Try.prog 78 [n.pv] up fun v u => v = .i 0 ∧ u = up := by
  have hsm := hn.small
  obtain ⟨z1, z2, z3, z4, z5⟩ := hn.small
  have d1 : decide ((n.inn.length : Int) > 128) = false := decide_eq_false (by omega)
  have d2 : decide ((n.out.length : Int) > 128) = false := decide_eq_false (by omega)
  have d3 : decide ((n.flops.length : Int) > 288) = false := decide_eq_false (by omega)
  have d4 : decide ((n.gates.length : Int) > 1200) = false := decide_eq_false (by omega)
  have d5 : ((n.out.length : Int) != n.outs.length) = false := by rw [hn.olen]; simp
  refine ACalls.code Try.func78 rfl 111 rfl (by simp) [.tmp 2] rfl fun Q hQ => ?_
  simp only [ups, PV.up, argEnv]
  have ft := And.intro ty_2 (And.intro ty_3 (And.intro ty_4 (And.intro ty_9 (And.intro ty_22 (And.intro ty_26 (And.intro ty_27 (And.intro ty_28 (And.intro ty_30 (And.intro ty_34 (And.intro ty_37 (And.intro ty_39 (And.intro ty_78 trivial))))))))))))
  refine Run.seq ?_
  have fx := And.intro d5 (And.intro d4 (And.intro d3 (And.intro d2 (And.intro d1 (And.intro ints_len (And.intro gim_len (And.intro fim_len (And.intro strs_len ft))))))))
  refine Run.go ?_
  refine End.kp [1] ?_
  refine Run.seq ?_
  refine Run.seq ?_
  refine Run.go ?_
  refine End.kp [1, 34] ?_
  refine Run.cond _ rfl (fun hb => ?_) (fun hb => ?_)
  · have hb := hb
    simp at hb
  · have hb := hb
    refine Run.skip ?_
    refine End.kp [1] ?_
    refine Run.seq ?_
    refine Run.seq ?_
    have fx := And.intro d5 (And.intro d4 (And.intro d3 (And.intro d2 (And.intro d1 (And.intro ints_len (And.intro gim_len (And.intro fim_len (And.intro strs_len ft))))))))
    refine Run.go ?_
    refine End.kp [1, 41] ?_
    refine Run.cond _ rfl (fun hb => ?_) (fun hb => ?_)
    · have hb := hb
      simp at hb
    · have hb := hb
      refine Run.skip ?_
      refine End.kp [1] ?_
      refine Run.seq ?_
      have fx := And.intro d5 (And.intro d4 (And.intro d3 (And.intro d2 (And.intro d1 (And.intro ints_len (And.intro gim_len (And.intro fim_len (And.intro strs_len ft))))))))
      refine Run.region rfl fun K hK => GOps.sim ?_
      refine GOps.call rfl rfl rfl rfl (by kernel_rfl) (ACalls.sim ?_)
      refine (CloneX_ok n.inn (by omega) _ _).mono fun v u hv => ?_
      obtain ⟨rfl, rfl⟩ := hv
      refine ⟨_, _, rfl, GOps.sim ?_⟩
      refine GOps.done (hK _ ?_); clear hK K
      refine End.kp [1, 3] ?_
      refine Run.seq ?_
      refine Run.seq ?_
      refine Run.go ?_
      refine End.kp [1, 3, 46, 47, 48] ?_
      refine Run.block ?_
      refine Run.ghost (Ghost.form [(1, .ptr 0 0 0), (3, .ms 0 1 (n.inn.length + 0)), (46, .im (.sl (n.flops.map LFlop.im))), (47, .i n.flops.length), (48, .i (0 : Nat))] 2 ⟨rfl, rfl, rfl, rfl, rfl, trivial⟩ rfl rfl) ?_
      refine Run.loop (fun m st => ∃ (i : Nat), m = n.flops.length - i ∧ i ≤ n.flops.length ∧ st = ⟨[(1, .ptr 0 0 0), (3, .ms 0 1 (n.inn.length + i)), (46, .im (.sl (n.flops.map LFlop.im))), (47, .i n.flops.length), (48, .i (i : Nat))], [.box [.im (.sl (strs n.inn)), .im (.sl (strs n.out)), .im (.sl (n.flops.map LFlop.im)), .im (.sl (n.gates.map LGate.im)), .im (.sl (ints n.outs))], .row 9 1 (strs (nms n i)) 0], up⟩) n.flops.length ⟨0, rfl, by omega, by simp⟩ fun m st hI => ?_
      obtain ⟨i, rfl, hi, rfl⟩ := hI
      have hsl := nms_len n i hi
      have hap : (n.inn.length + i + 1) * 16 ≤ 140737488355328 := by omega
      refine Run.seq ?_
      have fx := And.intro hap (And.intro hsl (And.intro d5 (And.intro d4 (And.intro d3 (And.intro d2 (And.intro d1 (And.intro ints_len (And.intro gim_len (And.intro fim_len (And.intro strs_len ft))))))))))
      refine Run.go ?_
      refine End.kp [1, 3, 46, 47, 48, 49] ?_
      refine Run.seq ?_
      refine Run.cond _ rfl (fun hb => ?_) (fun hb => ?_)
      · have hb := of_decide_eq_true hb
        have hin : i < n.flops.length := by omega
        have wi := wsucc hin (by omega)
        obtain ⟨f, hf, hfm, hg⟩ := flop_at n.flops i hin
        refine Run.skip ?_
        refine End.kp [1, 3, 46, 47, 48] ?_
        refine Run.seq ?_
        refine Run.block ?_
        refine Run.seq ?_
        have fx := And.intro (@Int.toNat_natCast) (And.intro (@Int.natCast_nonneg) (And.intro hg (And.intro wi (And.intro hap (And.intro hsl (And.intro d5 (And.intro d4 (And.intro d3 (And.intro d2 (And.intro d1 (And.intro ints_len (And.intro gim_len (And.intro fim_len (And.intro strs_len ft))))))))))))))
        refine Run.go ?_
        refine End.kp [1, 3, 5, 46, 47, 48] ?_
        refine Run.go ?_
        refine End.blk ?_
        refine End.kp [1, 3, 46, 47, 48] ?_
        refine Run.go ?_
        refine End.lp ?_
        refine ⟨n.flops.length - (i + 1), _, by omega, Ghost.form [(1, .ptr 0 0 0), (3, .ms 0 1 (n.inn.length + (i + 1))), (46, .im (.sl (n.flops.map LFlop.im))), (47, .i n.flops.length), (48, .i (i + 1 : Nat))] 2 ⟨rfl, rfl, rfl, rfl, rfl, trivial⟩ rfl rfl, i + 1, rfl, by omega, ?_⟩
        rw [nms_next n i f hf]
        simp
      · have hb := of_decide_eq_false hb
        have hiN : i = n.flops.length := by omega
        subst hiN
        have hall : nms n n.flops.length = n.inn ++ n.flops.map LFlop.name := by simp [nms]
        refine Run.exit rfl ?_
        refine End.kp [1, 3] ?_
        refine Run.seq ?_
        refine Run.seq ?_
        have fx := And.intro hap (And.intro hsl (And.intro d5 (And.intro d4 (And.intro d3 (And.intro d2 (And.intro d1 (And.intro ints_len (And.intro gim_len (And.intro fim_len (And.intro strs_len ft))))))))))
        refine Run.region rfl fun K hK => GOps.sim ?_
        refine GOps.call rfl rfl rfl rfl (by kernel_rfl) (ACalls.sim ?_)
        refine (Names_ok (nms n n.flops.length) (by rw [hall]; simp; omega) (by rw [hall]; exact hn.names) (by rw [hall]; exact hn.nodup) _).mono fun v u hv => ?_
        obtain ⟨rfl, rfl⟩ := hv
        refine ⟨_, _, rfl, GOps.sim ?_⟩
        refine GOps.done (hK _ ?_); clear hK K
        refine End.kp [1, 6] ?_
        refine Run.seq ?_
        refine Run.go ?_
        refine End.kp [1, 6, 61] ?_
        refine Run.cond _ rfl (fun hb => ?_) (fun hb => ?_)
        · have hb := hb
          simp at hb
        · have hb := hb
          refine Run.skip ?_
          refine End.kp [1] ?_
          refine Run.seq ?_
          refine Run.seq ?_
          have fx := And.intro hap (And.intro hsl (And.intro d5 (And.intro d4 (And.intro d3 (And.intro d2 (And.intro d1 (And.intro ints_len (And.intro gim_len (And.intro fim_len (And.intro strs_len ft))))))))))
          refine Run.region rfl fun K hK => GOps.sim ?_
          refine GOps.call rfl rfl rfl rfl (by kernel_rfl) (ACalls.sim ?_)
          refine (Names_ok n.out (by omega) hn.onames hn.onodup _).mono fun v u hv => ?_
          obtain ⟨rfl, rfl⟩ := hv
          refine ⟨_, _, rfl, GOps.sim ?_⟩
          refine GOps.done (hK _ ?_); clear hK K
          refine End.kp [1, 7] ?_
          refine Run.seq ?_
          refine Run.go ?_
          refine End.kp [1, 7, 67] ?_
          refine Run.cond _ rfl (fun hb => ?_) (fun hb => ?_)
          · have hb := hb
            simp at hb
          · have hb := hb
            refine Run.skip ?_
            refine End.kp [1] ?_
            refine Run.seq ?_
            have fx := And.intro hap (And.intro hsl (And.intro d5 (And.intro d4 (And.intro d3 (And.intro d2 (And.intro d1 (And.intro ints_len (And.intro gim_len (And.intro fim_len (And.intro strs_len ft))))))))))
            refine Run.region rfl fun K hK => GOps.sim ?_
            refine GOps.call rfl rfl rfl rfl (by kernel_rfl) (ACalls.sim ?_)
            refine (First_ok n hsm _).mono fun v u hv => ?_
            obtain ⟨rfl, rfl⟩ := hv
            refine ⟨_, _, rfl, GOps.sim ?_⟩
            refine GOps.done (hK _ ?_); clear hK K
            refine End.kp [1, 8] ?_
            refine Run.seq ?_
            refine Run.seq ?_
            refine Run.go ?_
            refine End.kp [1, 8, 72, 73, 74] ?_
            refine Run.block ?_
            refine Run.ghost (Ghost.form [(1, .ptr 0 0 0), (8, .i (2 + n.inn.length + n.flops.length)), (72, .im (.sl (n.gates.map LGate.im))), (73, .i n.gates.length), (74, .i (0 : Nat))] 1 ⟨rfl, rfl, rfl, rfl, rfl, trivial⟩ rfl rfl) ?_
            refine Run.loop (fun m st => ∃ (i : Nat), m = n.gates.length - i ∧ i ≤ n.gates.length ∧ st = ⟨[(1, .ptr 0 0 0), (8, .i (2 + n.inn.length + n.flops.length)), (72, .im (.sl (n.gates.map LGate.im))), (73, .i n.gates.length), (74, .i (i : Nat))], [.box [.im (.sl (strs n.inn)), .im (.sl (strs n.out)), .im (.sl (n.flops.map LFlop.im)), .im (.sl (n.gates.map LGate.im)), .im (.sl (ints n.outs))]], up⟩) n.gates.length ⟨0, rfl, by omega, rfl⟩ fun m st hI => ?_
            obtain ⟨i, rfl, hi, rfl⟩ := hI
            refine Run.seq ?_
            have fx := And.intro hap (And.intro hsl (And.intro d5 (And.intro d4 (And.intro d3 (And.intro d2 (And.intro d1 (And.intro ints_len (And.intro gim_len (And.intro fim_len (And.intro strs_len ft))))))))))
            refine Run.go ?_
            refine End.kp [1, 8, 72, 73, 74, 75] ?_
            refine Run.seq ?_
            refine Run.cond _ rfl (fun hb => ?_) (fun hb => ?_)
            · have hb := of_decide_eq_true hb
              have hin : i < n.gates.length := by omega
              have wi := wsucc hin (by omega)
              obtain ⟨g, hgi, hgm, hg⟩ := gate_at n.gates i hin
              obtain ⟨e1, e2, e3⟩ := hn.gates i g hgi
              have d6 : decide ((g.ins.length : Int) > 6) = false := decide_eq_false (by omega)
              have wfi : IntKind.i64.wrap (2 + (n.inn.length : Int) + n.flops.length + i) = 2 + (n.inn.length : Int) + n.flops.length + i := wrap64 (by omega)
              refine Run.skip ?_
              refine End.kp [1, 8, 72, 73, 74] ?_
              refine Run.seq ?_
              refine Run.block ?_
              refine Run.seq ?_
              have fx := And.intro (@Int.toNat_natCast) (And.intro (@Int.natCast_nonneg) (And.intro wfi (And.intro d6 (And.intro hg (And.intro wi (And.intro hap (And.intro hsl (And.intro d5 (And.intro d4 (And.intro d3 (And.intro d2 (And.intro d1 (And.intro ints_len (And.intro gim_len (And.intro fim_len (And.intro strs_len ft))))))))))))))))
              refine Run.go ?_
              refine End.kp [1, 8, 9, 10, 72, 73, 74] ?_
              refine Run.seq ?_
              refine Run.seq ?_
              refine Run.go ?_
              refine End.kp [1, 8, 9, 10, 72, 73, 74, 82] ?_
              refine Run.cond _ rfl (fun hb => ?_) (fun hb => ?_)
              · have hb := hb
                simp at hb
              · have hb := hb
                refine Run.skip ?_
                refine End.kp [1, 8, 9, 10, 72, 73, 74] ?_
                refine Run.seq ?_
                refine Run.seq ?_
                have fx := And.intro (@Int.toNat_natCast) (And.intro (@Int.natCast_nonneg) (And.intro wfi (And.intro d6 (And.intro hg (And.intro wi (And.intro hap (And.intro hsl (And.intro d5 (And.intro d4 (And.intro d3 (And.intro d2 (And.intro d1 (And.intro ints_len (And.intro gim_len (And.intro fim_len (And.intro strs_len ft))))))))))))))))
                refine Run.drawA fun K hK => ?_
                refine DOps.sim ?_
                refine DOps.call (.u (2 ^ ((2 : Int) ^ g.ins.length).toNat - 1)) [] [] rfl rfl rfl rfl (by kernel_rfl) (by simp [Agree]) (fun u hu => Mask_ok g.ins.length e1 u) ?_
                have fx := And.intro e2 (And.intro (@Int.toNat_natCast) (And.intro (@Int.natCast_nonneg) (And.intro wfi (And.intro d6 (And.intro hg (And.intro wi (And.intro hap (And.intro hsl (And.intro d5 (And.intro d4 (And.intro d3 (And.intro d2 (And.intro d1 (And.intro ints_len (And.intro gim_len (And.intro fim_len (And.intro strs_len ft)))))))))))))))))
                refine DOps.sim ?_
                refine DOps.nil (metAll_quiet rfl) (hK _ ?_); clear hK K
                refine End.kp [1, 8, 9, 10, 72, 73, 74, 90] ?_
                refine Run.cond _ rfl (fun hb => ?_) (fun hb => ?_)
                · have hb := hb
                  simp at hb
                · have hb := hb
                  refine Run.skip ?_
                  refine End.kp [1, 8, 9, 10, 72, 73, 74] ?_
                  refine Run.seq ?_
                  have fx := And.intro e2 (And.intro (@Int.toNat_natCast) (And.intro (@Int.natCast_nonneg) (And.intro wfi (And.intro d6 (And.intro hg (And.intro wi (And.intro hap (And.intro hsl (And.intro d5 (And.intro d4 (And.intro d3 (And.intro d2 (And.intro d1 (And.intro ints_len (And.intro gim_len (And.intro fim_len (And.intro strs_len ft)))))))))))))))))
                  refine Run.go ?_
                  refine End.kp [1, 8, 9, 72, 73, 74, 92, 93, 94] ?_
                  refine Run.block ?_
                  refine Run.ghost (Ghost.form [(1, .ptr 0 0 0), (8, .i (2 + n.inn.length + n.flops.length)), (9, .i (i : Nat)), (72, .im (.sl (n.gates.map LGate.im))), (73, .i n.gates.length), (74, .i (i : Nat)), (92, .im (.sl (ints g.ins))), (93, .i g.ins.length), (94, .i (0 : Nat))] 1 ⟨rfl, rfl, rfl, rfl, rfl, rfl, rfl, rfl, rfl, trivial⟩ rfl rfl) ?_
                  refine Run.loop (fun m st => ∃ (k : Nat), m = g.ins.length - k ∧ k ≤ g.ins.length ∧ st = ⟨[(1, .ptr 0 0 0), (8, .i (2 + n.inn.length + n.flops.length)), (9, .i (i : Nat)), (72, .im (.sl (n.gates.map LGate.im))), (73, .i n.gates.length), (74, .i (i : Nat)), (92, .im (.sl (ints g.ins))), (93, .i g.ins.length), (94, .i (k : Nat))], [.box [.im (.sl (strs n.inn)), .im (.sl (strs n.out)), .im (.sl (n.flops.map LFlop.im)), .im (.sl (n.gates.map LGate.im)), .im (.sl (ints n.outs))]], up⟩) g.ins.length ⟨0, rfl, by omega, rfl⟩ fun m st hI => ?_
                  obtain ⟨k, rfl, hk, rfl⟩ := hI
                  refine Run.seq ?_
                  have fx := And.intro e2 (And.intro (@Int.toNat_natCast) (And.intro (@Int.natCast_nonneg) (And.intro wfi (And.intro d6 (And.intro hg (And.intro wi (And.intro hap (And.intro hsl (And.intro d5 (And.intro d4 (And.intro d3 (And.intro d2 (And.intro d1 (And.intro ints_len (And.intro gim_len (And.intro fim_len (And.intro strs_len ft)))))))))))))))))
                  refine Run.go ?_
                  refine End.kp [1, 8, 9, 72, 73, 74, 92, 93, 94, 95] ?_
                  refine Run.seq ?_
                  refine Run.cond _ rfl (fun hb => ?_) (fun hb => ?_)
                  · have hb := of_decide_eq_true hb
                    have hkn : k < g.ins.length := by omega
                    have wk := wsucc hkn (by omega)
                    obtain ⟨x, _, hxm, hx⟩ := int_at g.ins k hkn
                    obtain ⟨x1, x2⟩ := e3 x hxm
                    have d7 : decide (x < 0) = false := decide_eq_false (by omega)
                    have d8 : decide (x ≥ 2 + (n.inn.length : Int) + n.flops.length + i) = false := decide_eq_false (by omega)
                    refine Run.skip ?_
                    refine End.kp [1, 8, 9, 72, 73, 74, 92, 93, 94] ?_
                    refine Run.seq ?_
                    refine Run.block ?_
                    refine Run.seq ?_
                    have fx := And.intro d8 (And.intro d7 (And.intro hx (And.intro wk (And.intro e2 (And.intro (@Int.toNat_natCast) (And.intro (@Int.natCast_nonneg) (And.intro wfi (And.intro d6 (And.intro hg (And.intro wi (And.intro hap (And.intro hsl (And.intro d5 (And.intro d4 (And.intro d3 (And.intro d2 (And.intro d1 (And.intro ints_len (And.intro gim_len (And.intro fim_len (And.intro strs_len ft)))))))))))))))))))))
                    refine Run.go ?_
                    refine End.kp [1, 8, 9, 12, 72, 73, 74, 92, 93, 94] ?_
                    refine Run.seq ?_
                    refine Run.go ?_
                    refine End.kp [1, 8, 9, 72, 73, 74, 92, 93, 94, 106] ?_
                    refine Run.cond _ rfl (fun hb => ?_) (fun hb => ?_)
                    · have hb := hb
                      simp at hb
                    · have hb := hb
                      refine Run.skip ?_
                      refine End.blk ?_
                      refine End.kp [1, 8, 9, 72, 73, 74, 92, 93, 94] ?_
                      have fx := And.intro d8 (And.intro d7 (And.intro hx (And.intro wk (And.intro e2 (And.intro (@Int.toNat_natCast) (And.intro (@Int.natCast_nonneg) (And.intro wfi (And.intro d6 (And.intro hg (And.intro wi (And.intro hap (And.intro hsl (And.intro d5 (And.intro d4 (And.intro d3 (And.intro d2 (And.intro d1 (And.intro ints_len (And.intro gim_len (And.intro fim_len (And.intro strs_len ft)))))))))))))))))))))
                      refine Run.go ?_
                      refine End.lp ?_
                      refine ⟨g.ins.length - (k + 1), _, by omega, Ghost.form [(1, .ptr 0 0 0), (8, .i (2 + n.inn.length + n.flops.length)), (9, .i (i : Nat)), (72, .im (.sl (n.gates.map LGate.im))), (73, .i n.gates.length), (74, .i (i : Nat)), (92, .im (.sl (ints g.ins))), (93, .i g.ins.length), (94, .i (k + 1 : Nat))] 1 ⟨rfl, rfl, rfl, rfl, rfl, rfl, rfl, rfl, rfl, trivial⟩ rfl rfl, k + 1, rfl, by omega, rfl⟩
                  · have hb := of_decide_eq_false hb
                    refine Run.exit rfl ?_
                    refine End.blk ?_
                    refine End.kp [1, 8, 72, 73, 74] ?_
                    have fx := And.intro e2 (And.intro (@Int.toNat_natCast) (And.intro (@Int.natCast_nonneg) (And.intro wfi (And.intro d6 (And.intro hg (And.intro wi (And.intro hap (And.intro hsl (And.intro d5 (And.intro d4 (And.intro d3 (And.intro d2 (And.intro d1 (And.intro ints_len (And.intro gim_len (And.intro fim_len (And.intro strs_len ft)))))))))))))))))
                    refine Run.go ?_
                    refine End.lp ?_
                    refine ⟨n.gates.length - (i + 1), _, by omega, Ghost.form [(1, .ptr 0 0 0), (8, .i (2 + n.inn.length + n.flops.length)), (72, .im (.sl (n.gates.map LGate.im))), (73, .i n.gates.length), (74, .i (i + 1 : Nat))] 1 ⟨rfl, rfl, rfl, rfl, rfl, trivial⟩ rfl rfl, i + 1, rfl, by omega, rfl⟩
            · have hb := of_decide_eq_false hb
              refine Run.exit rfl ?_
              refine End.kp [1] ?_
              refine Run.seq ?_
              have fx := And.intro hap (And.intro hsl (And.intro d5 (And.intro d4 (And.intro d3 (And.intro d2 (And.intro d1 (And.intro ints_len (And.intro gim_len (And.intro fim_len (And.intro strs_len ft))))))))))
              refine Run.region rfl fun K hK => GOps.sim ?_
              refine GOps.call rfl rfl rfl rfl (by kernel_rfl) (ACalls.sim ?_)
              refine (ends_ok n hsm hn.ends _).mono fun v u hv => ?_
              obtain ⟨rfl, rfl⟩ := hv
              refine ⟨_, _, rfl, GOps.sim ?_⟩
              refine GOps.done (hK _ ?_); clear hK K
              refine End.kp [2] ?_
              refine Run.ret (hQ _ _ ⟨.inr rfl, _, rfl, _, rfl, ?_⟩)
              exact ⟨rfl, rfl⟩
end Go.Proofs.YtkmnmokjlpenhaaPi

/- The walks of values and Values: what all nets have. -/
set_option linter.unusedVariables false
set_option linter.unusedSimpArgs false
set_option maxRecDepth 100000
namespace Go.Proofs.YtkmnmokjlpenhaaPi

def gateVal (g : LGate) (v : List Int) : Int := lookV g.table (g.ins.map fun k => v.getD k.toNat 0)
def valsN : List LGate → List Int → List Int
  | [], v => v
  | g :: gs, v => valsN gs (v ++ [gateVal g v])
def valuesV (n : LNet) (inn st : List Int) : List Int := valsN n.gates ([0, 18446744073709551615] ++ inn ++ st)
theorem gate_drop (l : List LGate) (i : Nat) (g : LGate) (h : l[i]? = some g) : l.drop i = g :: l.drop (i + 1) := by
  obtain ⟨hi, rfl⟩ := List.getElem?_eq_some_iff.1 h
  exact List.drop_eq_getElem_cons hi
theorem int_drop (l : List Int) (i : Nat) (g : Int) (h : l[i]? = some g) : l.take (i + 1) = l.take i ++ [g] := by simp [List.take_add_one, h]
theorem values_ok (n : LNet) (hn : NetOk n) (inn st : List Int) (h1 : inn.length = n.inn.length) (h2 : st.length = n.flops.length) (up : Frs) : ACalls Try.prog 90 [n.pv, .im (.sl (us inn)), .im (.sl (us st))] up fun v u => v = .im (.sl (us (valuesV n inn st))) ∧ u = up := by
  have hsm := hn.small
  obtain ⟨z1, z2, z3, z4, z5⟩ := hn.small
  have a1 : (2 + inn.length) * 8 ≤ 140737488355328 := by omega
  have a2 : (2 + inn.length + st.length) * 8 ≤ 140737488355328 := by omega
  have b1 : inn.length + 1 + 1 = 2 + inn.length := by omega
  have al : ∀ l : List Int, (us l).all (fun r => r.length == 1) = true := fun l => by simp
  refine ACalls.code Try.func90 rfl 50 rfl (by simp) [.tmp 6] rfl fun Q hQ => ?_
  simp only [ups, PV.up, argEnv]
  have ft := And.intro ty_2 (And.intro ty_3 (And.intro ty_22 (And.intro ty_28 (And.intro ty_30 (And.intro ty_37 (And.intro ty_39 (And.intro ty_56 trivial)))))))
  refine Run.seq ?_
  have fx := And.intro (@List.length_append.{0}) (And.intro b1 (And.intro al (And.intro a2 (And.intro a1 (And.intro ints_len (And.intro gim_len (And.intro us_len ft)))))))
  refine Run.go ?_
  refine End.kp [1, 2, 3] ?_
  refine Run.seq ?_
  refine Run.go ?_
  refine End.kp [2, 3, 7] ?_
  refine Run.seq ?_
  refine Run.go ?_
  refine End.kp [3, 7] ?_
  refine Run.seq ?_
  refine Run.seq ?_
  refine Run.go ?_
  refine End.kp [7, 20, 21, 22] ?_
  refine Run.block ?_
  refine Run.ghost (Ghost.form [(7, .ms 0 1 (2 + inn.length + st.length)), (20, .im (.sl (n.gates.map LGate.im))), (21, .i n.gates.length), (22, .i (0 : Nat))] 2 ⟨rfl, rfl, rfl, rfl, trivial⟩ rfl rfl) ?_
  refine Run.loop (fun m s => ∃ (i : Nat) (v : List Int), m = n.gates.length - i ∧ i ≤ n.gates.length ∧ v.length = 2 + inn.length + st.length + i ∧ valsN (n.gates.drop i) v = valuesV n inn st ∧ s = ⟨[(7, .ms 0 1 v.length), (20, .im (.sl (n.gates.map LGate.im))), (21, .i n.gates.length), (22, .i (i : Nat))], [.box [.im (.sl (strs n.inn)), .im (.sl (strs n.out)), .im (.sl (n.flops.map LFlop.im)), .im (.sl (n.gates.map LGate.im)), .im (.sl (ints n.outs))], .row 37 1 (us v) 0], up⟩) n.gates.length ⟨0, [0, 18446744073709551615] ++ inn ++ st, rfl, by omega, by simp; omega, rfl, ?_⟩ fun m s hI => ?_
  · simp
    omega
  obtain ⟨i, v, rfl, hi, hvl, hV, rfl⟩ := hI
  have hav : (v.length + 1) * 8 ≤ 140737488355328 := by omega
  refine Run.seq ?_
  have fx := And.intro hav (And.intro (@List.length_append.{0}) (And.intro b1 (And.intro al (And.intro a2 (And.intro a1 (And.intro ints_len (And.intro gim_len (And.intro us_len ft))))))))
  refine Run.go ?_
  refine End.kp [7, 20, 21, 22, 23] ?_
  refine Run.seq ?_
  refine Run.cond _ rfl (fun hb => ?_) (fun hb => ?_)
  · have hb := of_decide_eq_true hb
    have hin : i < n.gates.length := by omega
    have wi := wsucc hin (by omega)
    obtain ⟨g, hgi, hgm, hg⟩ := gate_at n.gates i hin
    obtain ⟨e1, e2, e3⟩ := hn.gates i g hgi
    rw [gate_drop _ i g hgi, valsN] at hV
    refine Run.skip ?_
    refine End.kp [7, 20, 21, 22] ?_
    refine Run.seq ?_
    refine Run.block ?_
    refine Run.seq ?_
    have fx := And.intro (@Int.toNat_natCast) (And.intro (@Int.natCast_nonneg) (And.intro hg (And.intro wi (And.intro hav (And.intro (@List.length_append.{0}) (And.intro b1 (And.intro al (And.intro a2 (And.intro a1 (And.intro ints_len (And.intro gim_len (And.intro us_len ft))))))))))))
    refine Run.go ?_
    refine End.kp [7, 9, 20, 21, 22] ?_
    refine Run.seq ?_
    refine Run.go ?_
    refine End.kp [7, 9, 10, 20, 21, 22] ?_
    refine Run.seq ?_
    refine Run.seq ?_
    refine Run.go ?_
    refine End.kp [7, 9, 10, 20, 21, 22, 27, 28, 29] ?_
    refine Run.block ?_
    refine Run.ghost (Ghost.thaw (u := 10) 37 1 (by decide) rfl) ?_
    refine Run.ghost (Ghost.form [(7, .ms 0 1 v.length), (9, .ptr 0 2 0), (10, .ms 0 3 0), (20, .im (.sl (n.gates.map LGate.im))), (21, .i n.gates.length), (22, .i (i : Nat)), (27, .im (.sl (ints g.ins))), (28, .i g.ins.length), (29, .i (0 : Nat))] 4 ⟨rfl, rfl, rfl, rfl, rfl, rfl, rfl, rfl, rfl, trivial⟩ rfl rfl) ?_
    refine Run.loop (fun m s => ∃ (q : Nat), m = g.ins.length - q ∧ q ≤ g.ins.length ∧ s = ⟨[(7, .ms 0 1 v.length), (9, .ptr 0 2 0), (10, .ms 0 3 q), (20, .im (.sl (n.gates.map LGate.im))), (21, .i n.gates.length), (22, .i (i : Nat)), (27, .im (.sl (ints g.ins))), (28, .i g.ins.length), (29, .i (q : Nat))], [.box [.im (.sl (strs n.inn)), .im (.sl (strs n.out)), .im (.sl (n.flops.map LFlop.im)), .im (.sl (n.gates.map LGate.im)), .im (.sl (ints n.outs))], .row 37 1 (us v) 0, .box [.im (.int .i64 (-1)), .im (.int .u64 g.table), .im (.sl (ints g.ins))], .row 37 1 (us ((g.ins.take q).map fun k => v.getD k.toNat 0)) 0], up⟩) g.ins.length ⟨0, rfl, by omega, rfl⟩ fun m s hI => ?_
    obtain ⟨q, rfl, hq, rfl⟩ := hI
    have hql : ((g.ins.take q).map fun k => v.getD k.toNat 0).length = q := by simp; omega
    have haq : (q + 1) * 8 ≤ 140737488355328 := by omega
    refine Run.seq ?_
    have fx := And.intro haq (And.intro hql (And.intro (@Int.toNat_natCast) (And.intro (@Int.natCast_nonneg) (And.intro hg (And.intro wi (And.intro hav (And.intro (@List.length_append.{0}) (And.intro b1 (And.intro al (And.intro a2 (And.intro a1 (And.intro ints_len (And.intro gim_len (And.intro us_len ft))))))))))))))
    refine Run.go ?_
    refine End.kp [7, 9, 10, 20, 21, 22, 27, 28, 29, 30] ?_
    refine Run.seq ?_
    refine Run.cond _ rfl (fun hb => ?_) (fun hb => ?_)
    · have hb := of_decide_eq_true hb
      have hqn : q < g.ins.length := by omega
      have wq := wsucc hqn (by omega)
      obtain ⟨x, hxi, hxm, hx⟩ := int_at g.ins q hqn
      obtain ⟨x1, x2⟩ := e3 x hxm
      have hxl : x < (v.length : Int) := by omega
      have hvx := us_get v x.toNat (by omega)
      have htk := int_drop g.ins q x hxi
      refine Run.skip ?_
      refine End.kp [7, 9, 10, 20, 21, 22, 27, 28, 29] ?_
      refine Run.seq ?_
      refine Run.block ?_
      refine Run.seq ?_
      have fx := And.intro hvx (And.intro hxl (And.intro x1 (And.intro hx (And.intro wq (And.intro haq (And.intro hql (And.intro (@Int.toNat_natCast) (And.intro (@Int.natCast_nonneg) (And.intro hg (And.intro wi (And.intro hav (And.intro (@List.length_append.{0}) (And.intro b1 (And.intro al (And.intro a2 (And.intro a1 (And.intro ints_len (And.intro gim_len (And.intro us_len ft)))))))))))))))))))
      refine Run.go ?_
      refine End.kp [7, 9, 10, 12, 20, 21, 22, 27, 28, 29] ?_
      refine Run.go ?_
      refine End.blk ?_
      refine End.kp [7, 9, 10, 20, 21, 22, 27, 28, 29] ?_
      refine Run.go ?_
      refine End.lp ?_
      refine ⟨g.ins.length - (q + 1), _, by omega, Ghost.form [(7, .ms 0 1 v.length), (9, .ptr 0 2 0), (10, .ms 0 3 (q + 1)), (20, .im (.sl (n.gates.map LGate.im))), (21, .i n.gates.length), (22, .i (i : Nat)), (27, .im (.sl (ints g.ins))), (28, .i g.ins.length), (29, .i (q + 1 : Nat))] 4 ⟨rfl, rfl, rfl, rfl, rfl, rfl, rfl, rfl, rfl, trivial⟩ rfl rfl, q + 1, rfl, by omega, ?_⟩
      rw [htk]
      simp
    · have hb := of_decide_eq_false hb
      have hqe : q = g.ins.length := by omega
      subst hqe
      rw [List.take_length] at hql ⊢
      refine Run.exit rfl ?_
      refine End.kp [7, 9, 10, 20, 21, 22] ?_
      have fx := And.intro haq (And.intro hql (And.intro (@Int.toNat_natCast) (And.intro (@Int.natCast_nonneg) (And.intro hg (And.intro wi (And.intro hav (And.intro (@List.length_append.{0}) (And.intro b1 (And.intro al (And.intro a2 (And.intro a1 (And.intro ints_len (And.intro gim_len (And.intro us_len ft))))))))))))))
      refine Run.region rfl fun K hK => GOps.sim ?_
      refine GOps.call rfl rfl rfl rfl (by kernel_rfl) (ACalls.sim ?_)
      refine (look_ok g.table (g.ins.map fun k => v.getD k.toNat 0) (by simpa using e1) _).mono fun v u hv => ?_
      obtain ⟨rfl, rfl⟩ := hv
      refine ⟨_, _, rfl, GOps.sim ?_⟩
      refine GOps.done (hK _ ?_); clear hK K
      refine End.blk ?_
      refine End.kp [7, 20, 21, 22] ?_
      refine Run.go ?_
      refine End.lp ?_
      refine ⟨n.gates.length - (i + 1), _, by omega, Ghost.form [(7, .ms 0 1 (v.length + 1)), (20, .im (.sl (n.gates.map LGate.im))), (21, .i n.gates.length), (22, .i (i + 1 : Nat))] 2 ⟨rfl, rfl, rfl, rfl, trivial⟩ rfl rfl, i + 1, v ++ [gateVal g v], rfl, by omega, by simp; omega, hV, ?_⟩
      simp [gateVal]
  · have hb := of_decide_eq_false hb
    have hiN : i = n.gates.length := by omega
    subst hiN
    rw [List.drop_length, valsN] at hV
    refine Run.exit rfl ?_
    refine End.kp [7] ?_
    refine Run.seq ?_
    refine Run.ghost (Ghost.shut (t := 7) (j := 1) rfl rfl (us_len v)) ?_
    simp only [eput, edel]
    have fx := And.intro hav (And.intro (@List.length_append.{0}) (And.intro b1 (And.intro al (And.intro a2 (And.intro a1 (And.intro ints_len (And.intro gim_len (And.intro us_len ft))))))))
    refine Run.go ?_
    refine End.kp [6] ?_
    refine Run.ret (hQ _ _ ⟨.inr rfl, _, rfl, _, rfl, ?_⟩)
    exact ⟨by rw [hV], rfl⟩
end Go.Proofs.YtkmnmokjlpenhaaPi

/- The walks of results, Words and Eval. -/
set_option linter.unusedVariables false
set_option linter.unusedSimpArgs false
set_option maxRecDepth 100000
namespace Go.Proofs.YtkmnmokjlpenhaaPi

def outV (n : LNet) (v : List Int) : List Int := n.outs.map fun k => v.getD k.toNat 0
def nextF (n : LNet) (v : List Int) (i : Nat) (f : LFlop) : Int :=
  bits .or .u64 (bits .and .u64 (v.getD f.en.toNat 0) (v.getD f.d.toNat 0)) (bits .and .u64 (bits .xor .u64 (if IntKind.u64.signed = true then -1 else IntKind.u64.max) (v.getD f.en.toNat 0)) (v.getD (2 + (n.inn.length : Int) + i).toNat 0))
def nextsF (n : LNet) (v : List Int) : Nat → List LFlop → List Int
  | _, [] => []
  | i, f :: fs => nextF n v i f :: nextsF n v (i + 1) fs
theorem nextsF_len (n : LNet) (v : List Int) : ∀ (fs : List LFlop) (i : Nat), (nextsF n v i fs).length = fs.length
  | [], i => rfl
  | f :: fs, i => by simp [nextsF, nextsF_len n v fs]
theorem flop_drop (l : List LFlop) (i : Nat) (g : LFlop) (h : l[i]? = some g) : l.drop i = g :: l.drop (i + 1) := by
  obtain ⟨hi, rfl⟩ := List.getElem?_eq_some_iff.1 h
  exact List.drop_eq_getElem_cons hi
theorem nresults_ok (n : LNet) (hn : NetOk n) (v : List Int) (hv : v.length = 2 + n.inn.length + n.flops.length + n.gates.length) (up : Frs) : ACalls Try.prog 105 [n.pv, .im (.sl (us v))] up fun r u => r = .tup [.im (.sl (us (outV n v))), .im (.sl (us (nextsF n v 0 n.flops)))] ∧ u = up := by
  obtain ⟨z1, z2, z3, z4, z5⟩ := hn.small
  refine ACalls.code Try.func105 rfl 69 rfl (by simp) [.tmp 4, .tmp 5] rfl fun Q hQ => ?_
  simp only [ups, PV.up, argEnv]
  have ft := And.intro ty_2 (And.intro ty_3 (And.intro ty_4 (And.intro ty_9 (And.intro ty_22 (And.intro ty_26 (And.intro ty_27 (And.intro ty_30 (And.intro ty_37 (And.intro ty_56 (And.intro ty_78 trivial))))))))))
  refine Run.seq ?_
  have fx := And.intro strs_len (And.intro ints_len (And.intro fim_len (And.intro us_len ft)))
  refine Run.go ?_
  refine End.kp [1, 2, 4, 5] ?_
  refine Run.seq ?_
  refine Run.seq ?_
  refine Run.go ?_
  refine End.kp [1, 2, 4, 5, 12, 13, 14] ?_
  refine Run.block ?_
  refine Run.ghost (Ghost.thaw (u := 4) 37 1 (by decide) rfl) ?_
  refine Run.ghost (Ghost.form [(1, .im (.sl (us v))), (2, .ptr 0 0 0), (4, .ms 0 1 0), (5, .nils), (12, .im (.sl (ints n.outs))), (13, .i n.outs.length), (14, .i (0 : Nat))] 2 ⟨rfl, rfl, rfl, rfl, rfl, rfl, rfl, trivial⟩ rfl rfl) ?_
  refine Run.loop (fun m s => ∃ (i : Nat), m = n.outs.length - i ∧ i ≤ n.outs.length ∧ s = ⟨[(1, .im (.sl (us v))), (2, .ptr 0 0 0), (4, .ms 0 1 i), (5, .nils), (12, .im (.sl (ints n.outs))), (13, .i n.outs.length), (14, .i (i : Nat))], [.box [.im (.sl (strs n.inn)), .im (.sl (strs n.out)), .im (.sl (n.flops.map LFlop.im)), .im (.sl (n.gates.map LGate.im)), .im (.sl (ints n.outs))], .row 37 1 (us ((n.outs.take i).map fun k => v.getD k.toNat 0)) 0], up⟩) n.outs.length ⟨0, rfl, by omega, rfl⟩ fun m s hI => ?_
  obtain ⟨i, rfl, hi, rfl⟩ := hI
  have hol : ((n.outs.take i).map fun k => v.getD k.toNat 0).length = i := by simp; omega
  have hao : (i + 1) * 8 ≤ 140737488355328 := by omega
  refine Run.seq ?_
  have fx := And.intro hao (And.intro hol (And.intro strs_len (And.intro ints_len (And.intro fim_len (And.intro us_len ft)))))
  refine Run.go ?_
  refine End.kp [1, 2, 4, 5, 12, 13, 14, 15] ?_
  refine Run.seq ?_
  refine Run.cond _ rfl (fun hb => ?_) (fun hb => ?_)
  · have hb := of_decide_eq_true hb
    have hin : i < n.outs.length := by omega
    have wi := wsucc hin (by omega)
    obtain ⟨x, hxi, hxm, hx⟩ := int_at n.outs i hin
    obtain ⟨x1, x2⟩ := hn.ends.outs x hxm
    have hvx := us_get v x.toNat (by omega)
    have htk := int_drop n.outs i x hxi
    refine Run.skip ?_
    refine End.kp [1, 2, 4, 5, 12, 13, 14] ?_
    refine Run.seq ?_
    refine Run.block ?_
    refine Run.seq ?_
    have fx := And.intro (@Int.toNat_natCast) (And.intro (@Int.natCast_nonneg) (And.intro hvx (And.intro x1 (And.intro hx (And.intro wi (And.intro hao (And.intro hol (And.intro strs_len (And.intro ints_len (And.intro fim_len (And.intro us_len ft)))))))))))
    refine Run.go ?_
    refine End.kp [1, 2, 4, 5, 7, 12, 13, 14] ?_
    refine Run.go ?_
    refine End.blk ?_
    refine End.kp [1, 2, 4, 5, 12, 13, 14] ?_
    refine Run.go ?_
    refine End.lp ?_
    refine ⟨n.outs.length - (i + 1), _, by omega, Ghost.form [(1, .im (.sl (us v))), (2, .ptr 0 0 0), (4, .ms 0 1 (i + 1)), (5, .nils), (12, .im (.sl (ints n.outs))), (13, .i n.outs.length), (14, .i (i + 1 : Nat))] 2 ⟨rfl, rfl, rfl, rfl, rfl, rfl, rfl, trivial⟩ rfl rfl, i + 1, rfl, by omega, ?_⟩
    rw [htk]
    simp
  · have hb := of_decide_eq_false hb
    have hiN : i = n.outs.length := by omega
    subst hiN
    rw [List.take_length] at hol ⊢
    refine Run.exit rfl ?_
    refine End.kp [1, 2, 4, 5] ?_
    refine Run.seq ?_
    refine Run.seq ?_
    have fx := And.intro hao (And.intro hol (And.intro strs_len (And.intro ints_len (And.intro fim_len (And.intro us_len ft)))))
    refine Run.go ?_
    refine End.kp [1, 2, 4, 5, 27, 28, 29] ?_
    refine Run.block ?_
    refine Run.ghost (Ghost.thaw (u := 5) 37 1 (by decide) rfl) ?_
    refine Run.ghost (Ghost.form [(1, .im (.sl (us v))), (2, .ptr 0 0 0), (4, .ms 0 1 n.outs.length), (5, .ms 0 2 0), (27, .im (.sl (n.flops.map LFlop.im))), (28, .i n.flops.length), (29, .i (0 : Nat))] 3 ⟨rfl, rfl, rfl, rfl, rfl, rfl, rfl, trivial⟩ rfl rfl) ?_
    refine Run.loop (fun m s => ∃ (i : Nat) (dn : List Int), m = n.flops.length - i ∧ i ≤ n.flops.length ∧ dn.length = i ∧ dn ++ nextsF n v i (n.flops.drop i) = nextsF n v 0 n.flops ∧ s = ⟨[(1, .im (.sl (us v))), (2, .ptr 0 0 0), (4, .ms 0 1 n.outs.length), (5, .ms 0 2 i), (27, .im (.sl (n.flops.map LFlop.im))), (28, .i n.flops.length), (29, .i (i : Nat))], [.box [.im (.sl (strs n.inn)), .im (.sl (strs n.out)), .im (.sl (n.flops.map LFlop.im)), .im (.sl (n.gates.map LGate.im)), .im (.sl (ints n.outs))], .row 37 1 (us (outV n v)) 0, .row 37 1 (us dn) 0], up⟩) n.flops.length ⟨0, [], rfl, by omega, rfl, rfl, rfl⟩ fun m s hI => ?_
    obtain ⟨i, dn, rfl, hi, hdn, hN, rfl⟩ := hI
    have haf : (i + 1) * 8 ≤ 140737488355328 := by omega
    refine Run.seq ?_
    have fx := And.intro haf (And.intro hdn (And.intro hao (And.intro hol (And.intro strs_len (And.intro ints_len (And.intro fim_len (And.intro us_len ft)))))))
    refine Run.go ?_
    refine End.kp [1, 2, 4, 5, 27, 28, 29, 30] ?_
    refine Run.seq ?_
    refine Run.cond _ rfl (fun hb => ?_) (fun hb => ?_)
    · have hb := of_decide_eq_true hb
      have hin : i < n.flops.length := by omega
      have wi := wsucc hin (by omega)
      obtain ⟨f, hfi, hfm, hf⟩ := flop_at n.flops i hin
      obtain ⟨⟨x1, x2⟩, x3, x4⟩ := hn.ends.flops f hfm
      have hvd := us_get v f.d.toNat (by omega)
      have hve := us_get v f.en.toNat (by omega)
      have w1 : IntKind.i64.wrap (2 + (n.inn.length : Int)) = 2 + (n.inn.length : Int) := wrap64 (by omega)
      have w2 : IntKind.i64.wrap (2 + (n.inn.length : Int) + i) = 2 + (n.inn.length : Int) + i := wrap64 (by omega)
      have hv0 : 0 ≤ 2 + (n.inn.length : Int) + i := by omega
      have hvo := us_get v (2 + (n.inn.length : Int) + i).toNat (by omega)
      rw [flop_drop _ i f hfi, nextsF] at hN
      refine Run.skip ?_
      refine End.kp [1, 2, 4, 5, 27, 28, 29] ?_
      refine Run.seq ?_
      refine Run.block ?_
      refine Run.seq ?_
      have fx := And.intro (@Int.toNat_natCast) (And.intro (@Int.natCast_nonneg) (And.intro w2 (And.intro w1 (And.intro hv0 (And.intro hvo (And.intro hve (And.intro hvd (And.intro x3 (And.intro x1 (And.intro hf (And.intro wi (And.intro haf (And.intro hdn (And.intro hao (And.intro hol (And.intro strs_len (And.intro ints_len (And.intro fim_len (And.intro us_len ft)))))))))))))))))))
      refine Run.go ?_
      refine End.kp [1, 2, 4, 5, 8, 9, 27, 28, 29] ?_
      refine Run.seq ?_
      refine Run.go ?_
      refine End.kp [1, 2, 4, 5, 9, 10, 27, 28, 29] ?_
      refine Run.ghost (.spares 1) ?_
      simp only [ASt.pushN, ASt.push, List.append_assoc, List.cons_append, List.nil_append]
      refine Run.drawA fun K hK => ?_
      refine DOps.sim ?_
      refine DOps.nil (by rfl) (hK _ ?_); clear hK K
      refine End.blk ?_
      refine End.kp [1, 2, 4, 5, 27, 28, 29] ?_
      refine Run.go ?_
      refine End.lp ?_
      refine ⟨n.flops.length - (i + 1), _, by omega, Ghost.form [(1, .im (.sl (us v))), (2, .ptr 0 0 0), (4, .ms 0 1 n.outs.length), (5, .ms 0 2 (i + 1)), (27, .im (.sl (n.flops.map LFlop.im))), (28, .i n.flops.length), (29, .i (i + 1 : Nat))] 3 ⟨rfl, rfl, rfl, rfl, rfl, rfl, rfl, trivial⟩ rfl rfl, i + 1, dn ++ [nextF n v i f], rfl, by omega, by simp [hdn], by simpa using hN, ?_⟩
      simp [nextF]
    · have hb := of_decide_eq_false hb
      have hiN : i = n.flops.length := by omega
      subst hiN
      rw [List.drop_length, nextsF, List.append_nil] at hN
      refine Run.exit rfl ?_
      refine End.kp [4, 5] ?_
      refine Run.seq ?_
      refine Run.ghost (Ghost.shut (t := 4) (j := 1) rfl rfl (by rw [us_len]; exact hol)) ?_
      simp only [eput, edel]
      refine Run.ghost (Ghost.shut (t := 5) (j := 2) rfl rfl (by rw [us_len, hdn])) ?_
      simp only [eput, edel]
      have fx := And.intro haf (And.intro hdn (And.intro hao (And.intro hol (And.intro strs_len (And.intro ints_len (And.intro fim_len (And.intro us_len ft)))))))
      refine Run.go ?_
      refine End.kp [4, 5] ?_
      refine Run.ret (hQ _ _ ⟨.inr rfl, _, rfl, _, rfl, ?_⟩)
      exact ⟨by rw [hN], rfl⟩
theorem valsN_len : ∀ (gs : List LGate) (v : List Int), (valsN gs v).length = v.length + gs.length
  | [], v => by simp [valsN]
  | g :: gs, v => by
    rw [valsN, valsN_len gs]
    simp
    omega
theorem valuesV_len (n : LNet) (inn st : List Int) (h1 : inn.length = n.inn.length) (h2 : st.length = n.flops.length) : (valuesV n inn st).length = 2 + n.inn.length + n.flops.length + n.gates.length := by
  rw [valuesV, valsN_len]
  simp
  omega
end Go.Proofs.YtkmnmokjlpenhaaPi

/- Plain law: bit 0 of words. -/
set_option linter.unusedVariables false
set_option linter.unusedSimpArgs false
namespace Go.Proofs.YtkmnmokjlpenhaaPi

theorem valsN_pre : ∀ (gs : List LGate) (v : List Int) (k : Nat), k < v.length → (valsN gs v).getD k 0 = v.getD k 0
  | [], v, k, h => rfl
  | g :: gs, v, k, h => by
    rw [valsN, valsN_pre gs _ k (by simp; omega)]
    simp [List.getElem?_append_left h]
end Go.Proofs.YtkmnmokjlpenhaaPi

/- The walks of the functions that draw graphs. -/
set_option linter.unusedVariables false
set_option linter.unusedSimpArgs false
set_option maxRecDepth 100000
namespace Go.Proofs.YtkmnmokjlpenhaaPi
set_option maxHeartbeats 2000000

structure LReg where
  name : ByteArray
  next : Int
  init : Bool
abbrev LReg.im (r : LReg) : List Im := [.str r.name, .int .i64 r.next, .bool r.init]
abbrev nd (p : Int × Int) : List Im := [.int .i64 p.1, .int .i64 p.2]
structure LGraph where
  inn : List ByteArray
  out : List ByteArray
  regs : List LReg
  ands : List (Int × Int)
  outs : List Int
abbrev LGraph.cells (g : LGraph) : List PV := [.im (.sl (strs g.inn)), .im (.sl (strs g.out)), .im (.sl (g.regs.map LReg.im)), .im (.sl (g.ands.map nd)), .im (.sl (ints g.outs))]
abbrev LGraph.pv (g : LGraph) : PV := .agg g.cells
/-- Things drawn one after the other. -/
def drawN {α : Type} (f : Nat → Int → α × Int) (a : Int) : Nat → List α × Int
  | 0 => ([], a)
  | i + 1 => ((drawN f a i).1 ++ [(f i (drawN f a i).2).1], (f i (drawN f a i).2).2)
theorem drawN_len {α : Type} (f : Nat → Int → α × Int) (a : Int) : ∀ i, (drawN f a i).1.length = i
  | 0 => rfl
  | i + 1 => by simp [drawN, drawN_len f a i]
theorem drawN_mem {α : Type} (f : Nat → Int → α × Int) (a : Int) (Q : Nat → α → Prop) (h : ∀ i b, Q i (f i b).1) : ∀ n i x, (drawN f a n).1[i]? = some x → Q i x
  | 0, i, x, hx => by simp [drawN] at hx
  | n + 1, i, x, hx => by
    simp only [drawN, List.getElem?_append, drawN_len] at hx
    split at hx
    · exact drawN_mem f a Q h n i x hx
    · rename_i hi
      have : i - n = 0 := by
        have := (List.getElem?_eq_some_iff.1 hx).1
        simp at this
        omega
      rw [this] at hx
      simp at hx
      subst hx
      have : i = n := by omega
      subst this
      exact h i _

end Go.Proofs.YtkmnmokjlpenhaaPi

/- The walks of Small, Moving, Played, spread; a drawn graph. -/
set_option linter.unusedVariables false
set_option linter.unusedSimpArgs false
set_option maxRecDepth 100000
namespace Go.Proofs.YtkmnmokjlpenhaaPi
set_option maxHeartbeats 2000000
abbrev boolss (l : List (List Bool)) : List (List Im) := l.map fun r => [.sl (bools r)]
theorem boolss_len (l : List (List Bool)) : (boolss l).length = l.length := by simp
def playedV (l : List Int) (k : Nat) (a : Int) (n : Nat) : List (List Bool) × Int := drawN (fun _ b => (valsV l k b, b + k)) a n
theorem playedV_pos (l : List Int) (k : Nat) (a : Int) : ∀ n : Nat, (playedV l k a n).2 = a + k * n
  | 0 => by simp [playedV, drawN]
  | n + 1 => by
    have := playedV_pos l k a n
    have e : (playedV l k a (n + 1)).2 = (playedV l k a n).2 + k := rfl
    rw [e, this, Int.natCast_add, Int.mul_add]
    simp
    omega
theorem playedV_len (l : List Int) (k : Nat) (a : Int) (n : Nat) : (playedV l k a n).1.length = n := drawN_len _ _ _
theorem playedV_row (l : List Int) (k : Nat) (a : Int) (n : Nat) : ∀ r ∈ (playedV l k a n).1, r.length = k := by
  intro r hr
  obtain ⟨i, hi⟩ := List.mem_iff_getElem?.1 hr
  exact drawN_mem _ a (fun _ x => x.length = k) (fun i b => valsV_len l k b) n i r hi
theorem Played_ok (n k : Nat) (hn : n ≤ 200) (hk : k ≤ 100) (l : List Int) (a : Int) (hs : StmOk l a) (hf : a + 40000 < 1099511627776) (up : Frs) (d j : Nat) (hl : fget up d j = some (stm l a)) :
    ACalls Try.prog 24 [.ptr d j 0, .i n, .i k] up fun v u => v = .im (.sl (boolss (playedV l k a n).1)) ∧ u = fset up d j (stm l (playedV l k a n).2) := by
  have hset : ∀ o, fget (fset up d j o) d j = some o := fun o => fget_fset_same _ _ _ _ _ hl
  have hp := hs.pos
  refine ACalls.code Try.func24 rfl 19 rfl (by simp) [.tmp 6] rfl fun Q hQ => ?_
  simp only [ups, PV.up, argEnv]
  have ft := And.intro ty_3 (And.intro ty_4 (And.intro ty_23 (And.intro ty_58 (And.intro ty_71 trivial))))
  refine Run.seq ?_
  have fx := And.intro hset (And.intro hl ft)
  refine Run.go ?_
  refine End.kp [0, 1, 2] ?_
  refine Run.seq ?_
  refine Run.go ?_
  refine End.kp [0, 1, 2, 7] ?_
  refine Run.seq ?_
  refine Run.seq ?_
  refine Run.go ?_
  refine End.kp [0, 2, 7, 8, 9] ?_
  refine Run.block ?_
  refine Run.ghost (Ghost.thaw (u := 7) 71 1 (by decide) rfl) ?_
  refine Run.ghost (Ghost.form [(0, .ptr (d + 1) j 0), (2, .i k), (7, .ms 0 0 (0)), (8, .i n), (9, .i (0 : Nat))] 1 ⟨rfl, rfl, rfl, rfl, rfl, trivial⟩ rfl rfl) ?_
  refine Run.loop (fun m s => ∃ i : Nat, m = n - i ∧ i ≤ n ∧ s = ⟨[(0, .ptr (d + 1) j 0), (2, .i k), (7, .ms 0 0 (i)), (8, .i n), (9, .i (i : Nat))], [.row 71 1 (boolss (playedV l k a i).1) 0], fset up d j (stm l (playedV l k a i).2)⟩) n ⟨0, rfl, by omega, by rw [show (playedV l k a 0) = ([], a) from rfl]; simp only; rw [fset_self up d j _ hl]; rfl⟩ fun m s hI => ?_
  obtain ⟨i, rfl, hi, rfl⟩ := hI
  have hsl : (boolss (playedV l k a i).1).length = i := by rw [boolss_len, playedV_len]
  have hpp := playedV_pos l k a i
  have hki : ((k : Int) * i) ≤ 100 * 200 := by
    have h1 : (k : Int) * i ≤ 100 * (i : Int) := Int.mul_le_mul_of_nonneg_right (by omega) (by omega)
    omega
  have hki0 : 0 ≤ (k : Int) * i := Int.mul_nonneg (by omega) (by omega)
  generalize hc : (playedV l k a i).2 = c at hpp
  have hs0 : StmOk l c := ⟨hs.vals, hs.len, by omega, by omega⟩
  have hap : (i + 1) * 24 ≤ 140737488355328 := by omega
  refine Run.seq ?_
  have fx := And.intro hap (And.intro hsl (And.intro hset (And.intro hl ft)))
  refine Run.go ?_
  refine End.kp [0, 2, 7, 8, 9, 10] ?_
  refine Run.seq ?_
  refine Run.cond _ rfl (fun hb => ?_) (fun hb => ?_)
  · have hb := of_decide_eq_true hb
    have hin : i < n := by omega
    have wi := wsucc hin (by omega)
    refine Run.skip ?_
    refine End.kp [0, 2, 7, 8, 9] ?_
    refine Run.seq ?_
    refine Run.block ?_
    have fx := And.intro wi (And.intro hap (And.intro hsl (And.intro hset (And.intro hl ft))))
    refine Run.region rfl fun K hK => GOps.sim ?_
    refine GOps.call rfl rfl rfl rfl (by kernel_rfl) (ACalls.sim ?_)
    refine (Values_ok k (by omega) l c hs0 (by omega) _ (d + 1) j (hset _)).mono fun v u hv => ?_
    obtain ⟨rfl, rfl⟩ := hv
    refine ⟨_, _, rfl, GOps.sim ?_⟩
    refine GOps.done (hK _ ?_); clear hK K
    refine End.blk ?_
    refine End.kp [0, 2, 7, 8, 9] ?_
    refine Run.go ?_
    refine End.lp ?_
    refine ⟨n - (i + 1), _, by omega, Ghost.form [(0, .ptr (d + 1) j 0), (2, .i k), (7, .ms 0 0 ((i + 1))), (8, .i n), (9, .i (i + 1 : Nat))] 1 ⟨rfl, rfl, rfl, rfl, rfl, trivial⟩ rfl rfl, i + 1, rfl, by omega, ?_⟩
    have e1 : playedV l k a (i + 1) = ((playedV l k a i).1 ++ [valsV l k c], c + k) := by rw [← hc]; rfl
    rw [e1]
    simp
  · have hb := of_decide_eq_false hb
    have hiN : i = n := by omega
    subst hiN
    refine Run.exit rfl ?_
    refine End.kp [7] ?_
    refine Run.seq ?_
    refine Run.ghost (Ghost.shut (t := 7) (j := 0) rfl rfl hsl) ?_
    simp only [eput, edel]
    have fx := And.intro hap (And.intro hsl (And.intro hset (And.intro hl ft)))
    refine Run.go ?_
    refine End.kp [6] ?_
    refine Run.ret (hQ _ _ ⟨.inr rfl, _, rfl, _, rfl, ?_⟩)
    exact ⟨rfl, by rw [hc]⟩
theorem boolss_at (q : List (List Bool)) (i : Nat) (h : i < q.length) : ∃ r, q[i]? = some r ∧ r ∈ q ∧ q.getD i [] = r ∧ (boolss q)[i]? = some [.sl (bools r)] :=
  ⟨q[i], List.getElem?_eq_getElem h, List.getElem_mem h, by simp [h], by simp [h]⟩
end Go.Proofs.YtkmnmokjlpenhaaPi

/- The walks of the checks of graphs: First, before, Check; and of their values. -/
set_option linter.unusedVariables false
set_option linter.unusedSimpArgs false
set_option maxRecDepth 100000
namespace Go.Proofs.YtkmnmokjlpenhaaPi
set_option maxHeartbeats 2000000

structure GSmall (g : LGraph) : Prop where
  inn : g.inn.length ≤ 128
  out : g.out.length ≤ 128
  regs : g.regs.length ≤ 288
  ands : g.ands.length ≤ 4000
  outs : g.outs.length ≤ 128
structure GraphOk (g : LGraph) : Prop where
  small : GSmall g
  names : ∀ s ∈ g.inn ++ g.regs.map LReg.name, NameOk s
  nodup : (g.inn ++ g.regs.map LReg.name).Nodup
  onames : ∀ s ∈ g.out, NameOk s
  onodup : g.out.Nodup
  olen : g.out.length = g.outs.length
  ands : ∀ (i : Nat) (p : Int × Int), g.ands[i]? = some p → (0 ≤ p.1 ∧ p.1 < 2 * (1 + (g.inn.length : Int) + g.regs.length + i)) ∧ 0 ≤ p.2 ∧ p.2 < 2 * (1 + (g.inn.length : Int) + g.regs.length + i)
  regs : ∀ r ∈ g.regs, 0 ≤ r.next ∧ r.next < 2 * (1 + (g.inn.length : Int) + g.regs.length + g.ands.length)
  outs : ∀ x ∈ g.outs, 0 ≤ x ∧ x < 2 * (1 + (g.inn.length : Int) + g.regs.length + g.ands.length)
theorem int_snoc (l : List Int) (i : Nat) (r : Int) (h : l[i]? = some r) : l.take (i + 1) = l.take i ++ [r] := by simp [List.take_add_one, h]
end Go.Proofs.YtkmnmokjlpenhaaPi

/- The walks of results, Words, Eval, Init, Run of graphs. -/
set_option linter.unusedVariables false
set_option linter.unusedSimpArgs false
set_option maxRecDepth 100000
namespace Go.Proofs.YtkmnmokjlpenhaaPi
set_option maxHeartbeats 2000000
abbrev laneB (l : List Int) : List Bool := l.map fun w => bits .and .u64 w 1 == 1
end Go.Proofs.YtkmnmokjlpenhaaPi

/- Plain law: what a run of a graph shows depends on lane 0 of the state alone. -/
set_option linter.unusedVariables false
set_option linter.unusedSimpArgs false
namespace Go.Proofs.YtkmnmokjlpenhaaPi

end Go.Proofs.YtkmnmokjlpenhaaPi

/- The walks of literals and of enables: Inverted, Node, Make, and, mux, find, Enables. -/
set_option linter.unusedVariables false
set_option linter.unusedSimpArgs false
set_option maxRecDepth 100000
namespace Go.Proofs.YtkmnmokjlpenhaaPi
set_option maxHeartbeats 2000000
end Go.Proofs.YtkmnmokjlpenhaaPi

/- Plain law: words as 64 bits; the values of literals and nodes of a graph. -/
set_option linter.unusedVariables false
set_option linter.unusedSimpArgs false
namespace Go.Proofs.YtkmnmokjlpenhaaPi

section
variable {g : LGraph} (hg : GraphOk g) {inn st : List Int} (h1 : inn.length = g.inn.length) (h2 : st.length = g.regs.length)
include hg h1 h2
end
end Go.Proofs.YtkmnmokjlpenhaaPi

/- Plain law: drawn names are in order, and no two of them are the same. -/
set_option linter.unusedVariables false
set_option linter.unusedSimpArgs false
namespace Go.Proofs.YtkmnmokjlpenhaaPi

theorem chr_nat (n : Int) (h0 : 0 ≤ n) (h1 : n < 256) : (chr n).toNat = n.toNat := by
  simp only [chr, UInt8.toNat_ofNat']
  omega
/-- The letter that tells one drawn name from the others. -/
def tag (s : ByteArray) : Option UInt8 := if s.data.toList[1]? = some 46 then s.data.toList[3]? else s.data.toList[1]?
theorem chr_46 (n : Int) (h0 : 97 ≤ n) (h1 : n < 256) : chr n ≠ 46 := fun e => by
  have := chr_nat n (by omega) h1
  rw [e] at this
  simp at this
  omega
theorem name_tag (l : List Int) (a i : Int) (hi : 0 ≤ i) : tag (nameV l a i).1 = some (chr (97 + i % 26)) := by
  have m0 := Int.emod_nonneg i (show (26 : Int) ≠ 0 by decide)
  have m1 := Int.emod_lt_of_pos i (show (0 : Int) < 26 by decide)
  have hne := chr_46 (97 + i % 26) (by omega) (by omega)
  unfold nameV
  split
  · simp [tag, hne]
  · split
    · simp [tag]
    · simp [tag, hne]
theorem chr_mem (n : Int) (h0 : 33 ≤ n) (h1 : n ≤ 126) : 33 ≤ (chr n).toNat ∧ (chr n).toNat ≤ 126 := by
  rw [chr_nat n (by omega) (by omega)]
  omega
theorem name_ok (l : List Int) (a i : Int) : NameOk (nameV l a i).1 := by
  have m0 := Int.emod_nonneg i (show (26 : Int) ≠ 0 by decide)
  have m1 := Int.emod_lt_of_pos i (show (0 : Int) < 26 by decide)
  have m2 := Int.emod_nonneg (i / 26) (show (26 : Int) ≠ 0 by decide)
  have m3 := Int.emod_lt_of_pos (i / 26) (show (0 : Int) < 26 by decide)
  obtain ⟨r0, r1⟩ := nextV_range l a 26 (by omega)
  obtain ⟨r4, r5⟩ := nextV_range l (a + 1 + 1) 10 (by omega)
  have c1 := chr_mem (97 + nextV l a 26) (by omega) (by omega)
  have c2 := chr_mem (97 + i % 26) (by omega) (by omega)
  have c3 := chr_mem (97 + i / 26 % 26) (by omega) (by omega)
  have c4 := chr_mem (48 + nextV l (a + 1 + 1) 10) (by omega) (by omega)
  unfold nameV
  split
  · refine ⟨by simp [ba_size], by simp [ba_size], fun b hb => ?_⟩
    simp only [ByteArray.data_append, Array.toList_append, List.mem_append, List.mem_cons, List.not_mem_nil, or_false] at hb
    rcases hb with (rfl | rfl | rfl) | (rfl | rfl) | rfl <;> first | assumption | decide
  · split
    · refine ⟨by simp [ba_size], by simp [ba_size], fun b hb => ?_⟩
      simp only [ByteArray.data_append, Array.toList_append, List.mem_append, List.mem_cons, List.not_mem_nil, or_false] at hb
      rcases hb with (rfl | rfl) | (rfl | rfl | rfl) <;> first | assumption | decide
    · refine ⟨by simp [ba_size], by simp [ba_size], fun b hb => ?_⟩
      simp only [List.mem_cons, List.not_mem_nil, or_false] at hb
      rcases hb with rfl | rfl | rfl <;> assumption
theorem words_ok (l : List Int) : ∀ (k i : Nat) (a : Int), (∀ s ∈ (wordsV l k i a).1, NameOk s) ∧ (wordsV l k i a).1.map tag = (List.range' i k).map fun i : Nat => some (chr (97 + (i : Int) % 26))
  | 0, i, a => by simp [wordsV]
  | k + 1, i, a => by
    obtain ⟨h1, h2⟩ := words_ok l k (i + 1) (nameV l a i).2
    refine ⟨fun s hs => ?_, ?_⟩
    · simp only [wordsV, List.mem_cons] at hs
      rcases hs with rfl | hs
      · exact name_ok l a i
      · exact h1 s hs
    · simp only [wordsV, List.map_cons, List.range'_succ, h2, name_tag l a i (by omega)]
theorem words_nodup (l : List Int) (k : Nat) (a : Int) (hk : k ≤ 26) : (wordsV l k 0 a).1.Nodup := by
  have h : ((wordsV l k 0 a).1.map tag).Pairwise (· ≠ ·) := by
    rw [(words_ok l k 0 a).2, List.pairwise_map]
    refine (List.pairwise_lt_range' (s := 0) (n := k)).imp_of_mem ?_
    intro x y hx hy hxy e
    simp only [List.mem_range'_1] at hx hy
    simp only [Option.some.injEq] at e
    have := congrArg UInt8.toNat e
    rw [chr_nat _ (by omega) (by omega), chr_nat _ (by omega) (by omega)] at this
    omega
  rw [List.pairwise_map] at h
  exact h.imp fun hne e => hne (by rw [e])
end Go.Proofs.YtkmnmokjlpenhaaPi

/- The walks of makers of graphs: New, Nodes, fail, In, and, known, And. -/
set_option linter.unusedVariables false
set_option linter.unusedSimpArgs false
set_option maxRecDepth 100000
namespace Go.Proofs.YtkmnmokjlpenhaaPi
set_option maxHeartbeats 4000000
/-- A maker: its names, registers, ands, and the first error. -/
structure LMk where
  inn : List ByteArray
  regs : List LReg
  ands : List (Int × Int)
  bad : Int
abbrev LMk.first (m : LMk) : Int := 1 + m.inn.length + m.regs.length
structure MkSmall (m : LMk) : Prop where
  inn : m.inn.length ≤ 200
  regs : m.regs.length ≤ 300
  ands : m.ands.length ≤ 4000
end Go.Proofs.YtkmnmokjlpenhaaPi

/- The walks of New, known, And, graphs, slices.Equal. -/
set_option linter.unusedVariables false
set_option linter.unusedSimpArgs false
set_option maxRecDepth 100000
namespace Go.Proofs.YtkmnmokjlpenhaaPi
set_option maxHeartbeats 4000000
theorem EqB_same (p q : List Bool) (h : p = q) (hn : p.length ≤ 1000000) (up : Frs) : ACalls Try.prog 55 [.im (.sl (bools p)), .im (.sl (bools q))] up fun v u => v = .im (.bool true) ∧ u = up := by
  have d1 : ((p.length : Int) != q.length) = false := by rw [h]; simp
  refine ACalls.code Try.func55 rfl 26 rfl (by simp) [.tmp 4] rfl fun Q hQ => ?_
  simp only [ups, PV.up, argEnv]
  have ft := And.intro ty_3 (And.intro ty_4 (And.intro ty_71 trivial))
  refine Run.seq ?_
  have fx := And.intro d1 (And.intro bools_len ft)
  refine Run.go ?_
  refine End.kp [0, 1] ?_
  refine Run.seq ?_
  refine Run.seq ?_
  refine Run.go ?_
  refine End.kp [0, 1, 10] ?_
  refine Run.cond _ rfl (fun hb => ?_) (fun hb => ?_)
  · have hb2 := hb
    simp at hb
  · have hb2 := hb
    refine Run.skip ?_
    refine End.kp [0, 1] ?_
    refine Run.seq ?_
    refine Run.seq ?_
    have fx := And.intro d1 (And.intro bools_len ft)
    refine Run.go ?_
    refine End.kp [0, 1, 12, 13] ?_
    refine Run.block ?_
    refine Run.ghost (Ghost.form [(0, .im (.sl (bools p))), (1, .im (.sl (bools q))), (12, .i p.length), (13, .i (0 : Nat))] 0 ⟨rfl, rfl, rfl, rfl, trivial⟩ rfl rfl) ?_
    refine Run.loop (fun m' st => ∃ i : Nat, m' = p.length - i ∧ i ≤ p.length ∧ st = ⟨[(0, .im (.sl (bools p))), (1, .im (.sl (bools q))), (12, .i p.length), (13, .i (i : Nat))], [], up⟩) p.length ⟨0, rfl, by omega, rfl⟩ fun m' st hI => ?_
    obtain ⟨i, rfl, hi, rfl⟩ := hI
    refine Run.seq ?_
    have fx := And.intro d1 (And.intro bools_len ft)
    refine Run.go ?_
    refine End.kp [0, 1, 12, 13, 14] ?_
    refine Run.seq ?_
    refine Run.cond _ rfl (fun hb => ?_) (fun hb => ?_)
    · have hb2 := of_decide_eq_true hb
      have hin : i < p.length := by omega
      have hiq : i < q.length := by rw [← h]; exact hin
      have wi := wsucc hin (by omega)
      have hp := bools_get p i hin
      have hq := bools_get q i hiq
      have hlp : (i : Int) < (p.length : Int) := by omega
      have hlq : (i : Int) < (q.length : Int) := by omega
      refine Run.skip ?_
      refine End.kp [0, 1, 12, 13] ?_
      refine Run.seq ?_
      refine Run.block ?_
      refine Run.seq ?_
      have fx := And.intro (@Int.toNat_natCast) (And.intro (@Int.natCast_nonneg) (And.intro hlq (And.intro hlp (And.intro hq (And.intro hp (And.intro wi (And.intro d1 (And.intro bools_len ft))))))))
      refine Run.go ?_
      refine End.kp [0, 1, 5, 12, 13] ?_
      refine Run.seq ?_
      refine Run.drawA fun K hK => ?_
      refine DOps.sim ?_
      refine DOps.nil (metAll_quiet rfl) (hK _ ?_); clear hK K
      refine End.kp [0, 1, 12, 13, 24] ?_
      refine Run.cond _ rfl (fun hb => ?_) (fun hb => ?_)
      · have hb2 := hb
        simp [h] at hb
      · have hb2 := hb
        refine Run.skip ?_
        refine End.blk ?_
        refine End.kp [0, 1, 12, 13] ?_
        have fx := And.intro (@Int.toNat_natCast) (And.intro (@Int.natCast_nonneg) (And.intro hlq (And.intro hlp (And.intro hq (And.intro hp (And.intro wi (And.intro d1 (And.intro bools_len ft))))))))
        refine Run.go ?_
        refine End.lp ?_
        refine ⟨p.length - (i + 1), _, by omega, Ghost.form [(0, .im (.sl (bools p))), (1, .im (.sl (bools q))), (12, .i p.length), (13, .i (i + 1 : Nat))] 0 ⟨rfl, rfl, rfl, rfl, trivial⟩ rfl rfl, i + 1, rfl, by omega, rfl⟩
    · have hb2 := of_decide_eq_false hb
      refine Run.exit rfl ?_
      refine End.kp [] ?_
      refine Run.seq ?_
      have fx := And.intro d1 (And.intro bools_len ft)
      refine Run.go ?_
      refine End.kp [4] ?_
      refine Run.ret (hQ _ _ ⟨.inr rfl, _, rfl, _, rfl, ?_⟩)
      exact ⟨rfl, rfl⟩
end Go.Proofs.YtkmnmokjlpenhaaPi

/- The walks of Roots, cone, moved, Clean of graphs. -/
set_option linter.unusedVariables false
set_option linter.unusedSimpArgs false
set_option maxRecDepth 100000
namespace Go.Proofs.YtkmnmokjlpenhaaPi
set_option maxHeartbeats 4000000
abbrev iI (x : Int) : List Im := [.int .i64 x]
theorem bools_set (q : List Bool) (i : Nat) (b : Bool) : (bools q).set i [.bool b] = bools (q.set i b) := by simp [List.map_set]
end Go.Proofs.YtkmnmokjlpenhaaPi

/- The walks of moved$1, moved of graphs. -/
set_option linter.unusedVariables false
set_option linter.unusedSimpArgs false
set_option maxRecDepth 100000
namespace Go.Proofs.YtkmnmokjlpenhaaPi
set_option maxHeartbeats 4000000
end Go.Proofs.YtkmnmokjlpenhaaPi

/- The walk of Clean of graphs. -/
set_option linter.unusedVariables false
set_option linter.unusedSimpArgs false
set_option maxRecDepth 100000
namespace Go.Proofs.YtkmnmokjlpenhaaPi
set_option maxHeartbeats 4000000
end Go.Proofs.YtkmnmokjlpenhaaPi

/- The walk of Strash of graphs. -/
set_option linter.unusedVariables false
set_option linter.unusedSimpArgs false
set_option maxRecDepth 100000
namespace Go.Proofs.YtkmnmokjlpenhaaPi
set_option maxHeartbeats 4000000
end Go.Proofs.YtkmnmokjlpenhaaPi

/- The walk of Moving, and that drawn graphs are in order. -/
set_option linter.unusedVariables false
set_option linter.unusedSimpArgs false
set_option maxRecDepth 100000
namespace Go.Proofs.YtkmnmokjlpenhaaPi
set_option maxHeartbeats 4000000
end Go.Proofs.YtkmnmokjlpenhaaPi

/- Plain law: drawn graphs are in order. -/
set_option linter.unusedVariables false
set_option linter.unusedSimpArgs false
namespace Go.Proofs.YtkmnmokjlpenhaaPi
set_option maxHeartbeats 4000000
end Go.Proofs.YtkmnmokjlpenhaaPi

/- The walks of runs, GraphTidies. -/
set_option linter.unusedVariables false
set_option linter.unusedSimpArgs false
set_option maxRecDepth 100000
namespace Go.Proofs.YtkmnmokjlpenhaaPi
set_option maxHeartbeats 4000000
theorem EqF_same (p : List (List Bool)) (hn : p.length ≤ 1000000) (hr : ∀ r ∈ p, r.length ≤ 1000000) (up : Frs) : ACalls Try.prog 59 [.im (.sl (boolss p)), .im (.sl (boolss p)), .fn 55 []] up fun v u => v = .im (.bool true) ∧ u = up := by
  have d1 : ((p.length : Int) != p.length) = false := by simp
  refine ACalls.code Try.func59 rfl 32 rfl (by simp) [.tmp 6] rfl fun Q hQ => ?_
  simp only [ups, PV.up, argEnv]
  have ft := And.intro ty_3 (And.intro ty_4 (And.intro ty_58 (And.intro ty_71 trivial)))
  refine Run.seq ?_
  have fx := And.intro d1 (And.intro boolss_len ft)
  refine Run.go ?_
  refine End.kp [0, 1, 2] ?_
  refine Run.seq ?_
  refine Run.seq ?_
  refine Run.go ?_
  refine End.kp [0, 1, 2, 14] ?_
  refine Run.cond _ rfl (fun hb => ?_) (fun hb => ?_)
  · have hb2 := hb
    simp at hb
  · have hb2 := hb
    refine Run.skip ?_
    refine End.kp [0, 1, 2] ?_
    refine Run.seq ?_
    refine Run.seq ?_
    have fx := And.intro d1 (And.intro boolss_len ft)
    refine Run.go ?_
    refine End.kp [1, 2, 15, 16, 17] ?_
    refine Run.block ?_
    refine Run.ghost (Ghost.form [(1, .im (.sl (boolss p))), (2, .fn 55 []), (15, .im (.sl (boolss p))), (16, .i p.length), (17, .i (0 : Nat))] 0 ⟨rfl, rfl, rfl, rfl, rfl, trivial⟩ rfl rfl) ?_
    refine Run.loop (fun m' st => ∃ i : Nat, m' = p.length - i ∧ i ≤ p.length ∧ st = ⟨[(1, .im (.sl (boolss p))), (2, .fn 55 []), (15, .im (.sl (boolss p))), (16, .i p.length), (17, .i (i : Nat))], [], up⟩) p.length ⟨0, rfl, by omega, rfl⟩ fun m' st hI => ?_
    obtain ⟨i, rfl, hi, rfl⟩ := hI
    refine Run.seq ?_
    have fx := And.intro d1 (And.intro boolss_len ft)
    refine Run.go ?_
    refine End.kp [1, 2, 15, 16, 17, 18] ?_
    refine Run.seq ?_
    refine Run.cond _ rfl (fun hb => ?_) (fun hb => ?_)
    · have hb2 := of_decide_eq_true hb
      have hin : i < p.length := by omega
      have wi := wsucc hin (by omega)
      obtain ⟨r, hri, hrm, _, hrr⟩ := boolss_at p i hin
      have hrl := hr r hrm
      have hil : (i : Int) < (p.length : Int) := by omega
      refine Run.skip ?_
      refine End.kp [1, 2, 15, 16, 17] ?_
      refine Run.seq ?_
      refine Run.block ?_
      refine Run.seq ?_
      have fx := And.intro (@Int.toNat_natCast) (And.intro (@Int.natCast_nonneg) (And.intro hil (And.intro hrr (And.intro wi (And.intro d1 (And.intro boolss_len ft))))))
      refine Run.go ?_
      refine End.kp [1, 2, 7, 8, 15, 16, 17] ?_
      refine Run.seq ?_
      refine Run.go ?_
      refine End.kp [1, 2, 8, 9, 15, 16, 17] ?_
      refine Run.seq ?_
      refine Run.region rfl fun K hK => GOps.sim ?_
      refine GOps.call rfl rfl rfl rfl (by kernel_rfl) (ACalls.sim ?_)
      refine (EqB_same r r rfl (by omega) _).mono fun v u hv => ?_
      obtain ⟨rfl, rfl⟩ := hv
      refine ⟨_, _, rfl, GOps.sim ?_⟩
      refine GOps.done (hK _ ?_); clear hK K
      refine End.kp [1, 2, 15, 16, 17, 30] ?_
      refine Run.cond _ rfl (fun hb => ?_) (fun hb => ?_)
      · have hb2 := hb
        simp at hb
      · have hb2 := hb
        refine Run.skip ?_
        refine End.blk ?_
        refine End.kp [1, 2, 15, 16, 17] ?_
        have fx := And.intro (@Int.toNat_natCast) (And.intro (@Int.natCast_nonneg) (And.intro hil (And.intro hrr (And.intro wi (And.intro d1 (And.intro boolss_len ft))))))
        refine Run.go ?_
        refine End.lp ?_
        refine ⟨p.length - (i + 1), _, by omega, Ghost.form [(1, .im (.sl (boolss p))), (2, .fn 55 []), (15, .im (.sl (boolss p))), (16, .i p.length), (17, .i (i + 1 : Nat))] 0 ⟨rfl, rfl, rfl, rfl, rfl, trivial⟩ rfl rfl, i + 1, rfl, by omega, rfl⟩
    · have hb2 := of_decide_eq_false hb
      refine Run.exit rfl ?_
      refine End.kp [] ?_
      refine Run.seq ?_
      have fx := And.intro d1 (And.intro boolss_len ft)
      refine Run.go ?_
      refine End.kp [6] ?_
      refine Run.ret (hQ _ _ ⟨.inr rfl, _, rfl, _, rfl, ?_⟩)
      exact ⟨rfl, rfl⟩
end Go.Proofs.YtkmnmokjlpenhaaPi

/- Merged: WGF WGG WGH. -/
/- The walks of Copy of graphs, and of pair, depends of makers. -/
set_option linter.unusedVariables false
set_option linter.unusedSimpArgs false
set_option maxRecDepth 100000
namespace Go.Proofs.YtkmnmokjlpenhaaPi
set_option maxHeartbeats 4000000
abbrev LMk.top (m : LMk) : Int := 2 * (m.first + m.ands.length)
abbrev InM (m : LMk) (a : Int) : Prop := 0 ≤ a ∧ a < m.top
structure AfterM (m m' : LMk) (n : Nat) : Prop where
  inn : m'.inn = m.inn
  regs : m'.regs = m.regs
  less : m.ands.length ≤ m'.ands.length
  most : m'.ands.length ≤ m.ands.length + n
theorem AfterM.first {m m' : LMk} {n : Nat} (h : AfterM m m' n) : m'.first = m.first := by rw [LMk.first, LMk.first, h.inn, h.regs]
theorem AfterM.small {m m' : LMk} {n : Nat} (h : AfterM m m' n) (hm : MkSmall m) (hn : m.ands.length + n ≤ 4000) : MkSmall m' := ⟨by rw [h.inn]; exact hm.inn, by rw [h.regs]; exact hm.regs, by have := h.most; omega⟩
theorem AfterM.up {m m' : LMk} {n : Nat} (h : AfterM m m' n) {a : Int} (ha : InM m a) : InM m' a := by
  have := h.first
  have := h.less
  unfold InM LMk.top at *
  omega
theorem AfterM.trans {m m' m2 : LMk} {n k : Nat} (h : AfterM m m' n) (h' : AfterM m' m2 k) : AfterM m m2 (n + k) := ⟨by rw [h'.inn, h.inn], by rw [h'.regs, h.regs], by have := h.less; have := h'.less; omega, by have := h.most; have := h'.most; omega⟩
theorem AfterM.refl (m : LMk) (n : Nat) : AfterM m m n := ⟨rfl, rfl, Nat.le_refl _, by omega⟩
end Go.Proofs.YtkmnmokjlpenhaaPi

/- The walks of depends, table, Table of makers. -/
set_option linter.unusedVariables false
set_option linter.unusedSimpArgs false
namespace Go.Proofs.YtkmnmokjlpenhaaPi
set_option maxHeartbeats 4000000
end Go.Proofs.YtkmnmokjlpenhaaPi

/- The walk of table of makers. -/
set_option linter.unusedVariables false
set_option linter.unusedSimpArgs false
namespace Go.Proofs.YtkmnmokjlpenhaaPi
set_option maxHeartbeats 4000000
end Go.Proofs.YtkmnmokjlpenhaaPi

/- Merged: WGI WGJ WGK. -/
/- The walks of Table, Graph of makers. -/
set_option linter.unusedVariables false
set_option linter.unusedSimpArgs false
set_option maxRecDepth 100000
namespace Go.Proofs.YtkmnmokjlpenhaaPi
set_option maxHeartbeats 4000000
end Go.Proofs.YtkmnmokjlpenhaaPi

/- The walks of Next, Words of a stream without numbers. -/
set_option linter.unusedVariables false
set_option linter.unusedSimpArgs false
namespace Go.Proofs.YtkmnmokjlpenhaaPi
set_option maxHeartbeats 4000000
end Go.Proofs.YtkmnmokjlpenhaaPi

/- The walk of GraphTables. -/
set_option linter.unusedVariables false
set_option linter.unusedSimpArgs false
namespace Go.Proofs.YtkmnmokjlpenhaaPi
set_option maxHeartbeats 4000000
end Go.Proofs.YtkmnmokjlpenhaaPi

/- Merged: PTidyA PTidyB PTab. -/
/- Plain law: Clean and Strash of graphs keep what a graph shows. -/
set_option linter.unusedVariables false
set_option linter.unusedSimpArgs false
namespace Go.Proofs.YtkmnmokjlpenhaaPi

/- The cone. -/
theorem set_getD (v : List Bool) (i k : Nat) : (v.set i true).getD k false = if i = k ∧ k < v.length then true else v.getD k false := by
  simp only [List.getD_eq_getElem?_getD, List.getElem?_set]
  by_cases h : i = k
  · subst h
    by_cases h2 : i < v.length
    · simp [h2]
    · simp [h2]
  · simp [h]
theorem set_mono {v : List Bool} {i k : Nat} (h : v.getD k false = true) : (v.set i true).getD k false = true := by
  rw [set_getD]
  split
  · rfl
  · exact h
section
variable {g : LGraph} (hg : GraphOk g)
include hg
end

section
variable {g : LGraph} (hg : GraphOk g) {inn st : List Int} (h1 : inn.length = g.inn.length) (h2 : st.length = g.regs.length)
include hg h1 h2
end
end Go.Proofs.YtkmnmokjlpenhaaPi

/- Plain law: Strash of graphs keeps what a graph shows; done again Clean and Strash change nothing. -/
set_option linter.unusedVariables false
set_option linter.unusedSimpArgs false
namespace Go.Proofs.YtkmnmokjlpenhaaPi

section
variable {g : LGraph} {inn st : List Int} (h1 : inn.length = g.inn.length) (h2 : st.length = g.regs.length)
include h1 h2
end
end Go.Proofs.YtkmnmokjlpenhaaPi

/- Plain law: a table has its values over any literals. -/
set_option linter.unusedVariables false
set_option linter.unusedSimpArgs false
namespace Go.Proofs.YtkmnmokjlpenhaaPi

section
variable {g : LGraph} {inn st : List Int} (h1 : inn.length = g.inn.length) (h2 : st.length = g.regs.length)
include h1 h2
end
section
variable {g : LGraph} {inn st : List Int} (h1 : inn.length = g.inn.length) (h2 : st.length = g.regs.length)
include h1 h2
end
end Go.Proofs.YtkmnmokjlpenhaaPi

/- The walks of slices.Concat of rows of bools, and of rows of words, that are not all empty. -/
set_option linter.unusedVariables false
set_option linter.unusedSimpArgs false
set_option maxRecDepth 100000
namespace Go.Proofs.YtkmnmokjlpenhaaPi
set_option maxHeartbeats 4000000
end Go.Proofs.YtkmnmokjlpenhaaPi

/- The walks of slices.Concat at literals, and of net. -/
set_option linter.unusedVariables false
set_option linter.unusedSimpArgs false
set_option maxRecDepth 100000
namespace Go.Proofs.YtkmnmokjlpenhaaPi
set_option maxHeartbeats 4000000
end Go.Proofs.YtkmnmokjlpenhaaPi

/- The walk of what gives each literal a net (With$1): an inverter is made where none is yet. -/
set_option linter.unusedVariables false
set_option linter.unusedSimpArgs false
set_option maxRecDepth 100000
namespace Go.Proofs.YtkmnmokjlpenhaaPi
set_option maxHeartbeats 4000000
end Go.Proofs.YtkmnmokjlpenhaaPi

/- The walk of With: the netlist of a graph. -/
set_option linter.unusedVariables false
set_option linter.unusedSimpArgs false
set_option maxRecDepth 100000
namespace Go.Proofs.YtkmnmokjlpenhaaPi
set_option maxHeartbeats 8000000
end Go.Proofs.YtkmnmokjlpenhaaPi

/- The walks of netlist.Init, netlist.Run and netlist.Of. -/
set_option linter.unusedVariables false
set_option linter.unusedSimpArgs false
set_option maxRecDepth 100000
namespace Go.Proofs.YtkmnmokjlpenhaaPi
set_option maxHeartbeats 4000000
def nextsM (n : LNet) (v : List Int) : List Int := nextsF n v 0 n.flops
def initN (n : LNet) : List Bool := n.flops.map LFlop.init
def runN (n : LNet) : List Int → List (List Bool) → List (List Bool)
  | _, [] => []
  | st, r :: t => laneB (outV n (valuesV n (lanes0 r) st)) :: runN n (nextsM n (valuesV n (lanes0 r) st)) t
theorem NInit_ok (n : LNet) (hg : NetSmall n) (up : Frs) : ACalls Try.prog 104 [n.pv] up fun v u => v = .im (.sl (bools (initN n))) ∧ u = up := by
  obtain ⟨z1, z2, z3, z4, z5⟩ := hg
  have hc : (0 : Int) ≤ n.flops.length := by omega
  have hm1 : ((1 : Nat) : Int) * (n.flops.length : Int) ≤ 281474976710656 := by omega
  have hm2 : (n.flops.length : Int) ≤ 9223372036854775807 := by omega
  refine ACalls.code Try.func104 rfl 25 rfl (by simp) [.tmp 2] rfl fun Q hQ => ?_
  simp only [ups, PV.up, argEnv]
  have ft := And.intro ty_2 (And.intro ty_3 (And.intro ty_4 (And.intro ty_27 (And.intro ty_30 (And.intro ty_71 (And.intro ty_78 trivial))))))
  refine Run.seq ?_
  have fx := And.intro hm2 (And.intro hm1 (And.intro hc (And.intro fim_len ft)))
  refine Run.go ?_
  refine End.kp [1] ?_
  refine Run.seq ?_
  refine Run.go ?_
  refine End.kp [1, 3] ?_
  refine Run.seq ?_
  refine Run.seq ?_
  refine Run.go ?_
  refine End.kp [3, 11, 12, 13] ?_
  refine Run.block ?_
  refine Run.ghost (Ghost.form [(3, .ms 0 1 n.flops.length), (11, .im (.sl (n.flops.map LFlop.im))), (12, .i n.flops.length), (13, .i (0 : Nat))] 2 ⟨rfl, rfl, rfl, rfl, trivial⟩ rfl rfl) ?_
  refine Run.loop (fun m s => ∃ (i : Nat), m = n.flops.length - i ∧ i ≤ n.flops.length ∧ s = ⟨[(3, .ms 0 1 n.flops.length), (11, .im (.sl (n.flops.map LFlop.im))), (12, .i n.flops.length), (13, .i (i : Nat))], [.box [.im (.sl (strs n.inn)), .im (.sl (strs n.out)), .im (.sl (n.flops.map LFlop.im)), .im (.sl (n.gates.map LGate.im)), .im (.sl (ints n.outs))], .row 4 1 ((n.flops.take i).map (fun r => [Im.bool r.init]) ++ List.replicate (n.flops.length - i) [.bool false]) 0], up⟩) n.flops.length ⟨0, rfl, by omega, by simp⟩ fun m s hI => ?_
  obtain ⟨i, rfl, hi, rfl⟩ := hI
  have hrl := fill_len (fun r => [Im.bool r.init]) n.flops [.bool false] i hi
  refine Run.seq ?_
  have fx := And.intro hrl (And.intro hm2 (And.intro hm1 (And.intro hc (And.intro fim_len ft))))
  refine Run.go ?_
  refine End.kp [3, 11, 12, 13, 14] ?_
  refine Run.seq ?_
  refine Run.cond _ rfl (fun hb => ?_) (fun hb => ?_)
  · have hb := of_decide_eq_true hb
    have hin : i < n.flops.length := by omega
    have wi := wsucc hin (by omega)
    obtain ⟨f, hfi, hfm, hf⟩ := flop_at n.flops i hin
    have hri := fill_get (fun r => [Im.bool r.init]) n.flops [.bool false] i hin
    have hfd : n.flops.getD i ⟨ByteArray.empty, 0, 0, false⟩ = f := by simp [hfi]
    have hfm2 := fill_map (fun r => [Im.bool r.init]) n.flops [.bool false] ⟨ByteArray.empty, 0, 0, false⟩ i hin
    rw [hfd] at hfm2
    refine Run.skip ?_
    refine End.kp [3, 11, 12, 13] ?_
    refine Run.seq ?_
    refine Run.block ?_
    refine Run.seq ?_
    have fx := And.intro hri (And.intro hin (And.intro (@Int.ofNat_lt) (And.intro (@Int.toNat_natCast) (And.intro (@Int.natCast_nonneg) (And.intro hf (And.intro wi (And.intro hrl (And.intro hm2 (And.intro hm1 (And.intro hc (And.intro fim_len ft)))))))))))
    refine Run.go ?_
    refine End.kp [3, 4, 5, 11, 12, 13] ?_
    refine Run.go ?_
    refine End.blk ?_
    refine End.kp [3, 11, 12, 13] ?_
    refine Run.go ?_
    refine End.lp ?_
    refine ⟨n.flops.length - (i + 1), _, by omega, Ghost.form [(3, .ms 0 1 n.flops.length), (11, .im (.sl (n.flops.map LFlop.im))), (12, .i n.flops.length), (13, .i (i + 1 : Nat))] 2 ⟨rfl, rfl, rfl, rfl, trivial⟩ rfl rfl, i + 1, rfl, by omega, ?_⟩
    rw [← hfm2]
    rfl
  · have hb := of_decide_eq_false hb
    have hiN : i = n.flops.length := by omega
    subst hiN
    rw [fill_all] at hrl ⊢
    refine Run.exit rfl ?_
    refine End.kp [3] ?_
    refine Run.seq ?_
    refine Run.ghost (Ghost.shut (t := 3) (j := 1) rfl rfl hrl) ?_
    simp only [eput, edel]
    have fx := And.intro hrl (And.intro hm2 (And.intro hm1 (And.intro hc (And.intro fim_len ft))))
    refine Run.go ?_
    refine End.kp [2] ?_
    refine Run.ret (hQ _ _ ⟨.inr rfl, _, rfl, _, rfl, ?_⟩)
    exact ⟨by simp [initN], rfl⟩
theorem NRun_ok (n : LNet) (hg : NetOk n) (tr : List (List Bool)) (hn : tr.length ≤ 64) (ht : ∀ r ∈ tr, r.length = n.inn.length) (up : Frs) : ACalls Try.prog 57 [n.pv, .im (.sl (boolss tr))] up fun v u => v = .tup [.im (.sl (boolss (runN n (lanes0 (initN n)) tr))), .i 0] ∧ u = up := by
  have hsm := hg.small
  obtain ⟨z1, z2, z3, z4, z5⟩ := hg.small
  have d1 : decide ((tr.length : Int) > 64) = false := decide_eq_false (by omega)
  refine ACalls.code Try.func57 rfl 63 rfl (by simp) [.tmp 4, .tmp 5] rfl fun Q hQ => ?_
  simp only [ups, PV.up, argEnv]
  have ft := And.intro ty_3 (And.intro ty_4 (And.intro ty_9 (And.intro ty_26 (And.intro ty_30 (And.intro ty_34 (And.intro ty_37 (And.intro ty_56 (And.intro ty_58 (And.intro ty_71 trivial)))))))))
  refine Run.seq ?_
  have fx := And.intro d1 (And.intro strs_len (And.intro bools_len (And.intro boolss_len ft)))
  refine Run.go ?_
  refine End.kp [1, 2] ?_
  refine Run.seq ?_
  refine Run.seq ?_
  refine Run.region rfl fun K hK => GOps.sim ?_
  refine GOps.call rfl rfl rfl rfl (by kernel_rfl) (ACalls.sim ?_)
  refine (Form_ok n hg _).mono fun v u hv => ?_
  obtain ⟨rfl, rfl⟩ := hv
  refine ⟨_, _, rfl, GOps.sim ?_⟩
  refine GOps.done (hK _ ?_); clear hK K
  refine End.kp [1, 2, 6] ?_
  refine Run.seq ?_
  refine Run.go ?_
  refine End.kp [1, 2, 6, 18] ?_
  refine Run.cond _ rfl (fun hb => ?_) (fun hb => ?_)
  · have hb := hb
    simp at hb
  · have hb := hb
    refine Run.skip ?_
    refine End.kp [1, 2] ?_
    refine Run.seq ?_
    refine Run.seq ?_
    have fx := And.intro d1 (And.intro strs_len (And.intro bools_len (And.intro boolss_len ft)))
    refine Run.go ?_
    refine End.kp [1, 2, 22] ?_
    refine Run.cond _ rfl (fun hb => ?_) (fun hb => ?_)
    · have hb := hb
      simp at hb
    · have hb := hb
      refine Run.skip ?_
      refine End.kp [1, 2] ?_
      refine Run.seq ?_
      refine Run.seq ?_
      have fx := And.intro d1 (And.intro strs_len (And.intro bools_len (And.intro boolss_len ft)))
      refine Run.go ?_
      refine End.kp [1, 2, 23, 24, 25] ?_
      refine Run.block ?_
      refine Run.ghost (Ghost.form [(1, .im (.sl (boolss tr))), (2, .ptr 0 0 0), (23, .im (.sl (boolss tr))), (24, .i tr.length), (25, .i (0 : Nat))] 1 ⟨rfl, rfl, rfl, rfl, rfl, trivial⟩ rfl rfl) ?_
      refine Run.loop (fun m s => ∃ (i : Nat), m = tr.length - i ∧ i ≤ tr.length ∧ s = ⟨[(1, .im (.sl (boolss tr))), (2, .ptr 0 0 0), (23, .im (.sl (boolss tr))), (24, .i tr.length), (25, .i (i : Nat))], [.box [.im (.sl (strs n.inn)), .im (.sl (strs n.out)), .im (.sl (n.flops.map LFlop.im)), .im (.sl (n.gates.map LGate.im)), .im (.sl (ints n.outs))]], up⟩) tr.length ⟨0, rfl, by omega, rfl⟩ fun m s hI => ?_
      obtain ⟨i, rfl, hi, rfl⟩ := hI
      refine Run.seq ?_
      have fx := And.intro d1 (And.intro strs_len (And.intro bools_len (And.intro boolss_len ft)))
      refine Run.go ?_
      refine End.kp [1, 2, 23, 24, 25, 26] ?_
      refine Run.seq ?_
      refine Run.cond _ rfl (fun hb => ?_) (fun hb => ?_)
      · have hb := of_decide_eq_true hb
        have hin : i < tr.length := by omega
        have wi := wsucc hin (by omega)
        obtain ⟨r, hri, hrm, _, hr⟩ := boolss_at tr i hin
        have d2 : ((r.length : Int) != n.inn.length) = false := by rw [ht r hrm]; simp
        refine Run.skip ?_
        refine End.kp [1, 2, 23, 24, 25] ?_
        refine Run.seq ?_
        refine Run.block ?_
        refine Run.seq ?_
        have fx := And.intro (@Int.toNat_natCast) (And.intro (@Int.natCast_nonneg) (And.intro d2 (And.intro hr (And.intro wi (And.intro d1 (And.intro strs_len (And.intro bools_len (And.intro boolss_len ft))))))))
        refine Run.go ?_
        refine End.kp [1, 2, 8, 23, 24, 25] ?_
        refine Run.seq ?_
        refine Run.go ?_
        refine End.kp [1, 2, 23, 24, 25, 34] ?_
        refine Run.cond _ rfl (fun hb => ?_) (fun hb => ?_)
        · have hb := hb
          simp at hb
        · have hb := hb
          refine Run.skip ?_
          refine End.blk ?_
          refine End.kp [1, 2, 23, 24, 25] ?_
          have fx := And.intro (@Int.toNat_natCast) (And.intro (@Int.natCast_nonneg) (And.intro d2 (And.intro hr (And.intro wi (And.intro d1 (And.intro strs_len (And.intro bools_len (And.intro boolss_len ft))))))))
          refine Run.go ?_
          refine End.lp ?_
          refine ⟨tr.length - (i + 1), _, by omega, Ghost.form [(1, .im (.sl (boolss tr))), (2, .ptr 0 0 0), (23, .im (.sl (boolss tr))), (24, .i tr.length), (25, .i (i + 1 : Nat))] 1 ⟨rfl, rfl, rfl, rfl, rfl, trivial⟩ rfl rfl, i + 1, rfl, by omega, rfl⟩
      · have hb := of_decide_eq_false hb
        refine Run.exit rfl ?_
        refine End.kp [1, 2] ?_
        refine Run.seq ?_
        have fx := And.intro d1 (And.intro strs_len (And.intro bools_len (And.intro boolss_len ft)))
        refine Run.region rfl fun K hK => GOps.sim ?_
        refine GOps.call rfl rfl rfl rfl (by kernel_rfl) (ACalls.sim ?_)
        refine (NInit_ok n hsm _).mono fun v u hv => ?_
        obtain ⟨rfl, rfl⟩ := hv
        refine ⟨_, _, rfl, GOps.sim ?_⟩
        refine GOps.call rfl rfl rfl rfl (by kernel_rfl) (ACalls.sim ?_)
        refine (Lanes_ok (initN n) (by simp [initN]; omega) _).mono fun v u hv => ?_
        obtain ⟨rfl, rfl⟩ := hv
        refine ⟨_, _, rfl, GOps.sim ?_⟩
        refine GOps.done (hK _ ?_); clear hK K
        refine End.kp [1, 2, 9] ?_
        refine Run.seq ?_
        refine Run.go ?_
        refine End.kp [1, 2, 9, 10] ?_
        refine Run.seq ?_
        refine Run.seq ?_
        refine Run.go ?_
        refine End.kp [2, 9, 10, 39, 40, 41] ?_
        refine Run.block ?_
        refine Run.ghost (Ghost.thaw (u := 10) 71 1 (by decide) rfl) ?_
        refine Run.ghost (Ghost.form [(2, .ptr 0 0 0), (9, .im (.sl (us (lanes0 (initN n))))), (10, .ms 0 1 (0)), (39, .im (.sl (boolss tr))), (40, .i tr.length), (41, .i (0 : Nat))] 2 ⟨rfl, rfl, rfl, rfl, rfl, rfl, trivial⟩ rfl rfl) ?_
        refine Run.loop (fun m s => ∃ (i : Nat) (st : List Int) (dn : List (List Bool)), m = tr.length - i ∧ i ≤ tr.length ∧ dn.length = i ∧ st.length = n.flops.length ∧ dn ++ runN n st (tr.drop i) = runN n (lanes0 (initN n)) tr ∧ s = ⟨[(2, .ptr 0 0 0), (9, .im (.sl (us st))), (10, .ms 0 1 (i)), (39, .im (.sl (boolss tr))), (40, .i tr.length), (41, .i (i : Nat))], [.box [.im (.sl (strs n.inn)), .im (.sl (strs n.out)), .im (.sl (n.flops.map LFlop.im)), .im (.sl (n.gates.map LGate.im)), .im (.sl (ints n.outs))], .row 71 1 (boolss dn) 0], up⟩) tr.length ⟨0, _, [], rfl, by omega, rfl, by simp [initN], rfl, rfl⟩ fun m s hI => ?_
        obtain ⟨i, st, dn, rfl, hi, hdn, hst, hR, rfl⟩ := hI
        have hap : (i + 1) * 24 ≤ 140737488355328 := by omega
        refine Run.seq ?_
        have fx := And.intro hap (And.intro hdn (And.intro d1 (And.intro strs_len (And.intro bools_len (And.intro boolss_len ft)))))
        refine Run.go ?_
        refine End.kp [2, 9, 10, 39, 40, 41, 42] ?_
        refine Run.seq ?_
        refine Run.cond _ rfl (fun hb => ?_) (fun hb => ?_)
        · have hb := of_decide_eq_true hb
          have hin : i < tr.length := by omega
          have wi := wsucc hin (by omega)
          obtain ⟨r, hri, hrm, _, hr⟩ := boolss_at tr i hin
          have hrl := ht r hrm
          have hdr : tr.drop i = r :: tr.drop (i + 1) := by
            obtain ⟨h, e⟩ := List.getElem?_eq_some_iff.1 hri
            rw [← e]
            exact List.drop_eq_getElem_cons h
          rw [hdr, runN] at hR
          refine Run.skip ?_
          refine End.kp [2, 9, 10, 39, 40, 41] ?_
          refine Run.seq ?_
          refine Run.block ?_
          refine Run.seq ?_
          have fx := And.intro (@Int.toNat_natCast) (And.intro (@Int.natCast_nonneg) (And.intro hr (And.intro wi (And.intro hap (And.intro hdn (And.intro d1 (And.intro strs_len (And.intro bools_len (And.intro boolss_len ft)))))))))
          refine Run.go ?_
          refine End.kp [2, 9, 10, 12, 39, 40, 41] ?_
          refine Run.seq ?_
          refine Run.drawA fun K hK => ?_
          refine DOps.sim ?_
          refine DOps.call (.im (.sl (us (lanes0 r)))) [] [] rfl rfl rfl rfl (by kernel_rfl) (by simp [Agree]) (fun u hu => Lanes_ok r (by omega) u) ?_
          refine DOps.sim ?_
          refine DOps.call (.im (.sl (us (valuesV n (lanes0 r) st)))) [] [] rfl rfl rfl rfl (by kernel_rfl) (by simp [Agree]) (fun u hu => values_ok n hg (lanes0 r) st (by simpa using hrl) hst u) ?_
          refine DOps.sim ?_
          refine DOps.call (.tup [.im (.sl (us (outV n (valuesV n (lanes0 r) st)))), .im (.sl (us (nextsM n (valuesV n (lanes0 r) st))))]) [] [] rfl rfl rfl rfl (by kernel_rfl) (by simp [Agree]) (fun u hu => nresults_ok n hg (valuesV n (lanes0 r) st) (by rw [valuesV_len n _ _ (by simpa using hrl) hst]) u) ?_
          refine DOps.sim ?_
          refine DOps.nil (metAll_quiet rfl) (hK _ ?_); clear hK K
          refine End.kp [2, 10, 13, 14, 39, 40, 41] ?_
          refine Run.region rfl fun K hK => GOps.sim ?_
          refine GOps.call rfl rfl rfl rfl (by kernel_rfl) (ACalls.sim ?_)
          refine (Lane_ok _ (by simp [outV]; omega) _).mono fun v u hv => ?_
          obtain ⟨rfl, rfl⟩ := hv
          refine ⟨_, _, rfl, GOps.sim ?_⟩
          refine GOps.done (hK _ ?_); clear hK K
          refine End.blk ?_
          refine End.kp [2, 9, 10, 39, 40, 41] ?_
          refine Run.go ?_
          refine End.lp ?_
          refine ⟨tr.length - (i + 1), _, by omega, Ghost.form [(2, .ptr 0 0 0), (9, .im (.sl (us (nextsM n (valuesV n (lanes0 r) st))))), (10, .ms 0 1 ((i + 1))), (39, .im (.sl (boolss tr))), (40, .i tr.length), (41, .i (i + 1 : Nat))] 2 ⟨rfl, rfl, rfl, rfl, rfl, rfl, trivial⟩ rfl rfl, i + 1, nextsM n (valuesV n (lanes0 r) st), dn ++ [laneB (outV n (valuesV n (lanes0 r) st))], rfl, by omega, by simp [hdn], by simp [nextsM, nextsF_len], by simpa using hR, ?_⟩
          simp
        · have hb := of_decide_eq_false hb
          have hiN : i = tr.length := by omega
          subst hiN
          rw [List.drop_length, runN, List.append_nil] at hR
          refine Run.exit rfl ?_
          refine End.kp [10] ?_
          refine Run.seq ?_
          refine Run.ghost (Ghost.shut (t := 10) (j := 1) rfl rfl (by rw [boolss_len, hdn])) ?_
          simp only [eput, edel]
          have fx := And.intro hap (And.intro hdn (And.intro d1 (And.intro strs_len (And.intro bools_len (And.intro boolss_len ft)))))
          refine Run.go ?_
          refine End.kp [4, 5] ?_
          refine Run.ret (hQ _ _ ⟨.inr rfl, _, rfl, _, rfl, ?_⟩)
          exact ⟨by rw [hR], rfl⟩
end Go.Proofs.YtkmnmokjlpenhaaPi

/- Plain law: the netlist of a graph shows what the graph shows. -/
set_option linter.unusedVariables false
set_option linter.unusedSimpArgs false
namespace Go.Proofs.YtkmnmokjlpenhaaPi
set_option maxHeartbeats 1000000

/- Nets of nodes. -/
theorem valsN_app : ∀ (gs hs : List LGate) (v : List Int), valsN (gs ++ hs) v = valsN hs (valsN gs v)
  | [], hs, v => rfl
  | g :: gs, hs, v => by rw [List.cons_append, valsN, valsN_app gs hs, valsN]
theorem valsN_snoc (gs : List LGate) (g : LGate) (v : List Int) : valsN (gs ++ [g]) v = valsN gs v ++ [gateVal g (valsN gs v)] := by rw [valsN_app]; rfl
abbrev nb0 (inn st : List Int) : List Int := [0, 18446744073709551615] ++ inn ++ st
theorem nb0_len (inn st : List Int) : (nb0 inn st).length = 2 + inn.length + st.length := by simp; omega
theorem getD_app_left {v w : List Int} {k : Nat} (h : k < v.length) : (v ++ w).getD k 0 = v.getD k 0 := by
  simp only [List.getD_eq_getElem?_getD]
  rw [List.getElem?_append_left h]
theorem getD_app_end (v : List Int) (x : Int) : (v ++ [x]).getD v.length 0 = x := by simp
theorem app_get_end {α : Type} {v : List α} {x : α} {j : Nat} (h : v.length = j) : (v ++ [x])[j]? = some x := by subst h; simp
theorem valsN_keep (gs hs : List LGate) (v : List Int) (k : Nat) (hk : k < v.length + gs.length) : (valsN (gs ++ hs) v).getD k 0 = (valsN gs v).getD k 0 := by
  rw [valsN_app, valsN_pre _ _ _ (by rw [valsN_len]; exact hk)]
section
variable {g : LGraph} (hg : GraphOk g) {inn st : List Int} (h1 : inn.length = g.inn.length) (h2 : st.length = g.regs.length)
include hg h1 h2
end

end Go.Proofs.YtkmnmokjlpenhaaPi

/- The walks of ways and Copy of netlists: a row of gates as a box whose cells name rows of their own. -/
set_option linter.unusedVariables false
set_option linter.unusedSimpArgs false
set_option maxRecDepth 100000
namespace Go.Proofs.YtkmnmokjlpenhaaPi
set_option maxHeartbeats 4000000
theorem CloneIX_nil (f : List AObj) (rest : Frs) : ACalls Try.prog 143 [.im (.sl (([] : List Int).map iI))] (f :: rest) fun v u => v = .ms 0 (f.length + 0) 0 ∧ u = (f ++ [.row 3 1 (([] : List Int).map iI) 0]) :: rest := by
  refine ACalls.codeX Try.func143 rfl 8 rfl (by simp) [.tmp 2] rfl fun Q hQ => ?_
  simp only [ups, PV.up, argEnv]
  have ft := And.intro ty_3 (And.intro ty_4 (And.intro ty_22 trivial))
  refine Run.seq ?_
  have fx := And.intro (@List.map_nil.{0, 0}) ft
  refine Run.go ?_
  refine End.kp [0] ?_
  refine Run.seq ?_
  refine Run.seq ?_
  refine Run.go ?_
  refine End.kp [0, 4] ?_
  refine Run.cond_any rfl ?_ ?_
  · skip
    refine Run.seq ?_
    have fx := And.intro (@List.map_nil.{0, 0}) ft
    refine Run.go ?_
    refine End.move (Ghost.thaw (u := 2) 3 1 (by decide) rfl) ?_
    refine End.kp [2] ?_
    refine Run.ret (hQ _ _ ⟨.inr rfl, _, rfl, _, _, rfl, ?_⟩)
    exact ⟨rfl, rfl⟩
  · skip
    refine Run.skip ?_
    refine End.kp [0] ?_
    refine Run.seq ?_
    have fx := And.intro (@List.map_nil.{0, 0}) ft
    refine Run.go ?_
    refine End.kp [2] ?_
    refine Run.ret (hQ _ _ ⟨.inr rfl, _, rfl, _, _, rfl, ?_⟩)
    exact ⟨rfl, rfl⟩
theorem CloneIX_cons (x : Int) (xs : List Int) (h : xs.length ≤ 1000000) (f : List AObj) (rest : Frs) : ACalls Try.prog 143 [.im (.sl ((x :: xs).map iI))] (f :: rest) fun v u => v = .ms 0 (f.length + 0) (x :: xs).length ∧ u = (f ++ [.row 3 1 ((x :: xs).map iI) 0]) :: rest := by
  have hall : (xs.map iI).all (fun r => r.length == 1) = true := by simp
  have hlen : (xs.length + 1) * 8 ≤ 140737488355328 := by omega
  refine ACalls.codeX Try.func143 rfl 8 rfl (by simp) [.tmp 2] rfl fun Q hQ => ?_
  simp only [ups, PV.up, argEnv]
  have ft := And.intro ty_3 (And.intro ty_4 (And.intro ty_22 trivial))
  refine Run.seq ?_
  have fx := And.intro (@List.length_map.{0, 0}) (And.intro hlen (And.intro hall (And.intro (@List.map_cons.{0, 0}) ft)))
  refine Run.go ?_
  refine End.kp [0] ?_
  refine Run.seq ?_
  refine Run.seq ?_
  refine Run.go ?_
  refine End.kp [0, 4] ?_
  refine Run.cond _ rfl (fun hb => ?_) (fun hb => ?_)
  · have hb := hb
    simp at hb
  · have hb := hb
    refine Run.skip ?_
    refine End.kp [0] ?_
    refine Run.seq ?_
    have fx := And.intro (@List.length_map.{0, 0}) (And.intro hlen (And.intro hall (And.intro (@List.map_cons.{0, 0}) ft)))
    refine Run.go ?_
    refine End.kp [2] ?_
    refine Run.ret (hQ _ _ ⟨.inr rfl, _, rfl, _, _, rfl, ?_⟩)
    exact ⟨rfl, rfl⟩
theorem CloneIX_ok (q : List Int) (h : q.length ≤ 1000000) (f : List AObj) (rest : Frs) : ACalls Try.prog 143 [.im (.sl (q.map iI))] (f :: rest) fun v u => v = .ms 0 (f.length + 0) q.length ∧ u = (f ++ [.row 3 1 (q.map iI) 0]) :: rest := by
  cases q with
  | nil => exact CloneIX_nil f rest
  | cons x xs => exact CloneIX_cons x xs (by simp at h; omega) f rest
theorem CloneII_nil (k : Nat) (up : Frs) (hk : fget up 0 k = some .dead) : ACalls Try.prog 143 [.im (.sl (([] : List Int).map iI))] up fun v u => v = .ms 0 k 0 ∧ u = fset up 0 k (.row 3 1 (([] : List Int).map iI) 0) := by
  refine ACalls.codeI Try.func143 rfl 8 rfl (by simp) [.tmp 2] rfl k fun Q hQ => ?_
  simp only [ups, PV.up, argEnv]
  have ft := And.intro ty_3 (And.intro ty_4 (And.intro ty_22 trivial))
  refine Run.seq ?_
  have fx := And.intro (@List.map_nil.{0, 0}) ft
  refine Run.go ?_
  refine End.kp [0] ?_
  refine Run.seq ?_
  refine Run.seq ?_
  refine Run.go ?_
  refine End.kp [0, 4] ?_
  refine Run.cond_any rfl ?_ ?_
  · skip
    refine Run.seq ?_
    have fx := And.intro (@List.map_nil.{0, 0}) ft
    refine Run.go ?_
    refine End.move (Ghost.thaw (u := 2) 3 1 (by decide) rfl) ?_
    refine End.kp [2] ?_
    have fx := And.intro (@List.map_nil.{0, 0}) ft
    refine Run.resI 0 hQ hk ?_
    exact ⟨rfl, rfl⟩
  · skip
    refine Run.skip ?_
    refine End.kp [0] ?_
    refine Run.seq ?_
    have fx := And.intro (@List.map_nil.{0, 0}) ft
    refine Run.go ?_
    refine End.kp [2] ?_
    refine Run.resI 0 hQ hk ?_
    exact ⟨rfl, rfl⟩
theorem CloneII_cons (k : Nat) (x : Int) (xs : List Int) (h : xs.length ≤ 1000000) (up : Frs) (hk : fget up 0 k = some .dead) : ACalls Try.prog 143 [.im (.sl ((x :: xs).map iI))] up fun v u => v = .ms 0 k (x :: xs).length ∧ u = fset up 0 k (.row 3 1 ((x :: xs).map iI) 0) := by
  have hall : (xs.map iI).all (fun r => r.length == 1) = true := by simp
  have hlen : (xs.length + 1) * 8 ≤ 140737488355328 := by omega
  refine ACalls.codeI Try.func143 rfl 8 rfl (by simp) [.tmp 2] rfl k fun Q hQ => ?_
  simp only [ups, PV.up, argEnv]
  have ft := And.intro ty_3 (And.intro ty_4 (And.intro ty_22 trivial))
  refine Run.seq ?_
  have fx := And.intro (@List.length_map.{0, 0}) (And.intro hlen (And.intro hall (And.intro (@List.map_cons.{0, 0}) ft)))
  refine Run.go ?_
  refine End.kp [0] ?_
  refine Run.seq ?_
  refine Run.seq ?_
  refine Run.go ?_
  refine End.kp [0, 4] ?_
  refine Run.cond _ rfl (fun hb => ?_) (fun hb => ?_)
  · have hb := hb
    simp at hb
  · have hb := hb
    refine Run.skip ?_
    refine End.kp [0] ?_
    refine Run.seq ?_
    have fx := And.intro (@List.length_map.{0, 0}) (And.intro hlen (And.intro hall (And.intro (@List.map_cons.{0, 0}) ft)))
    refine Run.go ?_
    refine End.kp [2] ?_
    refine Run.resI 0 hQ hk ?_
    exact ⟨rfl, rfl⟩
theorem CloneII_ok (q : List Int) (h : q.length ≤ 1000000) (k : Nat) (up : Frs) (hk : fget up 0 k = some .dead) : ACalls Try.prog 143 [.im (.sl (q.map iI))] up fun v u => v = .ms 0 k q.length ∧ u = fset up 0 k (.row 3 1 (q.map iI) 0) := by
  cases q with
  | nil => exact CloneII_nil k up hk
  | cons x xs => exact CloneII_cons k x xs (by simp at h; omega) up hk
theorem CloneFI_nil (k : Nat) (up : Frs) (hk : fget up 0 k = some .dead) : ACalls Try.prog 144 [.im (.sl (([] : List LFlop).map LFlop.im))] up fun v u => v = .ms 0 k 0 ∧ u = fset up 0 k (.row 78 5 (([] : List LFlop).map LFlop.im) 0) := by
  refine ACalls.codeI Try.func144 rfl 8 rfl (by simp) [.tmp 2] rfl k fun Q hQ => ?_
  simp only [ups, PV.up, argEnv]
  have ft := And.intro ty_4 (And.intro ty_27 (And.intro ty_78 trivial))
  refine Run.seq ?_
  have fx := And.intro (@List.map_nil.{0, 0}) ft
  refine Run.go ?_
  refine End.kp [0] ?_
  refine Run.seq ?_
  refine Run.seq ?_
  refine Run.go ?_
  refine End.kp [0, 4] ?_
  refine Run.cond_any rfl ?_ ?_
  · skip
    refine Run.seq ?_
    have fx := And.intro (@List.map_nil.{0, 0}) ft
    refine Run.go ?_
    refine End.move (Ghost.thaw (u := 2) 78 5 (by decide) rfl) ?_
    refine End.kp [2] ?_
    have fx := And.intro (@List.map_nil.{0, 0}) ft
    refine Run.resI 0 hQ hk ?_
    exact ⟨rfl, rfl⟩
  · skip
    refine Run.skip ?_
    refine End.kp [0] ?_
    refine Run.seq ?_
    have fx := And.intro (@List.map_nil.{0, 0}) ft
    refine Run.go ?_
    refine End.kp [2] ?_
    refine Run.resI 0 hQ hk ?_
    exact ⟨rfl, rfl⟩
theorem CloneFI_cons (k : Nat) (x : LFlop) (xs : List LFlop) (h : xs.length ≤ 1000000) (up : Frs) (hk : fget up 0 k = some .dead) : ACalls Try.prog 144 [.im (.sl ((x :: xs).map LFlop.im))] up fun v u => v = .ms 0 k (x :: xs).length ∧ u = fset up 0 k (.row 78 5 ((x :: xs).map LFlop.im) 0) := by
  have hall : (xs.map LFlop.im).all (fun r => r.length == 5) = true := by simp
  have hlen : (xs.length + 1) * 48 ≤ 140737488355328 := by omega
  refine ACalls.codeI Try.func144 rfl 8 rfl (by simp) [.tmp 2] rfl k fun Q hQ => ?_
  simp only [ups, PV.up, argEnv]
  have ft := And.intro ty_4 (And.intro ty_27 (And.intro ty_78 trivial))
  refine Run.seq ?_
  have fx := And.intro (@List.length_map.{0, 0}) (And.intro hlen (And.intro hall (And.intro (@List.map_cons.{0, 0}) ft)))
  refine Run.go ?_
  refine End.kp [0] ?_
  refine Run.seq ?_
  refine Run.seq ?_
  refine Run.go ?_
  refine End.kp [0, 4] ?_
  refine Run.cond _ rfl (fun hb => ?_) (fun hb => ?_)
  · have hb := hb
    simp at hb
  · have hb := hb
    refine Run.skip ?_
    refine End.kp [0] ?_
    refine Run.seq ?_
    have fx := And.intro (@List.length_map.{0, 0}) (And.intro hlen (And.intro hall (And.intro (@List.map_cons.{0, 0}) ft)))
    refine Run.go ?_
    refine End.kp [2] ?_
    refine Run.resI 0 hQ hk ?_
    exact ⟨rfl, rfl⟩
theorem CloneFI_ok (q : List LFlop) (h : q.length ≤ 1000000) (k : Nat) (up : Frs) (hk : fget up 0 k = some .dead) : ACalls Try.prog 144 [.im (.sl (q.map LFlop.im))] up fun v u => v = .ms 0 k q.length ∧ u = fset up 0 k (.row 78 5 (q.map LFlop.im) 0) := by
  cases q with
  | nil => exact CloneFI_nil k up hk
  | cons x xs => exact CloneFI_cons k x xs (by simp at h; omega) up hk
theorem CloneGI_nil (k : Nat) (up : Frs) (hk : fget up 0 k = some .dead) : ACalls Try.prog 145 [.im (.sl (([] : List LGate).map LGate.im))] up fun v u => v = .ms 0 k 0 ∧ u = fset up 0 k (.row 39 3 (([] : List LGate).map LGate.im) 0) := by
  refine ACalls.codeI Try.func145 rfl 8 rfl (by simp) [.tmp 2] rfl k fun Q hQ => ?_
  simp only [ups, PV.up, argEnv]
  have ft := And.intro ty_4 (And.intro ty_28 (And.intro ty_39 trivial))
  refine Run.seq ?_
  have fx := And.intro (@List.map_nil.{0, 0}) ft
  refine Run.go ?_
  refine End.kp [0] ?_
  refine Run.seq ?_
  refine Run.seq ?_
  refine Run.go ?_
  refine End.kp [0, 4] ?_
  refine Run.cond_any rfl ?_ ?_
  · skip
    refine Run.seq ?_
    have fx := And.intro (@List.map_nil.{0, 0}) ft
    refine Run.go ?_
    refine End.move (Ghost.thaw (u := 2) 39 3 (by decide) rfl) ?_
    refine End.kp [2] ?_
    have fx := And.intro (@List.map_nil.{0, 0}) ft
    refine Run.resI 0 hQ hk ?_
    exact ⟨rfl, rfl⟩
  · skip
    refine Run.skip ?_
    refine End.kp [0] ?_
    refine Run.seq ?_
    have fx := And.intro (@List.map_nil.{0, 0}) ft
    refine Run.go ?_
    refine End.kp [2] ?_
    refine Run.resI 0 hQ hk ?_
    exact ⟨rfl, rfl⟩
theorem CloneGI_cons (k : Nat) (x : LGate) (xs : List LGate) (h : xs.length ≤ 1000000) (up : Frs) (hk : fget up 0 k = some .dead) : ACalls Try.prog 145 [.im (.sl ((x :: xs).map LGate.im))] up fun v u => v = .ms 0 k (x :: xs).length ∧ u = fset up 0 k (.row 39 3 ((x :: xs).map LGate.im) 0) := by
  have hall : (xs.map LGate.im).all (fun r => r.length == 3) = true := by simp
  have hlen : (xs.length + 1) * 40 ≤ 140737488355328 := by omega
  refine ACalls.codeI Try.func145 rfl 8 rfl (by simp) [.tmp 2] rfl k fun Q hQ => ?_
  simp only [ups, PV.up, argEnv]
  have ft := And.intro ty_4 (And.intro ty_28 (And.intro ty_39 trivial))
  refine Run.seq ?_
  have fx := And.intro (@List.length_map.{0, 0}) (And.intro hlen (And.intro hall (And.intro (@List.map_cons.{0, 0}) ft)))
  refine Run.go ?_
  refine End.kp [0] ?_
  refine Run.seq ?_
  refine Run.seq ?_
  refine Run.go ?_
  refine End.kp [0, 4] ?_
  refine Run.cond _ rfl (fun hb => ?_) (fun hb => ?_)
  · have hb := hb
    simp at hb
  · have hb := hb
    refine Run.skip ?_
    refine End.kp [0] ?_
    refine Run.seq ?_
    have fx := And.intro (@List.length_map.{0, 0}) (And.intro hlen (And.intro hall (And.intro (@List.map_cons.{0, 0}) ft)))
    refine Run.go ?_
    refine End.kp [2] ?_
    refine Run.resI 0 hQ hk ?_
    exact ⟨rfl, rfl⟩
theorem CloneGI_ok (q : List LGate) (h : q.length ≤ 1000000) (k : Nat) (up : Frs) (hk : fget up 0 k = some .dead) : ACalls Try.prog 145 [.im (.sl (q.map LGate.im))] up fun v u => v = .ms 0 k q.length ∧ u = fset up 0 k (.row 39 3 (q.map LGate.im) 0) := by
  cases q with
  | nil => exact CloneGI_nil k up hk
  | cons x xs => exact CloneGI_cons k x xs (by simp at h; omega) up hk
/-- The nets that a netlist is for. -/
def flopW (l : List LFlop) : List Int := (l.map fun f => [f.d, f.en]).flatten
theorem flopW_len (l : List LFlop) : (flopW l).length = 2 * l.length := by
  induction l with
  | nil => rfl
  | cons f l ih => simp only [flopW, List.map_cons, List.flatten_cons, List.length_append, List.length_cons, List.length_nil] at *; omega
def waysN (n : LNet) : List Int := n.outs ++ flopW n.flops
theorem ways_ok (n : LNet) (hn : NetSmall n) (up : Frs) : ACalls Try.prog 102 [n.pv] up fun v u => v = .im (.sl (ints (waysN n))) ∧ u = up := by
  obtain ⟨z1, z2, z3, z4, z5⟩ := hn
  refine ACalls.code Try.func102 rfl 25 rfl (by simp) [.tmp 2] rfl fun Q hQ => ?_
  simp only [ups, PV.up, argEnv]
  have ft := And.intro ty_2 (And.intro ty_3 (And.intro ty_4 (And.intro ty_22 (And.intro ty_27 (And.intro ty_30 (And.intro ty_78 trivial))))))
  refine Run.seq ?_
  have fx := And.intro fim_len ft
  refine Run.go ?_
  refine End.kp [1] ?_
  refine Run.seq ?_
  refine Run.region rfl fun K hK => GOps.sim ?_
  refine GOps.call rfl rfl rfl rfl (by kernel_rfl) (ACalls.sim ?_)
  refine (CloneIX_ok n.outs (by omega) _ _).mono fun v u hv => ?_
  obtain ⟨rfl, rfl⟩ := hv
  refine ⟨_, _, rfl, GOps.sim ?_⟩
  refine GOps.done (hK _ ?_); clear hK K
  refine End.kp [1, 3] ?_
  refine Run.seq ?_
  refine Run.seq ?_
  refine Run.go ?_
  refine End.kp [3, 10, 11, 12] ?_
  refine Run.block ?_
  refine Run.ghost (Ghost.form [(3, .ms 0 1 (n.outs.length + 2 * 0)), (10, .im (.sl (n.flops.map LFlop.im))), (11, .i n.flops.length), (12, .i (0 : Nat))] 2 ⟨rfl, rfl, rfl, rfl, trivial⟩ rfl rfl) ?_
  refine Run.loop (fun m st => ∃ (i : Nat), m = n.flops.length - i ∧ i ≤ n.flops.length ∧ st = ⟨[(3, .ms 0 1 (n.outs.length + 2 * i)), (10, .im (.sl (n.flops.map LFlop.im))), (11, .i n.flops.length), (12, .i (i : Nat))], [.box [.im (.sl (strs n.inn)), .im (.sl (strs n.out)), .im (.sl (n.flops.map LFlop.im)), .im (.sl (n.gates.map LGate.im)), .im (.sl (ints n.outs))], .row 3 1 (ints (n.outs ++ flopW (n.flops.take i))) 0], up⟩) n.flops.length ⟨0, rfl, by omega, by simp [flopW]⟩ fun m st hI => ?_
  obtain ⟨i, rfl, hi, rfl⟩ := hI
  have hsl : (ints (n.outs ++ flopW (n.flops.take i))).length = n.outs.length + 2 * i := by rw [ints_len, List.length_append, flopW_len, List.length_take]; omega
  have hap : (n.outs.length + 2 * i + 2) * 8 ≤ 140737488355328 := by omega
  refine Run.seq ?_
  have fx := And.intro hap (And.intro hsl (And.intro fim_len ft))
  refine Run.go ?_
  refine End.kp [3, 10, 11, 12, 13] ?_
  refine Run.seq ?_
  refine Run.cond _ rfl (fun hb => ?_) (fun hb => ?_)
  · have hb2 := of_decide_eq_true hb
    have hin : i < n.flops.length := by omega
    have wi := wsucc hin (by omega)
    obtain ⟨f, hf, hfm, hgt⟩ := flop_at n.flops i hin
    have htk : flopW (n.flops.take (i + 1)) = flopW (n.flops.take i) ++ [f.d, f.en] := by simp [flopW, List.take_add_one, hf]
    refine Run.skip ?_
    refine End.kp [3, 10, 11, 12] ?_
    refine Run.seq ?_
    refine Run.block ?_
    refine Run.seq ?_
    have fx := And.intro (@Int.toNat_natCast) (And.intro (@Int.natCast_nonneg) (And.intro hgt (And.intro wi (And.intro hap (And.intro hsl (And.intro fim_len ft))))))
    refine Run.go ?_
    refine End.kp [3, 5, 10, 11, 12] ?_
    refine Run.go ?_
    refine End.blk ?_
    refine End.kp [3, 10, 11, 12] ?_
    refine Run.go ?_
    refine End.lp ?_
    refine ⟨n.flops.length - (i + 1), _, by omega, Ghost.form [(3, .ms 0 1 (n.outs.length + 2 * (i + 1))), (10, .im (.sl (n.flops.map LFlop.im))), (11, .i n.flops.length), (12, .i (i + 1 : Nat))] 2 ⟨rfl, rfl, rfl, rfl, trivial⟩ rfl rfl, i + 1, rfl, by omega, ?_⟩
    rw [htk]
    simp
  · have hb2 := of_decide_eq_false hb
    have hiN : i = n.flops.length := by omega
    subst hiN
    rw [List.take_length] at hsl ⊢
    refine Run.exit rfl ?_
    refine End.kp [3] ?_
    refine Run.seq ?_
    refine Run.ghost (Ghost.shut (t := 3) (j := 1) rfl rfl hsl) ?_
    simp only [eput, edel]
    have fx := And.intro hap (And.intro hsl (And.intro fim_len ft))
    refine Run.go ?_
    refine End.kp [2] ?_
    refine Run.ret (hQ _ _ ⟨.inr rfl, _, rfl, _, rfl, ?_⟩)
    exact ⟨rfl, rfl⟩
def AObj.isDead : AObj → Bool
  | .dead => true
  | _ => false
/-- The cells of gates: of data, and with inputs in rows of their own. -/
def cellD (g : LGate) : List PV := [.i (-1), .im (.int .u64 g.table), .im (.sl (ints g.ins))]
def cellM (b : Nat) (g : LGate) : List PV := [.i (-1), .im (.int .u64 g.table), .ms 0 b g.ins.length]
def cellsG : Nat → List LGate → List PV
  | _, [] => []
  | b, g :: gs => cellM b g ++ cellsG (b + 1) gs
def cellsD (gs : List LGate) : List PV := (gs.map cellD).flatten
def rowsG (gs : List LGate) : List AObj := gs.map fun g => .row 3 1 (ints g.ins) 0
theorem cellsG_len : ∀ (gs : List LGate) (b : Nat), (cellsG b gs).length = gs.length * 3
  | [], b => rfl
  | g :: gs, b => by simp only [cellsG, cellM, List.length_append, List.length_cons, List.length_nil, cellsG_len gs (b + 1)]; omega
theorem cellsD_len : ∀ gs : List LGate, (cellsD gs).length = gs.length * 3
  | [] => rfl
  | g :: gs => by
    have := cellsD_len gs
    simp only [cellsD, cellD, List.map_cons, List.flatten_cons, List.length_append, List.length_cons, List.length_nil] at *; omega
theorem cellsG_snoc (g : LGate) : ∀ (gs : List LGate) (b : Nat), cellsG b (gs ++ [g]) = cellsG b gs ++ cellM (b + gs.length) g
  | [], b => by simp [cellsG]
  | x :: gs, b => by
    rw [List.cons_append, cellsG, cellsG_snoc g gs (b + 1), cellsG, List.append_assoc, List.length_cons, show b + 1 + gs.length = b + (gs.length + 1) by omega]
theorem cellsD_rows (gs : List LGate) : (gs.map LGate.im).flatten.map PV.im = cellsD gs := by
  induction gs with
  | nil => rfl
  | cons g gs ih =>
    simp only [List.map_cons, List.flatten_cons, List.map_append, ih, cellsD]
    rfl
/-- The first i gates have rows. -/
def midG (gs : List LGate) (i : Nat) : List PV := cellsG 6 (gs.take i) ++ cellsD (gs.drop i)
theorem midG_zero (gs : List LGate) : midG gs 0 = cellsD gs := by simp [midG, cellsG]
theorem midG_all (gs : List LGate) : midG gs gs.length = cellsG 6 gs := by simp [midG, cellsD]
theorem midG_len (gs : List LGate) (i : Nat) : (midG gs i).length = gs.length * 3 := by
  rw [midG, List.length_append, cellsG_len, cellsD_len, List.length_take, List.length_drop]; omega
theorem midG_split (gs : List LGate) (i : Nat) (g : LGate) (h : gs[i]? = some g) : midG gs i = cellsG 6 (gs.take i) ++ (cellD g ++ cellsD (gs.drop (i + 1))) := by
  obtain ⟨hi, he⟩ := List.getElem?_eq_some_iff.1 h
  rw [midG, List.drop_eq_getElem_cons hi, he]
  rfl
theorem midG_next (gs : List LGate) (i : Nat) (g : LGate) (h : gs[i]? = some g) : midG gs (i + 1) = cellsG 6 (gs.take i) ++ (cellM (i + 6) g ++ cellsD (gs.drop (i + 1))) := by
  obtain ⟨hi, he⟩ := List.getElem?_eq_some_iff.1 h
  have e : gs.take (i + 1) = gs.take i ++ [g] := by simp [List.take_add_one, h]
  rw [midG, e, cellsG_snoc, List.length_take, Nat.min_eq_left (by omega), Nat.add_comm 6 i, List.append_assoc]
theorem midG_get (gs : List LGate) (i : Nat) (g : LGate) (o : List PV) (h : gs[i]? = some g) : (midG gs i ++ o)[i * 3 + 2]? = some (.im (.sl (ints g.ins))) := by
  obtain ⟨hi, he⟩ := List.getElem?_eq_some_iff.1 h
  have hl : (cellsG 6 (gs.take i)).length = i * 3 := by rw [cellsG_len, List.length_take, Nat.min_eq_left (by omega)]
  rw [midG_split gs i g h, List.append_assoc, List.getElem?_append_right (by omega), hl, show i * 3 + 2 - i * 3 = 2 by omega]
  rfl
theorem midG_set (gs : List LGate) (i : Nat) (g : LGate) (o : List PV) (h : gs[i]? = some g) : (midG gs i ++ o).set (i * 3 + 2) (.ms 0 (i + 6) g.ins.length) = midG gs (i + 1) ++ o := by
  obtain ⟨hi, he⟩ := List.getElem?_eq_some_iff.1 h
  have hl : (cellsG 6 (gs.take i)).length = i * 3 := by rw [cellsG_len, List.length_take, Nat.min_eq_left (by omega)]
  rw [midG_split gs i g h, midG_next gs i g h]
  simp only [List.append_assoc]
  rw [List.set_append_right _ _ (by omega), hl, show i * 3 + 2 - i * 3 = 2 by omega]
  rfl
def CM (n : LNet) (r i : Nat) : List AObj := .box [.im (.sl (strs n.inn)), .im (.sl (strs n.out)), .im (.sl (n.flops.map LFlop.im)), .im (.sl (n.gates.map LGate.im)), .im (.sl (ints n.outs))] :: .box [.nils, .nils, .nils, .nils, .nils] :: .row 78 5 (n.flops.map LFlop.im) 0 :: .row 3 1 (ints n.outs) 0 :: .box [.im (.sl (strs n.inn)), .im (.sl (strs n.out)), .ms 0 2 n.flops.length, .bs 0 5 n.gates.length, .ms 0 3 n.outs.length] :: .box (midG n.gates i ++ List.replicate r .any) :: rowsG (n.gates.take i)
theorem CM_len (n : LNet) (r i : Nat) (h : i ≤ n.gates.length) : (CM n r i).length = 6 + i := by simp [CM, rowsG]; omega
theorem CM_4 (n : LNet) (r i : Nat) (o : List AObj) : (CM n r i ++ o)[4]? = some (.box [.im (.sl (strs n.inn)), .im (.sl (strs n.out)), .ms 0 2 n.flops.length, .bs 0 5 n.gates.length, .ms 0 3 n.outs.length]) := rfl
theorem CM_4' (n : LNet) (r i : Nat) : (CM n r i)[4]? = some (.box [.im (.sl (strs n.inn)), .im (.sl (strs n.out)), .ms 0 2 n.flops.length, .bs 0 5 n.gates.length, .ms 0 3 n.outs.length]) := rfl
theorem CM_5 (n : LNet) (r i : Nat) (o : List AObj) : (CM n r i ++ o)[5]? = some (.box (midG n.gates i ++ List.replicate r .any)) := rfl
theorem CM_1' (n : LNet) (r i : Nat) : (CM n r i)[1]? = some (.box [.nils, .nils, .nils, .nils, .nils]) := rfl
theorem spareAt_app : ∀ (L : List AObj) (k : Nat), (∀ o ∈ L, o.isDead = false) → spareAt k (L ++ [.dead]) = some (k + L.length)
  | [], k, _ => by simp [spareAt]
  | o :: L, k, h => by
    have := h o (by simp)
    have ih := spareAt_app L (k + 1) (fun x hx => h x (by simp [hx]))
    cases o <;> simp_all [spareAt, AObj.isDead] <;> omega
theorem CM_spare (n : LNet) (r i : Nat) (h : i ≤ n.gates.length) : spareAt 0 (CM n r i ++ [.dead]) = some (i + 6) := by
  rw [spareAt_app _ _ (fun o ho => ?_), CM_len n r i h, Nat.zero_add, Nat.add_comm]
  simp only [CM, rowsG, List.mem_cons, List.mem_map] at ho
  rcases ho with rfl | rfl | rfl | rfl | rfl | rfl | ⟨g, _, rfl⟩ <;> rfl
theorem CM_last (n : LNet) (r i : Nat) (h : i ≤ n.gates.length) (o : AObj) : (CM n r i ++ [o])[i + 6]? = some o := by rw [Nat.add_comm, ← CM_len n r i h]; simp
theorem CM_lset (n : LNet) (r i : Nat) (h : i ≤ n.gates.length) (o o' : AObj) : (CM n r i ++ [o]).set (i + 6) o' = CM n r i ++ [o'] := by rw [Nat.add_comm, ← CM_len n r i h]; simp
theorem CM_next (n : LNet) (r i : Nat) (g : LGate) (h : n.gates[i]? = some g) : (CM n r i ++ [AObj.row 3 1 (ints g.ins) 0]).set 5 (AObj.box (midG n.gates (i + 1) ++ List.replicate r PV.any)) = CM n r (i + 1) := by
  have e : rowsG (n.gates.take (i + 1)) = rowsG (n.gates.take i) ++ [.row 3 1 (ints g.ins) 0] := by simp [rowsG, List.take_add_one, h]
  simp only [CM, e, List.cons_append, List.set_cons_succ, List.set_cons_zero]
/-- What Copy gives: the objects and the handle of the gates. -/
structure CopyF (n : LNet) (m : Nat) (gc : PV) (o5 : AObj) : Prop where
  it : (n.gates = [] ∧ gc = .im (.sl []) ∧ o5 = .row 39 3 [] 0) ∨ (n.gates ≠ [] ∧ gc = .bs 0 (m + 5) n.gates.length ∧ ∃ r : Nat, o5 = .box (cellsG (m + 6) n.gates ++ List.replicate r .any))
def agN (n : LNet) (m : Nat) (gc : PV) : List PV := [.im (.sl (strs n.inn)), .im (.sl (strs n.out)), .ms 0 (m + 2) n.flops.length, gc, .ms 0 (m + 3) n.outs.length]
def CF (n : LNet) (m : Nat) (gc : PV) (o5 : AObj) : List AObj := .box [.im (.sl (strs n.inn)), .im (.sl (strs n.out)), .im (.sl (n.flops.map LFlop.im)), .im (.sl (n.gates.map LGate.im)), .im (.sl (ints n.outs))] :: .box (agN n m gc) :: .row 78 5 (n.flops.map LFlop.im) 0 :: .row 3 1 (ints n.outs) 0 :: .box (agN n m gc) :: o5 :: rowsG n.gates
theorem mg_cellsG (m : Nat) : ∀ (gs : List LGate) (b : Nat), mgs m (cellsG b gs) = cellsG (m + b) gs
  | [], b => rfl
  | g :: gs, b => by
    simp only [cellsG, cellM, List.cons_append, List.nil_append, mgs, PV.mg, mg_cellsG m gs (b + 1)]
    rfl
theorem mgs_app (m : Nat) : ∀ xs ys : List PV, mgs m (xs ++ ys) = mgs m xs ++ mgs m ys
  | [], ys => rfl
  | x :: xs, ys => by simp only [List.cons_append, mgs, mgs_app m xs ys]
theorem mgs_any (m : Nat) : ∀ r : Nat, mgs m (List.replicate r .any) = List.replicate r .any
  | 0 => rfl
  | r + 1 => by simp only [List.replicate_succ, mgs, mgs_any m r]; rfl
theorem mg_rowsG (m : Nat) (gs : List LGate) : (rowsG gs).map (AObj.mg m) = rowsG gs := by simp only [rowsG, List.map_map]; rfl
theorem CM_mg (n : LNet) (r m : Nat) : ((CM n r n.gates.length).set 1 (.box [.im (.sl (strs n.inn)), .im (.sl (strs n.out)), .ms 0 2 n.flops.length, .bs 0 5 n.gates.length, .ms 0 3 n.outs.length])).map (AObj.mg m) = CF n m (.bs 0 (m + 5) n.gates.length) (.box (cellsG (m + 6) n.gates ++ List.replicate r .any)) := by
  simp only [CM, CF, agN, midG_all, List.take_length, List.set_cons_succ, List.set_cons_zero, List.map_cons, mg_rowsG, AObj.mg, mgs, mgs_app, mg_cellsG, mgs_any, PV.mg]
theorem NCopy_cons (n : LNet) (hn : NetSmall n) (hne : n.gates ≠ []) (h6 : ∀ g ∈ n.gates, g.ins.length ≤ 6) (f : List AObj) (rest : Frs) : ACalls Try.prog 103 [n.pv] (f :: rest) fun v u => ∃ (gc : PV) (o5 : AObj), CopyF n f.length gc o5 ∧ v = .agg (agN n f.length gc) ∧ u = (f ++ CF n f.length gc o5) :: rest := by
  obtain ⟨z1, z2, z3, z4, z5⟩ := hn
  have hrow : n.gates.map LGate.im ≠ [] := fun e => hne (List.map_eq_nil_iff.1 e)
  refine ACalls.codeX Try.func103 rfl 41 rfl (by simp) [.cell 2 30] rfl fun Q hQ => ?_
  simp only [ups, PV.up, argEnv]
  have ft := And.intro ty_2 (And.intro ty_3 (And.intro ty_4 (And.intro ty_9 (And.intro ty_22 (And.intro ty_26 (And.intro ty_27 (And.intro ty_28 (And.intro ty_30 (And.intro ty_39 (And.intro ty_78 trivial))))))))))
  refine Run.seq ?_
  have fx := And.intro ints_len (And.intro gim_len (And.intro fim_len (And.intro strs_len ft)))
  refine Run.go ?_
  refine End.kp [1, 2] ?_
  refine Run.seq ?_
  refine Run.ghost (.spares 4) ?_
  simp only [ASt.pushN, ASt.push, List.append_assoc, List.cons_append, List.nil_append]
  refine Run.drawA fun K hK => ?_
  refine DOps.sim ?_
  refine DOps.call (.im (.sl (strs n.inn))) [] [] rfl rfl rfl rfl (by kernel_rfl) (by simp [Agree]) (fun u hu => CloneS_ok n.inn (by omega) u) ?_
  refine DOps.sim ?_
  refine DOps.call (.im (.sl (strs n.out))) [] [] rfl rfl rfl rfl (by kernel_rfl) (by simp [Agree]) (fun u hu => CloneS_ok n.out (by omega) u) ?_
  refine DOps.sim ?_
  refine DOps.call (.ms 0 2 n.flops.length) [((0, 2), .dead)] [((0, 2), .row 78 5 (n.flops.map LFlop.im) 0)] rfl rfl rfl rfl (by kernel_rfl) (by simp [Agree, ASt.fr]) (fun u hu => CloneFI_ok n.flops (by omega) 2 u (hu ((0, 2), .dead) (by simp))) ?_
  refine DOps.sim ?_
  refine DOps.call (.ms 0 5 n.gates.length) [((0, 5), .dead)] [((0, 5), .row 39 3 (n.gates.map LGate.im) 0)] rfl rfl rfl rfl (by kernel_rfl) (by simp [Agree, ASt.fr]) (fun u hu => CloneGI_ok n.gates (by omega) 5 u (hu ((0, 5), .dead) (by simp))) ?_
  refine DOps.sim ?_
  refine DOps.call (.ms 0 3 n.outs.length) [((0, 3), .dead)] [((0, 3), .row 3 1 (ints n.outs) 0)] rfl rfl rfl rfl (by kernel_rfl) (by simp [Agree, ASt.fr]) (fun u hu => CloneII_ok n.outs (by omega) 3 u (hu ((0, 3), .dead) (by simp))) ?_
  refine DOps.sim ?_
  refine DOps.nil (by rfl) (hK _ ?_); clear hK K
  refine End.kp [2, 3] ?_
  refine Run.seq ?_
  refine Run.seq ?_
  refine Run.rowBox (q := 4) (i := 3) (rows := n.gates.map LGate.im) (t := 39) (sz := 3) (L := [.box [.im (.sl (strs n.inn)), .im (.sl (strs n.out)), .im (.sl (n.flops.map LFlop.im)), .im (.sl (n.gates.map LGate.im)), .im (.sl (ints n.outs))], .box [.nils, .nils, .nils, .nils, .nils], .row 78 5 (n.flops.map LFlop.im) 0, .row 3 1 (ints n.outs) 0, .box [.im (.sl (strs n.inn)), .im (.sl (strs n.out)), .ms 0 2 n.flops.length, .ms 0 5 n.gates.length, .ms 0 3 n.outs.length]]) rfl (by simp only [gim_len]; rfl) hrow rfl rfl fun r => ?_
  rw [cellsD_rows, gim_len, ← midG_zero]
  refine Run.ghost (.refl _ _ : Ghost _ _ ⟨[(3, .ptr 0 4 0), (2, .ptr 0 1 0)], CM n r 0, f :: rest⟩) ?_
  have fx := And.intro CM_1' (And.intro CM_4' (And.intro ints_len (And.intro gim_len (And.intro fim_len (And.intro strs_len ft)))))
  refine Run.go ?_
  refine End.kp [2, 3, 23, 24] ?_
  refine Run.block ?_
  refine Run.ghost (.keepE (e := [(2, .ptr 0 1 0), (3, .ptr 0 4 0), (23, .i n.gates.length), (24, .i (0 : Nat))]) ⟨rfl, rfl, rfl, rfl, trivial⟩) ?_
  refine Run.loop (fun m s => ∃ i : Nat, m = n.gates.length - i ∧ i ≤ n.gates.length ∧ s = ⟨[(2, .ptr 0 1 0), (3, .ptr 0 4 0), (23, .i n.gates.length), (24, .i (i : Nat))], CM n r i, f :: rest⟩) n.gates.length ⟨0, rfl, by omega, rfl⟩ fun m s hI => ?_
  obtain ⟨i, rfl, hi, rfl⟩ := hI
  refine Run.seq ?_
  have fx := And.intro CM_1' (And.intro CM_4' (And.intro ints_len (And.intro gim_len (And.intro fim_len (And.intro strs_len ft)))))
  refine Run.go ?_
  refine End.kp [2, 3, 23, 24, 25] ?_
  refine Run.seq ?_
  refine Run.cond _ rfl (fun hb => ?_) (fun hb => ?_)
  · have hb2 := of_decide_eq_true hb
    have hin : i < n.gates.length := by omega
    have wi := wsucc hin (by omega)
    obtain ⟨g, hgi, hgm, hg⟩ := gate_at n.gates i hin
    have hil : (i : Int) < (n.gates.length : Int) := by omega
    have g6 := h6 g hgm
    have m1 := midG_get n.gates i g (List.replicate r .any) hgi
    have m2 := midG_set n.gates i g (List.replicate r .any) hgi
    have ml : i * 3 + 2 + 1 ≤ (midG n.gates i ++ List.replicate r PV.any).length := by rw [List.length_append, midG_len]; omega
    have hsp : ∀ x : PV, (midG n.gates i ++ List.replicate r PV.any).take (i * 3 + 2) ++ x :: (midG n.gates i ++ List.replicate r PV.any).drop (i * 3 + 2 + 1) = (midG n.gates i ++ List.replicate r PV.any).set (i * 3 + 2) x := fun x => (List.set_eq_take_append_cons_drop.trans (if_pos ml)).symm
    have c5 := CM_5 n r i
    have c4 := CM_4 n r i
    have cl := CM_last n r i (by omega)
    have cs := CM_lset n r i (by omega)
    have cn := CM_next n r i g hgi
    have c0 := CM_spare n r i (by omega)
    refine Run.skip ?_
    refine End.kp [2, 3, 23, 24] ?_
    refine Run.seq ?_
    refine Run.block ?_
    refine Run.seq ?_
    have fx := And.intro (@Int.toNat_natCast) (And.intro (@Int.natCast_nonneg) (And.intro (@Nat.mul_one) (And.intro downN_ms (And.intro upN_ms (And.intro upN_bs (And.intro c0 (And.intro cs (And.intro cl (And.intro c4 (And.intro c5 (And.intro hsp (And.intro ml (And.intro m2 (And.intro m1 (And.intro hil (And.intro wi (And.intro CM_1' (And.intro CM_4' (And.intro ints_len (And.intro gim_len (And.intro fim_len (And.intro strs_len ft))))))))))))))))))))))
    refine Run.go ?_
    refine End.kp [2, 3, 4, 23, 24] ?_
    refine Run.ghost (.spares 1) ?_
    simp only [ASt.pushN, ASt.push]
    refine Run.drawA fun K hK => ?_
    refine DOps.sim ?_
    refine DOps.call (.ms 0 (i + 6) g.ins.length) [((0, i + 6), .dead)] [((0, i + 6), .row 3 1 (ints g.ins) 0)] rfl rfl rfl rfl (by kernel_rfl) (by simp [Agree, ASt.fr, cl]) (fun u hu => CloneII_ok g.ins (by omega) (i + 6) u (hu ((0, i + 6), .dead) (by simp))) ?_
    refine DOps.sim ?_
    refine DOps.nil (by rfl) (hK _ ?_); clear hK K
    refine End.blk ?_
    refine End.kp [2, 3, 23, 24] ?_
    have fx := And.intro (@Int.toNat_natCast) (And.intro (@Int.natCast_nonneg) (And.intro (@Nat.mul_one) (And.intro downN_ms (And.intro upN_ms (And.intro upN_bs (And.intro c0 (And.intro cs (And.intro cl (And.intro c4 (And.intro c5 (And.intro hsp (And.intro ml (And.intro m2 (And.intro m1 (And.intro hil (And.intro wi (And.intro CM_1' (And.intro CM_4' (And.intro ints_len (And.intro gim_len (And.intro fim_len (And.intro strs_len ft))))))))))))))))))))))
    refine Run.go ?_
    refine End.lp ?_
    refine ⟨n.gates.length - (i + 1), _, by omega, .keepE (e := [(2, .ptr 0 1 0), (3, .ptr 0 4 0), (23, .i n.gates.length), (24, .i (i + 1 : Nat))]) ⟨rfl, rfl, rfl, rfl, trivial⟩, i + 1, rfl, by omega, by rw [← cn]⟩
  · have hb2 := of_decide_eq_false hb
    have hie : i = n.gates.length := by omega
    subst hie
    refine Run.exit rfl ?_
    refine End.kp [2, 3] ?_
    refine Run.seq ?_
    have fx := And.intro CM_1' (And.intro CM_4' (And.intro ints_len (And.intro gim_len (And.intro fim_len (And.intro strs_len ft)))))
    refine Run.go ?_
    refine End.kp [2] ?_
    refine Run.resX hQ ?_
    refine ⟨.bs 0 (f.length + 5) n.gates.length, .box (cellsG (f.length + 6) n.gates ++ List.replicate r .any), ⟨.inr ⟨hne, rfl, r, rfl⟩⟩, by simp [oneOrTup, PV.upN, PV.mg, mgs, agN], ?_⟩
    have e := CM_mg n r f.length
    show (f ++ ((CM n r n.gates.length).set 1 (.box [.im (.sl (strs n.inn)), .im (.sl (strs n.out)), .ms 0 2 n.flops.length, .bs 0 5 n.gates.length, .ms 0 3 n.outs.length])).map (AObj.mg f.length)) :: rest = _
    rw [e]
theorem NCopy_nil (n : LNet) (hn : NetSmall n) (hne : n.gates = []) (f : List AObj) (rest : Frs) : ACalls Try.prog 103 [n.pv] (f :: rest) fun v u => ∃ (gc : PV) (o5 : AObj), CopyF n f.length gc o5 ∧ v = .agg (agN n f.length gc) ∧ u = (f ++ CF n f.length gc o5) :: rest := by
  obtain ⟨z1, z2, z3, z4, z5⟩ := hn
  have g0 : n.gates.map LGate.im = [] := by rw [hne]; rfl
  have g1 : n.gates.length = 0 := by rw [hne]; rfl
  refine ACalls.codeX Try.func103 rfl 41 rfl (by simp) [.cell 2 30] rfl fun Q hQ => ?_
  simp only [ups, PV.up, argEnv]
  have ft := And.intro ty_2 (And.intro ty_3 (And.intro ty_4 (And.intro ty_9 (And.intro ty_22 (And.intro ty_26 (And.intro ty_27 (And.intro ty_28 (And.intro ty_30 (And.intro ty_39 (And.intro ty_78 trivial))))))))))
  refine Run.seq ?_
  have fx := And.intro ints_len (And.intro fim_len (And.intro strs_len ft))
  refine Run.go ?_
  refine End.kp [1, 2] ?_
  refine Run.seq ?_
  refine Run.ghost (.spares 4) ?_
  simp only [ASt.pushN, ASt.push, List.append_assoc, List.cons_append, List.nil_append]
  refine Run.drawA fun K hK => ?_
  refine DOps.sim ?_
  refine DOps.call (.im (.sl (strs n.inn))) [] [] rfl rfl rfl rfl (by kernel_rfl) (by simp [Agree]) (fun u hu => CloneS_ok n.inn (by omega) u) ?_
  refine DOps.sim ?_
  refine DOps.call (.im (.sl (strs n.out))) [] [] rfl rfl rfl rfl (by kernel_rfl) (by simp [Agree]) (fun u hu => CloneS_ok n.out (by omega) u) ?_
  refine DOps.sim ?_
  refine DOps.call (.ms 0 2 n.flops.length) [((0, 2), .dead)] [((0, 2), .row 78 5 (n.flops.map LFlop.im) 0)] rfl rfl rfl rfl (by kernel_rfl) (by simp [Agree, ASt.fr]) (fun u hu => CloneFI_ok n.flops (by omega) 2 u (hu ((0, 2), .dead) (by simp))) ?_
  refine DOps.sim ?_
  refine DOps.call (.ms 0 5 0) [((0, 5), .dead)] [((0, 5), .row 39 3 (n.gates.map LGate.im) 0)] rfl rfl rfl rfl (by kernel_rfl) (by simp [Agree, ASt.fr]) (fun u hu => (by have := CloneGI_ok n.gates (by omega) 5 u (hu ((0, 5), .dead) (by simp)); rw [g1] at this; exact this)) ?_
  refine DOps.sim ?_
  refine DOps.call (.ms 0 3 n.outs.length) [((0, 3), .dead)] [((0, 3), .row 3 1 (ints n.outs) 0)] rfl rfl rfl rfl (by kernel_rfl) (by simp [Agree, ASt.fr]) (fun u hu => CloneII_ok n.outs (by omega) 3 u (hu ((0, 3), .dead) (by simp))) ?_
  refine DOps.sim ?_
  refine DOps.nil (by rfl) (hK _ ?_); clear hK K
  refine End.kp [2, 3] ?_
  refine Run.seq ?_
  refine Run.seq ?_
  refine Run.ghost (Ghost.boxShut (j := 4) (i := 3) (r := 5) rfl rfl rfl (by rw [g0]; rfl)) ?_
  simp only [g0, List.length_nil]
  have fx := And.intro ints_len (And.intro fim_len (And.intro strs_len ft))
  refine Run.go ?_
  refine End.kp [2, 3, 23, 24] ?_
  refine Run.block ?_
  refine Run.ghost (Ghost.form [(2, .ptr 0 1 0), (3, .ptr 0 4 0), (23, .i 0), (24, .i (0 : Nat))] 6 ⟨rfl, rfl, rfl, rfl, trivial⟩ rfl rfl) ?_
  refine Run.loop (fun m s => s = ⟨[(2, .ptr 0 1 0), (3, .ptr 0 4 0), (23, .i 0), (24, .i (0 : Nat))], [.box [.im (.sl (strs n.inn)), .im (.sl (strs n.out)), .im (.sl (n.flops.map LFlop.im)), .im (.sl []), .im (.sl (ints n.outs))], .box [.nils, .nils, .nils, .nils, .nils], .row 78 5 (n.flops.map LFlop.im) 0, .row 3 1 (ints n.outs) 0, .box [.im (.sl (strs n.inn)), .im (.sl (strs n.out)), .ms 0 2 n.flops.length, .im (.sl []), .ms 0 3 n.outs.length], .row 39 3 [] 0], f :: rest⟩) 0 rfl fun m s hI => ?_
  subst hI
  refine Run.seq ?_
  have fx := And.intro ints_len (And.intro fim_len (And.intro strs_len ft))
  refine Run.go ?_
  refine End.kp [2, 3, 23, 24, 25] ?_
  refine Run.seq ?_
  refine Run.cond _ rfl (fun hb => ?_) (fun hb => ?_)
  · have hb2 := hb
    simp at hb
  · have hb2 := hb
    refine Run.exit rfl ?_
    refine End.kp [2, 3] ?_
    refine Run.seq ?_
    have fx := And.intro ints_len (And.intro fim_len (And.intro strs_len ft))
    refine Run.go ?_
    refine End.kp [2] ?_
    refine Run.resX hQ ?_
    refine ⟨.im (.sl []), .row 39 3 [] 0, ⟨.inl ⟨hne, rfl, rfl⟩⟩, by simp [oneOrTup, PV.upN, PV.mg, mgs, agN], ?_⟩
    simp only [CF, agN, hne, rowsG, List.map_nil, List.set_cons_succ, List.set_cons_zero, List.map_cons, AObj.mg, mgs, PV.mg]
    rfl
theorem NCopy_ok (n : LNet) (hn : NetSmall n) (h6 : ∀ g ∈ n.gates, g.ins.length ≤ 6) (f : List AObj) (rest : Frs) : ACalls Try.prog 103 [n.pv] (f :: rest) fun v u => ∃ (gc : PV) (o5 : AObj), CopyF n f.length gc o5 ∧ v = .agg (agN n f.length gc) ∧ u = (f ++ CF n f.length gc o5) :: rest := by
  by_cases h : n.gates = []
  · exact NCopy_nil n hn h f rest
  · exact NCopy_cons n hn h h6 f rest
end Go.Proofs.YtkmnmokjlpenhaaPi

