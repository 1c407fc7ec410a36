/- Plain law of NetlistHolds: bit 0 of the next state. -/
import Derived.Test.YtkmnmokjlpenhaaWL
import Derived.Test.YtkmnmokjlpenhaaPBits
set_option linter.unusedVariables false
set_option linter.unusedSimpArgs false
namespace Go.Proofs.YtkmnmokjlpenhaaPi

theorem old_value (n : LNet) (inn st : List Bool) (h1 : inn.length = n.inn.length) (i : Nat) (hi : i < st.length) : (valuesV n (lanes0 inn) (lanes0 st)).getD (2 + (n.inn.length : Int) + i).toNat 0 = if st.getD i false = true then 1 else 0 := by
  have hk : (2 + (n.inn.length : Int) + i).toNat = 2 + inn.length + i := by omega
  rw [hk, valuesV, valsN_pre _ _ _ (by simp; omega), List.getD_eq_getElem?_getD, List.getElem?_append_right (by simp; omega)]
  have : 2 + inn.length + i - ([0, 18446744073709551615] ++ lanes0 inn).length = i := by simp; omega
  rw [this, List.getElem?_map, List.getElem?_eq_getElem hi]
  simp [hi]
theorem holdsAt (n : LNet) (inn st : List Bool) (hn : NetOk n) (h1 : inn.length = n.inn.length) (h2 : st.length = n.flops.length) : HoldsAt n inn st := by
  intro i f hf
  have hi := (List.getElem?_eq_some_iff.1 hf).1
  have hg := nextsF_get n (valuesV n (lanes0 inn) (lanes0 st)) n.flops 0 i f hf
  rw [List.getD_eq_getElem?_getD, List.getElem?_map, hg]
  simp only [Option.map_some, Option.getD_some, one_iff]
  rw [nextF, bit0_or, bit0_and, bit0_and, bit0_not, Nat.zero_add, old_value n inn st h1 i (by omega), bit0_lane]
  cases bit0 ((valuesV n (lanes0 inn) (lanes0 st)).getD f.en.toNat 0) <;> simp
end Go.Proofs.YtkmnmokjlpenhaaPi
