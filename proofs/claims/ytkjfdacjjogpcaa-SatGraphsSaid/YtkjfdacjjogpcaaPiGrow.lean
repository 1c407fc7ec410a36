/- A new row that has room and nothing in it: what slices.Grow gives of a nil slice (the model-level contract is a hypothesis: the kit's shelf has it). -/
import Derived.Test.YtkjfdacjjogpcaaPiGo
namespace Go.Proofs.YtkjfdacjjogpcaaPi
open Go

theorem grow_acalls {P : Program} {f : FuncId} {t sz : Nat} (hsz : 0 < sz) (n : Int)
  (hG : ∀ w : World, Calls P f #[.slice none 0 0, .int .i64 n] w fun e w' => ∃ (cap : Nat) (arr : Array Value), e = .returned (.slice (some ⟨w.heap.size, 0, none⟩) 0 cap) ∧ w' = w.drew.alloc (.cells arr t) ∧ arr.size = cap * sz ∧ cap ≤ maxLen)
  (f0 : List AObj) (rest : Frs) : ACalls P f [.nils, .im (.int .i64 n)] (f0 :: rest) fun v u => v = .ms 0 f0.length 0 ∧ u = (f0 ++ [.row t sz [] 0]) :: rest := by
 intro F bs w vs hm hv
 have hvs : vs = #[.slice none 0 0, .int .i64 n] := by
  obtain ⟨l⟩ := vs
  simp only [VRels] at hv
  obtain ⟨v1, r1, rfl, h1, v2, r2, rfl, h2, rfl⟩ := hv
  simp only [VRel, IRel] at h1 h2
  subst h1
  subst h2
  rfl
 subst hvs
 refine (hG w).mono ?_
 rintro e w' ⟨cap, arr, rfl, rfl, hs, hc⟩
 have hsh := hm.shape
 cases bs with
 | nil => simp at hsh
 | cons b0 bs =>
  simp only [List.map_cons, List.cons.injEq] at hsh
  have hno : ∀ o, F w.heap.size o = none := fun o => by
   cases hq : F w.heap.size o with
   | none => rfl
   | some v =>
    have := World.block_lt_of_cell? w _ (hm.fz _ _ _ hq)
    simp at this
  obtain ⟨h1, h2, h3⟩ := hm.push (F' := F) (w' := w.drew.alloc (.cells arr t)) (.row t sz [] 0) (some w.heap.size, cap) (fun b hb => heap_alloc_old w.drew _ hb) (Fz.le_refl F) (fun _ _ _ => rfl)
   (fun b q v hb hq => by
    have := World.block_lt_of_cell? w _ (hm.fz b q v hq)
    simp at this
    omega) (fun b hb => by simp at hb; omega)
   ⟨hsz, Nat.zero_le _, hc, Nat.zero_le _, fun h => by simp at h, fun b hb => by
    simp only [Option.some.injEq] at hb
    subst hb
    exact ⟨arr, heap_alloc_new w.drew _, hs, fun i r hr => by simp at hr, fun o v hv => by simp [hno] at hv, fun o ho => by simp at ho⟩⟩
  refine ⟨_, .ms 0 f0.length 0, F, _, _, rfl, ⟨rfl, rfl⟩, h1, ?_, ⟨Fz.le_refl F, h2, ⟨rfl, rfl, rfl, by simp, fun b hb _ => heap_alloc_old w.drew _ hb⟩, h3⟩⟩
  simp only [VRel]
  exact ⟨some ⟨w.heap.size, 0, none⟩, cap, rfl, Nat.zero_le _, t, sz, [], 0, (some w.heap.size, cap), by simp, by simp [hsh.1], Nat.le_refl _, fun _ => ⟨rfl, rfl⟩⟩
end Go.Proofs.YtkjfdacjjogpcaaPi

