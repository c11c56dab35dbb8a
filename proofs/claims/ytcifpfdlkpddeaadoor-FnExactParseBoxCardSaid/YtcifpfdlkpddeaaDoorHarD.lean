/- Small facts for the laws' walks: cells of a struct behind a call. -/
import Derived.Test.YtcifpfdlkpddeaaDoorHarC
import Derived.Deep.RegionHeld3
set_option linter.unusedSimpArgs false
set_option linter.unusedVariables false
namespace Go.Proofs.YtcifpfdlkpddeaaDoor
open Go.RowKit

theorem cells4_kept {w w' : World} {g B : Nat} {x0 x1 x2 x3 : Value} (hb : Below B w w') (hB : g < B) (h0 : w.cell? ⟨g, 0, none⟩ = some x0) (h1 : w.cell? ⟨g, 1, none⟩ = some x1) (h2 : w.cell? ⟨g, 2, none⟩ = some x2) (h3 : w.cell? ⟨g, 3, none⟩ = some x3) :
    w'.cell? ⟨g, 0, none⟩ = some x0 ∧ w'.cell? ⟨g, 1, none⟩ = some x1 ∧ w'.cell? ⟨g, 2, none⟩ = some x2 ∧ w'.cell? ⟨g, 3, none⟩ = some x3 := by
  obtain ⟨hc, _⟩ := bcell hb
  exact ⟨by rw [hc _ _ hB]; exact h0, by rw [hc _ _ hB]; exact h1, by rw [hc _ _ hB]; exact h2, by rw [hc _ _ hB]; exact h3⟩
theorem cells2_kept {w w' : World} {g B : Nat} {x0 x1 : Value} (hb : Below B w w') (hB : g < B) (h0 : w.cell? ⟨g, 0, none⟩ = some x0) (h1 : w.cell? ⟨g, 1, none⟩ = some x1) :
    w'.cell? ⟨g, 0, none⟩ = some x0 ∧ w'.cell? ⟨g, 1, none⟩ = some x1 := by
  obtain ⟨hc, _⟩ := bcell hb
  exact ⟨by rw [hc _ _ hB]; exact h0, by rw [hc _ _ hB]; exact h1⟩
theorem mid_cell {w w' : World} {lo hi g j : Nat} (hm : Mid lo hi w w') (hg : g < w.heap.size) (hx : g < lo ∨ hi ≤ g) : w'.cell? ⟨g, j, none⟩ = w.cell? ⟨g, j, none⟩ :=
  World.cell?_of_block (w := w) (hm.block g hg hx)
theorem cells4_mid {w w' : World} {g lo hi : Nat} {x0 x1 x2 x3 : Value} (hm : Mid lo hi w w') (hg : g < w.heap.size) (hx : g < lo ∨ hi ≤ g) (h0 : w.cell? ⟨g, 0, none⟩ = some x0) (h1 : w.cell? ⟨g, 1, none⟩ = some x1) (h2 : w.cell? ⟨g, 2, none⟩ = some x2) (h3 : w.cell? ⟨g, 3, none⟩ = some x3) :
    w'.cell? ⟨g, 0, none⟩ = some x0 ∧ w'.cell? ⟨g, 1, none⟩ = some x1 ∧ w'.cell? ⟨g, 2, none⟩ = some x2 ∧ w'.cell? ⟨g, 3, none⟩ = some x3 :=
  ⟨by rw [mid_cell hm hg hx]; exact h0, by rw [mid_cell hm hg hx]; exact h1, by rw [mid_cell hm hg hx]; exact h2, by rw [mid_cell hm hg hx]; exact h3⟩
theorem cells2_mid {w w' : World} {g lo hi : Nat} {x0 x1 : Value} (hm : Mid lo hi w w') (hg : g < w.heap.size) (hx : g < lo ∨ hi ≤ g) (h0 : w.cell? ⟨g, 0, none⟩ = some x0) (h1 : w.cell? ⟨g, 1, none⟩ = some x1) :
    w'.cell? ⟨g, 0, none⟩ = some x0 ∧ w'.cell? ⟨g, 1, none⟩ = some x1 :=
  ⟨by rw [mid_cell hm hg hx]; exact h0, by rw [mid_cell hm hg hx]; exact h1⟩

end Go.Proofs.YtcifpfdlkpddeaaDoor
