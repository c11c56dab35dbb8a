/- A box that a region of a law stores into a variable of its own, whenever that variable was laid. -/
import Derived.Test.YtjedajfpohhojaaBoxOut
import Derived.Deep.DeepCutAuto
set_option linter.unusedSimpArgs false
set_option linter.unusedVariables false
namespace Go.Proofs.Ytjedajfpohhojaa
open Go.RowKit

def BoxMade (W : World) (D : BoxD) (s6 : Value) (wx : World) : Prop :=
  ∃ (gR : Nat) (aR : Option Addr) (cR : Nat) (zR : List Value), s6 = .pointer (some ⟨gR, 0, none⟩) ∧ W.heap.size ≤ gR ∧ gR < wx.heap.size ∧
    (wx.cell? ⟨gR, 0, none⟩ = some (.int .i64 D.X) ∧ wx.cell? ⟨gR, 1, none⟩ = some (.int .i64 D.Y) ∧ wx.cell? ⟨gR, 2, none⟩ = some (.int .i64 D.Whole) ∧ wx.cell? ⟨gR, 3, none⟩ = some (.slice aR D.Rows.length cR)) ∧
    OwnII 22 3 W.heap.size wx.heap.size wx (.slice aR D.Rows.length cR) D.Rows zR ∧ Below W.heap.size W wx
theorem boxMade_new {W w3 : World} {lo : Nat} {D : BoxD} {aR : Option Addr} {cR : Nat} {zR : List Value} (hB : Below W.heap.size W w3) (hlo : W.heap.size ≤ lo)
    (oR : OwnII 22 3 lo w3.heap.size w3 (.slice aR D.Rows.length cR) D.Rows zR) :
    BoxMade W D (.pointer (some ⟨w3.heap.size, 0, none⟩)) (w3.alloc (.cells #[.int .i64 D.X, .int .i64 D.Y, .int .i64 D.Whole, .slice aR D.Rows.length cR] 25)) :=
  ⟨_, aR, cR, zR, rfl, hB.size, by rw [World.size_alloc]; omega, ⟨(by repeat' (first | with_reducible assumption | (refine cell_top ?_ rfl; first | with_reducible rfl | (simp only [World.size_alloc, World.size_setCell]; done)) | (refine cell_under ?_ ?_; (first | omega | (simp only [World.size_alloc, World.size_setCell]; omega))) | refine cell_drew ?_)), (by repeat' (first | with_reducible assumption | (refine cell_top ?_ rfl; first | with_reducible rfl | (simp only [World.size_alloc, World.size_setCell]; done)) | (refine cell_under ?_ ?_; (first | omega | (simp only [World.size_alloc, World.size_setCell]; omega))) | refine cell_drew ?_)), (by repeat' (first | with_reducible assumption | (refine cell_top ?_ rfl; first | with_reducible rfl | (simp only [World.size_alloc, World.size_setCell]; done)) | (refine cell_under ?_ ?_; (first | omega | (simp only [World.size_alloc, World.size_setCell]; omega))) | refine cell_drew ?_)), (by repeat' (first | with_reducible assumption | (refine cell_top ?_ rfl; first | with_reducible rfl | (simp only [World.size_alloc, World.size_setCell]; done)) | (refine cell_under ?_ ?_; (first | omega | (simp only [World.size_alloc, World.size_setCell]; omega))) | refine cell_drew ?_))⟩,
    (oR.kept ((Below.refl _ _).alloc (Nat.le_refl _) _) (Nat.le_refl _)).weaken hlo (by rw [World.size_alloc]; omega), hB.alloc hB.size _⟩
theorem boxMade_old {W w3 : World} {lo g : Nat} {D : BoxD} {aR : Option Addr} {cR : Nat} {zR : List Value} (hB : Below W.heap.size W w3) (hlo : g < lo) (hg : W.heap.size ≤ g) (hR : RetAt w3 g)
    (oR : OwnII 22 3 lo w3.heap.size w3 (.slice aR D.Rows.length cR) D.Rows zR) :
    BoxMade W D (.pointer (some ⟨g, 0, none⟩)) ((((w3.setCell ⟨g, 0, none⟩ (.int .i64 D.X)).setCell ⟨g, 1, none⟩ (.int .i64 D.Y)).setCell ⟨g, 2, none⟩ (.int .i64 D.Whole)).setCell ⟨g, 3, none⟩ (.slice aR D.Rows.length cR)) := by
  have hend := box_out (g := g) hB hg hlo oR (.int .i64 D.X) (.int .i64 D.Y) (.int .i64 D.Whole) (.slice aR D.Rows.length cR)
  have hl := hR.lt
  obtain ⟨r0, r1, r2, r3, rf⟩ := hR
  exact ⟨g, aR, cR, zR, rfl, hg, by simpa only [World.size_setCell] using hl, ⟨by simp [go_sem, r0, r1, r2, r3], by simp [go_sem, r0, r1, r2, r3], by simp [go_sem, r0, r1, r2, r3], by simp [go_sem, r0, r1, r2, r3]⟩, hend.1, hend.2⟩
theorem retTop {W w3 : World} (b : Below (W.alloc (.cells #[.int .i64 0, .int .i64 0, .int .i64 0, .slice none 0 0] 25)).heap.size (W.alloc (.cells #[.int .i64 0, .int .i64 0, .int .i64 0, .slice none 0 0] 25)) w3) : RetAt w3 W.heap.size :=
  RetAt.call b (RetAt.top rfl)
theorem retTopD {W w3 : World} (b : Below (W.alloc (.cells #[.int .i64 0, .int .i64 0, .int .i64 0, .slice none 0 0] 25)).drew.heap.size (W.alloc (.cells #[.int .i64 0, .int .i64 0, .int .i64 0, .slice none 0 0] 25)).drew w3) : RetAt w3 W.heap.size :=
  RetAt.call b ((RetAt.top (W := W) rfl).kept ((Below.refl (W.alloc (.cells #[.int .i64 0, .int .i64 0, .int .i64 0, .slice none 0 0] 25)).heap.size _).drew) (RetAt.top (W := W) rfl).lt)
theorem retSize {W w3 : World} (b : Below (W.alloc (.cells #[.int .i64 0, .int .i64 0, .int .i64 0, .slice none 0 0] 25)).heap.size (W.alloc (.cells #[.int .i64 0, .int .i64 0, .int .i64 0, .slice none 0 0] 25)) w3) : W.heap.size + 1 ≤ w3.heap.size := by
  have h := b.size
  rw [World.size_alloc] at h
  exact h
theorem retSizeD {W w3 : World} (b : Below (W.alloc (.cells #[.int .i64 0, .int .i64 0, .int .i64 0, .slice none 0 0] 25)).drew.heap.size (W.alloc (.cells #[.int .i64 0, .int .i64 0, .int .i64 0, .slice none 0 0] 25)).drew w3) : W.heap.size + 1 ≤ w3.heap.size := by
  have h : (W.alloc (.cells #[.int .i64 0, .int .i64 0, .int .i64 0, .slice none 0 0] 25)).heap.size ≤ w3.heap.size := b.size
  rw [World.size_alloc] at h
  exact h
theorem retThen {w : World} {g : Nat} {C : Prop} (h : RetAt w g) (k : w.cell? ⟨g, 0, none⟩ = some (.int .i64 0) → w.cell? ⟨g, 1, none⟩ = some (.int .i64 0) → w.cell? ⟨g, 2, none⟩ = some (.int .i64 0) → w.cell? ⟨g, 3, none⟩ = some (.slice none 0 0) → (∀ o, w.frozen? ⟨g, o, none⟩ = false) → C) : C :=
  k h.e0 h.e1 h.e2 h.e3 h.ef
end Go.Proofs.Ytjedajfpohhojaa
