/- NoiseBox: contracts of the program's and the reference's function; what they give. -/
import Derived.Test.YtadnjljpceeolaaFnNew
import Derived.Test.YtadnjljpceeolaaBoxRel
import Derived.Test.YtadnjljpceeolaaFnBoxI
set_option linter.unusedSimpArgs false
set_option linter.unusedVariables false
namespace Go.Proofs.Ytadnjljpceeolaa
open Go.RowKit

def zeroD : BoxD := ⟨0, 0, 0, []⟩
/-- A call handed back a box of its own and a bool. -/
def BoxRes (w : World) (D : BoxD) (ok : Bool) (e : Ending) (w' : World) : Prop :=
  ∃ a c vs, e = .returned (.tuple #[.agg #[.int .i64 D.X, .int .i64 D.Y, .int .i64 D.Whole, .slice a D.Rows.length c], .bool ok]) ∧
    OwnII 22 3 w.heap.size w'.heap.size w' (.slice a D.Rows.length c) D.Rows vs ∧ Below w.heap.size w w'
theorem BoxRes.zero {w w' : World} (h : Below w.heap.size w w') : BoxRes w zeroD false (.returned (.tuple #[.agg #[.int .i64 0, .int .i64 0, .int .i64 0, .slice none 0 0], .bool false])) w' :=
  ⟨none, 0, [], rfl, OwnII.nil _ _ _ _ _, h⟩

set_option maxHeartbeats 400000 in
theorem l2Kept_yes (a : Option Addr) (c : Nat) (b : BoxD) (w : World) (h : RdII w (.slice a b.Rows.length c) b.Rows) (hb : boxB b = true) :
    Calls Try.prog 175 #[.agg #[.int .i64 b.X, .int .i64 b.Y, .int .i64 b.Whole, .slice a b.Rows.length c]] w fun e w' => e = .returned (.tuple #[.agg #[.int .i64 b.X, .int .i64 b.Y, .int .i64 b.Whole, .slice a b.Rows.length c], .bool true]) ∧ Below w.heap.size w w' := by
  go_enter Try.func175, Try.ntmps175
  go_wp2_with fail
  refine (l2Box_any _ b _ (h.kept (Nat.le_refl _) (by repeat' (first | with_reducible exact Below.refl _ _ | with_reducible assumption | with_reducible apply Below.alloc | with_reducible apply Below.setCell | with_reducible apply Below.drew | exact Nat.le_refl _ | omega | (simp only [World.size_alloc, World.size_setCell]; omega))))).mono ?_
  rintro e w1 ⟨rfl, b1⟩
  have B1 : Below w.heap.size w w1 := Below.trans (by repeat' (first | with_reducible exact Below.refl _ _ | with_reducible assumption | with_reducible apply Below.alloc | with_reducible apply Below.setCell | with_reducible apply Below.drew | exact Nat.le_refl _ | omega | (simp only [World.size_alloc, World.size_setCell]; omega))) (b1.mono (by first | exact Nat.le_refl _ | omega | (simp only [World.size_alloc, World.size_setCell]; omega)))
  obtain ⟨hc, hf⟩ := bcell b1
  have hz := b1.size
  simp only [World.size_alloc] at hc hf hz
  clear b1
  have hB2 : Below w.heap.size w ((((w1.setCell ⟨w.heap.size + 1, 0, none⟩ (.int .i64 b.X)).setCell ⟨w.heap.size + 1, 1, none⟩ (.int .i64 b.Y)).setCell ⟨w.heap.size + 1, 2, none⟩ (.int .i64 b.Whole)).setCell ⟨w.heap.size + 1, 3, none⟩ (.slice a b.Rows.length c)) := (by repeat' (first | with_reducible exact Below.refl _ _ | with_reducible assumption | with_reducible apply Below.alloc | with_reducible apply Below.setCell | with_reducible apply Below.drew | exact Nat.le_refl _ | omega | (simp only [World.size_alloc, World.size_setCell]; omega)))
  go_wp2
  refine bodyPost_ret (v := .tuple #[.agg #[.int .i64 b.X, .int .i64 b.Y, .int .i64 b.Whole, .slice a b.Rows.length c], .bool true]) ?_ rfl ?_
  · simp [results, Try.results175, go_sem, hc]
  · exact ⟨rfl, hB2⟩
set_option maxHeartbeats 400000 in
theorem l2Kept_no (a : Option Addr) (c : Nat) (b : BoxD) (w : World) (h : RdII w (.slice a b.Rows.length c) b.Rows) (hb : boxB b = false) :
    Calls Try.prog 175 #[.agg #[.int .i64 b.X, .int .i64 b.Y, .int .i64 b.Whole, .slice a b.Rows.length c]] w fun e w' => e = .returned (.tuple #[.agg #[.int .i64 0, .int .i64 0, .int .i64 0, .slice none 0 0], .bool false]) ∧ Below w.heap.size w w' := by
  go_enter Try.func175, Try.ntmps175
  go_wp2_with fail
  refine (l2Box_any _ b _ (h.kept (Nat.le_refl _) (by repeat' (first | with_reducible exact Below.refl _ _ | with_reducible assumption | with_reducible apply Below.alloc | with_reducible apply Below.setCell | with_reducible apply Below.drew | exact Nat.le_refl _ | omega | (simp only [World.size_alloc, World.size_setCell]; omega))))).mono ?_
  rintro e w1 ⟨rfl, b1⟩
  have B1 : Below w.heap.size w w1 := Below.trans (by repeat' (first | with_reducible exact Below.refl _ _ | with_reducible assumption | with_reducible apply Below.alloc | with_reducible apply Below.setCell | with_reducible apply Below.drew | exact Nat.le_refl _ | omega | (simp only [World.size_alloc, World.size_setCell]; omega))) (b1.mono (by first | exact Nat.le_refl _ | omega | (simp only [World.size_alloc, World.size_setCell]; omega)))
  obtain ⟨hc, hf⟩ := bcell b1
  have hz := b1.size
  simp only [World.size_alloc] at hc hf hz
  clear b1
  have hB2 : Below w.heap.size w ((((w1.setCell ⟨w.heap.size + 1, 0, none⟩ (.int .i64 0)).setCell ⟨w.heap.size + 1, 1, none⟩ (.int .i64 0)).setCell ⟨w.heap.size + 1, 2, none⟩ (.int .i64 0)).setCell ⟨w.heap.size + 1, 3, none⟩ (.slice none 0 0)) := (by repeat' (first | with_reducible exact Below.refl _ _ | with_reducible assumption | with_reducible apply Below.alloc | with_reducible apply Below.setCell | with_reducible apply Below.drew | exact Nat.le_refl _ | omega | (simp only [World.size_alloc, World.size_setCell]; omega)))
  go_wp2
  refine bodyPost_ret (v := .tuple #[.agg #[.int .i64 0, .int .i64 0, .int .i64 0, .slice none 0 0], .bool false]) ?_ rfl ?_
  · simp [results, Try.results175, go_sem, hc]
  · exact ⟨rfl, hB2⟩

end Go.Proofs.Ytadnjljpceeolaa
