/- The first loud player: contracts of the program's search. -/
import Derived.Test.YtjedajfpohhojaaFnLoud
set_option linter.unusedSimpArgs false
set_option linter.unusedVariables false
namespace Go.Proofs.Ytjedajfpohhojaa
open Go.RowKit

theorem questions_any (v : Value) (b : BoxD) (w : World) :
    Calls Try.prog 93 #[.agg #[.int .i64 b.X, .int .i64 b.Y, .int .i64 b.Whole, v]] w fun e w' => e = .returned (.agg #[.int .i64 b.X, .int .i64 b.Y]) ∧ Below w.heap.size w w' := by
  go_enter Try.func93, Try.ntmps93
  go_wp2
  refine bodyPost_ret (v := .agg #[.int .i64 b.X, .int .i64 b.Y]) ?_ rfl ?_
  · simp [results, Try.results93, go_sem]
  · exact ⟨rfl, (by repeat' (first | with_reducible exact Below.refl _ _ | with_reducible assumption | with_reducible apply Below.alloc | with_reducible apply Below.setCell | with_reducible apply Below.drew | exact Nat.le_refl _ | omega | (simp only [World.size_alloc, World.size_setCell]; omega)))⟩
theorem ones0_lit (v : Value) (b : BoxD) (hb : boxB b = true) (x y : Nat) (y' : Int) (ey : (y : Int) = y') (hx : (x : Int) < b.X) (hy : (y : Int) < b.Y) (w : World) (h : RdII w v b.Rows) :
    Calls Try.prog 94 #[.agg #[.int .i64 b.X, .int .i64 b.Y, .int .i64 b.Whole, v], .int .i64 0, .int .i64 x, .int .i64 y'] w fun e w' => e = .returned (.int .i64 (oneB b 0 x y)) ∧ Below w.heap.size w w' := by
  subst ey; exact ones0_any v b hb x y hx hy w h
theorem ones1_lit (v : Value) (b : BoxD) (hb : boxB b = true) (x y : Nat) (x' : Int) (ex : (x : Int) = x') (hx : (x : Int) < b.X) (hy : (y : Int) < b.Y) (w : World) (h : RdII w v b.Rows) :
    Calls Try.prog 94 #[.agg #[.int .i64 b.X, .int .i64 b.Y, .int .i64 b.Whole, v], .int .i64 1, .int .i64 y, .int .i64 x'] w fun e w' => e = .returned (.int .i64 (oneB b 1 x y)) ∧ Below w.heap.size w w' := by
  subst ex; exact ones1_any v b hb x y hx hy w h
end Go.Proofs.Ytjedajfpohhojaa
