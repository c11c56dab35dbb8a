/- FlipPlay: contracts of the program's and the reference's function. -/
import Derived.Test.YtjedajfpohhojaaFnA
import Derived.Test.YtjedajfpohhojaaStepApp
import Derived.Test.YtjedajfpohhojaaLIsPlay0
set_option linter.unusedSimpArgs false
set_option linter.unusedVariables false
namespace Go.Proofs.Ytjedajfpohhojaa
open Go.RowKit

/-- A call handed back a slice of ints of its own and a bool. -/
def IntsRes (w : World) (xs : List Int) (ok : Bool) (e : Ending) (w' : World) : Prop :=
  ∃ a c, e = .returned (.tuple #[.slice a xs.length c, .bool ok]) ∧ OwnV 3 w.heap.size w'.heap.size w' (.slice a xs.length c) (ints xs) ∧ Below w.heap.size w w'
theorem IntsRes.zero {w w' : World} (h : Below w.heap.size w w') : IntsRes w [] false (.returned (.tuple #[.slice none 0 0, .bool false])) w' :=
  ⟨none, 0, rfl, OwnV.nil _ _ _ _, h⟩

theorem l2Play_any (x y : Int) (v : Value) (ps : List Int) (w : World) (h : RdI w v ps) :
    Calls Try.prog 51 #[.int .i64 x, .int .i64 y, v] w fun e w' => e = .returned (.bool (sizesB x y && bitsB ps (x + y))) ∧ w = w' := by
  rcases Bool.eq_false_or_eq_true (sizesB x y) with hs | hs
  · obtain ⟨⟨hx0, hx1⟩, hy0, hy1⟩ := sizesB_iff.1 hs
    go_enter Try.func51, Try.ntmps51
    go_wp2_with (first | (go_at_call 96; refine (l2Sizes_any _ _ _).mono ?_; rintro e w' ⟨rfl, rfl⟩) | (go_at_call 82; refine (l2Bits_any _ ps _ _ h).mono ?_; rintro e w' ⟨rfl, rfl⟩))
    go_ret
    exact ⟨ret_bool (by rw [hs]; rfl), rfl⟩
  · go_enter Try.func51, Try.ntmps51
    go_wp2_with (go_at_call 96; refine (l2Sizes_any _ _ _).mono ?_; rintro e w' ⟨rfl, rfl⟩)
    go_ret
    exact ⟨ret_bool (by rw [hs]; rfl), rfl⟩
end Go.Proofs.Ytjedajfpohhojaa
