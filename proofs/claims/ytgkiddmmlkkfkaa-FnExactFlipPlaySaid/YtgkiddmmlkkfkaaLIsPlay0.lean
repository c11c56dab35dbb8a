/- IsPlay: the program's answers are the reference's, for all arguments. -/
import Derived.Test.YtgkiddmmlkkfkaaFnA
set_option linter.unusedSimpArgs false
set_option linter.unusedVariables false
namespace Go.Proofs.Ytgkiddmmlkkfkaa
open Go.RowKit

theorem ret_bool2 {a b c d : Bool} (h : a = c) (h' : b = d) : Ending.returned (.tuple #[.bool a, .bool b]) = .returned (.tuple #[.bool c, .bool d]) := by rw [h, h']

theorem specIsPlay_any (v : Value) (xs : List Int) (x y : Int) (w : World) (h : RdI w v xs) :
    Calls Try.prog 18 #[.int .i64 x, .int .i64 y, v] w fun e w' => e = .returned (.tuple #[.bool (sizesB x y && bitsB xs (x + y)), .bool (sizesB x y)]) ∧ w = w' := by
  rcases Bool.eq_false_or_eq_true (sizesB x y) with hs | hs
  · obtain ⟨⟨hx1, hx2⟩, hy1, hy2⟩ := sizesB_iff.1 hs
    go_enter Try.func18, Try.ntmps18
    go_wp2_with (first | (go_at_call 52; refine (l2Sizes_any _ _ _).mono ?_; rintro e w' ⟨rfl, rfl⟩) | (go_at_call 53; refine (l2Bits_any _ xs _ _ h).mono ?_; rintro e w' ⟨rfl, rfl⟩))
    go_ret2
    exact ⟨ret_bool2 (by rw [hs]; rfl) hs.symm, rfl⟩
  · go_enter Try.func18, Try.ntmps18
    go_wp2_with (go_at_call 52; refine (l2Sizes_any _ _ _).mono ?_; rintro e w' ⟨rfl, rfl⟩)
    go_ret2
    exact ⟨ret_bool2 (by rw [hs]; rfl) hs.symm, rfl⟩

theorem implIsPlay_any (v : Value) (xs : List Int) (x y : Int) (w : World) (h : RdI w v xs) :
    Calls Try.prog 20 #[.int .i64 x, .int .i64 y, v] w fun e w' => e = .returned (.tuple #[.bool (sizesB x y && bitsB xs (x + y)), .bool (sizesB x y)]) ∧ w = w' := by
  rcases Bool.eq_false_or_eq_true (sizesB x y) with hs | hs
  · have hq := sizesB_iff.1 hs
    go_enter Try.func20, Try.ntmps20
    go_wp2_with (first | (go_at_call 54; refine (areQuestions_any _ _ _).mono ?_; rintro e w' ⟨rfl, rfl⟩) | (go_at_call 55; refine (isPlay_any _ xs _ _ _ h hq.1 hq.2).mono ?_; rintro e w' ⟨rfl, rfl⟩))
    go_ret2
    exact ⟨ret_bool2 (by rw [hs]; rfl) hs.symm, rfl⟩
  · go_enter Try.func20, Try.ntmps20
    go_wp2_with (go_at_call 54; refine (areQuestions_any _ _ _).mono ?_; rintro e w' ⟨rfl, rfl⟩)
    go_ret2
    exact ⟨ret_bool2 (by rw [hs]; rfl) hs.symm, rfl⟩

end Go.Proofs.Ytgkiddmmlkkfkaa
