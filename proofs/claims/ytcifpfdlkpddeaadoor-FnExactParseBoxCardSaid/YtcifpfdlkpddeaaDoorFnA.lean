/- Contracts of the small tests of the program and of the reference. -/
import Derived.Test.YtcifpfdlkpddeaaDoorHarA
set_option linter.unusedSimpArgs false
set_option linter.unusedVariables false
namespace Go.Proofs.YtcifpfdlkpddeaaDoor
open Go.RowKit

theorem l2Sizes_any (x y : Int) (w : World) :
    Calls Tryd.prog 26 #[.int .i64 x, .int .i64 y] w fun e w' => e = .returned (.bool (sizesB x y)) ∧ w = w' := by
  unfold sizesB
  rcases Bool.eq_false_or_eq_true (inB x 1 3) with h1 | h1 <;>
  (go_enter Tryd.func26, Tryd.ntmps26
   go_wp2_with (go_at_call 24; refine (l1In_any _ _ _ _).mono ?_; rintro e w' ⟨rfl, rfl⟩)
   go_ret
   exact ⟨ret_bool (by simp [h1]), rfl⟩)
theorem areQuestions_any (x y : Int) (w : World) :
    Calls Tryd.prog 31 #[.int .i64 x, .int .i64 y] w fun e w' => e = .returned (.bool (sizesB x y)) ∧ w = w' := by
  unfold sizesB
  rcases Bool.eq_false_or_eq_true (inB x 1 3) with h1 | h1 <;>
  (go_enter Tryd.func31, Tryd.ntmps31
   go_wp2_with (go_at_call 15; refine (within_any _ _ _ _).mono ?_; rintro e w' ⟨rfl, rfl⟩)
   go_ret
   exact ⟨ret_bool (by simp [h1]), rfl⟩)
set_option maxHeartbeats 400000 in
theorem allWithin_any (v : Value) (xs : List Int) (lo hi : Int) (w : World) (h : RdI w v xs) :
    Calls Tryd.prog 32 #[v, .int .i64 lo, .int .i64 hi] w fun e w' => e = .returned (.bool (allIn xs lo hi)) ∧ w = w' := by
  obtain ⟨a, b, off, cap, rfl, hm, ha, hc⟩ := h
  unfold maxLen at hm
  go_enter Tryd.func32, Tryd.ntmps32
  go_wp2
  go_loop [11] (fun i => ∃ k : Nat, k ≤ xs.length ∧ i = .int .i64 k ∧ ∀ (j : Nat) (x : Int), j < k → xs[j]? = some x → inB x lo hi = true) (fun i => xs.length - (intOf i).toNat)
  case atStart => exact ⟨0, by omega, rfl, fun j x hj => by omega⟩
  case round =>
    obtain ⟨k, hk, rfl, hall⟩ := hrel
    have HA := Lib.hid hall
    clear hall
    by_cases hlt : k < xs.length
    · obtain rfl := ha (by omega)
      obtain ⟨x, hx⟩ : ∃ x, xs[k]? = some x := ⟨_, List.getElem?_eq_getElem hlt⟩
      have hcell := hc k x hx
      have HX := Lib.hid hx
      clear hc hx
      rcases Bool.eq_false_or_eq_true (inB x lo hi) with h1 | h1
      · go_wp2_with (go_at_call 15; refine (within_any _ _ _ _).mono ?_; rintro e w' ⟨rfl, rfl⟩)
        go_round
        case rel => exact ⟨k + 1, by omega, by go_num, fun j x' hj hx' => by
          by_cases e : j = k
          · subst e; rw [HX.out] at hx'; cases hx'; exact h1
          · exact HA.out j x' (by omega) hx'⟩
        case measure => simp [intOf]; omega
      · go_wp2_with (go_at_call 15; refine (within_any _ _ _ _).mono ?_; rintro e w' ⟨rfl, rfl⟩)
        go_ret
        exact ⟨ret_bool (allIn_false HX.out h1).symm, rfl⟩
    · go_wp2
      go_ret
      obtain rfl : k = xs.length := by omega
      exact ⟨ret_bool (allIn_true (fun j x hx => HA.out j x (List.getElem?_eq_some_iff.1 hx).1 hx)).symm, rfl⟩
set_option maxHeartbeats 400000 in
theorem total_any (v : Value) (xs : List Int) (w : World) (h : RdI w v xs) (hl : xs.length ≤ 1048576) (hb : ∀ (j : Nat) (x : Int), xs[j]? = some x → -1000000 ≤ x ∧ x ≤ 1000000) :
    Calls Tryd.prog 18 #[v] w fun e w' => e = .returned (.int .i64 xs.sum) ∧ w = w' := by
  obtain ⟨a, b, off, cap, rfl, hm, ha, hc⟩ := h
  clear hm
  have hbd := sum_take_bound xs (-1000000) 1000000 (by omega) (by omega) hb
  go_enter Tryd.func18, Tryd.ntmps18
  go_wp2
  go_loop [3, 8] (fun s i => ∃ k : Nat, k ≤ xs.length ∧ i = .int .i64 k ∧ s = .int .i64 (xs.take k).sum) (fun _ i => xs.length - (intOf i).toNat)
  case atStart => exact ⟨0, by omega, rfl, by simp⟩
  case round =>
    obtain ⟨k, hk, rfl, rfl⟩ := hrel
    have hbk := hbd k
    have HB := Lib.hid hbd
    clear hbd
    by_cases hlt : k < xs.length
    · obtain rfl := ha (by omega)
      obtain ⟨x, hx⟩ : ∃ x, xs[k]? = some x := ⟨_, List.getElem?_eq_getElem hlt⟩
      have hcell := hc k x hx
      have hbx := hb k x hx
      have hst := sum_take xs k x hx
      generalize hs : (xs.take k).sum = s at *
      have HX := Lib.hid hx
      have HS := Lib.hid hst
      have HT := Lib.hid hs
      clear hc hx hst hb hs
      go_wp2
      go_round
      case rel => exact ⟨k + 1, by omega, by go_num, by rw [HS.out]⟩
      case measure => simp [intOf]; omega
    · go_wp2
      go_ret
      obtain rfl : k = xs.length := by omega
      exact ⟨ret_int (by rw [List.take_length]), rfl⟩
end Go.Proofs.YtcifpfdlkpddeaaDoor
