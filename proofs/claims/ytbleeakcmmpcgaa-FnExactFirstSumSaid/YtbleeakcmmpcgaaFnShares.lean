/- Shares of plays: what the reference and the program ask of them. -/
import Derived.Test.YtbleeakcmmpcgaaFnA
import Derived.Test.YtbleeakcmmpcgaaPlainC
set_option linter.unusedSimpArgs false
set_option linter.unusedVariables false
namespace Go.Proofs.Ytbleeakcmmpcgaa
open Go.RowKit

def sharesB (x y : Int) (xs : List Int) : Bool := sizesB x y && (decide (xs.length = 2 ^ (x.toNat + y.toNat)) && (allIn xs 0 1000 && inB xs.sum 1 1000))
theorem sharesB_in {x y : Int} {xs : List Int} (h : allIn xs 0 1000 = false) : sharesB x y xs = false := by unfold sharesB; simp [h]
theorem sharesB_sizes {x y : Int} {xs : List Int} (h : sizesB x y = false) : sharesB x y xs = false := by unfold sharesB; simp [h]
theorem sharesB_of {x y : Int} {xs : List Int} {t : Bool} (h1 : sizesB x y = true) (h2 : decide (xs.length = 2 ^ (x.toNat + y.toNat)) = t) (h3 : allIn xs 0 1000 = true) : sharesB x y xs = (t && inB xs.sum 1 1000) := by
  unfold sharesB
  rw [h1, h2, h3]
  simp
theorem pow_wrap {X Y M : Nat} (hX : X ≤ 3) (hY : Y ≤ 3) (hM : M = 2 ^ (X + Y)) : wrap64 (2 ^ (X + Y)) = (M : Int) ∧ M ≤ 64 ∧ 0 < M := by
  have hM64 : M ≤ 64 := by rw [hM]; exact Nat.le_trans (Nat.pow_le_pow_right (by omega) (show X + Y ≤ 6 by omega)) (by decide)
  have h1 : ((2 : Int) ^ (X + Y)) = (M : Int) := by rw [hM]; simp
  refine ⟨?_, hM64, by rw [hM]; exact Nat.two_pow_pos _⟩
  rw [h1]
  exact IntWalk.wrap64_in _ ⟨by omega, by omega⟩

set_option maxHeartbeats 1600000 in
theorem l3Shares_any (x y : Int) (v : Value) (xs : List Int) (w : World) (h : RdI w v xs) (hn : xs.length ≤ 1048576) :
    Calls Try.prog 65 #[.int .i64 x, .int .i64 y, v] w fun e w' => e = .returned (.bool (sharesB x y xs)) ∧ w = w' := by
  obtain ⟨a, b, off, cap, rfl, hm, ha, hc⟩ := h
  unfold maxLen at hm
  go_enter Try.func65, Try.ntmps65
  go_wp2
  go_loop [7, 8] (fun s7 s8 => ∃ k : Nat, k ≤ xs.length ∧ s8 = .int .i64 k ∧ s7 = .int .i64 (xs.take k).sum ∧ (0 ≤ (xs.take k).sum ∧ (xs.take k).sum ≤ 1000 * k) ∧ ∀ (j : Nat) (x : Int), j < k → xs[j]? = some x → inB x 0 1000 = true) (fun _ s8 => xs.length - (intOf s8).toNat)
  case atStart => exact ⟨0, by omega, rfl, rfl, by simp, fun j x hj => by omega⟩
  case round =>
    obtain ⟨k, hk, rfl, rfl, hsum, hall⟩ := hrel
    have HA := Lib.hid hall
    clear hall
    by_cases hlt : k < xs.length
    · obtain rfl := ha (by omega)
      obtain ⟨z, hx⟩ : ∃ z, xs[k]? = some z := ⟨_, List.getElem?_eq_getElem hlt⟩
      have hcell := hc k z hx
      have hst := sum_take xs k z hx
      have HX := Lib.hid hx
      have HS := Lib.hid hst
      generalize (xs.take k).sum = u at *
      clear hc hx hst
      rcases Bool.eq_false_or_eq_true (inB z 0 1000) with h1 | h1
      · have hz := inB_iff.1 h1
        go_wp2_with (go_at_call 95; refine (l1In_any _ _ _ _).mono ?_; rintro e w' ⟨rfl, rfl⟩)
        go_round
        case rel => exact ⟨k + 1, by omega, by go_num, by rw [HS.out], by rw [HS.out]; omega, fun j x' hj hx' => by
          by_cases e : j = k
          · subst e; rw [HX.out] at hx'; cases hx'; exact h1
          · exact HA.out j x' (by omega) hx'⟩
        case measure => simp [intOf]; omega
      · go_wp2_with (go_at_call 95; refine (l1In_any _ _ _ _).mono ?_; rintro e w' ⟨rfl, rfl⟩)
        go_ret
        exact ⟨ret_bool (sharesB_in (allIn_false HX.out h1)).symm, rfl⟩
    · obtain rfl : k = xs.length := by omega
      rw [List.take_length] at hsum ⊢
      have hin : allIn xs 0 1000 = true := allIn_true (fun j x' hx' => HA.out j x' (List.getElem?_eq_some_iff.1 hx').1 hx')
      rcases Bool.eq_false_or_eq_true (sizesB x y) with h1 | h1
      · obtain ⟨⟨hx0, hx1⟩, hy0, hy1⟩ := sizesB_iff.1 h1
        obtain ⟨X, rfl⟩ := Int.eq_ofNat_of_zero_le (show 0 ≤ x by omega)
        obtain ⟨Y, rfl⟩ := Int.eq_ofNat_of_zero_le (show 0 ≤ y by omega)
        obtain ⟨M, hM⟩ : ∃ M, M = 2 ^ (X + Y) := ⟨_, rfl⟩
        obtain ⟨hpw, hM64, hM0⟩ := pow_wrap (by omega) (by omega) hM
        have HO := Lib.hid (fun (t : Bool) (ht : decide (xs.length = M) = t) => sharesB_of (t := t) h1 (by rw [Int.toNat_natCast, Int.toNat_natCast, ← hM]; exact ht) hin)
        clear hin hM hc ha
        by_cases hl : xs.length = M
        · have hle : ((xs.length : Int) == (M : Int)) = true := by simp [hl]
          have HL := Lib.hid (decide_eq_true hl)
          clear hl
          go_wp2_with (first | (go_at_call 92; refine (l2Sizes_any _ _ _).mono ?_; rintro e w' ⟨rfl, rfl⟩) | (go_at_call 95; refine (l1In_any _ _ _ _).mono ?_; rintro e w' ⟨rfl, rfl⟩))
          go_ret
          exact ⟨ret_bool (by rw [HO.out _ HL.out]; rfl), rfl⟩
        · have hle : ((xs.length : Int) == (M : Int)) = false := by rw [beq_eq_false_iff_ne]; omega
          have HL := Lib.hid (decide_eq_false hl)
          clear hl
          go_wp2_with (first | (go_at_call 92; refine (l2Sizes_any _ _ _).mono ?_; rintro e w' ⟨rfl, rfl⟩) | (go_at_call 95; refine (l1In_any _ _ _ _).mono ?_; rintro e w' ⟨rfl, rfl⟩))
          go_ret
          exact ⟨ret_bool (by rw [HO.out _ HL.out]; rfl), rfl⟩
      · have HR := Lib.hid (sharesB_sizes (xs := xs) h1)
        clear hin hc ha
        go_wp2_with (go_at_call 92; refine (l2Sizes_any _ _ _).mono ?_; rintro e w' ⟨rfl, rfl⟩)
        go_ret
        exact ⟨ret_bool HR.out.symm, rfl⟩
set_option maxHeartbeats 1600000 in
theorem areShares_any (x y : Int) (v : Value) (xs : List Int) (w : World) (h : RdI w v xs) (hn : xs.length ≤ 1048576) :
    Calls Try.prog 67 #[.int .i64 x, .int .i64 y, v] w fun e w' => e = .returned (.bool (sharesB x y xs)) ∧ w = w' := by
  have CW := allWithin_any v xs 0 1000 w h
  have CT := fun hb => total_any v xs w h hn hb
  obtain ⟨a, b, off, cap, rfl, hm, ha, hc⟩ := h
  unfold maxLen at hm
  rcases Bool.eq_false_or_eq_true (sizesB x y) with h1 | h1
  · obtain ⟨⟨hx0, hx1⟩, hy0, hy1⟩ := sizesB_iff.1 h1
    obtain ⟨X, rfl⟩ := Int.eq_ofNat_of_zero_le (show 0 ≤ x by omega)
    obtain ⟨Y, rfl⟩ := Int.eq_ofNat_of_zero_le (show 0 ≤ y by omega)
    obtain ⟨M, hM⟩ : ∃ M, M = 2 ^ (X + Y) := ⟨_, rfl⟩
    obtain ⟨hpw, hM64, hM0⟩ := pow_wrap (by omega) (by omega) hM
    by_cases hl : xs.length = M
    · have hle : ((xs.length : Int) == (M : Int)) = true := by simp [hl]
      have HL := Lib.hid hl
      rcases Bool.eq_false_or_eq_true (allIn xs 0 1000) with h2 | h2
      · have CT2 := CT (fun j z hz => by have := allIn_get h2 hz; omega)
        have HR := Lib.hid (sharesB_of (t := true) h1 (by rw [Int.toNat_natCast, Int.toNat_natCast, ← hM, hl]; simp) h2)
        rw [h2] at CW
        clear hl h2 hM hc ha CT
        go_enter Try.func67, Try.ntmps67
        go_wp2_with (first | (go_at_call 94; refine (areQuestions_any _ _ _).mono ?_; rintro e w' ⟨rfl, rfl⟩) | (go_at_call 93; refine CW.mono ?_; rintro e w' ⟨rfl, rfl⟩) | (go_at_call 97; refine CT2.mono ?_; rintro e w' ⟨rfl, rfl⟩) | (go_at_call 96; refine (within_any _ _ _ _).mono ?_; rintro e w' ⟨rfl, rfl⟩))
        go_ret
        exact ⟨ret_bool (by rw [HR.out]; rfl), rfl⟩
      · have HR := Lib.hid (sharesB_in (x := (X : Int)) (y := (Y : Int)) h2)
        rw [h2] at CW
        clear hl h2 hM hc ha CT
        go_enter Try.func67, Try.ntmps67
        go_wp2_with (first | (go_at_call 94; refine (areQuestions_any _ _ _).mono ?_; rintro e w' ⟨rfl, rfl⟩) | (go_at_call 93; refine CW.mono ?_; rintro e w' ⟨rfl, rfl⟩))
        go_ret
        exact ⟨ret_bool HR.out.symm, rfl⟩
    · have hle : ((xs.length : Int) == (M : Int)) = false := by rw [beq_eq_false_iff_ne]; omega
      have HR : sharesB (X : Int) (Y : Int) xs = false := by
        unfold sharesB
        rw [Int.toNat_natCast, Int.toNat_natCast, ← hM, decide_eq_false hl]
        simp
      have HRR := Lib.hid HR
      clear hl HR hM hc ha CT CW
      go_enter Try.func67, Try.ntmps67
      go_wp2_with (go_at_call 94; refine (areQuestions_any _ _ _).mono ?_; rintro e w' ⟨rfl, rfl⟩)
      go_ret
      exact ⟨ret_bool HRR.out.symm, rfl⟩
  · have HR := Lib.hid (sharesB_sizes (xs := xs) h1)
    clear hc ha CW CT
    go_enter Try.func67, Try.ntmps67
    go_wp2_with (go_at_call 94; refine (areQuestions_any _ _ _).mono ?_; rintro e w' ⟨rfl, rfl⟩)
    go_ret
    exact ⟨ret_bool HR.out.symm, rfl⟩
end Go.Proofs.Ytbleeakcmmpcgaa
