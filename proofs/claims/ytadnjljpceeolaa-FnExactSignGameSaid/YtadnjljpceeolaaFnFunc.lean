/- Functionals: contracts of the program's and the reference's test. -/
import Derived.Test.YtadnjljpceeolaaFnA
import Derived.Test.YtadnjljpceeolaaHarB
import Derived.Test.YtadnjljpceeolaaPlainE
set_option linter.unusedSimpArgs false
set_option linter.unusedVariables false
namespace Go.Proofs.Ytadnjljpceeolaa
open Go.RowKit

theorem funcB_sizes {x y : Int} {f : List (List Int)} (h : sizesB x y = false) : funcB x y f = false := by unfold funcB; rw [h]; rfl
theorem funcB_len {x y : Int} {f : List (List Int)} (h : ¬ (f.length : Int) = x * y) : funcB x y f = false := by unfold funcB; rw [decide_eq_false h]; simp
theorem funcB_row {x y : Int} {f : List (List Int)} {k : Nat} {rs : List Int} (h : f[k]? = some rs) (hr : funcRowB rs = false) : funcB x y f = false := by
  unfold funcB; rw [all_false h hr]; simp
theorem funcRow_in {rs : List Int} (h : allIn rs (-99) 99 = false) : funcRowB rs = false := by unfold funcRowB; rw [h]; simp
theorem funcRow_len {rs : List Int} (h : ¬ rs.length = 4) : funcRowB rs = false := by unfold funcRowB; rw [decide_eq_false h]; simp
theorem sizes_mul {x y : Int} (h : sizesB x y = true) : 0 ≤ x * y ∧ x * y ≤ 9 := by
  obtain ⟨⟨hx0, hx1⟩, hy0, hy1⟩ := sizesB_iff.1 h
  have e1 : x = 1 ∨ x = 2 ∨ x = 3 := by omega
  rcases e1 with e1 | e1 | e1 <;> rw [e1] <;> omega

set_option maxHeartbeats 1600000 in
theorem isFunctional_any (x y : Int) (v : Value) (f : List (List Int)) (w : World) (h : RdII w v f) :
    Calls Try.prog 136 #[.int .i64 x, .int .i64 y, v] w fun e w' => e = .returned (.bool (funcB x y f)) ∧ w = w' := by
  obtain ⟨a, ba, off, cap, rfl, hm, ha, hc⟩ := h
  unfold maxLen at hm
  go_enter Try.func136, Try.ntmps136
  go_wp2
  go_loop [11] (fun s => ∃ n : Nat, n ≤ f.length ∧ s = .int .i64 n ∧ ∀ (j : Nat) (rs : List Int), j < n → f[j]? = some rs → funcRowB rs = true) (fun s => f.length - (intOf s).toNat)
  case atStart => exact ⟨0, by omega, rfl, fun j rs hj => by omega⟩
  case round =>
    obtain ⟨n, hn, rfl, hA⟩ := hrel
    have HA := Lib.hid hA
    clear hA
    by_cases hlt : n < f.length
    · obtain rfl := ha (by omega)
      obtain ⟨rs, hrs⟩ : ∃ rs, f[n]? = some rs := ⟨_, List.getElem?_eq_getElem hlt⟩
      obtain ⟨v', hcell, hrd⟩ := hc n rs hrs
      have hrd' := hrd
      obtain ⟨a2, b2, o2, c2, rfl, hm2, _, _⟩ := hrd'
      unfold maxLen at hm2
      have HX := Lib.hid hrs
      clear hc hrs
      by_cases h4 : rs.length = 4
      · have h4z : ((rs.length : Int) != 4) = false := by simp; omega
        have H4 := Lib.hid h4
        clear h4
        rcases Bool.eq_false_or_eq_true (allIn rs (-99) 99) with h5 | h5
        · go_wp2_with (go_at_call 85; refine (allWithin_any _ rs _ _ _ hrd).mono ?_; rintro e w' ⟨rfl, rfl⟩)
          go_round
          case rel => exact ⟨n + 1, by omega, by go_num, fun j rs' hj hr' => by
            by_cases e : j = n
            · subst e; rw [HX.out] at hr'; cases hr'
              unfold funcRowB
              rw [decide_eq_true H4.out, h5]; rfl
            · exact HA.out j rs' (by omega) hr'⟩
          case measure => simp [intOf]; omega
        · go_wp2_with (go_at_call 85; refine (allWithin_any _ rs _ _ _ hrd).mono ?_; rintro e w' ⟨rfl, rfl⟩)
          go_ret
          exact ⟨ret_bool (funcB_row HX.out (funcRow_in h5)).symm, rfl⟩
      · have h4z : ((rs.length : Int) != 4) = true := by simp; omega
        have H4 := Lib.hid h4
        clear h4
        go_wp2
        go_ret
        exact ⟨ret_bool (funcB_row HX.out (funcRow_len H4.out)).symm, rfl⟩
    · obtain rfl : n = f.length := by omega
      rcases Bool.eq_false_or_eq_true (sizesB x y) with h1 | h1
      · obtain ⟨hm0, hm9⟩ := sizes_mul h1
        by_cases h3 : (f.length : Int) = x * y
        · have h3z : ((f.length : Int) == x * y) = true := by simp [h3]
          have H3 := Lib.hid h3
          clear h3
          go_wp2_with (go_at_call 84; refine (areQuestions_any _ _ _).mono ?_; rintro e w' ⟨rfl, rfl⟩)
          go_ret
          exact ⟨ret_bool (by unfold funcB; rw [h1, decide_eq_true H3.out, all_true (fun j rs hx => HA.out j rs (List.getElem?_eq_some_iff.1 hx).1 hx)]; rfl), rfl⟩
        · have h3z : ((f.length : Int) == x * y) = false := by simp [h3]
          have H3 := Lib.hid h3
          clear h3
          go_wp2_with (go_at_call 84; refine (areQuestions_any _ _ _).mono ?_; rintro e w' ⟨rfl, rfl⟩)
          go_ret
          exact ⟨ret_bool (funcB_len H3.out).symm, rfl⟩
      · go_wp2_with (go_at_call 84; refine (areQuestions_any _ _ _).mono ?_; rintro e w' ⟨rfl, rfl⟩)
        go_ret
        exact ⟨ret_bool (funcB_sizes h1).symm, rfl⟩
end Go.Proofs.Ytadnjljpceeolaa
