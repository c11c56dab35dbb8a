/- Games: contracts of the program's and the reference's tests and totals. -/
import Derived.Test.YtadnjljpceeolaaHarE
import Derived.Test.YtadnjljpceeolaaFnFunc
set_option linter.unusedSimpArgs false
set_option linter.unusedVariables false
namespace Go.Proofs.Ytadnjljpceeolaa
open Go.RowKit

def gameB (g : GameD) : Bool := sizesB g.X g.Y && (decide ((g.Weights.length : Int) = g.X * g.Y) && (decide ((g.Wins.length : Int) = g.X * g.Y) && (allIn g.Weights 0 99 && (g.Wins.all (fun l => bitsB l 4) && decide (0 < g.Weights.sum)))))
theorem gameB_iff {g : GameD} : gameB g = true ↔ sizesB g.X g.Y = true ∧ (g.Weights.length : Int) = g.X * g.Y ∧ (g.Wins.length : Int) = g.X * g.Y ∧ allIn g.Weights 0 99 = true ∧ g.Wins.all (fun l => bitsB l 4) = true ∧ 0 < g.Weights.sum := by
  unfold gameB
  simp only [Bool.and_eq_true, decide_eq_true_iff]
theorem gameB_no {g : GameD} (h : ¬ (sizesB g.X g.Y = true ∧ (g.Weights.length : Int) = g.X * g.Y ∧ (g.Wins.length : Int) = g.X * g.Y ∧ allIn g.Weights 0 99 = true ∧ g.Wins.all (fun l => bitsB l 4) = true ∧ 0 < g.Weights.sum)) : gameB g = false :=
  Bool.eq_false_iff.2 fun h' => h (gameB_iff.1 h')
def totalD (g : GameD) : Int := if gameB g then g.Weights.sum else 0
theorem allIn_sum {xs : List Int} (h : allIn xs 0 99 = true) (k : Nat) : 0 ≤ (xs.take k).sum ∧ (xs.take k).sum ≤ 99 * k := by
  have := sum_take_bound xs 0 99 (by omega) (by omega) (fun j x hx => allIn_get h hx) k
  omega

set_option maxHeartbeats 1600000 in
theorem l4Game_any (u v : Value) (g : GameD) (w : World) (hu : RdI w u g.Weights) (hv : RdII w v g.Wins) :
    Calls Try.prog 77 #[.agg #[.int .i64 g.X, .int .i64 g.Y, u, v]] w fun e w' => e = .returned (.bool (gameB g)) ∧ Below w.heap.size w w' := by
  have hu' := hu
  obtain ⟨au, bu, ou, cu, rfl, hmu, hau, hcu⟩ := hu'
  obtain ⟨av, bv, ov, cv, rfl, hmv, hav, hcv⟩ := hv
  unfold maxLen at hmu hmv
  rcases Bool.eq_false_or_eq_true (sizesB g.X g.Y) with h1 | h1
  · obtain ⟨hm0, hm9⟩ := sizes_mul h1
    by_cases h2 : (g.Weights.length : Int) = g.X * g.Y
    · have h2z : ((g.Weights.length : Int) != g.X * g.Y) = false := by simp [h2]
      by_cases h3 : (g.Wins.length : Int) = g.X * g.Y
      · have h3z : ((g.Wins.length : Int) != g.X * g.Y) = false := by simp [h3]
        have hll : g.Wins.length = g.Weights.length := by omega
        have hl9 : g.Weights.length ≤ 9 := by omega
        have H1 := Lib.hid h1
        have H2 := Lib.hid h2
        have H3 := Lib.hid h3
        have HL := Lib.hid hll
        have HCU := Lib.hid hcu
        have HCV := Lib.hid hcv
        clear h2 h3 hll hcu hcv
        go_enter Try.func77, Try.ntmps77
        go_wp2_with (go_at_call 81; refine (l2Sizes_any _ _ _).mono ?_; rintro e w' ⟨rfl, rfl⟩)
        go_loop [4, 3] (fun s4 s3 => ∃ (n : Nat) (t : Int), n ≤ g.Weights.length ∧ s4 = .int .i64 n ∧ s3 = .int .i64 t ∧ t = (g.Weights.take n).sum ∧ 0 ≤ t ∧ t ≤ 99 * (n : Int) ∧ (∀ (j : Nat) (x : Int), j < n → g.Weights[j]? = some x → inB x 0 99 = true) ∧ (∀ (j : Nat) (l : List Int), j < n → g.Wins[j]? = some l → bitsB l 4 = true)) (fun s4 _ => g.Weights.length - (intOf s4).toNat)
        case atStart => exact ⟨0, 0, by omega, rfl, rfl, by simp, by omega, by omega, fun j x hj => by omega, fun j x hj => by omega⟩
        case round =>
          obtain ⟨n, t, hn, rfl, rfl, ht, ht0, ht1, hA, hW⟩ := hrel
          have HT := Lib.hid ht
          have HA := Lib.hid hA
          have HW := Lib.hid hW
          clear ht hA hW
          by_cases hlt : n < g.Weights.length
          · obtain rfl := hau (by omega)
            obtain rfl := hav (by rw [HL.out]; omega)
            obtain ⟨x, hx⟩ : ∃ x, g.Weights[n]? = some x := ⟨_, List.getElem?_eq_getElem hlt⟩
            have hwn : n < g.Wins.length := by rw [HL.out]; exact hlt
            obtain ⟨l, hl⟩ : ∃ l, g.Wins[n]? = some l := ⟨_, List.getElem?_eq_getElem hwn⟩
            have hcx := HCU.out n x hx
            obtain ⟨vl, hcl, hrl⟩ := HCV.out n l hl
            have lx := World.block_lt_of_cell? _ _ hcx
            have ll := World.block_lt_of_cell? _ _ hcl
            obtain ⟨al, bl, ol, cl, rfl, _⟩ := id hrl
            have HX := Lib.hid hx
            have HLL := Lib.hid hl
            clear hx hl
            rcases Bool.eq_false_or_eq_true (inB x 0 99) with h4 | h4
            · have hb4 := inB_iff.1 h4
              obtain ⟨hb40, hb41⟩ := hb4
              rcases Bool.eq_false_or_eq_true (bitsB l 4) with h5 | h5
              · go_wp2_with (first | (go_at_call 139; refine (l1In_any _ _ _ _).mono ?_; rintro e w' ⟨rfl, rfl⟩) | (go_at_call 82; refine (l2Bits_any _ l 4 _ (hrl.kept (Nat.le_refl _) (by repeat' (first | with_reducible exact Below.refl _ _ | with_reducible assumption | with_reducible apply Below.alloc | with_reducible apply Below.setCell | with_reducible apply Below.drew | exact Nat.le_refl _ | omega | (simp only [World.size_alloc, World.size_setCell]; omega))))).mono ?_; rintro e w' ⟨rfl, rfl⟩))
                go_round
                case rel => exact ⟨n + 1, t + x, by omega, by go_num, rfl, by rw [sum_take _ _ _ HX.out, HT.out], by omega, by omega, fun j x' hj hx' => by
                  by_cases e : j = n
                  · subst e; rw [HX.out] at hx'; cases hx'; exact h4
                  · exact HA.out j x' (by omega) hx', fun j l' hj hl' => by
                  by_cases e : j = n
                  · subst e; rw [HLL.out] at hl'; cases hl'; exact h5
                  · exact HW.out j l' (by omega) hl'⟩
                case measure => simp [intOf]; omega
              · go_wp2_with (first | (go_at_call 139; refine (l1In_any _ _ _ _).mono ?_; rintro e w' ⟨rfl, rfl⟩) | (go_at_call 82; refine (l2Bits_any _ l 4 _ (hrl.kept (Nat.le_refl _) (by repeat' (first | with_reducible exact Below.refl _ _ | with_reducible assumption | with_reducible apply Below.alloc | with_reducible apply Below.setCell | with_reducible apply Below.drew | exact Nat.le_refl _ | omega | (simp only [World.size_alloc, World.size_setCell]; omega))))).mono ?_; rintro e w' ⟨rfl, rfl⟩))
                go_ret
                exact ⟨ret_bool (gameB_no (fun h => by have := all_get h.2.2.2.2.1 HLL.out; rw [h5] at this; cases this)).symm, (by repeat' (first | with_reducible exact Below.refl _ _ | with_reducible assumption | with_reducible apply Below.alloc | with_reducible apply Below.setCell | with_reducible apply Below.drew | exact Nat.le_refl _ | omega | (simp only [World.size_alloc, World.size_setCell]; omega)))⟩
            · go_wp2_with (go_at_call 139; refine (l1In_any _ _ _ _).mono ?_; rintro e w' ⟨rfl, rfl⟩)
              go_ret
              exact ⟨ret_bool (gameB_no (fun h => by have := inB_iff.2 (allIn_get h.2.2.2.1 HX.out); rw [h4] at this; cases this)).symm, (by repeat' (first | with_reducible exact Below.refl _ _ | with_reducible assumption | with_reducible apply Below.alloc | with_reducible apply Below.setCell | with_reducible apply Below.drew | exact Nat.le_refl _ | omega | (simp only [World.size_alloc, World.size_setCell]; omega)))⟩
          · obtain rfl : n = g.Weights.length := by omega
            have hall := allIn_true (fun j x hx => HA.out j x (List.getElem?_eq_some_iff.1 hx).1 hx)
            have hwin : g.Wins.all (fun l => bitsB l 4) = true := all_true (fun j l hx => HW.out j l (by have := (List.getElem?_eq_some_iff.1 hx).1; have := HL.out; omega) hx)
            have hts : t = g.Weights.sum := by rw [HT.out, List.take_length]
            have HF := Lib.hid (And.intro hall (And.intro hwin hts))
            clear hall hwin hts
            by_cases hp : 0 < t
            · go_wp2
              go_ret
              exact ⟨ret_bool (by rw [gameB_iff.2 ⟨H1.out, H2.out, H3.out, HF.out.1, HF.out.2.1, by rw [← HF.out.2.2]; exact hp⟩] <;> first | rfl | simp [hp]), (by repeat' (first | with_reducible exact Below.refl _ _ | with_reducible assumption | with_reducible apply Below.alloc | with_reducible apply Below.setCell | with_reducible apply Below.drew | exact Nat.le_refl _ | omega | (simp only [World.size_alloc, World.size_setCell]; omega)))⟩
            · go_wp2
              go_ret
              exact ⟨ret_bool (by rw [gameB_no (fun h => by have h6 := h.2.2.2.2.2; rw [← HF.out.2.2] at h6; omega)] <;> first | rfl | (simp; omega)), (by repeat' (first | with_reducible exact Below.refl _ _ | with_reducible assumption | with_reducible apply Below.alloc | with_reducible apply Below.setCell | with_reducible apply Below.drew | exact Nat.le_refl _ | omega | (simp only [World.size_alloc, World.size_setCell]; omega)))⟩
      · have h3z : ((g.Wins.length : Int) != g.X * g.Y) = true := by simp [h3]
        have H3 := Lib.hid h3
        clear h3 hcu hcv hau hav
        go_enter Try.func77, Try.ntmps77
        go_wp2_with (go_at_call 81; refine (l2Sizes_any _ _ _).mono ?_; rintro e w' ⟨rfl, rfl⟩)
        go_ret
        exact ⟨ret_bool (gameB_no (fun h => H3.out h.2.2.1)).symm, (by repeat' (first | with_reducible exact Below.refl _ _ | with_reducible assumption | with_reducible apply Below.alloc | with_reducible apply Below.setCell | with_reducible apply Below.drew | exact Nat.le_refl _ | omega | (simp only [World.size_alloc, World.size_setCell]; omega)))⟩
    · have h2z : ((g.Weights.length : Int) != g.X * g.Y) = true := by simp [h2]
      have H2 := Lib.hid h2
      clear h2 hcu hcv hau hav
      go_enter Try.func77, Try.ntmps77
      go_wp2_with (go_at_call 81; refine (l2Sizes_any _ _ _).mono ?_; rintro e w' ⟨rfl, rfl⟩)
      go_ret
      exact ⟨ret_bool (gameB_no (fun h => H2.out h.2.1)).symm, (by repeat' (first | with_reducible exact Below.refl _ _ | with_reducible assumption | with_reducible apply Below.alloc | with_reducible apply Below.setCell | with_reducible apply Below.drew | exact Nat.le_refl _ | omega | (simp only [World.size_alloc, World.size_setCell]; omega)))⟩
  · clear hcu hcv hau hav
    go_enter Try.func77, Try.ntmps77
    go_wp2_with (go_at_call 81; refine (l2Sizes_any _ _ _).mono ?_; rintro e w' ⟨rfl, rfl⟩)
    go_ret
    exact ⟨ret_bool (gameB_no (fun h => by rw [h1] at h; cases h.1)).symm, (by repeat' (first | with_reducible exact Below.refl _ _ | with_reducible assumption | with_reducible apply Below.alloc | with_reducible apply Below.setCell | with_reducible apply Below.drew | exact Nat.le_refl _ | omega | (simp only [World.size_alloc, World.size_setCell]; omega)))⟩
set_option maxHeartbeats 1600000 in
theorem implIsGame_any (u v : Value) (g : GameD) (w : World) (hu : RdI w u g.Weights) (hv : RdII w v g.Wins) :
    Calls Try.prog 74 #[.agg #[.int .i64 g.X, .int .i64 g.Y, u, v]] w fun e w' => e = .returned (.bool (gameB g)) ∧ Below w.heap.size w w' := by
  obtain ⟨au, cu, rfl⟩ : ∃ a c, u = .slice a g.Weights.length c := by obtain ⟨a, _, _, c, h, _⟩ := hu; exact ⟨a, c, h⟩
  have hmu : g.Weights.length ≤ maxLen := by obtain ⟨_, _, _, _, _, hm, _⟩ := hu; exact hm
  obtain ⟨av, bv, ov, cv, rfl, hmv, hav, hcv⟩ := hv
  unfold maxLen at hmu hmv
  rcases Bool.eq_false_or_eq_true (sizesB g.X g.Y) with h1 | h1
  · obtain ⟨hm0, hm9⟩ := sizes_mul h1
    by_cases h2 : (g.Weights.length : Int) = g.X * g.Y
    · have h2z : ((g.Weights.length : Int) != g.X * g.Y) = false := by simp [h2]
      have hl9 : g.Weights.length ≤ 9 := by omega
      rcases Bool.eq_false_or_eq_true (allIn g.Weights 0 99) with h4 | h4
      · have HB := Lib.hid (fun (j : Nat) (x : Int) (hx : g.Weights[j]? = some x) => (show -1000000 ≤ x ∧ x ≤ 1000000 by have := allIn_get h4 hx; omega))
        have hsum := allIn_sum h4 g.Weights.length
        rw [List.take_length] at hsum
        obtain ⟨hs0, hs1⟩ := hsum
        by_cases h5 : g.Weights.sum = 0
        · have h5z : (g.Weights.sum == 0) = true := by simp [h5]
          have H5 := Lib.hid h5
          clear h2 h5 hcv hav
          go_enter Try.func74, Try.ntmps74
          go_wp2_with (first | (go_at_call 84; refine (areQuestions_any _ _ _).mono ?_; rintro e w' ⟨rfl, rfl⟩) | (go_at_call 85; refine (allWithin_any _ g.Weights _ _ _ (hu.kept (Nat.le_refl _) (by repeat' (first | with_reducible exact Below.refl _ _ | with_reducible assumption | with_reducible apply Below.alloc | with_reducible apply Below.setCell | with_reducible apply Below.drew | exact Nat.le_refl _ | omega | (simp only [World.size_alloc, World.size_setCell]; omega))))).mono ?_; rintro e w' ⟨rfl, rfl⟩) | (go_at_call 80; refine (total_any _ g.Weights _ (hu.kept (Nat.le_refl _) (by repeat' (first | with_reducible exact Below.refl _ _ | with_reducible assumption | with_reducible apply Below.alloc | with_reducible apply Below.setCell | with_reducible apply Below.drew | exact Nat.le_refl _ | omega | (simp only [World.size_alloc, World.size_setCell]; omega)))) (by omega) HB.out).mono ?_; rintro e w' ⟨rfl, rfl⟩))
          go_ret
          exact ⟨ret_bool (gameB_no (fun h => by have := h.2.2.2.2.2; rw [H5.out] at this; omega)).symm, (by repeat' (first | with_reducible exact Below.refl _ _ | with_reducible assumption | with_reducible apply Below.alloc | with_reducible apply Below.setCell | with_reducible apply Below.drew | exact Nat.le_refl _ | omega | (simp only [World.size_alloc, World.size_setCell]; omega)))⟩
        · have h5z : (g.Weights.sum == 0) = false := by simp [h5]
          by_cases h3 : (g.Wins.length : Int) = g.X * g.Y
          · have h3z : ((g.Wins.length : Int) != g.X * g.Y) = false := by simp [h3]
            have H1 := Lib.hid h1
            have H2 := Lib.hid h2
            have H3 := Lib.hid h3
            have H4 := Lib.hid h4
            have H5 := Lib.hid h5
            have HCV := Lib.hid hcv
            clear h2 h3 h5 hcv
            go_enter Try.func74, Try.ntmps74
            go_wp2_with (first | (go_at_call 84; refine (areQuestions_any _ _ _).mono ?_; rintro e w' ⟨rfl, rfl⟩) | (go_at_call 85; refine (allWithin_any _ g.Weights _ _ _ (hu.kept (Nat.le_refl _) (by repeat' (first | with_reducible exact Below.refl _ _ | with_reducible assumption | with_reducible apply Below.alloc | with_reducible apply Below.setCell | with_reducible apply Below.drew | exact Nat.le_refl _ | omega | (simp only [World.size_alloc, World.size_setCell]; omega))))).mono ?_; rintro e w' ⟨rfl, rfl⟩) | (go_at_call 80; refine (total_any _ g.Weights _ (hu.kept (Nat.le_refl _) (by repeat' (first | with_reducible exact Below.refl _ _ | with_reducible assumption | with_reducible apply Below.alloc | with_reducible apply Below.setCell | with_reducible apply Below.drew | exact Nat.le_refl _ | omega | (simp only [World.size_alloc, World.size_setCell]; omega)))) (by omega) HB.out).mono ?_; rintro e w' ⟨rfl, rfl⟩))
            go_loop [46] (fun s => ∃ n : Nat, n ≤ g.Wins.length ∧ s = .int .i64 n ∧ ∀ (j : Nat) (l : List Int), j < n → g.Wins[j]? = some l → bitsB l 4 = true) (fun s => g.Wins.length - (intOf s).toNat)
            case atStart => exact ⟨0, by omega, rfl, fun j x hj => by omega⟩
            case round =>
              obtain ⟨n, hn, rfl, hW⟩ := hrel
              have HW := Lib.hid hW
              clear hW
              by_cases hlt : n < g.Wins.length
              · obtain rfl := hav (by omega)
                obtain ⟨l, hl⟩ : ∃ l, g.Wins[n]? = some l := ⟨_, List.getElem?_eq_getElem hlt⟩
                obtain ⟨vl, hcl, hrl⟩ := HCV.out n l hl
                have ll := World.block_lt_of_cell? _ _ hcl
                obtain ⟨al, bl, ol, cl, rfl, hml, _⟩ := id hrl
                unfold maxLen at hml
                have HLL := Lib.hid hl
                clear hl
                by_cases h6 : l.length = 4
                · have h6z : ((l.length : Int) != 4) = false := by simp; omega
                  have H6 := Lib.hid h6
                  clear h6
                  rcases Bool.eq_false_or_eq_true (allIn l 0 1) with h7 | h7
                  · go_wp2_with (go_at_call 85; refine (allWithin_any _ l _ _ _ (hrl.kept (Nat.le_refl _) (by repeat' (first | with_reducible exact Below.refl _ _ | with_reducible assumption | with_reducible apply Below.alloc | with_reducible apply Below.setCell | with_reducible apply Below.drew | exact Nat.le_refl _ | omega | (simp only [World.size_alloc, World.size_setCell]; omega))))).mono ?_; rintro e w' ⟨rfl, rfl⟩)
                    go_round
                    case rel => exact ⟨n + 1, by omega, by go_num, fun j l' hj hl' => by
                      by_cases e : j = n
                      · subst e; rw [HLL.out] at hl'; cases hl'; exact bits_iff.2 ⟨h7, by rw [H6.out]; rfl⟩
                      · exact HW.out j l' (by omega) hl'⟩
                    case measure => simp [intOf]; omega
                  · go_wp2_with (go_at_call 85; refine (allWithin_any _ l _ _ _ (hrl.kept (Nat.le_refl _) (by repeat' (first | with_reducible exact Below.refl _ _ | with_reducible assumption | with_reducible apply Below.alloc | with_reducible apply Below.setCell | with_reducible apply Below.drew | exact Nat.le_refl _ | omega | (simp only [World.size_alloc, World.size_setCell]; omega))))).mono ?_; rintro e w' ⟨rfl, rfl⟩)
                    go_ret
                    exact ⟨ret_bool (gameB_no (fun h => by have := (bits_iff.1 (all_get h.2.2.2.2.1 HLL.out)).1; rw [h7] at this; cases this)).symm, (by repeat' (first | with_reducible exact Below.refl _ _ | with_reducible assumption | with_reducible apply Below.alloc | with_reducible apply Below.setCell | with_reducible apply Below.drew | exact Nat.le_refl _ | omega | (simp only [World.size_alloc, World.size_setCell]; omega)))⟩
                · have h6z : ((l.length : Int) != 4) = true := by simp; omega
                  have H6 := Lib.hid h6
                  clear h6
                  go_wp2
                  go_ret
                  exact ⟨ret_bool (gameB_no (fun h => by have := (bits_iff.1 (all_get h.2.2.2.2.1 HLL.out)).2; exact H6.out (by omega))).symm, (by repeat' (first | with_reducible exact Below.refl _ _ | with_reducible assumption | with_reducible apply Below.alloc | with_reducible apply Below.setCell | with_reducible apply Below.drew | exact Nat.le_refl _ | omega | (simp only [World.size_alloc, World.size_setCell]; omega)))⟩
              · obtain rfl : n = g.Wins.length := by omega
                go_wp2
                go_ret
                exact ⟨ret_bool (gameB_iff.2 ⟨H1.out, H2.out, H3.out, H4.out, all_true (fun j l hx => HW.out j l (List.getElem?_eq_some_iff.1 hx).1 hx), by have := H5.out; omega⟩).symm, (by repeat' (first | with_reducible exact Below.refl _ _ | with_reducible assumption | with_reducible apply Below.alloc | with_reducible apply Below.setCell | with_reducible apply Below.drew | exact Nat.le_refl _ | omega | (simp only [World.size_alloc, World.size_setCell]; omega)))⟩
          · have h3z : ((g.Wins.length : Int) != g.X * g.Y) = true := by simp [h3]
            have H3 := Lib.hid h3
            clear h2 h3 h5 hcv hav
            go_enter Try.func74, Try.ntmps74
            go_wp2_with (first | (go_at_call 84; refine (areQuestions_any _ _ _).mono ?_; rintro e w' ⟨rfl, rfl⟩) | (go_at_call 85; refine (allWithin_any _ g.Weights _ _ _ (hu.kept (Nat.le_refl _) (by repeat' (first | with_reducible exact Below.refl _ _ | with_reducible assumption | with_reducible apply Below.alloc | with_reducible apply Below.setCell | with_reducible apply Below.drew | exact Nat.le_refl _ | omega | (simp only [World.size_alloc, World.size_setCell]; omega))))).mono ?_; rintro e w' ⟨rfl, rfl⟩) | (go_at_call 80; refine (total_any _ g.Weights _ (hu.kept (Nat.le_refl _) (by repeat' (first | with_reducible exact Below.refl _ _ | with_reducible assumption | with_reducible apply Below.alloc | with_reducible apply Below.setCell | with_reducible apply Below.drew | exact Nat.le_refl _ | omega | (simp only [World.size_alloc, World.size_setCell]; omega)))) (by omega) HB.out).mono ?_; rintro e w' ⟨rfl, rfl⟩))
            go_ret
            exact ⟨ret_bool (gameB_no (fun h => H3.out h.2.2.1)).symm, (by repeat' (first | with_reducible exact Below.refl _ _ | with_reducible assumption | with_reducible apply Below.alloc | with_reducible apply Below.setCell | with_reducible apply Below.drew | exact Nat.le_refl _ | omega | (simp only [World.size_alloc, World.size_setCell]; omega)))⟩
      · clear h2 hcv hav
        go_enter Try.func74, Try.ntmps74
        go_wp2_with (first | (go_at_call 84; refine (areQuestions_any _ _ _).mono ?_; rintro e w' ⟨rfl, rfl⟩) | (go_at_call 85; refine (allWithin_any _ g.Weights _ _ _ (hu.kept (Nat.le_refl _) (by repeat' (first | with_reducible exact Below.refl _ _ | with_reducible assumption | with_reducible apply Below.alloc | with_reducible apply Below.setCell | with_reducible apply Below.drew | exact Nat.le_refl _ | omega | (simp only [World.size_alloc, World.size_setCell]; omega))))).mono ?_; rintro e w' ⟨rfl, rfl⟩))
        go_ret
        exact ⟨ret_bool (gameB_no (fun h => by rw [h4] at h; cases h.2.2.2.1)).symm, (by repeat' (first | with_reducible exact Below.refl _ _ | with_reducible assumption | with_reducible apply Below.alloc | with_reducible apply Below.setCell | with_reducible apply Below.drew | exact Nat.le_refl _ | omega | (simp only [World.size_alloc, World.size_setCell]; omega)))⟩
    · have h2z : ((g.Weights.length : Int) != g.X * g.Y) = true := by simp [h2]
      have H2 := Lib.hid h2
      clear h2 hcv hav
      go_enter Try.func74, Try.ntmps74
      go_wp2_with (go_at_call 84; refine (areQuestions_any _ _ _).mono ?_; rintro e w' ⟨rfl, rfl⟩)
      go_ret
      exact ⟨ret_bool (gameB_no (fun h => H2.out h.2.1)).symm, (by repeat' (first | with_reducible exact Below.refl _ _ | with_reducible assumption | with_reducible apply Below.alloc | with_reducible apply Below.setCell | with_reducible apply Below.drew | exact Nat.le_refl _ | omega | (simp only [World.size_alloc, World.size_setCell]; omega)))⟩
  · clear hcv hav
    go_enter Try.func74, Try.ntmps74
    go_wp2_with (go_at_call 84; refine (areQuestions_any _ _ _).mono ?_; rintro e w' ⟨rfl, rfl⟩)
    go_ret
    exact ⟨ret_bool (gameB_no (fun h => by rw [h1] at h; cases h.1)).symm, (by repeat' (first | with_reducible exact Below.refl _ _ | with_reducible assumption | with_reducible apply Below.alloc | with_reducible apply Below.setCell | with_reducible apply Below.drew | exact Nat.le_refl _ | omega | (simp only [World.size_alloc, World.size_setCell]; omega)))⟩
set_option maxHeartbeats 400000 in
theorem specIsGame_any (u v : Value) (g : GameD) (w : World) (hu : RdI w u g.Weights) (hv : RdII w v g.Wins) :
    Calls Try.prog 73 #[.agg #[.int .i64 g.X, .int .i64 g.Y, u, v]] w fun e w' => e = .returned (.bool (gameB g)) ∧ Below w.heap.size w w' := by
  go_enter Try.func73, Try.ntmps73
  go_wp2_with fail
  refine (l4Game_any u v g _ (hu.kept (Nat.le_refl _) (by repeat' (first | with_reducible exact Below.refl _ _ | with_reducible assumption | with_reducible apply Below.alloc | with_reducible apply Below.setCell | with_reducible apply Below.drew | exact Nat.le_refl _ | omega | (simp only [World.size_alloc, World.size_setCell]; omega)))) (hv.kept (Nat.le_refl _) (by repeat' (first | with_reducible exact Below.refl _ _ | with_reducible assumption | with_reducible apply Below.alloc | with_reducible apply Below.setCell | with_reducible apply Below.drew | exact Nat.le_refl _ | omega | (simp only [World.size_alloc, World.size_setCell]; omega))))).mono ?_
  rintro e w1 ⟨rfl, b1⟩
  have B1 : Below w.heap.size w w1 := Below.trans (by repeat' (first | with_reducible exact Below.refl _ _ | with_reducible assumption | with_reducible apply Below.alloc | with_reducible apply Below.setCell | with_reducible apply Below.drew | exact Nat.le_refl _ | omega | (simp only [World.size_alloc, World.size_setCell]; omega))) (b1.mono (by first | exact Nat.le_refl _ | omega | (simp only [World.size_alloc, World.size_setCell]; omega)))
  go_wp2
  go_ret
  exact ⟨rfl, B1⟩
set_option maxHeartbeats 800000 in
theorem l4Total_any (u v : Value) (g : GameD) (hg : gameB g = true) (w : World) (hu : RdI w u g.Weights) :
    Calls Try.prog 78 #[.agg #[.int .i64 g.X, .int .i64 g.Y, u, v]] w fun e w' => e = .returned (.int .i64 g.Weights.sum) ∧ Below w.heap.size w w' := by
  obtain ⟨h1, h2, _, h4, _, _⟩ := gameB_iff.1 hg
  obtain ⟨hm0, hm9⟩ := sizes_mul h1
  have hl9 : g.Weights.length ≤ 9 := by omega
  have HS := Lib.hid (fun k => allIn_sum h4 k)
  have HA := Lib.hid (fun (j : Nat) (x : Int) (hx : g.Weights[j]? = some x) => allIn_get h4 hx)
  obtain ⟨au, bu, ou, cu, rfl, hmu, hau, hcu⟩ := hu
  have HCU := Lib.hid hcu
  clear hmu hcu h1 h2 h4 hg hm0 hm9
  go_enter Try.func78, Try.ntmps78
  go_wp2
  go_loop [4, 3] (fun s4 s3 => ∃ n : Nat, n ≤ g.Weights.length ∧ s4 = .int .i64 n ∧ ∃ t : Int, s3 = .int .i64 t ∧ t = (g.Weights.take n).sum) (fun s4 _ => g.Weights.length - (intOf s4).toNat)
  case atStart => exact ⟨0, by omega, rfl, 0, rfl, by simp⟩
  case round =>
    obtain ⟨n, hn, rfl, t, rfl, ht⟩ := hrel
    have htb := HS.out n
    rw [← ht] at htb
    obtain ⟨ht0, ht1⟩ := htb
    have HT := Lib.hid ht
    clear ht
    by_cases hlt : n < g.Weights.length
    · obtain rfl := hau (by omega)
      obtain ⟨x, hx⟩ : ∃ x, g.Weights[n]? = some x := ⟨_, List.getElem?_eq_getElem hlt⟩
      have hcx := HCU.out n x hx
      have lx := World.block_lt_of_cell? _ _ hcx
      obtain ⟨x0, x1⟩ := HA.out n x hx
      have HX := Lib.hid hx
      clear hx
      go_wp2
      go_round
      case rel => exact ⟨n + 1, by omega, by go_num, t + x, rfl, by rw [sum_take _ _ _ HX.out, HT.out]⟩
      case measure => simp [intOf]; omega
    · obtain rfl : n = g.Weights.length := by omega
      go_wp2
      go_ret
      exact ⟨ret_int (by rw [HT.out, List.take_length]), (by repeat' (first | with_reducible exact Below.refl _ _ | with_reducible assumption | with_reducible apply Below.alloc | with_reducible apply Below.setCell | with_reducible apply Below.drew | exact Nat.le_refl _ | omega | (simp only [World.size_alloc, World.size_setCell]; omega)))⟩
set_option maxHeartbeats 800000 in
theorem specTotalWeight_any (u v : Value) (g : GameD) (w : World) (hu : RdI w u g.Weights) (hv : RdII w v g.Wins) :
    Calls Try.prog 12 #[.agg #[.int .i64 g.X, .int .i64 g.Y, u, v]] w fun e w' => e = .returned (.tuple #[.int .i64 (totalD g), .bool (gameB g)]) ∧ Below w.heap.size w w' := by
  go_enter Try.func12, Try.ntmps12
  go_wp2_with fail
  refine (l4Game_any u v g _ (hu.kept (Nat.le_refl _) (by repeat' (first | with_reducible exact Below.refl _ _ | with_reducible assumption | with_reducible apply Below.alloc | with_reducible apply Below.setCell | with_reducible apply Below.drew | exact Nat.le_refl _ | omega | (simp only [World.size_alloc, World.size_setCell]; omega)))) (hv.kept (Nat.le_refl _) (by repeat' (first | with_reducible exact Below.refl _ _ | with_reducible assumption | with_reducible apply Below.alloc | with_reducible apply Below.setCell | with_reducible apply Below.drew | exact Nat.le_refl _ | omega | (simp only [World.size_alloc, World.size_setCell]; omega))))).mono ?_
  rintro e w1 ⟨rfl, b1⟩
  have B1 : Below w.heap.size w w1 := Below.trans (by repeat' (first | with_reducible exact Below.refl _ _ | with_reducible assumption | with_reducible apply Below.alloc | with_reducible apply Below.setCell | with_reducible apply Below.drew | exact Nat.le_refl _ | omega | (simp only [World.size_alloc, World.size_setCell]; omega))) (b1.mono (by first | exact Nat.le_refl _ | omega | (simp only [World.size_alloc, World.size_setCell]; omega)))
  obtain ⟨e0, e1, e2, e3⟩ : w1.cell? ⟨w.heap.size, 0, none⟩ = some (.int .i64 g.X) ∧ w1.cell? ⟨w.heap.size, 1, none⟩ = some (.int .i64 g.Y) ∧ w1.cell? ⟨w.heap.size, 2, none⟩ = some u ∧ w1.cell? ⟨w.heap.size, 3, none⟩ = some v := ⟨keepCell b1 (by repeat' (first | with_reducible assumption | (refine cell_top ?_ rfl; first | with_reducible rfl | (simp only [World.size_alloc, World.size_setCell]; done)) | (refine cell_under ?_ ?_; (first | omega | (simp only [World.size_alloc, World.size_setCell]; omega))) | refine cell_drew ?_)), keepCell b1 (by repeat' (first | with_reducible assumption | (refine cell_top ?_ rfl; first | with_reducible rfl | (simp only [World.size_alloc, World.size_setCell]; done)) | (refine cell_under ?_ ?_; (first | omega | (simp only [World.size_alloc, World.size_setCell]; omega))) | refine cell_drew ?_)), keepCell b1 (by repeat' (first | with_reducible assumption | (refine cell_top ?_ rfl; first | with_reducible rfl | (simp only [World.size_alloc, World.size_setCell]; done)) | (refine cell_under ?_ ?_; (first | omega | (simp only [World.size_alloc, World.size_setCell]; omega))) | refine cell_drew ?_)), keepCell b1 (by repeat' (first | with_reducible assumption | (refine cell_top ?_ rfl; first | with_reducible rfl | (simp only [World.size_alloc, World.size_setCell]; done)) | (refine cell_under ?_ ?_; (first | omega | (simp only [World.size_alloc, World.size_setCell]; omega))) | refine cell_drew ?_))⟩
  clear b1
  rcases Bool.eq_false_or_eq_true (gameB g) with hok | hok
  · have HM := Lib.hid hok
    have HD := Lib.hid (show totalD g = g.Weights.sum by unfold totalD; rw [hok]; rfl)
    rw [hok]
    clear hok
    go_wp2_with fail
    refine (l4Total_any u v g HM.out _ (hu.kept (Nat.le_refl _) B1)).mono ?_
    rintro e w2 ⟨rfl, b2⟩
    have B2 := B1.trans (b2.mono B1.size)
    go_wp2
    refine bodyPost_ret (v := .tuple #[.int .i64 g.Weights.sum, .bool true]) (by simp [results, Try.results12, go_sem]) rfl ⟨by rw [HD.out, HM.out], B2⟩
  · have HM := Lib.hid hok
    have HD := Lib.hid (show totalD g = 0 by unfold totalD; rw [hok]; rfl)
    rw [hok]
    clear hok
    go_wp2
    refine bodyPost_ret (v := .tuple #[.int .i64 0, .bool false]) (by simp [results, Try.results12, go_sem]) rfl ⟨by rw [HD.out, HM.out], B1⟩
set_option maxHeartbeats 800000 in
theorem implTotalWeight_any (u v : Value) (g : GameD) (w : World) (hu : RdI w u g.Weights) (hv : RdII w v g.Wins) :
    Calls Try.prog 14 #[.agg #[.int .i64 g.X, .int .i64 g.Y, u, v]] w fun e w' => e = .returned (.tuple #[.int .i64 (totalD g), .bool (gameB g)]) ∧ Below w.heap.size w w' := by
  go_enter Try.func14, Try.ntmps14
  go_wp2_with fail
  refine (implIsGame_any u v g _ (hu.kept (Nat.le_refl _) (by repeat' (first | with_reducible exact Below.refl _ _ | with_reducible assumption | with_reducible apply Below.alloc | with_reducible apply Below.setCell | with_reducible apply Below.drew | exact Nat.le_refl _ | omega | (simp only [World.size_alloc, World.size_setCell]; omega)))) (hv.kept (Nat.le_refl _) (by repeat' (first | with_reducible exact Below.refl _ _ | with_reducible assumption | with_reducible apply Below.alloc | with_reducible apply Below.setCell | with_reducible apply Below.drew | exact Nat.le_refl _ | omega | (simp only [World.size_alloc, World.size_setCell]; omega))))).mono ?_
  rintro e w1 ⟨rfl, b1⟩
  have B1 : Below w.heap.size w w1 := Below.trans (by repeat' (first | with_reducible exact Below.refl _ _ | with_reducible assumption | with_reducible apply Below.alloc | with_reducible apply Below.setCell | with_reducible apply Below.drew | exact Nat.le_refl _ | omega | (simp only [World.size_alloc, World.size_setCell]; omega))) (b1.mono (by first | exact Nat.le_refl _ | omega | (simp only [World.size_alloc, World.size_setCell]; omega)))
  obtain ⟨e0, e1, e2, e3⟩ : w1.cell? ⟨w.heap.size, 0, none⟩ = some (.int .i64 g.X) ∧ w1.cell? ⟨w.heap.size, 1, none⟩ = some (.int .i64 g.Y) ∧ w1.cell? ⟨w.heap.size, 2, none⟩ = some u ∧ w1.cell? ⟨w.heap.size, 3, none⟩ = some v := ⟨keepCell b1 (by repeat' (first | with_reducible assumption | (refine cell_top ?_ rfl; first | with_reducible rfl | (simp only [World.size_alloc, World.size_setCell]; done)) | (refine cell_under ?_ ?_; (first | omega | (simp only [World.size_alloc, World.size_setCell]; omega))) | refine cell_drew ?_)), keepCell b1 (by repeat' (first | with_reducible assumption | (refine cell_top ?_ rfl; first | with_reducible rfl | (simp only [World.size_alloc, World.size_setCell]; done)) | (refine cell_under ?_ ?_; (first | omega | (simp only [World.size_alloc, World.size_setCell]; omega))) | refine cell_drew ?_)), keepCell b1 (by repeat' (first | with_reducible assumption | (refine cell_top ?_ rfl; first | with_reducible rfl | (simp only [World.size_alloc, World.size_setCell]; done)) | (refine cell_under ?_ ?_; (first | omega | (simp only [World.size_alloc, World.size_setCell]; omega))) | refine cell_drew ?_)), keepCell b1 (by repeat' (first | with_reducible assumption | (refine cell_top ?_ rfl; first | with_reducible rfl | (simp only [World.size_alloc, World.size_setCell]; done)) | (refine cell_under ?_ ?_; (first | omega | (simp only [World.size_alloc, World.size_setCell]; omega))) | refine cell_drew ?_))⟩
  clear b1
  rcases Bool.eq_false_or_eq_true (gameB g) with hok | hok
  · have HM := Lib.hid hok
    have HD := Lib.hid (show totalD g = g.Weights.sum by unfold totalD; rw [hok]; rfl)
    obtain ⟨h1, h2, _, h4, _, _⟩ := gameB_iff.1 hok
    have hmm := sizes_mul h1
    have hl9 : g.Weights.length ≤ 9 := by omega
    have HB := Lib.hid (fun (j : Nat) (x : Int) (hx : g.Weights[j]? = some x) => (show -1000000 ≤ x ∧ x ≤ 1000000 by have := allIn_get h4 hx; omega))
    rw [hok]
    clear hok h1 h2 h4 hmm
    go_wp2_with fail
    refine (total_any u g.Weights _ (hu.kept (Nat.le_refl _) B1) (by omega) HB.out).mono ?_
    rintro e w2 ⟨rfl, rfl⟩
    go_wp2
    refine bodyPost_ret (v := .tuple #[.int .i64 g.Weights.sum, .bool true]) (by simp [results, Try.results14, go_sem]) rfl ⟨by rw [HD.out, HM.out], B1⟩
  · have HM := Lib.hid hok
    have HD := Lib.hid (show totalD g = 0 by unfold totalD; rw [hok]; rfl)
    rw [hok]
    clear hok
    go_wp2
    refine bodyPost_ret (v := .tuple #[.int .i64 0, .bool false]) (by simp [results, Try.results14, go_sem]) rfl ⟨by rw [HD.out, HM.out], B1⟩
end Go.Proofs.Ytadnjljpceeolaa
