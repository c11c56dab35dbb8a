/- IsBox: contracts of the program's test of a box. -/
import Derived.Test.YtcifpfdlkpddeaaGreatDoorQxae
set_option linter.unusedSimpArgs false
set_option linter.unusedVariables false
namespace Go.Proofs.YtcifpfdlkpddeaaGreatDoor
open Go.RowKit

theorem fourB_bd {xs : List Int} {whole : Int} (h : allIn xs 0 whole = true) (hw : whole ≤ 1000) : ∀ (j : Nat) (x : Int), xs[j]? = some x → -1000000 ≤ x ∧ x ≤ 1000000 :=
  fun j x hx => by have := allIn_get h hx; omega

set_option maxHeartbeats 1600000 in
theorem implIsBox_any (vr : Value) (b : BoxD) (w : World) (h : RdII w vr b.Rows) :
    Calls Tryz.prog 10 #[.agg #[.int .i64 b.X, .int .i64 b.Y, .int .i64 b.Whole, vr]] w fun e w' => e = .returned (.bool (boxB b)) ∧ Below w.heap.size w w' := by
  obtain ⟨a, ba, off, cap, rfl, hm, ha, hc⟩ := h
  unfold maxLen at hm
  rcases Bool.eq_false_or_eq_true (sizesB b.X b.Y) with h1 | h1
  · obtain ⟨⟨hx0, hx1⟩, hy0, hy1⟩ := sizesB_iff.1 h1
    rcases Bool.eq_false_or_eq_true (inB b.Whole 1 1000) with h2 | h2
    · obtain ⟨hw0, hw1⟩ := inB_iff.1 h2
      have hmul : 0 ≤ b.X * b.Y ∧ b.X * b.Y ≤ 9 := by
        have e1 : b.X = 1 ∨ b.X = 2 ∨ b.X = 3 := by omega
        rcases e1 with e1 | e1 | e1 <;> rw [e1] <;> omega
      by_cases h3 : (b.Rows.length : Int) = b.X * b.Y
      · have h3z : ((b.Rows.length : Int) != b.X * b.Y) = false := by simp [h3]
        have H3 := Lib.hid h3
        clear h3
        go_enter Tryz.func10, Tryz.ntmps10
        go_wp2_with (first | (go_at_call 39; refine (areQuestions_any _ _ _).mono ?_; rintro e w' ⟨rfl, rfl⟩) | (go_at_call 40; refine (within_any _ _ _ _).mono ?_; rintro e w' ⟨rfl, rfl⟩))
        have HB : Below w.heap.size w (w.alloc (.cells #[.int .i64 b.X, .int .i64 b.Y, .int .i64 b.Whole, .slice a b.Rows.length cap] 26)) := (by repeat' (first | with_reducible exact Below.refl _ _ | with_reducible assumption | with_reducible apply Below.alloc | with_reducible apply Below.setCell | with_reducible apply Below.drew | exact Nat.le_refl _ | omega | (simp only [World.size_alloc, World.size_setCell]; omega)))
        go_loopw [31] (fun i wr => ∃ k : Nat, k ≤ b.Rows.length ∧ i = .int .i64 k ∧ (∀ (j : Nat) (rs : List Int), j < k → b.Rows[j]? = some rs → fourB rs b.Whole = true) ∧ Drw (w.alloc (.cells #[.int .i64 b.X, .int .i64 b.Y, .int .i64 b.Whole, .slice a b.Rows.length cap] 26)) wr) (fun i _ => b.Rows.length - (intOf i).toNat)
        case atStart => exact ⟨0, by omega, rfl, fun j x hj => by omega, Drw.refl _⟩
        case round =>
          obtain ⟨k, hk, rfl, hall, hd⟩ := hrel
          have HA := Lib.hid hall
          clear hall
          have f2 : wr.cell? ⟨w.heap.size, 2, none⟩ = some (.int .i64 b.Whole) := by rw [hd.cell]; simp
          have f3 : wr.cell? ⟨w.heap.size, 3, none⟩ = some (.slice a b.Rows.length cap) := by rw [hd.cell]; simp
          by_cases hlt : k < b.Rows.length
          · obtain rfl := ha (by omega)
            obtain ⟨rs, hrs⟩ : ∃ rs, b.Rows[k]? = some rs := ⟨_, List.getElem?_eq_getElem hlt⟩
            obtain ⟨v', hcell, hrd⟩ := hc k rs hrs
            have hrd2 : ∀ n, RdI (wr.drewN n) v' rs := fun n => (hrd.kept (Nat.le_refl _) (HB.trans ((hd.below _)))).drw (Drw.mk _ _)
            have hcell2 : wr.cell? ⟨ba, off + k, none⟩ = some v' := by rw [(HB.trans (hd.below _)).cell (p := ⟨ba, off + k, none⟩) (World.block_lt_of_cell? _ _ hcell)]; exact hcell
            have HX := Lib.hid hrs
            obtain ⟨av, bv, ov, cv, rfl, hmv, _, _⟩ := hrd
            unfold maxLen at hmv
            clear hc hrs hcell
            by_cases hl4 : rs.length = 4
            · have hl4z : ((rs.length : Int) != 4) = false := by simp; omega
              have HL := Lib.hid hl4
              have hlb : rs.length ≤ 1048576 := by omega
              clear hl4
              rcases Bool.eq_false_or_eq_true (allIn rs 0 b.Whole) with h4 | h4
              · have hbd := fourB_bd h4 hw1
                have HD := Lib.hid hbd
                clear hbd
                by_cases h5 : rs.sum = b.Whole
                · have h5z : (rs.sum != b.Whole) = false := by simp [h5]
                  have H5 := Lib.hid h5
                  clear h5
                  go_wp2
                  go_quiet (first | (go_at_call 41; exact quietSame (allWithin_any _ rs _ _ _ (hrd2 _))) | (go_at_call 42; exact quietSame (total_any _ rs _ (hrd2 _) hlb HD.out)))
                  go_wp2
                  go_roundw
                  case rel => exact ⟨k + 1, by omega, by go_num, fun j x' hj hx' => by
                    by_cases e : j = k
                    · subst e; rw [HX.out] at hx'; cases hx'; rw [fourB_sum HL.out h4]; exact decide_eq_true H5.out
                    · exact HA.out j x' (by omega) hx', hd.trans (Drw.mk _ _)⟩
                  case measure => simp [intOf]; omega
                · have h5z : (rs.sum != b.Whole) = true := by simp [h5]
                  have H5 := Lib.hid h5
                  clear h5
                  go_wp2
                  go_quiet (first | (go_at_call 41; exact quietSame (allWithin_any _ rs _ _ _ (hrd2 _))) | (go_at_call 42; exact quietSame (total_any _ rs _ (hrd2 _) hlb HD.out)))
                  go_wp2
                  go_ret
                  exact ⟨ret_bool (by unfold boxB; rw [h1, h2, rowsB_false HX.out (by rw [fourB_sum HL.out h4]; exact decide_eq_false H5.out)]; simp), HB.trans ((hd.trans (Drw.mk _ _)).below _)⟩
              · go_wp2
                go_quiet (first | (go_at_call 41; exact quietSame (allWithin_any _ rs _ _ _ (hrd2 _))) | fail)
                go_wp2
                go_ret
                exact ⟨ret_bool (by unfold boxB; rw [h1, h2, rowsB_false HX.out (fourB_in h4)]; simp), HB.trans ((hd.trans (Drw.mk _ _)).below _)⟩
            · have hl4z : ((rs.length : Int) != 4) = true := by simp; omega
              have HL := Lib.hid hl4
              clear hl4
              go_wp2
              go_quiet (fail)
              go_wp2
              go_ret
              exact ⟨ret_bool (by unfold boxB; rw [h1, h2, rowsB_false HX.out (fourB_len HL.out)]; simp), HB.trans ((hd.trans (Drw.mk _ _)).below _)⟩
          · go_wp2
            go_ret
            obtain rfl : k = b.Rows.length := by omega
            exact ⟨ret_bool (by unfold boxB; rw [h1, h2, decide_eq_true H3.out, rowsB_true (fun j rs hx => HA.out j rs (List.getElem?_eq_some_iff.1 hx).1 hx)]; rfl), HB.trans (hd.below _)⟩
      · have h3z : ((b.Rows.length : Int) != b.X * b.Y) = true := by simp [h3]
        have H3 := Lib.hid h3
        clear h3 hc ha
        go_enter Tryz.func10, Tryz.ntmps10
        go_wp2_with (first | (go_at_call 39; refine (areQuestions_any _ _ _).mono ?_; rintro e w' ⟨rfl, rfl⟩) | (go_at_call 40; refine (within_any _ _ _ _).mono ?_; rintro e w' ⟨rfl, rfl⟩))
        go_ret
        exact ⟨ret_bool (by unfold boxB; rw [h1, h2, decide_eq_false H3.out]; rfl), (by repeat' (first | with_reducible exact Below.refl _ _ | with_reducible assumption | with_reducible apply Below.alloc | with_reducible apply Below.setCell | with_reducible apply Below.drew | exact Nat.le_refl _ | omega | (simp only [World.size_alloc, World.size_setCell]; omega)))⟩
    · clear hc ha
      go_enter Tryz.func10, Tryz.ntmps10
      go_wp2_with (first | (go_at_call 39; refine (areQuestions_any _ _ _).mono ?_; rintro e w' ⟨rfl, rfl⟩) | (go_at_call 40; refine (within_any _ _ _ _).mono ?_; rintro e w' ⟨rfl, rfl⟩))
      go_ret
      exact ⟨ret_bool (by unfold boxB; rw [h1, h2]; rfl), (by repeat' (first | with_reducible exact Below.refl _ _ | with_reducible assumption | with_reducible apply Below.alloc | with_reducible apply Below.setCell | with_reducible apply Below.drew | exact Nat.le_refl _ | omega | (simp only [World.size_alloc, World.size_setCell]; omega)))⟩
  · clear hc ha
    go_enter Tryz.func10, Tryz.ntmps10
    go_wp2_with (go_at_call 39; refine (areQuestions_any _ _ _).mono ?_; rintro e w' ⟨rfl, rfl⟩)
    go_ret
    exact ⟨ret_bool (by unfold boxB; rw [h1]; rfl), (by repeat' (first | with_reducible exact Below.refl _ _ | with_reducible assumption | with_reducible apply Below.alloc | with_reducible apply Below.setCell | with_reducible apply Below.drew | exact Nat.le_refl _ | omega | (simp only [World.size_alloc, World.size_setCell]; omega)))⟩
end Go.Proofs.YtcifpfdlkpddeaaGreatDoor
