/- Contracts of the small tests of the program and of the reference. IsBox: contracts of the program's and the reference's test of a box. -/
import Derived.Test.YtcifpfdlkpddeaaGreatDoorQxab
set_option linter.unusedSimpArgs false
set_option linter.unusedVariables false
namespace Go.Proofs.YtcifpfdlkpddeaaGreatDoor
open Go.RowKit

theorem l2Sizes_any (x y : Int) (w : World) :
    Calls Tryz.prog 72 #[.int .i64 x, .int .i64 y] w fun e w' => e = .returned (.bool (sizesB x y)) ∧ w = w' := by
  unfold sizesB
  rcases Bool.eq_false_or_eq_true (inB x 1 3) with h1 | h1 <;>
  (go_enter Tryz.func72, Tryz.ntmps72
   go_wp2_with (go_at_call 64; refine (l1In_any _ _ _ _).mono ?_; rintro e w' ⟨rfl, rfl⟩)
   go_ret
   exact ⟨ret_bool (by simp [h1]), rfl⟩)
theorem areQuestions_any (x y : Int) (w : World) :
    Calls Tryz.prog 39 #[.int .i64 x, .int .i64 y] w fun e w' => e = .returned (.bool (sizesB x y)) ∧ w = w' := by
  unfold sizesB
  rcases Bool.eq_false_or_eq_true (inB x 1 3) with h1 | h1 <;>
  (go_enter Tryz.func39, Tryz.ntmps39
   go_wp2_with (go_at_call 40; refine (within_any _ _ _ _).mono ?_; rintro e w' ⟨rfl, rfl⟩)
   go_ret
   exact ⟨ret_bool (by simp [h1]), rfl⟩)
set_option maxHeartbeats 400000 in
theorem l2Bits_any (v : Value) (xs : List Int) (n : Int) (w : World) (h : RdI w v xs) :
    Calls Tryz.prog 77 #[v, .int .i64 n] w fun e w' => e = .returned (.bool (bitsB xs n)) ∧ w = w' := by
  obtain ⟨a, b, off, cap, rfl, hm, ha, hc⟩ := h
  unfold maxLen at hm
  go_enter Tryz.func77, Tryz.ntmps77
  go_wp2
  go_loop [5] (fun i => ∃ k : Nat, k ≤ xs.length ∧ i = .int .i64 k ∧ ∀ (j : Nat) (x : Int), j < k → xs[j]? = some x → inB x 0 1 = true) (fun i => xs.length - (intOf i).toNat)
  case atStart => exact ⟨0, by omega, rfl, fun j x hj => by omega⟩
  case round =>
    obtain ⟨k, hk, rfl, hall⟩ := hrel
    have HA := Lib.hid hall
    clear hall
    by_cases hlt : k < xs.length
    · obtain rfl := ha (by omega)
      obtain ⟨x, hx⟩ : ∃ x, xs[k]? = some x := ⟨_, List.getElem?_eq_getElem hlt⟩
      have hcell := hc k x hx
      have HX := Lib.hid hx
      clear hc hx
      rcases Bool.eq_false_or_eq_true (inB x 0 1) with h1 | h1
      · go_wp2_with (go_at_call 64; refine (l1In_any _ _ _ _).mono ?_; rintro e w' ⟨rfl, rfl⟩)
        go_round
        case rel => exact ⟨k + 1, by omega, by go_num, fun j x' hj hx' => by
          by_cases e : j = k
          · subst e; rw [HX.out] at hx'; cases hx'; exact h1
          · exact HA.out j x' (by omega) hx'⟩
        case measure => simp [intOf]; omega
      · go_wp2_with (go_at_call 64; refine (l1In_any _ _ _ _).mono ?_; rintro e w' ⟨rfl, rfl⟩)
        go_ret
        exact ⟨ret_bool (by unfold bitsB; rw [allIn_false HX.out h1]; rfl), rfl⟩
    · go_wp2
      go_ret
      obtain rfl : k = xs.length := by omega
      refine ⟨ret_bool ?_, rfl⟩
      unfold bitsB
      rw [allIn_true (fun j x hx => HA.out j x (List.getElem?_eq_some_iff.1 hx).1 hx)]
      rw [Bool.true_and]
      rw [Bool.eq_iff_iff]
      simp
set_option maxHeartbeats 400000 in
theorem allWithin_any (v : Value) (xs : List Int) (lo hi : Int) (w : World) (h : RdI w v xs) :
    Calls Tryz.prog 41 #[v, .int .i64 lo, .int .i64 hi] w fun e w' => e = .returned (.bool (allIn xs lo hi)) ∧ w = w' := by
  obtain ⟨a, b, off, cap, rfl, hm, ha, hc⟩ := h
  unfold maxLen at hm
  go_enter Tryz.func41, Tryz.ntmps41
  go_wp2
  go_loop [11] (fun i => ∃ k : Nat, k ≤ xs.length ∧ i = .int .i64 k ∧ ∀ (j : Nat) (x : Int), j < k → xs[j]? = some x → inB x lo hi = true) (fun i => xs.length - (intOf i).toNat)
  case atStart => exact ⟨0, by omega, rfl, fun j x hj => by omega⟩
  case round =>
    obtain ⟨k, hk, rfl, hall⟩ := hrel
    have HA := Lib.hid hall
    clear hall
    by_cases hlt : k < xs.length
    · obtain rfl := ha (by omega)
      obtain ⟨x, hx⟩ : ∃ x, xs[k]? = some x := ⟨_, List.getElem?_eq_getElem hlt⟩
      have hcell := hc k x hx
      have HX := Lib.hid hx
      clear hc hx
      rcases Bool.eq_false_or_eq_true (inB x lo hi) with h1 | h1
      · go_wp2_with (go_at_call 40; refine (within_any _ _ _ _).mono ?_; rintro e w' ⟨rfl, rfl⟩)
        go_round
        case rel => exact ⟨k + 1, by omega, by go_num, fun j x' hj hx' => by
          by_cases e : j = k
          · subst e; rw [HX.out] at hx'; cases hx'; exact h1
          · exact HA.out j x' (by omega) hx'⟩
        case measure => simp [intOf]; omega
      · go_wp2_with (go_at_call 40; refine (within_any _ _ _ _).mono ?_; rintro e w' ⟨rfl, rfl⟩)
        go_ret
        exact ⟨ret_bool (allIn_false HX.out h1).symm, rfl⟩
    · go_wp2
      go_ret
      obtain rfl : k = xs.length := by omega
      exact ⟨ret_bool (allIn_true (fun j x hx => HA.out j x (List.getElem?_eq_some_iff.1 hx).1 hx)).symm, rfl⟩
set_option maxHeartbeats 400000 in
theorem total_any (v : Value) (xs : List Int) (w : World) (h : RdI w v xs) (hl : xs.length ≤ 1048576) (hb : ∀ (j : Nat) (x : Int), xs[j]? = some x → -1000000 ≤ x ∧ x ≤ 1000000) :
    Calls Tryz.prog 42 #[v] w fun e w' => e = .returned (.int .i64 xs.sum) ∧ w = w' := by
  obtain ⟨a, b, off, cap, rfl, hm, ha, hc⟩ := h
  clear hm
  have hbd := sum_take_bound xs (-1000000) 1000000 (by omega) (by omega) hb
  go_enter Tryz.func42, Tryz.ntmps42
  go_wp2
  go_loop [3, 8] (fun s i => ∃ k : Nat, k ≤ xs.length ∧ i = .int .i64 k ∧ s = .int .i64 (xs.take k).sum) (fun _ i => xs.length - (intOf i).toNat)
  case atStart => exact ⟨0, by omega, rfl, by simp⟩
  case round =>
    obtain ⟨k, hk, rfl, rfl⟩ := hrel
    have hbk := hbd k
    have HB := Lib.hid hbd
    clear hbd
    by_cases hlt : k < xs.length
    · obtain rfl := ha (by omega)
      obtain ⟨x, hx⟩ : ∃ x, xs[k]? = some x := ⟨_, List.getElem?_eq_getElem hlt⟩
      have hcell := hc k x hx
      have hbx := hb k x hx
      have hst := sum_take xs k x hx
      generalize hs : (xs.take k).sum = s at *
      have HX := Lib.hid hx
      have HS := Lib.hid hst
      have HT := Lib.hid hs
      clear hc hx hst hb hs
      go_wp2
      go_round
      case rel => exact ⟨k + 1, by omega, by go_num, by rw [HS.out]⟩
      case measure => simp [intOf]; omega
    · go_wp2
      go_ret
      obtain rfl : k = xs.length := by omega
      exact ⟨ret_int (by rw [List.take_length]), rfl⟩
theorem isPlay_any (v : Value) (xs : List Int) (x y : Int) (w : World) (h : RdI w v xs) (hx : 1 ≤ x ∧ x ≤ 3) (hy : 1 ≤ y ∧ y ≤ 3) :
    Calls Tryz.prog 61 #[.int .i64 x, .int .i64 y, v] w fun e w' => e = .returned (.bool (bitsB xs (x + y))) ∧ w = w' := by
  have h' := h
  obtain ⟨a, b, off, cap, rfl, hm, ha, hc⟩ := h
  unfold maxLen at hm
  clear ha hc
  obtain ⟨hx1, hx2⟩ := hx
  obtain ⟨hy1, hy2⟩ := hy
  by_cases hl : (xs.length : Int) = x + y
  · have hz : ((xs.length : Int) == x + y) = true := by simp [hl]
    have HL := Lib.hid hl
    clear hl
    go_enter Tryz.func61, Tryz.ntmps61
    go_wp2_with (go_at_call 41; refine (allWithin_any _ xs _ _ _ h').mono ?_; rintro e w' ⟨rfl, rfl⟩)
    go_ret
    exact ⟨ret_bool (by unfold bitsB; rw [decide_eq_true HL.out, Bool.and_true]), rfl⟩
  · have hz : ((xs.length : Int) == x + y) = false := by simp [hl]
    have HL := Lib.hid hl
    clear hl
    go_enter Tryz.func61, Tryz.ntmps61
    go_wp2
    go_ret
    exact ⟨ret_bool (by unfold bitsB; rw [decide_eq_false HL.out, Bool.and_false]), rfl⟩
end Go.Proofs.YtcifpfdlkpddeaaGreatDoor
set_option linter.unusedSimpArgs false
set_option linter.unusedVariables false
namespace Go.Proofs.YtcifpfdlkpddeaaGreatDoor
open Go.RowKit

set_option maxHeartbeats 800000 in
theorem l2Four_any (v : Value) (xs : List Int) (whole : Int) (w : World) (h : RdI w v xs) (h0 : whole ≤ 1000) :
    Calls Tryz.prog 78 #[v, .int .i64 whole] w fun e w' => e = .returned (.bool (fourB xs whole)) ∧ w = w' := by
  obtain ⟨a, b, off, cap, rfl, hm, ha, hc⟩ := h
  unfold maxLen at hm
  go_enter Tryz.func78, Tryz.ntmps78
  go_wp2
  go_loop [5, 6] (fun s i => ∃ (k : Nat) (t : Int), k ≤ xs.length ∧ k ≤ 5 ∧ i = .int .i64 k ∧ s = .int .i64 t ∧ t = (xs.take k).sum ∧ 0 ≤ t ∧ t ≤ 1000 * k ∧ ∀ (j : Nat) (x : Int), j < k → xs[j]? = some x → inB x 0 whole = true) (fun _ i => xs.length - (intOf i).toNat)
  case atStart => exact ⟨0, 0, by omega, by omega, rfl, rfl, by simp, by omega, by omega, fun j x hj => by omega⟩
  case round =>
    obtain ⟨k, t, hk, hk5, rfl, rfl, ht, ht0, ht1, hall⟩ := hrel
    have HA := Lib.hid hall
    have HT := Lib.hid ht
    clear hall ht
    by_cases hgo : k < xs.length ∧ k < 5
    · obtain ⟨hlt, hlt5⟩ := hgo
      obtain rfl := ha (by omega)
      obtain ⟨x, hx⟩ : ∃ x, xs[k]? = some x := ⟨_, List.getElem?_eq_getElem hlt⟩
      have hcell := hc k x hx
      have HX := Lib.hid hx
      clear hc hx
      rcases Bool.eq_false_or_eq_true (inB x 0 whole) with h1 | h1
      · obtain ⟨hx0, hx1⟩ := inB_iff.1 h1
        go_wp2_with (go_at_call 64; refine (l1In_any _ _ _ _).mono ?_; rintro e w' ⟨rfl, rfl⟩)
        go_round
        case rel => exact ⟨k + 1, t + x, by omega, by omega, by go_num, by go_num, by rw [sum_take xs k x HX.out, HT.out], by omega, by omega, fun j x' hj hx' => by
          by_cases e : j = k
          · subst e; rw [HX.out] at hx'; cases hx'; exact h1
          · exact HA.out j x' (by omega) hx'⟩
        case measure => simp [intOf]; omega
      · go_wp2_with (go_at_call 64; refine (l1In_any _ _ _ _).mono ?_; rintro e w' ⟨rfl, rfl⟩)
        go_ret
        exact ⟨ret_bool (fourB_in (allIn_false HX.out h1)).symm, rfl⟩
    · by_cases h4 : xs.length = 4
      · have hk4 : k = 4 := by omega
        subst hk4
        have hl4 : ((xs.length : Int) == 4) = true := by simp; omega
        have hn : ¬ (4 < xs.length) := by omega
        have HR := Lib.hid (fourB_sum (whole := whole) h4 (allIn_true (fun j x hx => HA.out j x (by have := (List.getElem?_eq_some_iff.1 hx).1; omega) hx)))
        have HT2 := Lib.hid (show xs.sum = t by rw [HT.out, List.take_of_length_le (by omega)])
        clear h4 hgo hc ha
        by_cases hs : t = whole
        · have hsz : (t == whole) = true := by simp [hs]
          have HS := Lib.hid hs
          clear hs
          go_wp2
          go_ret
          exact ⟨ret_bool (by rw [HR.out, HT2.out, HS.out]; simp), rfl⟩
        · have hsz : (t == whole) = false := by simp [hs]
          have HS := Lib.hid hs
          clear hs
          go_wp2
          go_ret
          exact ⟨ret_bool (by rw [HR.out, HT2.out]; simp [HS.out]), rfl⟩
      · have hl4 : ((xs.length : Int) == 4) = false := by simp; omega
        have HR := Lib.hid (fourB_len (whole := whole) h4)
        clear h4 hc ha
        by_cases hlt : k < xs.length
        · have h5 : ¬ k < 5 := by omega
          clear hgo
          go_wp2
          go_ret
          exact ⟨ret_bool (by rw [HR.out]), rfl⟩
        · clear hgo
          go_wp2
          go_ret
          exact ⟨ret_bool (by rw [HR.out]), rfl⟩

set_option maxHeartbeats 800000 in
theorem l2Box_any (vr : Value) (b : BoxD) (w : World) (h : RdII w vr b.Rows) :
    Calls Tryz.prog 35 #[.agg #[.int .i64 b.X, .int .i64 b.Y, .int .i64 b.Whole, vr]] w fun e w' => e = .returned (.bool (boxB b)) ∧ Below w.heap.size w w' := by
  obtain ⟨a, ba, off, cap, rfl, hm, ha, hc⟩ := h
  unfold maxLen at hm
  rcases Bool.eq_false_or_eq_true (sizesB b.X b.Y) with h1 | h1
  · obtain ⟨⟨hx0, hx1⟩, hy0, hy1⟩ := sizesB_iff.1 h1
    rcases Bool.eq_false_or_eq_true (inB b.Whole 1 1000) with h2 | h2
    · obtain ⟨hw0, hw1⟩ := inB_iff.1 h2
      have hmul : 0 ≤ b.X * b.Y ∧ b.X * b.Y ≤ 9 := by
        have e1 : b.X = 1 ∨ b.X = 2 ∨ b.X = 3 := by omega
        rcases e1 with e1 | e1 | e1 <;> rw [e1] <;> omega
      by_cases h3 : (b.Rows.length : Int) = b.X * b.Y
      · have h3z : ((b.Rows.length : Int) != b.X * b.Y) = false := by simp [h3]
        have H3 := Lib.hid h3
        clear h3
        go_enter Tryz.func35, Tryz.ntmps35
        go_wp2_with (first | (go_at_call 72; refine (l2Sizes_any _ _ _).mono ?_; rintro e w' ⟨rfl, rfl⟩) | (go_at_call 64; refine (l1In_any _ _ _ _).mono ?_; rintro e w' ⟨rfl, rfl⟩))
        have HB : Below w.heap.size w (w.alloc (.cells #[.int .i64 b.X, .int .i64 b.Y, .int .i64 b.Whole, .slice a b.Rows.length cap] 26)) := (by repeat' (first | with_reducible exact Below.refl _ _ | with_reducible assumption | with_reducible apply Below.alloc | with_reducible apply Below.setCell | with_reducible apply Below.drew | exact Nat.le_refl _ | omega | (simp only [World.size_alloc, World.size_setCell]; omega)))
        go_loopw [3] (fun i wr => ∃ k : Nat, k ≤ b.Rows.length ∧ i = .int .i64 k ∧ (∀ (j : Nat) (rs : List Int), j < k → b.Rows[j]? = some rs → fourB rs b.Whole = true) ∧ Drw (w.alloc (.cells #[.int .i64 b.X, .int .i64 b.Y, .int .i64 b.Whole, .slice a b.Rows.length cap] 26)) wr) (fun i _ => b.Rows.length - (intOf i).toNat)
        case atStart => exact ⟨0, by omega, rfl, fun j x hj => by omega, Drw.refl _⟩
        case round =>
          obtain ⟨k, hk, rfl, hall, hd⟩ := hrel
          have HA := Lib.hid hall
          clear hall
          have f2 : wr.cell? ⟨w.heap.size, 2, none⟩ = some (.int .i64 b.Whole) := by rw [hd.cell]; simp
          have f3 : wr.cell? ⟨w.heap.size, 3, none⟩ = some (.slice a b.Rows.length cap) := by rw [hd.cell]; simp
          by_cases hlt : k < b.Rows.length
          · obtain rfl := ha (by omega)
            obtain ⟨rs, hrs⟩ : ∃ rs, b.Rows[k]? = some rs := ⟨_, List.getElem?_eq_getElem hlt⟩
            obtain ⟨v', hcell, hrd⟩ := hc k rs hrs
            have hrd2 : ∀ n, RdI (wr.drewN n) v' rs := fun n => (hrd.kept (Nat.le_refl _) (HB.trans ((hd.below _)))).drw (Drw.mk _ _)
            have hcell2 : wr.cell? ⟨ba, off + k, none⟩ = some v' := by rw [(HB.trans (hd.below _)).cell (p := ⟨ba, off + k, none⟩) (World.block_lt_of_cell? _ _ hcell)]; exact hcell
            have HX := Lib.hid hrs
            clear hc hrs hcell
            rcases Bool.eq_false_or_eq_true (fourB rs b.Whole) with h4 | h4
            · go_wp2
              go_quiet ((go_at_call 78; exact quietSame (l2Four_any v' rs b.Whole _ (hrd2 _) hw1)))
              go_wp2
              go_roundw
              case rel => exact ⟨k + 1, by omega, by go_num, fun j x' hj hx' => by
                by_cases e : j = k
                · subst e; rw [HX.out] at hx'; cases hx'; exact h4
                · exact HA.out j x' (by omega) hx', hd.trans (Drw.mk _ _)⟩
              case measure => simp [intOf]; omega
            · go_wp2
              go_quiet ((go_at_call 78; exact quietSame (l2Four_any v' rs b.Whole _ (hrd2 _) hw1)))
              go_wp2
              go_ret
              exact ⟨ret_bool (by unfold boxB; rw [h1, h2, rowsB_false HX.out h4]; simp), HB.trans ((hd.trans (Drw.mk _ _)).below _)⟩
          · go_wp2
            go_ret
            obtain rfl : k = b.Rows.length := by omega
            exact ⟨ret_bool (by unfold boxB; rw [h1, h2, decide_eq_true H3.out, rowsB_true (fun j rs hx => HA.out j rs (List.getElem?_eq_some_iff.1 hx).1 hx)]; rfl), HB.trans (hd.below _)⟩
      · have h3z : ((b.Rows.length : Int) != b.X * b.Y) = true := by simp [h3]
        have H3 := Lib.hid h3
        clear h3 hc ha
        go_enter Tryz.func35, Tryz.ntmps35
        go_wp2_with (first | (go_at_call 72; refine (l2Sizes_any _ _ _).mono ?_; rintro e w' ⟨rfl, rfl⟩) | (go_at_call 64; refine (l1In_any _ _ _ _).mono ?_; rintro e w' ⟨rfl, rfl⟩))
        go_ret
        exact ⟨ret_bool (by unfold boxB; rw [h1, h2, decide_eq_false H3.out]; rfl), (by repeat' (first | with_reducible exact Below.refl _ _ | with_reducible assumption | with_reducible apply Below.alloc | with_reducible apply Below.setCell | with_reducible apply Below.drew | exact Nat.le_refl _ | omega | (simp only [World.size_alloc, World.size_setCell]; omega)))⟩
    · clear hc ha
      go_enter Tryz.func35, Tryz.ntmps35
      go_wp2_with (first | (go_at_call 72; refine (l2Sizes_any _ _ _).mono ?_; rintro e w' ⟨rfl, rfl⟩) | (go_at_call 64; refine (l1In_any _ _ _ _).mono ?_; rintro e w' ⟨rfl, rfl⟩))
      go_ret
      exact ⟨ret_bool (by unfold boxB; rw [h1, h2]; rfl), (by repeat' (first | with_reducible exact Below.refl _ _ | with_reducible assumption | with_reducible apply Below.alloc | with_reducible apply Below.setCell | with_reducible apply Below.drew | exact Nat.le_refl _ | omega | (simp only [World.size_alloc, World.size_setCell]; omega)))⟩
  · clear hc ha
    go_enter Tryz.func35, Tryz.ntmps35
    go_wp2_with (go_at_call 72; refine (l2Sizes_any _ _ _).mono ?_; rintro e w' ⟨rfl, rfl⟩)
    go_ret
    exact ⟨ret_bool (by unfold boxB; rw [h1]; rfl), (by repeat' (first | with_reducible exact Below.refl _ _ | with_reducible assumption | with_reducible apply Below.alloc | with_reducible apply Below.setCell | with_reducible apply Below.drew | exact Nat.le_refl _ | omega | (simp only [World.size_alloc, World.size_setCell]; omega)))⟩
end Go.Proofs.YtcifpfdlkpddeaaGreatDoor
