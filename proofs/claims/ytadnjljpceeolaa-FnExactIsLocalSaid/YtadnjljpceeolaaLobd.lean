/- The triple worth: tests and the reference's sum. -/
import Derived.Test.YtadnjljpceeolaaLobc
set_option linter.unusedSimpArgs false
set_option linter.unusedVariables false
namespace Go.Proofs.Ytadnjljpceeolaa
open Go.RowKit

def tripleOk (b : BoxD) : Bool := (boxB b && quietB b) && (decide (b.X = 3) && decide (b.Y = 3))
theorem tripleOk_iff {b : BoxD} : tripleOk b = true ↔ boxB b = true ∧ quietB b = true ∧ b.X = 3 ∧ b.Y = 3 := by
  unfold tripleOk
  simp only [Bool.and_eq_true, decide_eq_true_iff, and_assoc]
theorem tripleOk_no {b : BoxD} (h : ¬ (boxB b = true ∧ quietB b = true ∧ b.X = 3 ∧ b.Y = 3)) : tripleOk b = false := Bool.eq_false_iff.2 fun h' => h (tripleOk_iff.1 h')
def n11 (b : BoxD) (x y : Nat) : Int := numB b x y 1 1
def tripleV (b : BoxD) : Int := n11 b 0 0 + n11 b 0 1 + n11 b 0 2 + n11 b 1 0 + n11 b 1 1 - n11 b 1 2 + n11 b 2 0 - n11 b 2 1 - oneB b 0 0 0 - 2 * oneB b 1 0 0 - oneB b 1 0 1
def tripleD (b : BoxD) : Int := if tripleOk b then tripleV b else 0
set_option maxHeartbeats 800000 in
theorem l3Three_any (v : Value) (b : BoxD) (w : World) (h : RdII w v b.Rows) :
    Calls Try.prog 88 #[.agg #[.int .i64 b.X, .int .i64 b.Y, .int .i64 b.Whole, v]] w fun e w' => e = .returned (.bool (tripleOk b)) ∧ Below w.heap.size w w' := by
  go_enter Try.func88, Try.ntmps88
  go_wp2_with fail
  refine (l2Box_any v b _ (h.kept (Nat.le_refl _) (by repeat' (first | with_reducible exact Below.refl _ _ | with_reducible assumption | with_reducible apply Below.alloc | with_reducible apply Below.setCell | with_reducible apply Below.drew | exact Nat.le_refl _ | omega | (simp only [World.size_alloc, World.size_setCell]; omega))))).mono ?_
  rintro e w1 ⟨rfl, b1⟩
  have B1 : Below w.heap.size w w1 := Below.trans (by repeat' (first | with_reducible exact Below.refl _ _ | with_reducible assumption | with_reducible apply Below.alloc | with_reducible apply Below.setCell | with_reducible apply Below.drew | exact Nat.le_refl _ | omega | (simp only [World.size_alloc, World.size_setCell]; omega))) (b1.mono (by first | exact Nat.le_refl _ | omega | (simp only [World.size_alloc, World.size_setCell]; omega)))
  have A1 : BoxAt w1 w.heap.size b.X b.Y b.Whole v := ⟨keepCell b1 (by repeat' (first | with_reducible assumption | (refine cell_top ?_ rfl; first | with_reducible rfl | (simp only [World.size_alloc, World.size_setCell]; done)) | (refine cell_under ?_ ?_; (first | omega | (simp only [World.size_alloc, World.size_setCell]; omega))) | refine cell_drew ?_)), keepCell b1 (by repeat' (first | with_reducible assumption | (refine cell_top ?_ rfl; first | with_reducible rfl | (simp only [World.size_alloc, World.size_setCell]; done)) | (refine cell_under ?_ ?_; (first | omega | (simp only [World.size_alloc, World.size_setCell]; omega))) | refine cell_drew ?_)), keepCell b1 (by repeat' (first | with_reducible assumption | (refine cell_top ?_ rfl; first | with_reducible rfl | (simp only [World.size_alloc, World.size_setCell]; done)) | (refine cell_under ?_ ?_; (first | omega | (simp only [World.size_alloc, World.size_setCell]; omega))) | refine cell_drew ?_)), keepCell b1 (by repeat' (first | with_reducible assumption | (refine cell_top ?_ rfl; first | with_reducible rfl | (simp only [World.size_alloc, World.size_setCell]; done)) | (refine cell_under ?_ ?_; (first | omega | (simp only [World.size_alloc, World.size_setCell]; omega))) | refine cell_drew ?_))⟩
  clear b1
  rcases Bool.eq_false_or_eq_true (boxB b) with hok | hok
  · have AA := A1
    obtain ⟨a0, a1, a2, a3⟩ := AA
    have HM := Lib.hid hok
    rw [hok]
    clear hok
    go_wp2_with fail
    refine (l2Quiet_any v b HM.out _ (h.kept (Nat.le_refl _) B1)).mono ?_
    rintro e w2 ⟨rfl, b2⟩
    have B2 := B1.trans (b2.mono B1.size)
    have A2 := A1.kept b2 A1.lt
    clear a0 a1 a2 a3 A1 b2
    rcases Bool.eq_false_or_eq_true (quietB b) with hq | hq
    · have HQ := Lib.hid hq
      rw [hq]
      clear hq
      obtain ⟨e0, e1, e2, e3⟩ := A2
      by_cases h3 : b.X = 3
      · have h3z : (b.X == 3) = true := by simp [h3]
        have H3 := Lib.hid h3
        clear h3
        by_cases h4 : b.Y = 3
        · have h4z : (b.Y == 3) = true := by simp [h4]
          have H4 := Lib.hid h4
          clear h4
          go_wp2
          go_ret
          exact ⟨ret_bool (tripleOk_iff.2 ⟨HM.out, HQ.out, H3.out, H4.out⟩).symm, B2⟩
        · have h4z : (b.Y == 3) = false := by simp [h4]
          have H4 := Lib.hid h4
          clear h4
          go_wp2
          go_ret
          exact ⟨ret_bool (tripleOk_no (fun h => H4.out h.2.2.2)).symm, B2⟩
      · have h3z : (b.X == 3) = false := by simp [h3]
        have H3 := Lib.hid h3
        clear h3
        go_wp2
        go_ret
        exact ⟨ret_bool (tripleOk_no (fun h => H3.out h.2.2.1)).symm, B2⟩
    · have HQ := Lib.hid hq
      rw [hq]
      clear hq
      go_wp2
      go_ret
      exact ⟨ret_bool (tripleOk_no (fun h => by rw [HQ.out] at h; cases h.2.1)).symm, B2⟩
  · have HM := Lib.hid hok
    rw [hok]
    clear hok
    go_wp2
    go_ret
    exact ⟨ret_bool (tripleOk_no (fun h => by rw [HM.out] at h; cases h.1)).symm, B1⟩
set_option maxHeartbeats 800000 in
theorem isTriple_any (v : Value) (b : BoxD) (w : World) (h : RdII w v b.Rows) :
    Calls Try.prog 90 #[.agg #[.int .i64 b.X, .int .i64 b.Y, .int .i64 b.Whole, v]] w fun e w' => e = .returned (.bool (tripleOk b)) ∧ Below w.heap.size w w' := by
  go_enter Try.func90, Try.ntmps90
  go_wp2_with fail
  refine (isQuiet_any v b _ (h.kept (Nat.le_refl _) (by repeat' (first | with_reducible exact Below.refl _ _ | with_reducible assumption | with_reducible apply Below.alloc | with_reducible apply Below.setCell | with_reducible apply Below.drew | exact Nat.le_refl _ | omega | (simp only [World.size_alloc, World.size_setCell]; omega))))).mono ?_
  rintro e w1 ⟨rfl, b1⟩
  have B2 : Below w.heap.size w w1 := Below.trans (by repeat' (first | with_reducible exact Below.refl _ _ | with_reducible assumption | with_reducible apply Below.alloc | with_reducible apply Below.setCell | with_reducible apply Below.drew | exact Nat.le_refl _ | omega | (simp only [World.size_alloc, World.size_setCell]; omega))) (b1.mono (by first | exact Nat.le_refl _ | omega | (simp only [World.size_alloc, World.size_setCell]; omega)))
  have A2 : BoxAt w1 w.heap.size b.X b.Y b.Whole v := ⟨keepCell b1 (by repeat' (first | with_reducible assumption | (refine cell_top ?_ rfl; first | with_reducible rfl | (simp only [World.size_alloc, World.size_setCell]; done)) | (refine cell_under ?_ ?_; (first | omega | (simp only [World.size_alloc, World.size_setCell]; omega))) | refine cell_drew ?_)), keepCell b1 (by repeat' (first | with_reducible assumption | (refine cell_top ?_ rfl; first | with_reducible rfl | (simp only [World.size_alloc, World.size_setCell]; done)) | (refine cell_under ?_ ?_; (first | omega | (simp only [World.size_alloc, World.size_setCell]; omega))) | refine cell_drew ?_)), keepCell b1 (by repeat' (first | with_reducible assumption | (refine cell_top ?_ rfl; first | with_reducible rfl | (simp only [World.size_alloc, World.size_setCell]; done)) | (refine cell_under ?_ ?_; (first | omega | (simp only [World.size_alloc, World.size_setCell]; omega))) | refine cell_drew ?_)), keepCell b1 (by repeat' (first | with_reducible assumption | (refine cell_top ?_ rfl; first | with_reducible rfl | (simp only [World.size_alloc, World.size_setCell]; done)) | (refine cell_under ?_ ?_; (first | omega | (simp only [World.size_alloc, World.size_setCell]; omega))) | refine cell_drew ?_))⟩
  clear b1
  rcases Bool.eq_false_or_eq_true (boxB b && quietB b) with hq | hq
  · have hq' := hq
    rw [Bool.and_eq_true] at hq'
    have HQ := Lib.hid hq'
    rw [hq]
    clear hq hq'
    obtain ⟨e0, e1, e2, e3⟩ := A2
    by_cases h3 : b.X = 3
    · have h3z : (b.X == 3) = true := by simp [h3]
      have H3 := Lib.hid h3
      clear h3
      by_cases h4 : b.Y = 3
      · have h4z : (b.Y == 3) = true := by simp [h4]
        have H4 := Lib.hid h4
        clear h4
        go_wp2
        go_ret
        exact ⟨ret_bool (tripleOk_iff.2 ⟨HQ.out.1, HQ.out.2, H3.out, H4.out⟩).symm, B2⟩
      · have h4z : (b.Y == 3) = false := by simp [h4]
        have H4 := Lib.hid h4
        clear h4
        go_wp2
        go_ret
        exact ⟨ret_bool (tripleOk_no (fun h => H4.out h.2.2.2)).symm, B2⟩
    · have h3z : (b.X == 3) = false := by simp [h3]
      have H3 := Lib.hid h3
      clear h3
      go_wp2
      go_ret
      exact ⟨ret_bool (tripleOk_no (fun h => H3.out h.2.2.1)).symm, B2⟩
  · have HQ := Lib.hid hq
    rw [hq]
    clear hq
    go_wp2
    go_ret
    exact ⟨ret_bool (tripleOk_no (fun h => by have := HQ.out; rw [h.1, h.2.1] at this; cases this)).symm, B2⟩
def sg (k : Nat) : Int := [1, 1, 1, 1, 1, -1, 1, -1, 0].getD k 0
theorem sg_bd (k : Nat) (hk : k < 9) : -1 ≤ sg k ∧ sg k ≤ 1 := by
  have : k = 0 ∨ k = 1 ∨ k = 2 ∨ k = 3 ∨ k = 4 ∨ k = 5 ∨ k = 6 ∨ k = 7 ∨ k = 8 := by omega
  rcases this with rfl | rfl | rfl | rfl | rfl | rfl | rfl | rfl | rfl <;> decide
def tripleUp (b : BoxD) : Nat → Int
  | 0 => -(oneB b 0 0 0) - 2 * oneB b 1 0 0 - oneB b 1 0 1
  | k + 1 => tripleUp b k + sg k * n11 b (k / 3) (k % 3)
theorem tripleUp_nine (b : BoxD) : tripleUp b 9 = tripleV b := by
  have e : tripleUp b 9 = -(oneB b 0 0 0) - 2 * oneB b 1 0 0 - oneB b 1 0 1 + 1 * n11 b 0 0 + 1 * n11 b 0 1 + 1 * n11 b 0 2 + 1 * n11 b 1 0 + 1 * n11 b 1 1 + -1 * n11 b 1 2 + 1 * n11 b 2 0 + -1 * n11 b 2 1 + 0 * n11 b 2 2 := rfl
  rw [e]
  unfold tripleV
  omega
set_option maxRecDepth 100000 in
set_option maxHeartbeats 3200000 in
theorem l3Triple3_any (v : Value) (b : BoxD) (hb : boxB b = true) (hX : b.X = 3) (hY : b.Y = 3) (w : World) (h : RdII w v b.Rows) :
    Calls Try.prog 142 #[.agg #[.int .i64 b.X, .int .i64 b.Y, .int .i64 b.Whole, v]] w fun e w' => e = .returned (.int .i64 (tripleV b)) ∧ Below w.heap.size w w' := by
  obtain ⟨hwh0, hwh1⟩ := (boxB_iff.1 hb).2.1
  have hlen : b.Rows.length = 9 := by have := (boxB_iff.1 hb).2.2.1; rw [hX, hY] at this; omega
  have PB := Lib.hid (fun k hk => boxB_path hb h k hk)
  have HY := Lib.hid hY
  obtain ⟨n0, p0, q0, r0, s0, hn0, -, -, hrow0, -, hp0, hq0, hr0, hs0, -, f00, f01, f02, f03⟩ := boxB_at hb 0 0 (by omega) (by omega)
  obtain ⟨n1, p1, q1, r1, s1, hn1, -, -, hrow1, -, hp1, hq1, hr1, hs1, -, f10, f11, f12, f13⟩ := boxB_at hb 0 1 (by omega) (by omega)
  obtain rfl : n0 = 0 := by simp at hn0; omega
  obtain rfl : n1 = 1 := by simp at hn1; omega
  have hst : tripleUp b 0 = -(r0 + s0) - 2 * (q0 + s0) - (q1 + s1) := by
    have e1 : oneB b 0 0 0 = r0 + s0 := by rw [oneB_0]; exact congr (congrArg _ f02) f03
    have e2 : oneB b 1 0 0 = q0 + s0 := by rw [oneB_1]; exact congr (congrArg _ f01) f03
    have e3 : oneB b 1 0 1 = q1 + s1 := by rw [oneB_1]; exact congr (congrArg _ f11) f13
    unfold tripleUp
    rw [e1, e2, e3]
  have HST := Lib.hid hst
  obtain ⟨av, ba, off, cap, rfl, hmx, ha, hc⟩ := h
  unfold maxLen at hmx
  obtain rfl := ha (by omega)
  obtain ⟨v0, cv0, hv0⟩ := hc 0 _ hrow0
  obtain ⟨a0, x0, y0, z0, rfl, -, ha0, hc0⟩ := hv0
  obtain rfl := ha0 (by simp)
  obtain ⟨v1, cv1, hv1⟩ := hc 1 _ hrow1
  obtain ⟨a1, x1, y1, z1, rfl, -, ha1, hc1⟩ := hv1
  obtain rfl := ha1 (by simp)
  have K0 := Lib.hid (show w.cell? ⟨x0, y0, none⟩ = some (.int .i64 p0) ∧ w.cell? ⟨x0, y0 + 1, none⟩ = some (.int .i64 q0) ∧ w.cell? ⟨x0, y0 + 2, none⟩ = some (.int .i64 r0) ∧ w.cell? ⟨x0, y0 + 3, none⟩ = some (.int .i64 s0) from And.intro (hc0 0 p0 rfl) (And.intro (hc0 1 q0 rfl) (And.intro (hc0 2 r0 rfl) (hc0 3 s0 rfl))))
  have K1 := Lib.hid (show w.cell? ⟨x1, y1, none⟩ = some (.int .i64 p1) ∧ w.cell? ⟨x1, y1 + 1, none⟩ = some (.int .i64 q1) ∧ w.cell? ⟨x1, y1 + 2, none⟩ = some (.int .i64 r1) ∧ w.cell? ⟨x1, y1 + 3, none⟩ = some (.int .i64 s1) from And.intro (hc1 0 p1 rfl) (And.intro (hc1 1 q1 rfl) (And.intro (hc1 2 r1 rfl) (hc1 3 s1 rfl))))
  replace cv0 : w.cell? ⟨ba, off, none⟩ = some (.slice (some ⟨x0, y0, none⟩) 4 z0) := cv0
  replace cv1 : w.cell? ⟨ba, off + 1, none⟩ = some (.slice (some ⟨x1, y1, none⟩) 4 z1) := cv1
  have lb := World.block_lt_of_cell? _ _ cv0
  simp only [] at lb
  have hw1 := wrap_in (-(r0 + s0)) (by omega) (by omega)
  have hw2 := wrap_in (2 * (q0 + s0)) (by omega) (by omega)
  have hw3 := wrap_in (-(r0 + s0) - 2 * (q0 + s0)) (by omega) (by omega)
  have hw4 := wrap_in (-(r0 + s0) - 2 * (q0 + s0) - (q1 + s1)) (by omega) (by omega)
  have hu0 : -8000 ≤ tripleUp b 0 ∧ tripleUp b 0 ≤ 8000 := by rw [hst]; omega
  have HU0 := Lib.hid hu0
  have HLEN := Lib.hid hlen
  clear hlen hst f00 f01 f02 f03 f10 f11 f12 f13 hn0 hn1 hrow0 hrow1 hc ha ha0 ha1 hc0 hc1 hX hY hu0
  go_enter Try.func142, Try.ntmps142
  go_wp2
  obtain ⟨w1, hw1e⟩ : ∃ w1, w1 = (w.alloc (.cells #[.int .i64 b.X, .int .i64 b.Y, .int .i64 b.Whole, .slice (some ⟨ba, off, none⟩) b.Rows.length cap] 44)).alloc (.cells #[.int .i64 1, .int .i64 1, .int .i64 1, .int .i64 1, .int .i64 1, .int .i64 (-1), .int .i64 1, .int .i64 (-1), .int .i64 0] 3) := ⟨_, rfl⟩
  have e3 : w1.cell? ⟨w.heap.size, 3, none⟩ = some (.slice (some ⟨ba, off, none⟩) b.Rows.length cap) := by rw [hw1e]; exact (by repeat' (first | with_reducible assumption | (refine cell_top ?_ rfl; first | with_reducible rfl | (simp only [World.size_alloc, World.size_setCell]; done)) | (refine cell_under ?_ ?_; (first | omega | (simp only [World.size_alloc, World.size_setCell]; omega))) | refine cell_drew ?_))
  have HSG := Lib.hid (show ∀ k, k < 9 → w1.cell? ⟨w.heap.size + 1, k, none⟩ = some (.int .i64 (sg k)) by
    intro k hk
    rw [hw1e]
    have : k = 0 ∨ k = 1 ∨ k = 2 ∨ k = 3 ∨ k = 4 ∨ k = 5 ∨ k = 6 ∨ k = 7 ∨ k = 8 := by omega
    rcases this with rfl | rfl | rfl | rfl | rfl | rfl | rfl | rfl | rfl <;> exact (by repeat' (first | with_reducible assumption | (refine cell_top ?_ rfl; first | with_reducible rfl | (simp only [World.size_alloc, World.size_setCell]; done)) | (refine cell_under ?_ ?_; (first | omega | (simp only [World.size_alloc, World.size_setCell]; omega))) | refine cell_drew ?_)))
  have B1 : Below w.heap.size w w1 := by rw [hw1e]; exact (by repeat' (first | with_reducible exact Below.refl _ _ | with_reducible assumption | with_reducible apply Below.alloc | with_reducible apply Below.setCell | with_reducible apply Below.drew | exact Nat.le_refl _ | omega | (simp only [World.size_alloc, World.size_setCell]; omega)))
  rw [← hw1e]
  have H1 := Lib.hid hw1e
  have KS := Lib.hid (fun (W : World) (h : Below w1.heap.size w1 W) => And.intro h (And.intro (keepCell h e3) (And.intro (keepAt (B1.trans (h.mono B1.size)) lb cv0) (keepAt (B1.trans (h.mono B1.size)) lb cv1))))
  have i0 : (0 : Int) < (b.Rows.length : Int) := by have := HLEN.out; omega
  have i1 : (1 : Int) < (b.Rows.length : Int) := by have := HLEN.out; omega
  have i2 : 0 < b.Rows.length := by omega
  have i3 : 1 < b.Rows.length := by omega
  clear hw1e cv0 cv1 e3
  go_region_held3 (fun W => Below w1.heap.size w1 W ∧ W.cell? ⟨w.heap.size, 3, none⟩ = some (.slice (some ⟨ba, off, none⟩) b.Rows.length cap) ∧ W.cell? ⟨ba, off, none⟩ = some (.slice (some ⟨x0, y0, none⟩) 4 z0) ∧ W.cell? ⟨ba, off + 1, none⟩ = some (.slice (some ⟨x1, y1, none⟩) 4 z1))
    (first | exact KS.out _ (Below.refl _ _).drew | exact KS.out _ hBn)
    (first
      | (go_at_call 120; have hS := And.left (by assumption : Below w1.heap.size w1 _ ∧ _); (with_reducible refine (l2One0_any x0 y0 z0 p0 q0 r0 s0 ⟨hr0.1, Int.le_trans hr0.2 hwh1⟩ ⟨hs0.1, Int.le_trans hs0.2 hwh1⟩ _ (cells4_at (B1.trans (hS.mono B1.size)) K0.out)).mono ?_); rintro e we ⟨rfl, bd⟩; have hBn := hS.trans (bd.below w1.heap.size))
      | (go_at_call 120; have hS := And.left (by assumption : Below w1.heap.size w1 _ ∧ _); (with_reducible refine (l2One1_any x0 y0 z0 p0 q0 r0 s0 ⟨hq0.1, Int.le_trans hq0.2 hwh1⟩ ⟨hs0.1, Int.le_trans hs0.2 hwh1⟩ _ (cells4_at (B1.trans (hS.mono B1.size)) K0.out)).mono ?_); rintro e we ⟨rfl, bd⟩; have hBn := hS.trans (bd.below w1.heap.size))
      | (go_at_call 120; have hS := And.left (by assumption : Below w1.heap.size w1 _ ∧ _); (with_reducible refine (l2One1_any x1 y1 z1 p1 q1 r1 s1 ⟨hq1.1, Int.le_trans hq1.2 hwh1⟩ ⟨hs1.1, Int.le_trans hs1.2 hwh1⟩ _ (cells4_at (B1.trans (hS.mono B1.size)) K1.out)).mono ?_); rintro e we ⟨rfl, bd⟩; have hBn := hS.trans (bd.below w1.heap.size)))
  obtain ⟨w2, rfl⟩ : ∃ w2 : World, w2 = we := ⟨_, rfl⟩
  obtain ⟨t0, ht0⟩ : ∃ t0 : Int, t0 = -(r0 + s0) - 2 * (q0 + s0) - (q1 + s1) := ⟨_, rfl⟩
  rw [← ht0]
  have HT0 := Lib.hid (show t0 = tripleUp b 0 by rw [HST.out, ht0])
  have hb0 := HU0.out
  rw [← HT0.out] at hb0
  obtain ⟨hb00, hb01⟩ := hb0
  clear ht0 hw1 hw2 hw3 hw4
  have BW := B1.trans (hBn.mono B1.size)
  go_wp2
  go_loopw [5, 4] (fun s u wr => ∃ (k : Nat) (t : Int), k ≤ 9 ∧ s = .int .i64 k ∧ u = .int .i64 t ∧ t = tripleUp b k ∧ -(8000 + 1000 * (k : Int)) ≤ t ∧ t ≤ 8000 + 1000 * (k : Int) ∧ Drw w2 wr) (fun s _ _ => 9 - (intOf s).toNat)
  case atStart => exact ⟨0, t0, by omega, rfl, rfl, HT0.out, by omega, by omega, Drw.refl _⟩
  case round =>
    obtain ⟨k, t, hk9, rfl, rfl, ht, ht0, ht1, hd⟩ := hrel
    have HT := Lib.hid ht
    clear ht
    by_cases hlt : k < 9
    · have hWr : Below w1.heap.size w1 wr := hBn.trans (hd.below _)
      obtain ⟨_, e3, _, _⟩ := KS.out _ hWr
      have hsg := keepCell hWr (HSG.out k hlt)
      obtain ⟨g0, g1⟩ := sg_bd k hlt
      obtain ⟨_, _, _, b2, o2, c2, ev, _, ck, lba, lb2, PK⟩ := PB.out k (by have := HLEN.out; omega)
      simp only [Value.slice.injEq, Option.some.injEq, Addr.mk.injEq, and_true, true_and] at ev
      obtain ⟨⟨rfl, rfl⟩, rfl⟩ := ev
      obtain ⟨x, cx, ⟨bx0, bx1⟩, nx, _⟩ := PK 3 (by omega)
      have cr := keepAt (B1.trans (hWr.mono B1.size)) lba ck
      have cx' := keepAt (B1.trans (hWr.mono B1.size)) lb2 cx
      have hn : n11 b (k / 3) (k % 3) = x := by
        have e := nx
        rw [HY.out] at e
        exact e
      have HN := Lib.hid hn
      obtain ⟨m0, m1⟩ := mul_bd (sg k) x 1 1000 ⟨g0, g1⟩ ⟨bx0, by omega⟩
      have hq1 := wrap_in (sg k * x) (by omega) (by omega)
      have hq2 := wrap_in (t + sg k * x) (by omega) (by omega)
      have hs : t + sg k * x = tripleUp b (k + 1) := by show _ = tripleUp b k + sg k * n11 b (k / 3) (k % 3); rw [hn, HT.out]
      have HS := Lib.hid hs
      have k0 : (0 : Int) ≤ (k : Int) := by omega
      have k1 : (k : Int) < 9 := by omega
      have k2 : (k : Int) < (b.Rows.length : Int) := by have := HLEN.out; omega
      have v0 : -(8000 + 1000 * ((k + 1 : Nat) : Int)) ≤ t + sg k * x := by omega
      have v1 : t + sg k * x ≤ 8000 + 1000 * ((k + 1 : Nat) : Int) := by omega
      have HV := Lib.hid (And.intro v0 v1)
      clear nx hn hs v0 v1 PK ck cx
      go_wp2
      go_quiet (fail)
      go_wp2
      go_roundw
      case rel => exact ⟨k + 1, t + sg k * x, by omega, by go_num, rfl, HS.out, HV.out.1, HV.out.2, hd.trans (Drw.mk _ _)⟩
      case measure => simp [intOf]; omega
    · obtain rfl : k = 9 := by omega
      go_wp2
      go_ret
      exact ⟨ret_int (by rw [← tripleUp_nine]; exact HT.out), BW.trans (hd.below _)⟩
theorem l3Triple_any (v : Value) (b : BoxD) (hk : tripleOk b = true) (w : World) (h : RdII w v b.Rows) :
    Calls Try.prog 142 #[.agg #[.int .i64 b.X, .int .i64 b.Y, .int .i64 b.Whole, v]] w fun e w' => e = .returned (.int .i64 (tripleV b)) ∧ Below w.heap.size w w' :=
  l3Triple3_any v b (tripleOk_iff.1 hk).1 (tripleOk_iff.1 hk).2.2.1 (tripleOk_iff.1 hk).2.2.2 w h
end Go.Proofs.Ytadnjljpceeolaa
