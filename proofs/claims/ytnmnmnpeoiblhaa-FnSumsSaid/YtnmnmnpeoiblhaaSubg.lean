/- SumOf: the tests of its arguments; contracts of the program's and the reference's functions. PlaysOf: contracts of the program's and the reference's function. -/
import Derived.Test.YtnmnmnpeoiblhaaSual
import Derived.Test.YtnmnmnpeoiblhaaSuam
set_option linter.unusedSimpArgs false
set_option linter.unusedVariables false
namespace Go.Proofs.Ytnmnmnpeoiblhaa
open Go.RowKit

def twoB (n a b : Int) : Bool := inB a 0 (n - 1) && inB b (a + 1) (n - 1)
theorem twoB_iff {n a b : Int} : twoB n a b = true ↔ 0 ≤ a ∧ a < b ∧ b < n := by
  unfold twoB
  simp only [Bool.and_eq_true, inB_iff]
  omega
theorem twoB_no {n a b : Int} (h : twoB n a b = false) : ¬ (0 ≤ a ∧ a < b ∧ b < n) := fun h' => by rw [twoB_iff.2 h'] at h; cases h
def sum4B (x y fa fb sa sb m : Int) : Bool := sizesB x y && isSumB x y fa fb sa sb m
set_option maxHeartbeats 400000 in
theorem l3Two_any (n a b : Int) (hn : 1 ≤ n ∧ n ≤ 3) (w : World) :
    Calls Try.prog 118 #[.int .i64 n, .agg #[.int .i64 a, .int .i64 b]] w fun e w' => e = .returned (.bool (twoB n a b)) ∧ Below w.heap.size w w' := by
  obtain ⟨hn0, hn1⟩ := hn
  unfold twoB
  rcases Bool.eq_false_or_eq_true (inB a 0 (n - 1)) with h1 | h1
  · obtain ⟨ha0, ha1⟩ := inB_iff.1 h1
    rw [h1]
    go_enter Try.func118, Try.ntmps118
    go_wp2_with (go_at_call 104; refine (l1In_any _ _ _ _).mono ?_; rintro e w' ⟨rfl, rfl⟩)
    go_ret
    exact ⟨rfl, (by repeat' (first | with_reducible exact Below.refl _ _ | with_reducible assumption | with_reducible apply Below.alloc | with_reducible apply Below.setCell | with_reducible apply Below.drew | exact Nat.le_refl _ | omega | (simp only [World.size_alloc, World.size_setCell]; omega)))⟩
  · rw [h1]
    go_enter Try.func118, Try.ntmps118
    go_wp2_with (go_at_call 104; refine (l1In_any _ _ _ _).mono ?_; rintro e w' ⟨rfl, rfl⟩)
    go_ret
    exact ⟨rfl, (by repeat' (first | with_reducible exact Below.refl _ _ | with_reducible assumption | with_reducible apply Below.alloc | with_reducible apply Below.setCell | with_reducible apply Below.drew | exact Nat.le_refl _ | omega | (simp only [World.size_alloc, World.size_setCell]; omega)))⟩
set_option maxHeartbeats 800000 in
theorem l3Four_any (x y fa fb sa sb m : Int) (w : World) :
    Calls Try.prog 87 #[.int .i64 x, .int .i64 y, .agg #[.int .i64 fa, .int .i64 fb], .agg #[.int .i64 sa, .int .i64 sb], .int .i64 m] w fun e w' => e = .returned (.bool (sum4B x y fa fb sa sb m)) ∧ Below w.heap.size w w' := by
  rcases Bool.eq_false_or_eq_true (sizesB x y) with h1 | h1
  · obtain ⟨hx, hy⟩ := sizesB_iff.1 h1
    have HF := Lib.hid (show sum4B x y fa fb sa sb m = isSumB x y fa fb sa sb m by unfold sum4B; rw [h1]; rfl)
    go_enter Try.func87, Try.ntmps87
    go_wp2_with (go_at_call 69; refine (l2Sizes_any _ _ _).mono ?_; rintro e w' ⟨rfl, rfl⟩)
    refine (l3Two_any x fa fb hx _).mono ?_
    rintro e w1 ⟨rfl, b1⟩
    have B1 : Below w.heap.size w w1 := Below.trans (by repeat' (first | with_reducible exact Below.refl _ _ | with_reducible assumption | with_reducible apply Below.alloc | with_reducible apply Below.setCell | with_reducible apply Below.drew | exact Nat.le_refl _ | omega | (simp only [World.size_alloc, World.size_setCell]; omega))) (b1.mono (by first | exact Nat.le_refl _ | omega | (simp only [World.size_alloc, World.size_setCell]; omega)))
    have d0 : w1.cell? ⟨w.heap.size + 1, 0, none⟩ = some (.int .i64 sa) := keepCell b1 (by repeat' (first | with_reducible assumption | (refine cell_top ?_ rfl; first | with_reducible rfl | (simp only [World.size_alloc, World.size_setCell]; done)) | (refine cell_under ?_ ?_; (first | omega | (simp only [World.size_alloc, World.size_setCell]; omega))) | refine cell_drew ?_))
    have d1 : w1.cell? ⟨w.heap.size + 1, 1, none⟩ = some (.int .i64 sb) := keepCell b1 (by repeat' (first | with_reducible assumption | (refine cell_top ?_ rfl; first | with_reducible rfl | (simp only [World.size_alloc, World.size_setCell]; done)) | (refine cell_under ?_ ?_; (first | omega | (simp only [World.size_alloc, World.size_setCell]; omega))) | refine cell_drew ?_))
    clear b1
    rcases Bool.eq_false_or_eq_true (twoB x fa fb) with h2 | h2
    · rw [h2]
      go_wp2_with fail
      refine (l3Two_any y sa sb hy _).mono ?_
      rintro e w2 ⟨rfl, b2⟩
      have B2 := B1.trans (b2.mono B1.size)
      rcases Bool.eq_false_or_eq_true (twoB y sa sb) with h3 | h3
      · have HZ := Lib.hid (show isSumB x y fa fb sa sb m = inB m 0 3 by
          have h2' := twoB_iff.1 h2
          have h3' := twoB_iff.1 h3
          rw [Bool.eq_iff_iff, isSumB_iff, inB_iff]
          omega)
        rw [h3]
        go_wp2_with (go_at_call 104; refine (l1In_any _ _ _ _).mono ?_; rintro e w' ⟨rfl, rfl⟩)
        go_ret
        exact ⟨ret_bool (by rw [HF.out, HZ.out]), B2⟩
      · have HZ := Lib.hid (show isSumB x y fa fb sa sb m = false from isSumB_no (by have := twoB_no h3; omega))
        rw [h3]
        go_wp2
        go_ret
        exact ⟨ret_bool (by rw [HF.out, HZ.out]), B2⟩
    · have HZ := Lib.hid (show isSumB x y fa fb sa sb m = false from isSumB_no (by have := twoB_no h2; omega))
      rw [h2]
      go_wp2
      go_ret
      exact ⟨ret_bool (by rw [HF.out, HZ.out]), B1⟩
  · have HF := Lib.hid (show sum4B x y fa fb sa sb m = false by unfold sum4B; rw [h1]; rfl)
    go_enter Try.func87, Try.ntmps87
    go_wp2_with (go_at_call 69; refine (l2Sizes_any _ _ _).mono ?_; rintro e w' ⟨rfl, rfl⟩)
    go_ret
    exact ⟨ret_bool HF.out.symm, (by repeat' (first | with_reducible exact Below.refl _ _ | with_reducible assumption | with_reducible apply Below.alloc | with_reducible apply Below.setCell | with_reducible apply Below.drew | exact Nat.le_refl _ | omega | (simp only [World.size_alloc, World.size_setCell]; omega)))⟩
set_option maxHeartbeats 1600000 in
theorem isSum_any (x y fa fb sa sb m : Int) (w : World) :
    Calls Try.prog 85 #[.int .i64 x, .int .i64 y, .agg #[.int .i64 fa, .int .i64 fb], .agg #[.int .i64 sa, .int .i64 sb], .int .i64 m] w fun e w' => e = .returned (.bool (isSumB x y fa fb sa sb m)) ∧ Below w.heap.size w w' := by
  by_cases h0 : 0 ≤ fa
  · skip
    by_cases h1 : fa < fb
    · skip
      by_cases h2 : fb < x
      · skip
        by_cases h3 : 0 ≤ sa
        · skip
          by_cases h4 : sa < sb
          · skip
            by_cases h5 : sb < y
            · skip
              have HZ := Lib.hid (show isSumB x y fa fb sa sb m = inB m 0 3 by rw [Bool.eq_iff_iff, isSumB_iff, inB_iff]; omega)
              go_enter Try.func85, Try.ntmps85
              go_wp2_with (go_at_call 82; refine (within_any _ _ _ _).mono ?_; rintro e w' ⟨rfl, rfl⟩)
              go_ret
              exact ⟨ret_bool HZ.out.symm, (by repeat' (first | with_reducible exact Below.refl _ _ | with_reducible assumption | with_reducible apply Below.alloc | with_reducible apply Below.setCell | with_reducible apply Below.drew | exact Nat.le_refl _ | omega | (simp only [World.size_alloc, World.size_setCell]; omega)))⟩
            · have HZ := Lib.hid (show isSumB x y fa fb sa sb m = false from isSumB_no (by omega))
              go_enter Try.func85, Try.ntmps85
              go_wp2
              go_ret
              exact ⟨ret_bool HZ.out.symm, (by repeat' (first | with_reducible exact Below.refl _ _ | with_reducible assumption | with_reducible apply Below.alloc | with_reducible apply Below.setCell | with_reducible apply Below.drew | exact Nat.le_refl _ | omega | (simp only [World.size_alloc, World.size_setCell]; omega)))⟩
          · have HZ := Lib.hid (show isSumB x y fa fb sa sb m = false from isSumB_no (by omega))
            go_enter Try.func85, Try.ntmps85
            go_wp2
            go_ret
            exact ⟨ret_bool HZ.out.symm, (by repeat' (first | with_reducible exact Below.refl _ _ | with_reducible assumption | with_reducible apply Below.alloc | with_reducible apply Below.setCell | with_reducible apply Below.drew | exact Nat.le_refl _ | omega | (simp only [World.size_alloc, World.size_setCell]; omega)))⟩
        · have HZ := Lib.hid (show isSumB x y fa fb sa sb m = false from isSumB_no (by omega))
          go_enter Try.func85, Try.ntmps85
          go_wp2
          go_ret
          exact ⟨ret_bool HZ.out.symm, (by repeat' (first | with_reducible exact Below.refl _ _ | with_reducible assumption | with_reducible apply Below.alloc | with_reducible apply Below.setCell | with_reducible apply Below.drew | exact Nat.le_refl _ | omega | (simp only [World.size_alloc, World.size_setCell]; omega)))⟩
      · have HZ := Lib.hid (show isSumB x y fa fb sa sb m = false from isSumB_no (by omega))
        go_enter Try.func85, Try.ntmps85
        go_wp2
        go_ret
        exact ⟨ret_bool HZ.out.symm, (by repeat' (first | with_reducible exact Below.refl _ _ | with_reducible assumption | with_reducible apply Below.alloc | with_reducible apply Below.setCell | with_reducible apply Below.drew | exact Nat.le_refl _ | omega | (simp only [World.size_alloc, World.size_setCell]; omega)))⟩
    · have HZ := Lib.hid (show isSumB x y fa fb sa sb m = false from isSumB_no (by omega))
      go_enter Try.func85, Try.ntmps85
      go_wp2
      go_ret
      exact ⟨ret_bool HZ.out.symm, (by repeat' (first | with_reducible exact Below.refl _ _ | with_reducible assumption | with_reducible apply Below.alloc | with_reducible apply Below.setCell | with_reducible apply Below.drew | exact Nat.le_refl _ | omega | (simp only [World.size_alloc, World.size_setCell]; omega)))⟩
  · have HZ := Lib.hid (show isSumB x y fa fb sa sb m = false from isSumB_no (by omega))
    go_enter Try.func85, Try.ntmps85
    go_wp2
    go_ret
    exact ⟨ret_bool HZ.out.symm, (by repeat' (first | with_reducible exact Below.refl _ _ | with_reducible assumption | with_reducible apply Below.alloc | with_reducible apply Below.setCell | with_reducible apply Below.drew | exact Nat.le_refl _ | omega | (simp only [World.size_alloc, World.size_setCell]; omega)))⟩
def sumOk (b : BoxD) (fa fb sa sb m : Int) : Bool := boxB b && isSumB b.X b.Y fa fb sa sb m
def sumD (b : BoxD) (fa fb sa sb m : Int) : Int := if sumOk b fa fb sa sb m then sumB b fa.toNat fb.toNat sa.toNat sb.toNat m else 0
theorem sum_nats {b : BoxD} {fa fb sa sb m : Int} (h : isSumB b.X b.Y fa fb sa sb m = true) : ∃ F0 F1 S0 S1 : Nat, fa = F0 ∧ fb = F1 ∧ sa = S0 ∧ sb = S1 ∧ (F0 < F1 ∧ (F1 : Int) < b.X) ∧ (S0 < S1 ∧ (S1 : Int) < b.Y) := by
  obtain ⟨h0, h1, h2, h3, h4, h5, _, _⟩ := isSumB_iff.1 h
  exact ⟨fa.toNat, fb.toNat, sa.toNat, sb.toNat, by omega, by omega, by omega, by omega, ⟨by omega, by omega⟩, ⟨by omega, by omega⟩⟩
set_option maxHeartbeats 1600000 in
theorem specSumOf_any (vb : Value) (b : BoxD) (fa fb sa sb m : Int) (w : World) (h : RdII w vb b.Rows) :
    Calls Try.prog 31 #[.agg #[.int .i64 b.X, .int .i64 b.Y, .int .i64 b.Whole, vb], .agg #[.int .i64 fa, .int .i64 fb], .agg #[.int .i64 sa, .int .i64 sb], .int .i64 m] w fun e w' => e = .returned (.tuple #[.int .i64 (sumD b fa fb sa sb m), .bool (sumOk b fa fb sa sb m)]) ∧ Below w.heap.size w w' := by
  go_enter Try.func31, Try.ntmps31
  go_wp2_with fail
  refine (l2Box_any vb b _ (h.kept (Nat.le_refl _) (by repeat' (first | with_reducible exact Below.refl _ _ | with_reducible assumption | with_reducible apply Below.alloc | with_reducible apply Below.setCell | with_reducible apply Below.drew | exact Nat.le_refl _ | omega | (simp only [World.size_alloc, World.size_setCell]; omega))))).mono ?_
  rintro e w1 ⟨rfl, b1⟩
  have B1 : Below w.heap.size w w1 := Below.trans (by repeat' (first | with_reducible exact Below.refl _ _ | with_reducible assumption | with_reducible apply Below.alloc | with_reducible apply Below.setCell | with_reducible apply Below.drew | exact Nat.le_refl _ | omega | (simp only [World.size_alloc, World.size_setCell]; omega))) (b1.mono (by first | exact Nat.le_refl _ | omega | (simp only [World.size_alloc, World.size_setCell]; omega)))
  have A1 : BoxAt w1 w.heap.size b.X b.Y b.Whole vb := ⟨keepCell b1 (by repeat' (first | with_reducible assumption | (refine cell_top ?_ rfl; first | with_reducible rfl | (simp only [World.size_alloc, World.size_setCell]; done)) | (refine cell_under ?_ ?_; (first | omega | (simp only [World.size_alloc, World.size_setCell]; omega))) | refine cell_drew ?_)), keepCell b1 (by repeat' (first | with_reducible assumption | (refine cell_top ?_ rfl; first | with_reducible rfl | (simp only [World.size_alloc, World.size_setCell]; done)) | (refine cell_under ?_ ?_; (first | omega | (simp only [World.size_alloc, World.size_setCell]; omega))) | refine cell_drew ?_)), keepCell b1 (by repeat' (first | with_reducible assumption | (refine cell_top ?_ rfl; first | with_reducible rfl | (simp only [World.size_alloc, World.size_setCell]; done)) | (refine cell_under ?_ ?_; (first | omega | (simp only [World.size_alloc, World.size_setCell]; omega))) | refine cell_drew ?_)), keepCell b1 (by repeat' (first | with_reducible assumption | (refine cell_top ?_ rfl; first | with_reducible rfl | (simp only [World.size_alloc, World.size_setCell]; done)) | (refine cell_under ?_ ?_; (first | omega | (simp only [World.size_alloc, World.size_setCell]; omega))) | refine cell_drew ?_))⟩
  have c0 : w1.cell? ⟨w.heap.size + 1, 0, none⟩ = some (.int .i64 fa) := keepCell b1 (by repeat' (first | with_reducible assumption | (refine cell_top ?_ rfl; first | with_reducible rfl | (simp only [World.size_alloc, World.size_setCell]; done)) | (refine cell_under ?_ ?_; (first | omega | (simp only [World.size_alloc, World.size_setCell]; omega))) | refine cell_drew ?_))
  have c1 : w1.cell? ⟨w.heap.size + 1, 1, none⟩ = some (.int .i64 fb) := keepCell b1 (by repeat' (first | with_reducible assumption | (refine cell_top ?_ rfl; first | with_reducible rfl | (simp only [World.size_alloc, World.size_setCell]; done)) | (refine cell_under ?_ ?_; (first | omega | (simp only [World.size_alloc, World.size_setCell]; omega))) | refine cell_drew ?_))
  have d0 : w1.cell? ⟨w.heap.size + 1 + 1, 0, none⟩ = some (.int .i64 sa) := keepCell b1 (by repeat' (first | with_reducible assumption | (refine cell_top ?_ rfl; first | with_reducible rfl | (simp only [World.size_alloc, World.size_setCell]; done)) | (refine cell_under ?_ ?_; (first | omega | (simp only [World.size_alloc, World.size_setCell]; omega))) | refine cell_drew ?_))
  have d1 : w1.cell? ⟨w.heap.size + 1 + 1, 1, none⟩ = some (.int .i64 sb) := keepCell b1 (by repeat' (first | with_reducible assumption | (refine cell_top ?_ rfl; first | with_reducible rfl | (simp only [World.size_alloc, World.size_setCell]; done)) | (refine cell_under ?_ ?_; (first | omega | (simp only [World.size_alloc, World.size_setCell]; omega))) | refine cell_drew ?_))
  clear b1
  rcases Bool.eq_false_or_eq_true (boxB b) with hok | hok
  · have HM := Lib.hid hok
    have AA := A1
    obtain ⟨a0, a1, a2, a3⟩ := AA
    have hsz := boxB_sizes hok
    rw [hok]
    clear hok
    go_wp2_with fail
    refine (l3Four_any b.X b.Y fa fb sa sb m _).mono ?_
    rintro e w2 ⟨rfl, b2⟩
    have B2 := B1.trans (b2.mono B1.size)
    replace A1 := A1.kept b2 A1.lt
    replace c0 := keepCell b2 c0
    replace c1 := keepCell b2 c1
    replace d0 := keepCell b2 d0
    replace d1 := keepCell b2 d1
    clear a0 a1 a2 a3 b2
    rw [show sum4B b.X b.Y fa fb sa sb m = isSumB b.X b.Y fa fb sa sb m by unfold sum4B; rw [hsz]; rfl]
    rcases Bool.eq_false_or_eq_true (isSumB b.X b.Y fa fb sa sb m) with hs | hs
    · obtain ⟨F0, F1, S0, S1, rfl, rfl, rfl, rfl, hF, hS⟩ := sum_nats hs
      have hO : sumOk b F0 F1 S0 S1 m = true := by unfold sumOk; rw [HM.out, hs]; rfl
      have HO := Lib.hid hO
      have HD := Lib.hid (show sumD b F0 F1 S0 S1 m = sumB b F0 F1 S0 S1 m by unfold sumD; rw [hO]; rfl)
      obtain ⟨a0, a1, a2, a3⟩ := A1
      rw [hs]
      clear hs hO
      go_wp2_with fail
      refine (l3Sum_any vb b HM.out F0 F1 S0 S1 m hF hS _ (h.kept (Nat.le_refl _) B2)).mono ?_
      rintro e w3 ⟨rfl, b3⟩
      have B3 := B2.trans (b3.mono B2.size)
      go_wp2
      refine bodyPost_ret (v := .tuple #[.int .i64 (sumB b F0 F1 S0 S1 m), .bool true]) (by simp [results, Try.results31, go_sem]) rfl ⟨by rw [HD.out, HO.out], B3⟩
    · have hO : sumOk b fa fb sa sb m = false := by unfold sumOk; rw [HM.out, hs]; rfl
      have HO := Lib.hid hO
      have HD := Lib.hid (show sumD b fa fb sa sb m = 0 by unfold sumD; rw [hO]; rfl)
      rw [hs]
      clear hs hO
      go_wp2
      refine bodyPost_ret (v := .tuple #[.int .i64 0, .bool false]) (by simp [results, Try.results31, go_sem]) rfl ⟨by rw [HD.out, HO.out], B2⟩
  · have hO : sumOk b fa fb sa sb m = false := by unfold sumOk; rw [hok]; rfl
    have HO := Lib.hid hO
    have HD := Lib.hid (show sumD b fa fb sa sb m = 0 by unfold sumD; rw [hO]; rfl)
    rw [hok]
    clear hok hO
    go_wp2
    refine bodyPost_ret (v := .tuple #[.int .i64 0, .bool false]) (by simp [results, Try.results31, go_sem]) rfl ⟨by rw [HD.out, HO.out], B1⟩
set_option maxHeartbeats 1600000 in
theorem implSumOf_any (vb : Value) (b : BoxD) (fa fb sa sb m : Int) (w : World) (h : RdII w vb b.Rows) :
    Calls Try.prog 30 #[.agg #[.int .i64 b.X, .int .i64 b.Y, .int .i64 b.Whole, vb], .agg #[.int .i64 fa, .int .i64 fb], .agg #[.int .i64 sa, .int .i64 sb], .int .i64 m] w fun e w' => e = .returned (.tuple #[.int .i64 (sumD b fa fb sa sb m), .bool (sumOk b fa fb sa sb m)]) ∧ Below w.heap.size w w' := by
  go_enter Try.func30, Try.ntmps30
  go_wp2_with fail
  refine (implIsBox_any vb b _ (h.kept (Nat.le_refl _) (by repeat' (first | with_reducible exact Below.refl _ _ | with_reducible assumption | with_reducible apply Below.alloc | with_reducible apply Below.setCell | with_reducible apply Below.drew | exact Nat.le_refl _ | omega | (simp only [World.size_alloc, World.size_setCell]; omega))))).mono ?_
  rintro e w1 ⟨rfl, b1⟩
  have B1 : Below w.heap.size w w1 := Below.trans (by repeat' (first | with_reducible exact Below.refl _ _ | with_reducible assumption | with_reducible apply Below.alloc | with_reducible apply Below.setCell | with_reducible apply Below.drew | exact Nat.le_refl _ | omega | (simp only [World.size_alloc, World.size_setCell]; omega))) (b1.mono (by first | exact Nat.le_refl _ | omega | (simp only [World.size_alloc, World.size_setCell]; omega)))
  have A1 : BoxAt w1 w.heap.size b.X b.Y b.Whole vb := ⟨keepCell b1 (by repeat' (first | with_reducible assumption | (refine cell_top ?_ rfl; first | with_reducible rfl | (simp only [World.size_alloc, World.size_setCell]; done)) | (refine cell_under ?_ ?_; (first | omega | (simp only [World.size_alloc, World.size_setCell]; omega))) | refine cell_drew ?_)), keepCell b1 (by repeat' (first | with_reducible assumption | (refine cell_top ?_ rfl; first | with_reducible rfl | (simp only [World.size_alloc, World.size_setCell]; done)) | (refine cell_under ?_ ?_; (first | omega | (simp only [World.size_alloc, World.size_setCell]; omega))) | refine cell_drew ?_)), keepCell b1 (by repeat' (first | with_reducible assumption | (refine cell_top ?_ rfl; first | with_reducible rfl | (simp only [World.size_alloc, World.size_setCell]; done)) | (refine cell_under ?_ ?_; (first | omega | (simp only [World.size_alloc, World.size_setCell]; omega))) | refine cell_drew ?_)), keepCell b1 (by repeat' (first | with_reducible assumption | (refine cell_top ?_ rfl; first | with_reducible rfl | (simp only [World.size_alloc, World.size_setCell]; done)) | (refine cell_under ?_ ?_; (first | omega | (simp only [World.size_alloc, World.size_setCell]; omega))) | refine cell_drew ?_))⟩
  have c0 : w1.cell? ⟨w.heap.size + 1, 0, none⟩ = some (.int .i64 fa) := keepCell b1 (by repeat' (first | with_reducible assumption | (refine cell_top ?_ rfl; first | with_reducible rfl | (simp only [World.size_alloc, World.size_setCell]; done)) | (refine cell_under ?_ ?_; (first | omega | (simp only [World.size_alloc, World.size_setCell]; omega))) | refine cell_drew ?_))
  have c1 : w1.cell? ⟨w.heap.size + 1, 1, none⟩ = some (.int .i64 fb) := keepCell b1 (by repeat' (first | with_reducible assumption | (refine cell_top ?_ rfl; first | with_reducible rfl | (simp only [World.size_alloc, World.size_setCell]; done)) | (refine cell_under ?_ ?_; (first | omega | (simp only [World.size_alloc, World.size_setCell]; omega))) | refine cell_drew ?_))
  have d0 : w1.cell? ⟨w.heap.size + 1 + 1, 0, none⟩ = some (.int .i64 sa) := keepCell b1 (by repeat' (first | with_reducible assumption | (refine cell_top ?_ rfl; first | with_reducible rfl | (simp only [World.size_alloc, World.size_setCell]; done)) | (refine cell_under ?_ ?_; (first | omega | (simp only [World.size_alloc, World.size_setCell]; omega))) | refine cell_drew ?_))
  have d1 : w1.cell? ⟨w.heap.size + 1 + 1, 1, none⟩ = some (.int .i64 sb) := keepCell b1 (by repeat' (first | with_reducible assumption | (refine cell_top ?_ rfl; first | with_reducible rfl | (simp only [World.size_alloc, World.size_setCell]; done)) | (refine cell_under ?_ ?_; (first | omega | (simp only [World.size_alloc, World.size_setCell]; omega))) | refine cell_drew ?_))
  clear b1
  rcases Bool.eq_false_or_eq_true (boxB b) with hok | hok
  · have HM := Lib.hid hok
    have AA := A1
    obtain ⟨a0, a1, a2, a3⟩ := AA
    have hsz := boxB_sizes hok
    rw [hok]
    clear hok
    go_wp2_with fail
    refine (isSum_any b.X b.Y fa fb sa sb m _).mono ?_
    rintro e w2 ⟨rfl, b2⟩
    have B2 := B1.trans (b2.mono B1.size)
    replace A1 := A1.kept b2 A1.lt
    replace c0 := keepCell b2 c0
    replace c1 := keepCell b2 c1
    replace d0 := keepCell b2 d0
    replace d1 := keepCell b2 d1
    clear a0 a1 a2 a3 b2
    skip
    rcases Bool.eq_false_or_eq_true (isSumB b.X b.Y fa fb sa sb m) with hs | hs
    · obtain ⟨F0, F1, S0, S1, rfl, rfl, rfl, rfl, hF, hS⟩ := sum_nats hs
      have hO : sumOk b F0 F1 S0 S1 m = true := by unfold sumOk; rw [HM.out, hs]; rfl
      have HO := Lib.hid hO
      have HD := Lib.hid (show sumD b F0 F1 S0 S1 m = sumB b F0 F1 S0 S1 m by unfold sumD; rw [hO]; rfl)
      obtain ⟨a0, a1, a2, a3⟩ := A1
      rw [hs]
      clear hs hO
      go_wp2_with fail
      refine (sum_any vb b HM.out F0 F1 S0 S1 m hF hS _ (h.kept (Nat.le_refl _) B2)).mono ?_
      rintro e w3 ⟨rfl, b3⟩
      have B3 := B2.trans (b3.mono B2.size)
      go_wp2
      refine bodyPost_ret (v := .tuple #[.int .i64 (sumB b F0 F1 S0 S1 m), .bool true]) (by simp [results, Try.results30, go_sem]) rfl ⟨by rw [HD.out, HO.out], B3⟩
    · have hO : sumOk b fa fb sa sb m = false := by unfold sumOk; rw [HM.out, hs]; rfl
      have HO := Lib.hid hO
      have HD := Lib.hid (show sumD b fa fb sa sb m = 0 by unfold sumD; rw [hO]; rfl)
      rw [hs]
      clear hs hO
      go_wp2
      refine bodyPost_ret (v := .tuple #[.int .i64 0, .bool false]) (by simp [results, Try.results30, go_sem]) rfl ⟨by rw [HD.out, HO.out], B2⟩
  · have hO : sumOk b fa fb sa sb m = false := by unfold sumOk; rw [hok]; rfl
    have HO := Lib.hid hO
    have HD := Lib.hid (show sumD b fa fb sa sb m = 0 by unfold sumD; rw [hO]; rfl)
    rw [hok]
    clear hok hO
    go_wp2
    refine bodyPost_ret (v := .tuple #[.int .i64 0, .bool false]) (by simp [results, Try.results30, go_sem]) rfl ⟨by rw [HD.out, HO.out], B1⟩
end Go.Proofs.Ytnmnmnpeoiblhaa
set_option linter.unusedSimpArgs false
set_option linter.unusedVariables false
namespace Go.Proofs.Ytnmnmnpeoiblhaa
open Go.RowKit

/-- A call handed back rows of its own and a bool. -/
def RowsRes (w : World) (rss : List (List Int)) (ok : Bool) (e : Ending) (w' : World) : Prop :=
  ∃ a c vs, e = .returned (.tuple #[.slice a rss.length c, .bool ok]) ∧ OwnII 27 3 w.heap.size w'.heap.size w' (.slice a rss.length c) rss vs ∧ Below w.heap.size w w'
theorem RowsRes.zero {w w' : World} (h : Below w.heap.size w w') : RowsRes w [] false (.returned (.tuple #[.slice none 0 0, .bool false])) w' :=
  ⟨none, 0, [], rfl, OwnII.nil _ _ _ _ _, h⟩

theorem sumLen_bound (rss : List (List Int)) (m : Nat) (h : ∀ (j : Nat) (rs : List Int), rss[j]? = some rs → rs.length ≤ m) : sumLen rss ≤ m * rss.length := by
  induction rss with
  | nil => simp [sumLen]
  | cons r t ih =>
    have h0 := h 0 r rfl
    have h1 := ih (fun j rs hj => h (j + 1) rs (by simpa using hj))
    simp only [sumLen, List.map_cons, List.sum_cons, List.length_cons] at h1 ⊢
    rw [Nat.mul_add, Nat.mul_one]
    omega

theorem playsTo_size (n k : Nat) (hn : n ≤ 6) (hk : k ≤ 64) : (playsTo n k).length + sumLen (playsTo n k) ≤ 4194304 := by
  have h1 := sumLen_bound (playsTo n k) 6 (fun j rs hj => by
    unfold playsTo at hj
    rw [List.getElem?_map] at hj
    obtain ⟨c, _, rfl⟩ := Option.map_eq_some_iff.1 hj
    simp [bitsTo]; omega)
  have h2 : (playsTo n k).length = k := by simp [playsTo]
  omega

end Go.Proofs.Ytnmnmnpeoiblhaa
