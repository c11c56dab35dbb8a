/- IsQuiet and FirstLoud: contracts of the program's and the reference's functions. Lists by places; the sums for the answer 1 in order; the play of a box; the worth of a play. -/
import Derived.Test.YtadnjljpceeolaaLobb
import Derived.Test.YtadnjljpceeolaaLoaz
set_option linter.unusedSimpArgs false
set_option linter.unusedVariables false
namespace Go.Proofs.Ytadnjljpceeolaa
open Go.RowKit

def quietB (b : BoxD) : Bool := (loudF b).isNone
theorem loudS_neg (b : BoxD) : decide ((loudS b).1 < 0) = quietB b := by
  unfold loudS quietB
  cases loudF b with
  | none => rfl
  | some p => simp <;> omega
theorem loudI_quiet (b : BoxD) : (loudI b).2.2 = !quietB b := by
  unfold loudI quietB
  cases loudF b <;> rfl

set_option maxHeartbeats 800000 in
theorem l2Quiet_any (v : Value) (b : BoxD) (hb : boxB b = true) (w : World) (h : RdII w v b.Rows) :
    Calls Try.prog 140 #[.agg #[.int .i64 b.X, .int .i64 b.Y, .int .i64 b.Whole, v]] w fun e w' => e = .returned (.bool (quietB b)) ∧ Below w.heap.size w w' := by
  have hs := loudS_neg b
  go_enter Try.func140, Try.ntmps140
  go_wp2_with fail
  refine (l2Loud_any v b hb _ (h.kept (Nat.le_refl _) (by repeat' (first | with_reducible exact Below.refl _ _ | with_reducible assumption | with_reducible apply Below.alloc | with_reducible apply Below.setCell | with_reducible apply Below.drew | exact Nat.le_refl _ | omega | (simp only [World.size_alloc, World.size_setCell]; omega))))).mono ?_
  rintro e w1 ⟨rfl, b1⟩
  have B1 : Below w.heap.size w w1 := Below.trans (by repeat' (first | with_reducible exact Below.refl _ _ | with_reducible assumption | with_reducible apply Below.alloc | with_reducible apply Below.setCell | with_reducible apply Below.drew | exact Nat.le_refl _ | omega | (simp only [World.size_alloc, World.size_setCell]; omega))) (b1.mono (by first | exact Nat.le_refl _ | omega | (simp only [World.size_alloc, World.size_setCell]; omega)))
  generalize (loudS b).1 = s1 at *
  generalize (loudS b).2 = s2 at *
  have HS := Lib.hid hs
  clear hs
  by_cases hn : s1 < 0
  · go_wp2
    go_ret
    exact ⟨ret_bool (by rw [← HS.out, decide_eq_true hn]), B1⟩
  · go_wp2
    go_ret
    exact ⟨ret_bool (by rw [← HS.out]; first | done | exact (decide_eq_false (by omega)).symm), B1⟩
def isQuietD (b : BoxD) : Bool := boxB b && quietB b
set_option maxHeartbeats 800000 in
theorem isQuiet_any (v : Value) (b : BoxD) (w : World) (h : RdII w v b.Rows) :
    Calls Try.prog 124 #[.agg #[.int .i64 b.X, .int .i64 b.Y, .int .i64 b.Whole, v]] w fun e w' => e = .returned (.bool (boxB b && quietB b)) ∧ Below w.heap.size w w' := by
  go_enter Try.func124, Try.ntmps124
  go_wp2_with fail
  refine (implIsBox_any v b _ (h.kept (Nat.le_refl _) (by repeat' (first | with_reducible exact Below.refl _ _ | with_reducible assumption | with_reducible apply Below.alloc | with_reducible apply Below.setCell | with_reducible apply Below.drew | exact Nat.le_refl _ | omega | (simp only [World.size_alloc, World.size_setCell]; omega))))).mono ?_
  rintro e w1 ⟨rfl, b1⟩
  have B1 : Below w.heap.size w w1 := Below.trans (by repeat' (first | with_reducible exact Below.refl _ _ | with_reducible assumption | with_reducible apply Below.alloc | with_reducible apply Below.setCell | with_reducible apply Below.drew | exact Nat.le_refl _ | omega | (simp only [World.size_alloc, World.size_setCell]; omega))) (b1.mono (by first | exact Nat.le_refl _ | omega | (simp only [World.size_alloc, World.size_setCell]; omega)))
  have A1 : BoxAt w1 w.heap.size b.X b.Y b.Whole v := ⟨keepCell b1 (by repeat' (first | with_reducible assumption | (refine cell_top ?_ rfl; first | with_reducible rfl | (simp only [World.size_alloc, World.size_setCell]; done)) | (refine cell_under ?_ ?_; (first | omega | (simp only [World.size_alloc, World.size_setCell]; omega))) | refine cell_drew ?_)), keepCell b1 (by repeat' (first | with_reducible assumption | (refine cell_top ?_ rfl; first | with_reducible rfl | (simp only [World.size_alloc, World.size_setCell]; done)) | (refine cell_under ?_ ?_; (first | omega | (simp only [World.size_alloc, World.size_setCell]; omega))) | refine cell_drew ?_)), keepCell b1 (by repeat' (first | with_reducible assumption | (refine cell_top ?_ rfl; first | with_reducible rfl | (simp only [World.size_alloc, World.size_setCell]; done)) | (refine cell_under ?_ ?_; (first | omega | (simp only [World.size_alloc, World.size_setCell]; omega))) | refine cell_drew ?_)), keepCell b1 (by repeat' (first | with_reducible assumption | (refine cell_top ?_ rfl; first | with_reducible rfl | (simp only [World.size_alloc, World.size_setCell]; done)) | (refine cell_under ?_ ?_; (first | omega | (simp only [World.size_alloc, World.size_setCell]; omega))) | refine cell_drew ?_))⟩
  clear b1
  rcases Bool.eq_false_or_eq_true (boxB b) with hok | hok
  · obtain ⟨a0, a1, a2, a3⟩ := A1
    have HM := Lib.hid hok
    rw [hok]
    clear hok
    go_wp2_with fail
    refine (loud_any v b HM.out _ (h.kept (Nat.le_refl _) B1)).mono ?_
    rintro e w2 ⟨rfl, b2⟩
    have B2 := B1.trans (b2.mono B1.size)
    have hq := loudI_quiet b
    have HQ := Lib.hid hq
    generalize (loudI b).2.2 = q3 at *
    clear hq
    go_wp2
    go_ret
    exact ⟨ret_bool (by rw [HQ.out, HM.out]; simp), B2⟩
  · have HM := Lib.hid hok
    rw [hok]
    clear hok
    go_wp2
    go_ret
    exact ⟨ret_bool (by rw [HM.out]; rfl), B1⟩
set_option maxHeartbeats 800000 in
theorem implIsQuiet_any (v : Value) (b : BoxD) (w : World) (h : RdII w v b.Rows) :
    Calls Try.prog 51 #[.agg #[.int .i64 b.X, .int .i64 b.Y, .int .i64 b.Whole, v]] w fun e w' => e = .returned (.tuple #[.bool (isQuietD b), .bool (boxB b)]) ∧ Below w.heap.size w w' := by
  go_enter Try.func51, Try.ntmps51
  go_wp2_with fail
  refine (implIsBox_any v b _ (h.kept (Nat.le_refl _) (by repeat' (first | with_reducible exact Below.refl _ _ | with_reducible assumption | with_reducible apply Below.alloc | with_reducible apply Below.setCell | with_reducible apply Below.drew | exact Nat.le_refl _ | omega | (simp only [World.size_alloc, World.size_setCell]; omega))))).mono ?_
  rintro e w1 ⟨rfl, b1⟩
  have B1 : Below w.heap.size w w1 := Below.trans (by repeat' (first | with_reducible exact Below.refl _ _ | with_reducible assumption | with_reducible apply Below.alloc | with_reducible apply Below.setCell | with_reducible apply Below.drew | exact Nat.le_refl _ | omega | (simp only [World.size_alloc, World.size_setCell]; omega))) (b1.mono (by first | exact Nat.le_refl _ | omega | (simp only [World.size_alloc, World.size_setCell]; omega)))
  have A1 : BoxAt w1 w.heap.size b.X b.Y b.Whole v := ⟨keepCell b1 (by repeat' (first | with_reducible assumption | (refine cell_top ?_ rfl; first | with_reducible rfl | (simp only [World.size_alloc, World.size_setCell]; done)) | (refine cell_under ?_ ?_; (first | omega | (simp only [World.size_alloc, World.size_setCell]; omega))) | refine cell_drew ?_)), keepCell b1 (by repeat' (first | with_reducible assumption | (refine cell_top ?_ rfl; first | with_reducible rfl | (simp only [World.size_alloc, World.size_setCell]; done)) | (refine cell_under ?_ ?_; (first | omega | (simp only [World.size_alloc, World.size_setCell]; omega))) | refine cell_drew ?_)), keepCell b1 (by repeat' (first | with_reducible assumption | (refine cell_top ?_ rfl; first | with_reducible rfl | (simp only [World.size_alloc, World.size_setCell]; done)) | (refine cell_under ?_ ?_; (first | omega | (simp only [World.size_alloc, World.size_setCell]; omega))) | refine cell_drew ?_)), keepCell b1 (by repeat' (first | with_reducible assumption | (refine cell_top ?_ rfl; first | with_reducible rfl | (simp only [World.size_alloc, World.size_setCell]; done)) | (refine cell_under ?_ ?_; (first | omega | (simp only [World.size_alloc, World.size_setCell]; omega))) | refine cell_drew ?_))⟩
  clear b1
  rcases Bool.eq_false_or_eq_true (boxB b) with hok | hok
  · obtain ⟨a0, a1, a2, a3⟩ := A1
    have HM := Lib.hid hok
    rw [hok]
    clear hok
    go_wp2_with fail
    refine (isQuiet_any v b _ (h.kept (Nat.le_refl _) B1)).mono ?_
    rintro e w2 ⟨rfl, b2⟩
    have B2 := B1.trans (b2.mono B1.size)
    rw [HM.out]
    go_wp2
    refine bodyPost_ret (v := .tuple #[.bool (true && quietB b), .bool true]) (by simp [results, Try.results51, go_sem]) rfl ⟨by unfold isQuietD; rw [HM.out], B2⟩
  · have HM := Lib.hid hok
    rw [hok]
    clear hok
    go_wp2
    refine bodyPost_ret (v := .tuple #[.bool false, .bool false]) (by simp [results, Try.results51, go_sem]) rfl ⟨by unfold isQuietD; rw [HM.out]; rfl, B1⟩
def firstD (b : BoxD) : Int × Int × Bool := if boxB b then loudI b else (0, 0, false)
end Go.Proofs.Ytadnjljpceeolaa
set_option linter.unusedSimpArgs false
set_option linter.unusedVariables false
namespace Go.Proofs.Ytadnjljpceeolaa
open Go.RowKit

def seqTo (f : Nat → Int) (n : Nat) : List Int := (List.range n).map f
theorem seqTo_zero (f : Nat → Int) : seqTo f 0 = [] := rfl
theorem seqTo_succ (f : Nat → Int) (n : Nat) : seqTo f (n + 1) = seqTo f n ++ [f n] := by unfold seqTo; simp [List.range_succ]
theorem seqTo_len (f : Nat → Int) (n : Nat) : (seqTo f n).length = n := by simp [seqTo]
theorem seqTo_get (f : Nat → Int) (n k : Nat) (h : k < n) : (seqTo f n)[k]? = some (f k) := by simp [seqTo, h]
theorem seqTo_ints (f : Nat → Int) (n : Nat) (x : Int) (h : f n = x) : ints (seqTo f n) ++ [Value.int .i64 x] = ints (seqTo f (n + 1)) := by rw [seqTo_succ, h]; simp [ints]

def countAt (b : BoxD) (k : Nat) : Int := if (k : Int) < b.X then oneB b 0 k 0 else oneB b 1 0 (k - b.X.toNat)
theorem countAt_x {b : BoxD} {k : Nat} (h : (k : Int) < b.X) : countAt b k = oneB b 0 k 0 := by unfold countAt; rw [if_pos h]
theorem countAt_y {b : BoxD} {k n : Nat} (h : 0 ≤ b.X) (hn : b.X.toNat + k = n) : countAt b n = oneB b 1 0 k := by
  unfold countAt
  rw [if_neg (by omega)]
  congr 1
  omega
theorem countAt_bd {b : BoxD} (hb : boxB b = true) (k : Nat) (h : (k : Int) < b.X + b.Y) : 0 ≤ countAt b k ∧ countAt b k ≤ b.Whole := by
  obtain ⟨⟨hx0, hx1⟩, hy0, hy1⟩ := (boxB_iff.1 hb).1
  by_cases hk : (k : Int) < b.X
  · rw [countAt_x hk]
    exact oneB_bd hb 0 k 0 hk (by omega)
  · rw [countAt_y (k := k - b.X.toNat) (by omega) (by omega)]
    exact oneB_bd hb 1 0 _ (by omega) (by omega)
def playAt (b : BoxD) (k : Nat) : Int := countAt b k / b.Whole
theorem playAt_bd {b : BoxD} (hb : boxB b = true) (k : Nat) (h : (k : Int) < b.X + b.Y) : 0 ≤ playAt b k ∧ playAt b k ≤ 1 := by
  obtain ⟨h0, h1⟩ := countAt_bd hb k h
  have hw := (boxB_iff.1 hb).2.1
  unfold playAt
  refine ⟨Int.ediv_nonneg h0 (by omega), ?_⟩
  have : countAt b k / b.Whole < 2 := Int.ediv_lt_of_lt_mul (by omega) (by omega)
  omega
def countsL (b : BoxD) : List Int := seqTo (countAt b) (b.X.toNat + b.Y.toNat)
def playL (b : BoxD) : List Int := seqTo (playAt b) (b.X.toNat + b.Y.toNat)
theorem playL_bits {b : BoxD} (hb : boxB b = true) : bitsB (playL b) (b.X + b.Y) = true := by
  obtain ⟨⟨hx0, hx1⟩, hy0, hy1⟩ := (boxB_iff.1 hb).1
  refine bits_iff.2 ⟨allIn_true (fun j x hx => ?_), ?_⟩
  · have hj : j < b.X.toNat + b.Y.toNat := by
      have := (List.getElem?_eq_some_iff.1 hx).1
      simpa [playL, seqTo_len] using this
    unfold playL at hx
    rw [seqTo_get _ _ _ hj] at hx
    cases hx
    exact inB_iff.2 (playAt_bd hb j (by omega))
  · simp [playL, seqTo_len]; omega
/-- A list of numbers by places that is being filled. -/
theorem ones_div (x y : Int) (h0 : 0 ≤ x) (h1 : x ≤ 1000000) (y0 : 1 ≤ y) : x / y ≥ 0 ∧ x / y ≤ 1000000 := by
  refine ⟨Int.ediv_nonneg h0 (by omega), ?_⟩
  have := Int.ediv_le_self y h0
  omega
end Go.Proofs.Ytadnjljpceeolaa
