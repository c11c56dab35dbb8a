/- Sums of agreements: contracts of the program's and the reference's functions. -/
import Derived.Test.YtnmnmnpeoiblhaaSuai
import Derived.Test.YtnmnmnpeoiblhaaSuak
set_option linter.unusedSimpArgs false
set_option linter.unusedVariables false
namespace Go.Proofs.Ytnmnmnpeoiblhaa
open Go.RowKit

def agB (b : BoxD) (i j : Nat) : Int := numB b i j 0 0 - numB b i j 0 1 - numB b i j 1 0 + numB b i j 1 1
def agK (b : BoxD) (F0 F1 S0 S1 : Nat) (k : Nat) : Int := agB b (if k / 2 = 0 then F0 else F1) (if k % 2 = 0 then S0 else S1)
def sumUp (a : Nat → Int) (m : Int) : Nat → Int
  | 0 => 0
  | k + 1 => sumUp a m k + (if (k : Int) = m then -(a k) else a k)
theorem sumUp_neg {a : Nat → Int} {m : Int} {k : Nat} {u z : Int} (hu : u = sumUp a m k) (hz : a k = z) (h : (k : Int) = m) : u + -z = sumUp a m (k + 1) := by
  subst hu hz; show _ = _ + (if _ then _ else _); rw [if_pos h]
theorem sumUp_sub {a : Nat → Int} {m : Int} {k : Nat} {u z : Int} (hu : u = sumUp a m k) (hz : a k = z) (h : (k : Int) = m) : u - z = sumUp a m (k + 1) := by
  rw [← sumUp_neg hu hz h]; omega
theorem sumUp_pos {a : Nat → Int} {m : Int} {k : Nat} {u z : Int} (hu : u = sumUp a m k) (hz : a k = z) (h : ¬ (k : Int) = m) : u + z = sumUp a m (k + 1) := by
  subst hu hz; show _ = _ + (if _ then _ else _); rw [if_neg h]
def sumB (b : BoxD) (F0 F1 S0 S1 : Nat) (m : Int) : Int := sumUp (agK b F0 F1 S0 S1) m 4
def isSumB (x y fa fb sa sb m : Int) : Bool := decide (0 ≤ fa) && (decide (fa < fb) && (decide (fb < x) && (decide (0 ≤ sa) && (decide (sa < sb) && (decide (sb < y) && inB m 0 3)))))
theorem isSumB_iff {x y fa fb sa sb m : Int} : isSumB x y fa fb sa sb m = true ↔ 0 ≤ fa ∧ fa < fb ∧ fb < x ∧ 0 ≤ sa ∧ sa < sb ∧ sb < y ∧ 0 ≤ m ∧ m ≤ 3 := by
  unfold isSumB
  simp only [Bool.and_eq_true, decide_eq_true_iff, inB_iff]
theorem isSumB_no {x y fa fb sa sb m : Int} (h : ¬ (0 ≤ fa ∧ fa < fb ∧ fb < x ∧ 0 ≤ sa ∧ sa < sb ∧ sb < y ∧ 0 ≤ m ∧ m ≤ 3)) : isSumB x y fa fb sa sb m = false :=
  Bool.eq_false_iff.2 fun h' => h (isSumB_iff.1 h')

set_option maxRecDepth 100000 in
set_option maxHeartbeats 6400000 in
theorem l3Sum_any (vb : Value) (b : BoxD) (hb : boxB b = true) (F0 F1 S0 S1 : Nat) (m : Int) (hF : F0 < F1 ∧ (F1 : Int) < b.X) (hS : S0 < S1 ∧ (S1 : Int) < b.Y) (w : World) (h : RdII w vb b.Rows) :
    Calls Try.prog 88 #[.agg #[.int .i64 b.X, .int .i64 b.Y, .int .i64 b.Whole, vb], .agg #[.int .i64 F0, .int .i64 F1], .agg #[.int .i64 S0, .int .i64 S1], .int .i64 m] w fun e w' => e = .returned (.int .i64 (sumB b F0 F1 S0 S1 m)) ∧ Below w.heap.size w w' := by
  obtain ⟨⟨hx0, hx1⟩, hy0, hy1⟩ := (boxB_iff.1 hb).1
  obtain ⟨hwh0, hwh1⟩ := (boxB_iff.1 hb).2.1
  obtain ⟨hF1, hF2⟩ := hF
  obtain ⟨hS1, hS2⟩ := hS
  go_enter Try.func88, Try.ntmps88
  go_wp2
  obtain ⟨w1, hw1⟩ : ∃ w1, w1 = ((w.alloc (.cells #[.int .i64 b.X, .int .i64 b.Y, .int .i64 b.Whole, vb] 26)).alloc (.cells #[.int .i64 F0, .int .i64 F1] 47)).alloc (.cells #[.int .i64 S0, .int .i64 S1] 47) := ⟨_, rfl⟩
  have A1 : BoxAt w1 w.heap.size b.X b.Y b.Whole vb := by rw [hw1]; exact ⟨(by repeat' (first | with_reducible assumption | (refine cell_top ?_ rfl; first | with_reducible rfl | (simp only [World.size_alloc, World.size_setCell]; done)) | (refine cell_under ?_ ?_; (first | omega | (simp only [World.size_alloc, World.size_setCell]; omega))) | refine cell_drew ?_)), (by repeat' (first | with_reducible assumption | (refine cell_top ?_ rfl; first | with_reducible rfl | (simp only [World.size_alloc, World.size_setCell]; done)) | (refine cell_under ?_ ?_; (first | omega | (simp only [World.size_alloc, World.size_setCell]; omega))) | refine cell_drew ?_)), (by repeat' (first | with_reducible assumption | (refine cell_top ?_ rfl; first | with_reducible rfl | (simp only [World.size_alloc, World.size_setCell]; done)) | (refine cell_under ?_ ?_; (first | omega | (simp only [World.size_alloc, World.size_setCell]; omega))) | refine cell_drew ?_)), (by repeat' (first | with_reducible assumption | (refine cell_top ?_ rfl; first | with_reducible rfl | (simp only [World.size_alloc, World.size_setCell]; done)) | (refine cell_under ?_ ?_; (first | omega | (simp only [World.size_alloc, World.size_setCell]; omega))) | refine cell_drew ?_))⟩
  have c0 : w1.cell? ⟨w.heap.size + 1, 0, none⟩ = some (.int .i64 F0) := by rw [hw1]; exact (by repeat' (first | with_reducible assumption | (refine cell_top ?_ rfl; first | with_reducible rfl | (simp only [World.size_alloc, World.size_setCell]; done)) | (refine cell_under ?_ ?_; (first | omega | (simp only [World.size_alloc, World.size_setCell]; omega))) | refine cell_drew ?_))
  have c1 : w1.cell? ⟨w.heap.size + 1, 1, none⟩ = some (.int .i64 F1) := by rw [hw1]; exact (by repeat' (first | with_reducible assumption | (refine cell_top ?_ rfl; first | with_reducible rfl | (simp only [World.size_alloc, World.size_setCell]; done)) | (refine cell_under ?_ ?_; (first | omega | (simp only [World.size_alloc, World.size_setCell]; omega))) | refine cell_drew ?_))
  have d0 : w1.cell? ⟨w.heap.size + 1 + 1, 0, none⟩ = some (.int .i64 S0) := by rw [hw1]; exact (by repeat' (first | with_reducible assumption | (refine cell_top ?_ rfl; first | with_reducible rfl | (simp only [World.size_alloc, World.size_setCell]; done)) | (refine cell_under ?_ ?_; (first | omega | (simp only [World.size_alloc, World.size_setCell]; omega))) | refine cell_drew ?_))
  have d1 : w1.cell? ⟨w.heap.size + 1 + 1, 1, none⟩ = some (.int .i64 S1) := by rw [hw1]; exact (by repeat' (first | with_reducible assumption | (refine cell_top ?_ rfl; first | with_reducible rfl | (simp only [World.size_alloc, World.size_setCell]; done)) | (refine cell_under ?_ ?_; (first | omega | (simp only [World.size_alloc, World.size_setCell]; omega))) | refine cell_drew ?_))
  have B1 : Below w.heap.size w w1 := by rw [hw1]; exact (by repeat' (first | with_reducible exact Below.refl _ _ | with_reducible assumption | with_reducible apply Below.alloc | with_reducible apply Below.setCell | with_reducible apply Below.drew | exact Nat.le_refl _ | omega | (simp only [World.size_alloc, World.size_setCell]; omega)))
  rw [← hw1]
  have H1 := Lib.hid hw1
  clear hw1
  have KS := Lib.hid (fun (W : World) (h : Below w1.heap.size w1 W) => And.intro h (And.intro (keepCell h A1.e0) (And.intro (keepCell h A1.e1) (And.intro (keepCell h A1.e2) (And.intro (keepCell h A1.e3) (And.intro (keepCell h c0) (And.intro (keepCell h c1) (And.intro (keepCell h d0) (keepCell h d1)))))))))
  clear A1 c0 c1 d0 d1
  go_loopw [10, 9] (fun s u wr => ∃ (k : Nat) (t : Int), k ≤ 4 ∧ s = .int .i64 k ∧ u = .int .i64 t ∧ t = sumUp (agK b F0 F1 S0 S1) m k ∧ -(2000 * (k : Int)) ≤ t ∧ t ≤ 2000 * (k : Int) ∧ Below w1.heap.size w1 wr) (fun s _ _ => 4 - (intOf s).toNat)
  case atStart => exact ⟨0, 0, by omega, rfl, rfl, rfl, by omega, by omega, Below.refl _ _⟩
  case round =>
    obtain ⟨k, t, hk, rfl, rfl, ht, ht0, ht1, hB⟩ := hrel
    have HT := Lib.hid ht
    clear ht
    have : k = 0 ∨ k = 1 ∨ k = 2 ∨ k = 3 ∨ k = 4 := by omega
    rcases this with rfl | rfl | rfl | rfl | rfl
    · rw [show ((0 : Nat) : Int) = (0 : Int) from rfl] at ht0 ht1 ⊢
      obtain ⟨n, p, q, r, s, hn, hm, hn8, hrow, hnl, hp, hq, hr, hs, -, f0, f1, f2, f3⟩ := boxB_at hb F0 S0 (by omega) (by omega)
      have hz : agK b F0 F1 S0 S1 0 = p - q - r + s := by show agB b F0 S0 = _; unfold agB; rw [f0, f1, f2, f3]
      have HZ := Lib.hid hz
      have HN := Lib.hid hn
      have HR := Lib.hid hrow
      clear hz hn hrow f0 f1 f2 f3
      have hq4 : IntKind.i64.wrap (0 : Int) = 0 := by decide
      have hq1 : IntKind.i64.wrap (Int.tdiv (0 : Int) 2) = 0 := by decide
      have hq2 : Int.tdiv (0 : Int) 2 = 0 := by decide
      have hq3 : (0 : Int) / 2 = 0 := by decide
      by_cases hkm : (0 : Int) = m
      · have HK := Lib.hid hkm
        have hkz : ((0 : Int) == m) = true := by simp [hkm]
        have hng : IntKind.i64.wrap (-(p - q - r + s)) = -(p - q - r + s) := wrap_in _ (by omega) (by omega)
        clear hkm
        go_wp2
        go_region_held3 (fun W => Below w1.heap.size w1 W ∧ W.cell? ⟨w.heap.size, 0, none⟩ = some (.int .i64 b.X) ∧ W.cell? ⟨w.heap.size, 1, none⟩ = some (.int .i64 b.Y) ∧ W.cell? ⟨w.heap.size, 2, none⟩ = some (.int .i64 b.Whole) ∧ W.cell? ⟨w.heap.size, 3, none⟩ = some vb ∧ W.cell? ⟨w.heap.size + 1, 0, none⟩ = some (.int .i64 F0) ∧ W.cell? ⟨w.heap.size + 1, 1, none⟩ = some (.int .i64 F1) ∧ W.cell? ⟨w.heap.size + 1 + 1, 0, none⟩ = some (.int .i64 S0) ∧ W.cell? ⟨w.heap.size + 1 + 1, 1, none⟩ = some (.int .i64 S1))
          (first | exact KS.out _ hB.drew | exact KS.out _ hBn)
          (first
            | (go_at_call 56; have hS := And.left (by assumption : Below w1.heap.size w1 _ ∧ _); (with_reducible refine (l2Row_any vb b F0 S0 n p q r s HN.out hm hn8 hnl HR.out w _ h (B1.trans (hS.mono B1.size))).mono ?_); rintro e wd ⟨b5, o5, c5, rfl, K5, bd⟩; have hBn := hS.trans (bd.mono hS.size))
            | (go_at_call 80; have hS := And.left (by assumption : Below w1.heap.size w1 _ ∧ _); (with_reducible refine (l2Agree_any _ p q r s _ ((rdI4 K5).kept (Nat.le_refl _) (B1.trans (hS.mono B1.size))) ⟨hp.1, by omega⟩ ⟨hq.1, by omega⟩ ⟨hr.1, by omega⟩ ⟨hs.1, by omega⟩).mono ?_); rintro e we ⟨rfl, bd⟩; have hBn := hS.trans (bd.below w1.heap.size)))
        go_wp2
        go_roundw
        case rel => exact ⟨1, t + -(p - q - r + s), by omega, rfl, by go_num, sumUp_neg HT.out HZ.out HK.out, by omega, by omega, hBn⟩
        case measure => simp [intOf]
      · have HK := Lib.hid hkm
        have hkz : ((0 : Int) == m) = false := by simp [hkm]
        clear hkm
        go_wp2
        go_region_held3 (fun W => Below w1.heap.size w1 W ∧ W.cell? ⟨w.heap.size, 0, none⟩ = some (.int .i64 b.X) ∧ W.cell? ⟨w.heap.size, 1, none⟩ = some (.int .i64 b.Y) ∧ W.cell? ⟨w.heap.size, 2, none⟩ = some (.int .i64 b.Whole) ∧ W.cell? ⟨w.heap.size, 3, none⟩ = some vb ∧ W.cell? ⟨w.heap.size + 1, 0, none⟩ = some (.int .i64 F0) ∧ W.cell? ⟨w.heap.size + 1, 1, none⟩ = some (.int .i64 F1) ∧ W.cell? ⟨w.heap.size + 1 + 1, 0, none⟩ = some (.int .i64 S0) ∧ W.cell? ⟨w.heap.size + 1 + 1, 1, none⟩ = some (.int .i64 S1))
          (first | exact KS.out _ hB.drew | exact KS.out _ hBn)
          (first
            | (go_at_call 56; have hS := And.left (by assumption : Below w1.heap.size w1 _ ∧ _); (with_reducible refine (l2Row_any vb b F0 S0 n p q r s HN.out hm hn8 hnl HR.out w _ h (B1.trans (hS.mono B1.size))).mono ?_); rintro e wd ⟨b5, o5, c5, rfl, K5, bd⟩; have hBn := hS.trans (bd.mono hS.size))
            | (go_at_call 80; have hS := And.left (by assumption : Below w1.heap.size w1 _ ∧ _); (with_reducible refine (l2Agree_any _ p q r s _ ((rdI4 K5).kept (Nat.le_refl _) (B1.trans (hS.mono B1.size))) ⟨hp.1, by omega⟩ ⟨hq.1, by omega⟩ ⟨hr.1, by omega⟩ ⟨hs.1, by omega⟩).mono ?_); rintro e we ⟨rfl, bd⟩; have hBn := hS.trans (bd.below w1.heap.size)))
        go_wp2
        go_roundw
        case rel => exact ⟨1, t + (p - q - r + s), by omega, rfl, by go_num, sumUp_pos HT.out HZ.out HK.out, by omega, by omega, hBn⟩
        case measure => simp [intOf]
    · rw [show ((1 : Nat) : Int) = (1 : Int) from rfl] at ht0 ht1 ⊢
      obtain ⟨n, p, q, r, s, hn, hm, hn8, hrow, hnl, hp, hq, hr, hs, -, f0, f1, f2, f3⟩ := boxB_at hb F0 S1 (by omega) (by omega)
      have hz : agK b F0 F1 S0 S1 1 = p - q - r + s := by show agB b F0 S1 = _; unfold agB; rw [f0, f1, f2, f3]
      have HZ := Lib.hid hz
      have HN := Lib.hid hn
      have HR := Lib.hid hrow
      clear hz hn hrow f0 f1 f2 f3
      have hq4 : IntKind.i64.wrap (0 : Int) = 0 := by decide
      have hq1 : IntKind.i64.wrap (Int.tdiv (1 : Int) 2) = 0 := by decide
      have hq2 : Int.tdiv (1 : Int) 2 = 0 := by decide
      have hq3 : (1 : Int) / 2 = 0 := by decide
      by_cases hkm : (1 : Int) = m
      · have HK := Lib.hid hkm
        have hkz : ((1 : Int) == m) = true := by simp [hkm]
        have hng : IntKind.i64.wrap (-(p - q - r + s)) = -(p - q - r + s) := wrap_in _ (by omega) (by omega)
        clear hkm
        go_wp2
        go_region_held3 (fun W => Below w1.heap.size w1 W ∧ W.cell? ⟨w.heap.size, 0, none⟩ = some (.int .i64 b.X) ∧ W.cell? ⟨w.heap.size, 1, none⟩ = some (.int .i64 b.Y) ∧ W.cell? ⟨w.heap.size, 2, none⟩ = some (.int .i64 b.Whole) ∧ W.cell? ⟨w.heap.size, 3, none⟩ = some vb ∧ W.cell? ⟨w.heap.size + 1, 0, none⟩ = some (.int .i64 F0) ∧ W.cell? ⟨w.heap.size + 1, 1, none⟩ = some (.int .i64 F1) ∧ W.cell? ⟨w.heap.size + 1 + 1, 0, none⟩ = some (.int .i64 S0) ∧ W.cell? ⟨w.heap.size + 1 + 1, 1, none⟩ = some (.int .i64 S1))
          (first | exact KS.out _ hB.drew | exact KS.out _ hBn)
          (first
            | (go_at_call 56; have hS := And.left (by assumption : Below w1.heap.size w1 _ ∧ _); (with_reducible refine (l2Row_any vb b F0 S1 n p q r s HN.out hm hn8 hnl HR.out w _ h (B1.trans (hS.mono B1.size))).mono ?_); rintro e wd ⟨b5, o5, c5, rfl, K5, bd⟩; have hBn := hS.trans (bd.mono hS.size))
            | (go_at_call 80; have hS := And.left (by assumption : Below w1.heap.size w1 _ ∧ _); (with_reducible refine (l2Agree_any _ p q r s _ ((rdI4 K5).kept (Nat.le_refl _) (B1.trans (hS.mono B1.size))) ⟨hp.1, by omega⟩ ⟨hq.1, by omega⟩ ⟨hr.1, by omega⟩ ⟨hs.1, by omega⟩).mono ?_); rintro e we ⟨rfl, bd⟩; have hBn := hS.trans (bd.below w1.heap.size)))
        go_wp2
        go_roundw
        case rel => exact ⟨2, t + -(p - q - r + s), by omega, rfl, by go_num, sumUp_neg HT.out HZ.out HK.out, by omega, by omega, hBn⟩
        case measure => simp [intOf]
      · have HK := Lib.hid hkm
        have hkz : ((1 : Int) == m) = false := by simp [hkm]
        clear hkm
        go_wp2
        go_region_held3 (fun W => Below w1.heap.size w1 W ∧ W.cell? ⟨w.heap.size, 0, none⟩ = some (.int .i64 b.X) ∧ W.cell? ⟨w.heap.size, 1, none⟩ = some (.int .i64 b.Y) ∧ W.cell? ⟨w.heap.size, 2, none⟩ = some (.int .i64 b.Whole) ∧ W.cell? ⟨w.heap.size, 3, none⟩ = some vb ∧ W.cell? ⟨w.heap.size + 1, 0, none⟩ = some (.int .i64 F0) ∧ W.cell? ⟨w.heap.size + 1, 1, none⟩ = some (.int .i64 F1) ∧ W.cell? ⟨w.heap.size + 1 + 1, 0, none⟩ = some (.int .i64 S0) ∧ W.cell? ⟨w.heap.size + 1 + 1, 1, none⟩ = some (.int .i64 S1))
          (first | exact KS.out _ hB.drew | exact KS.out _ hBn)
          (first
            | (go_at_call 56; have hS := And.left (by assumption : Below w1.heap.size w1 _ ∧ _); (with_reducible refine (l2Row_any vb b F0 S1 n p q r s HN.out hm hn8 hnl HR.out w _ h (B1.trans (hS.mono B1.size))).mono ?_); rintro e wd ⟨b5, o5, c5, rfl, K5, bd⟩; have hBn := hS.trans (bd.mono hS.size))
            | (go_at_call 80; have hS := And.left (by assumption : Below w1.heap.size w1 _ ∧ _); (with_reducible refine (l2Agree_any _ p q r s _ ((rdI4 K5).kept (Nat.le_refl _) (B1.trans (hS.mono B1.size))) ⟨hp.1, by omega⟩ ⟨hq.1, by omega⟩ ⟨hr.1, by omega⟩ ⟨hs.1, by omega⟩).mono ?_); rintro e we ⟨rfl, bd⟩; have hBn := hS.trans (bd.below w1.heap.size)))
        go_wp2
        go_roundw
        case rel => exact ⟨2, t + (p - q - r + s), by omega, rfl, by go_num, sumUp_pos HT.out HZ.out HK.out, by omega, by omega, hBn⟩
        case measure => simp [intOf]
    · rw [show ((2 : Nat) : Int) = (2 : Int) from rfl] at ht0 ht1 ⊢
      obtain ⟨n, p, q, r, s, hn, hm, hn8, hrow, hnl, hp, hq, hr, hs, -, f0, f1, f2, f3⟩ := boxB_at hb F1 S0 (by omega) (by omega)
      have hz : agK b F0 F1 S0 S1 2 = p - q - r + s := by show agB b F1 S0 = _; unfold agB; rw [f0, f1, f2, f3]
      have HZ := Lib.hid hz
      have HN := Lib.hid hn
      have HR := Lib.hid hrow
      clear hz hn hrow f0 f1 f2 f3
      have hq4 : IntKind.i64.wrap (1 : Int) = 1 := by decide
      have hq1 : IntKind.i64.wrap (Int.tdiv (2 : Int) 2) = 1 := by decide
      have hq2 : Int.tdiv (2 : Int) 2 = 1 := by decide
      have hq3 : (2 : Int) / 2 = 1 := by decide
      by_cases hkm : (2 : Int) = m
      · have HK := Lib.hid hkm
        have hkz : ((2 : Int) == m) = true := by simp [hkm]
        have hng : IntKind.i64.wrap (-(p - q - r + s)) = -(p - q - r + s) := wrap_in _ (by omega) (by omega)
        clear hkm
        go_wp2
        go_region_held3 (fun W => Below w1.heap.size w1 W ∧ W.cell? ⟨w.heap.size, 0, none⟩ = some (.int .i64 b.X) ∧ W.cell? ⟨w.heap.size, 1, none⟩ = some (.int .i64 b.Y) ∧ W.cell? ⟨w.heap.size, 2, none⟩ = some (.int .i64 b.Whole) ∧ W.cell? ⟨w.heap.size, 3, none⟩ = some vb ∧ W.cell? ⟨w.heap.size + 1, 0, none⟩ = some (.int .i64 F0) ∧ W.cell? ⟨w.heap.size + 1, 1, none⟩ = some (.int .i64 F1) ∧ W.cell? ⟨w.heap.size + 1 + 1, 0, none⟩ = some (.int .i64 S0) ∧ W.cell? ⟨w.heap.size + 1 + 1, 1, none⟩ = some (.int .i64 S1))
          (first | exact KS.out _ hB.drew | exact KS.out _ hBn)
          (first
            | (go_at_call 56; have hS := And.left (by assumption : Below w1.heap.size w1 _ ∧ _); (with_reducible refine (l2Row_any vb b F1 S0 n p q r s HN.out hm hn8 hnl HR.out w _ h (B1.trans (hS.mono B1.size))).mono ?_); rintro e wd ⟨b5, o5, c5, rfl, K5, bd⟩; have hBn := hS.trans (bd.mono hS.size))
            | (go_at_call 80; have hS := And.left (by assumption : Below w1.heap.size w1 _ ∧ _); (with_reducible refine (l2Agree_any _ p q r s _ ((rdI4 K5).kept (Nat.le_refl _) (B1.trans (hS.mono B1.size))) ⟨hp.1, by omega⟩ ⟨hq.1, by omega⟩ ⟨hr.1, by omega⟩ ⟨hs.1, by omega⟩).mono ?_); rintro e we ⟨rfl, bd⟩; have hBn := hS.trans (bd.below w1.heap.size)))
        go_wp2
        go_roundw
        case rel => exact ⟨3, t + -(p - q - r + s), by omega, rfl, by go_num, sumUp_neg HT.out HZ.out HK.out, by omega, by omega, hBn⟩
        case measure => simp [intOf]
      · have HK := Lib.hid hkm
        have hkz : ((2 : Int) == m) = false := by simp [hkm]
        clear hkm
        go_wp2
        go_region_held3 (fun W => Below w1.heap.size w1 W ∧ W.cell? ⟨w.heap.size, 0, none⟩ = some (.int .i64 b.X) ∧ W.cell? ⟨w.heap.size, 1, none⟩ = some (.int .i64 b.Y) ∧ W.cell? ⟨w.heap.size, 2, none⟩ = some (.int .i64 b.Whole) ∧ W.cell? ⟨w.heap.size, 3, none⟩ = some vb ∧ W.cell? ⟨w.heap.size + 1, 0, none⟩ = some (.int .i64 F0) ∧ W.cell? ⟨w.heap.size + 1, 1, none⟩ = some (.int .i64 F1) ∧ W.cell? ⟨w.heap.size + 1 + 1, 0, none⟩ = some (.int .i64 S0) ∧ W.cell? ⟨w.heap.size + 1 + 1, 1, none⟩ = some (.int .i64 S1))
          (first | exact KS.out _ hB.drew | exact KS.out _ hBn)
          (first
            | (go_at_call 56; have hS := And.left (by assumption : Below w1.heap.size w1 _ ∧ _); (with_reducible refine (l2Row_any vb b F1 S0 n p q r s HN.out hm hn8 hnl HR.out w _ h (B1.trans (hS.mono B1.size))).mono ?_); rintro e wd ⟨b5, o5, c5, rfl, K5, bd⟩; have hBn := hS.trans (bd.mono hS.size))
            | (go_at_call 80; have hS := And.left (by assumption : Below w1.heap.size w1 _ ∧ _); (with_reducible refine (l2Agree_any _ p q r s _ ((rdI4 K5).kept (Nat.le_refl _) (B1.trans (hS.mono B1.size))) ⟨hp.1, by omega⟩ ⟨hq.1, by omega⟩ ⟨hr.1, by omega⟩ ⟨hs.1, by omega⟩).mono ?_); rintro e we ⟨rfl, bd⟩; have hBn := hS.trans (bd.below w1.heap.size)))
        go_wp2
        go_roundw
        case rel => exact ⟨3, t + (p - q - r + s), by omega, rfl, by go_num, sumUp_pos HT.out HZ.out HK.out, by omega, by omega, hBn⟩
        case measure => simp [intOf]
    · rw [show ((3 : Nat) : Int) = (3 : Int) from rfl] at ht0 ht1 ⊢
      obtain ⟨n, p, q, r, s, hn, hm, hn8, hrow, hnl, hp, hq, hr, hs, -, f0, f1, f2, f3⟩ := boxB_at hb F1 S1 (by omega) (by omega)
      have hz : agK b F0 F1 S0 S1 3 = p - q - r + s := by show agB b F1 S1 = _; unfold agB; rw [f0, f1, f2, f3]
      have HZ := Lib.hid hz
      have HN := Lib.hid hn
      have HR := Lib.hid hrow
      clear hz hn hrow f0 f1 f2 f3
      have hq4 : IntKind.i64.wrap (1 : Int) = 1 := by decide
      have hq1 : IntKind.i64.wrap (Int.tdiv (3 : Int) 2) = 1 := by decide
      have hq2 : Int.tdiv (3 : Int) 2 = 1 := by decide
      have hq3 : (3 : Int) / 2 = 1 := by decide
      by_cases hkm : (3 : Int) = m
      · have HK := Lib.hid hkm
        have hkz : ((3 : Int) == m) = true := by simp [hkm]
        have hng : IntKind.i64.wrap (-(p - q - r + s)) = -(p - q - r + s) := wrap_in _ (by omega) (by omega)
        clear hkm
        go_wp2
        go_region_held3 (fun W => Below w1.heap.size w1 W ∧ W.cell? ⟨w.heap.size, 0, none⟩ = some (.int .i64 b.X) ∧ W.cell? ⟨w.heap.size, 1, none⟩ = some (.int .i64 b.Y) ∧ W.cell? ⟨w.heap.size, 2, none⟩ = some (.int .i64 b.Whole) ∧ W.cell? ⟨w.heap.size, 3, none⟩ = some vb ∧ W.cell? ⟨w.heap.size + 1, 0, none⟩ = some (.int .i64 F0) ∧ W.cell? ⟨w.heap.size + 1, 1, none⟩ = some (.int .i64 F1) ∧ W.cell? ⟨w.heap.size + 1 + 1, 0, none⟩ = some (.int .i64 S0) ∧ W.cell? ⟨w.heap.size + 1 + 1, 1, none⟩ = some (.int .i64 S1))
          (first | exact KS.out _ hB.drew | exact KS.out _ hBn)
          (first
            | (go_at_call 56; have hS := And.left (by assumption : Below w1.heap.size w1 _ ∧ _); (with_reducible refine (l2Row_any vb b F1 S1 n p q r s HN.out hm hn8 hnl HR.out w _ h (B1.trans (hS.mono B1.size))).mono ?_); rintro e wd ⟨b5, o5, c5, rfl, K5, bd⟩; have hBn := hS.trans (bd.mono hS.size))
            | (go_at_call 80; have hS := And.left (by assumption : Below w1.heap.size w1 _ ∧ _); (with_reducible refine (l2Agree_any _ p q r s _ ((rdI4 K5).kept (Nat.le_refl _) (B1.trans (hS.mono B1.size))) ⟨hp.1, by omega⟩ ⟨hq.1, by omega⟩ ⟨hr.1, by omega⟩ ⟨hs.1, by omega⟩).mono ?_); rintro e we ⟨rfl, bd⟩; have hBn := hS.trans (bd.below w1.heap.size)))
        go_wp2
        go_roundw
        case rel => exact ⟨4, t + -(p - q - r + s), by omega, rfl, by go_num, sumUp_neg HT.out HZ.out HK.out, by omega, by omega, hBn⟩
        case measure => simp [intOf]
      · have HK := Lib.hid hkm
        have hkz : ((3 : Int) == m) = false := by simp [hkm]
        clear hkm
        go_wp2
        go_region_held3 (fun W => Below w1.heap.size w1 W ∧ W.cell? ⟨w.heap.size, 0, none⟩ = some (.int .i64 b.X) ∧ W.cell? ⟨w.heap.size, 1, none⟩ = some (.int .i64 b.Y) ∧ W.cell? ⟨w.heap.size, 2, none⟩ = some (.int .i64 b.Whole) ∧ W.cell? ⟨w.heap.size, 3, none⟩ = some vb ∧ W.cell? ⟨w.heap.size + 1, 0, none⟩ = some (.int .i64 F0) ∧ W.cell? ⟨w.heap.size + 1, 1, none⟩ = some (.int .i64 F1) ∧ W.cell? ⟨w.heap.size + 1 + 1, 0, none⟩ = some (.int .i64 S0) ∧ W.cell? ⟨w.heap.size + 1 + 1, 1, none⟩ = some (.int .i64 S1))
          (first | exact KS.out _ hB.drew | exact KS.out _ hBn)
          (first
            | (go_at_call 56; have hS := And.left (by assumption : Below w1.heap.size w1 _ ∧ _); (with_reducible refine (l2Row_any vb b F1 S1 n p q r s HN.out hm hn8 hnl HR.out w _ h (B1.trans (hS.mono B1.size))).mono ?_); rintro e wd ⟨b5, o5, c5, rfl, K5, bd⟩; have hBn := hS.trans (bd.mono hS.size))
            | (go_at_call 80; have hS := And.left (by assumption : Below w1.heap.size w1 _ ∧ _); (with_reducible refine (l2Agree_any _ p q r s _ ((rdI4 K5).kept (Nat.le_refl _) (B1.trans (hS.mono B1.size))) ⟨hp.1, by omega⟩ ⟨hq.1, by omega⟩ ⟨hr.1, by omega⟩ ⟨hs.1, by omega⟩).mono ?_); rintro e we ⟨rfl, bd⟩; have hBn := hS.trans (bd.below w1.heap.size)))
        go_wp2
        go_roundw
        case rel => exact ⟨4, t + (p - q - r + s), by omega, rfl, by go_num, sumUp_pos HT.out HZ.out HK.out, by omega, by omega, hBn⟩
        case measure => simp [intOf]
    · go_wp2
      go_ret
      exact ⟨ret_int HT.out, B1.trans (hB.mono B1.size)⟩
set_option maxHeartbeats 800000 in
theorem four_any (y : Int) (F0 F1 S0 S1 n0 n1 n2 n3 : Nat) (h0 : (F0 : Int) * y + (S0 : Int) = (n0 : Int)) (h1 : (F0 : Int) * y + (S1 : Int) = (n1 : Int)) (h2 : (F1 : Int) * y + (S0 : Int) = (n2 : Int)) (h3 : (F1 : Int) * y + (S1 : Int) = (n3 : Int))
    (m0 : 0 ≤ (F0 : Int) * y ∧ (F0 : Int) * y ≤ 6) (m1 : 0 ≤ (F1 : Int) * y ∧ (F1 : Int) * y ≤ 6) (hn : n0 ≤ 8 ∧ n1 ≤ 8 ∧ n2 ≤ 8 ∧ n3 ≤ 8) (w : World) :
    Calls Try.prog 91 #[.int .i64 y, .agg #[.int .i64 F0, .int .i64 F1], .agg #[.int .i64 S0, .int .i64 S1]] w fun e w' => e = .returned (.agg #[.int .i64 n0, .int .i64 n1, .int .i64 n2, .int .i64 n3]) ∧ Below w.heap.size w w' := by
  obtain ⟨m00, m01⟩ := m0
  obtain ⟨m10, m11⟩ := m1
  obtain ⟨q0, q1, q2, q3⟩ := hn
  go_enter Try.func91, Try.ntmps91
  go_wp2
  refine bodyPost_ret (v := .agg #[.int .i64 n0, .int .i64 n1, .int .i64 n2, .int .i64 n3]) ?_ rfl ?_
  · simp [results, Try.results91, go_sem]
  · exact ⟨rfl, (by repeat' (first | with_reducible exact Below.refl _ _ | with_reducible assumption | with_reducible apply Below.alloc | with_reducible apply Below.setCell | with_reducible apply Below.drew | exact Nat.le_refl _ | omega | (simp only [World.size_alloc, World.size_setCell]; omega)))⟩
theorem index4 (p q r s : Value) (W : World) : (Instr.index 102 (.agg #[p, q, r, s]) (.int .i64 0)).run Try.prog W = .ok p W ∧ (Instr.index 102 (.agg #[p, q, r, s]) (.int .i64 1)).run Try.prog W = .ok q W ∧ (Instr.index 102 (.agg #[p, q, r, s]) (.int .i64 2)).run Try.prog W = .ok r W ∧ (Instr.index 102 (.agg #[p, q, r, s]) (.int .i64 3)).run Try.prog W = .ok s W := by
  refine ⟨?_, ?_, ?_, ?_⟩ <;> kernel_rfl
set_option maxRecDepth 100000 in
set_option maxHeartbeats 6400000 in
theorem sum_any (vb : Value) (b : BoxD) (hb : boxB b = true) (F0 F1 S0 S1 : Nat) (m : Int) (hF : F0 < F1 ∧ (F1 : Int) < b.X) (hS : S0 < S1 ∧ (S1 : Int) < b.Y) (w : World) (h : RdII w vb b.Rows) :
    Calls Try.prog 86 #[.agg #[.int .i64 b.X, .int .i64 b.Y, .int .i64 b.Whole, vb], .agg #[.int .i64 F0, .int .i64 F1], .agg #[.int .i64 S0, .int .i64 S1], .int .i64 m] w fun e w' => e = .returned (.int .i64 (sumB b F0 F1 S0 S1 m)) ∧ Below w.heap.size w w' := by
  obtain ⟨⟨hx0, hx1⟩, hy0, hy1⟩ := (boxB_iff.1 hb).1
  obtain ⟨hwh0, hwh1⟩ := (boxB_iff.1 hb).2.1
  obtain ⟨hF1, hF2⟩ := hF
  obtain ⟨hS1, hS2⟩ := hS
  obtain ⟨n0, p0, q0, r0, s0, hn0, hm0, hn80, hrow0, hnl0, hp0, hq0, hr0, hs0, -, f0, f1, f2, f3⟩ := boxB_at hb F0 S0 (by omega) (by omega)
  have HZ0 := Lib.hid (show agK b F0 F1 S0 S1 0 = p0 - q0 - r0 + s0 by show agB b F0 S0 = _; unfold agB; rw [f0, f1, f2, f3])
  have HB0 := Lib.hid (And.intro hp0 (And.intro hq0 (And.intro hr0 hs0)))
  clear f0 f1 f2 f3 hp0 hq0 hr0 hs0
  obtain ⟨n1, p1, q1, r1, s1, hn1, hm1, hn81, hrow1, hnl1, hp1, hq1, hr1, hs1, -, f0, f1, f2, f3⟩ := boxB_at hb F0 S1 (by omega) (by omega)
  have HZ1 := Lib.hid (show agK b F0 F1 S0 S1 1 = p1 - q1 - r1 + s1 by show agB b F0 S1 = _; unfold agB; rw [f0, f1, f2, f3])
  have HB1 := Lib.hid (And.intro hp1 (And.intro hq1 (And.intro hr1 hs1)))
  clear f0 f1 f2 f3 hp1 hq1 hr1 hs1
  obtain ⟨n2, p2, q2, r2, s2, hn2, hm2, hn82, hrow2, hnl2, hp2, hq2, hr2, hs2, -, f0, f1, f2, f3⟩ := boxB_at hb F1 S0 (by omega) (by omega)
  have HZ2 := Lib.hid (show agK b F0 F1 S0 S1 2 = p2 - q2 - r2 + s2 by show agB b F1 S0 = _; unfold agB; rw [f0, f1, f2, f3])
  have HB2 := Lib.hid (And.intro hp2 (And.intro hq2 (And.intro hr2 hs2)))
  clear f0 f1 f2 f3 hp2 hq2 hr2 hs2
  obtain ⟨n3, p3, q3, r3, s3, hn3, hm3, hn83, hrow3, hnl3, hp3, hq3, hr3, hs3, -, f0, f1, f2, f3⟩ := boxB_at hb F1 S1 (by omega) (by omega)
  have HZ3 := Lib.hid (show agK b F0 F1 S0 S1 3 = p3 - q3 - r3 + s3 by show agB b F1 S1 = _; unfold agB; rw [f0, f1, f2, f3])
  have HB3 := Lib.hid (And.intro hp3 (And.intro hq3 (And.intro hr3 hs3)))
  clear f0 f1 f2 f3 hp3 hq3 hr3 hs3
  have H4 := Lib.hid (fun W => four_any b.Y F0 F1 S0 S1 n0 n1 n2 n3 hn0 hn1 hn2 hn3 hm0 hm2 ⟨hn80, hn81, hn82, hn83⟩ W)
  obtain ⟨av, ba, off, cap, rfl, hmx, ha, hc⟩ := h
  unfold maxLen at hmx
  obtain rfl := ha (by omega)
  obtain ⟨v0, cv0, hv0⟩ := hc n0 _ hrow0
  obtain ⟨a0, x0, y0, z0, rfl, -, ha0, -⟩ := id hv0
  obtain rfl := ha0 (by simp)
  clear ha0
  replace cv0 : w.cell? _ = some (.slice (some ⟨x0, y0, none⟩) 4 z0) := cv0
  replace hv0 : RdI w (.slice (some ⟨x0, y0, none⟩) 4 z0) [p0, q0, r0, s0] := hv0
  have lv0 := World.block_lt_of_cell? _ _ cv0
  have HV0 := Lib.hid (And.intro cv0 hv0)
  clear cv0 hv0 hn0 hm0 hrow0
  obtain ⟨v1, cv1, hv1⟩ := hc n1 _ hrow1
  obtain ⟨a1, x1, y1, z1, rfl, -, ha1, -⟩ := id hv1
  obtain rfl := ha1 (by simp)
  clear ha1
  replace cv1 : w.cell? _ = some (.slice (some ⟨x1, y1, none⟩) 4 z1) := cv1
  replace hv1 : RdI w (.slice (some ⟨x1, y1, none⟩) 4 z1) [p1, q1, r1, s1] := hv1
  have lv1 := World.block_lt_of_cell? _ _ cv1
  have HV1 := Lib.hid (And.intro cv1 hv1)
  clear cv1 hv1 hn1 hm1 hrow1
  obtain ⟨v2, cv2, hv2⟩ := hc n2 _ hrow2
  obtain ⟨a2, x2, y2, z2, rfl, -, ha2, -⟩ := id hv2
  obtain rfl := ha2 (by simp)
  clear ha2
  replace cv2 : w.cell? _ = some (.slice (some ⟨x2, y2, none⟩) 4 z2) := cv2
  replace hv2 : RdI w (.slice (some ⟨x2, y2, none⟩) 4 z2) [p2, q2, r2, s2] := hv2
  have lv2 := World.block_lt_of_cell? _ _ cv2
  have HV2 := Lib.hid (And.intro cv2 hv2)
  clear cv2 hv2 hn2 hm2 hrow2
  obtain ⟨v3, cv3, hv3⟩ := hc n3 _ hrow3
  obtain ⟨a3, x3, y3, z3, rfl, -, ha3, -⟩ := id hv3
  obtain rfl := ha3 (by simp)
  clear ha3
  replace cv3 : w.cell? _ = some (.slice (some ⟨x3, y3, none⟩) 4 z3) := cv3
  replace hv3 : RdI w (.slice (some ⟨x3, y3, none⟩) 4 z3) [p3, q3, r3, s3] := hv3
  have lv3 := World.block_lt_of_cell? _ _ cv3
  have HV3 := Lib.hid (And.intro cv3 hv3)
  clear cv3 hv3 hn3 hm3 hrow3
  clear hc ha
  have hix := index4
  go_enter Try.func86, Try.ntmps86
  go_wp2_with fail
  refine (H4.out _).mono ?_
  rintro e w1 ⟨rfl, b1⟩
  have B1 : Below w.heap.size w w1 := Below.trans (by repeat' (first | with_reducible exact Below.refl _ _ | with_reducible assumption | with_reducible apply Below.alloc | with_reducible apply Below.setCell | with_reducible apply Below.drew | exact Nat.le_refl _ | omega | (simp only [World.size_alloc, World.size_setCell]; omega))) (b1.mono (by first | exact Nat.le_refl _ | omega | (simp only [World.size_alloc, World.size_setCell]; omega)))
  have A1 : BoxAt w1 w.heap.size b.X b.Y b.Whole (.slice (some ⟨ba, off, none⟩) b.Rows.length cap) := ⟨keepCell b1 (by repeat' (first | with_reducible assumption | (refine cell_top ?_ rfl; first | with_reducible rfl | (simp only [World.size_alloc, World.size_setCell]; done)) | (refine cell_under ?_ ?_; (first | omega | (simp only [World.size_alloc, World.size_setCell]; omega))) | refine cell_drew ?_)), keepCell b1 (by repeat' (first | with_reducible assumption | (refine cell_top ?_ rfl; first | with_reducible rfl | (simp only [World.size_alloc, World.size_setCell]; done)) | (refine cell_under ?_ ?_; (first | omega | (simp only [World.size_alloc, World.size_setCell]; omega))) | refine cell_drew ?_)), keepCell b1 (by repeat' (first | with_reducible assumption | (refine cell_top ?_ rfl; first | with_reducible rfl | (simp only [World.size_alloc, World.size_setCell]; done)) | (refine cell_under ?_ ?_; (first | omega | (simp only [World.size_alloc, World.size_setCell]; omega))) | refine cell_drew ?_)), keepCell b1 (by repeat' (first | with_reducible assumption | (refine cell_top ?_ rfl; first | with_reducible rfl | (simp only [World.size_alloc, World.size_setCell]; done)) | (refine cell_under ?_ ?_; (first | omega | (simp only [World.size_alloc, World.size_setCell]; omega))) | refine cell_drew ?_))⟩
  clear b1
  go_wp2
  go_loopw [17, 9] (fun s u wr => ∃ (k : Nat) (t : Int), k ≤ 4 ∧ s = .int .i64 k ∧ u = .int .i64 t ∧ t = sumUp (agK b F0 F1 S0 S1) m k ∧ -(2000 * (k : Int)) ≤ t ∧ t ≤ 2000 * (k : Int) ∧ Below w1.heap.size w1 wr) (fun s _ _ => 4 - (intOf s).toNat)
  case atStart => exact ⟨0, 0, by omega, rfl, rfl, rfl, by omega, by omega, Below.refl _ _⟩
  case round =>
    obtain ⟨k, t, hk, rfl, rfl, ht, ht0, ht1, hB⟩ := hrel
    have HT := Lib.hid ht
    clear ht
    obtain ⟨_, _, _, e3⟩ := A1.kept hB A1.lt
    have : k = 0 ∨ k = 1 ∨ k = 2 ∨ k = 3 ∨ k = 4 := by omega
    rcases this with rfl | rfl | rfl | rfl | rfl
    · rw [show ((0 : Nat) : Int) = (0 : Int) from rfl] at ht0 ht1 ⊢
      have cv := keepAt (B1.trans (hB.mono B1.size)) lv0 HV0.out.1
      have hrd := HV0.out.2.kept (Nat.le_refl _) (B1.trans (hB.mono B1.size))
      obtain ⟨hp0, hq0, hr0, hs0⟩ := HB0.out
      by_cases hkm : (0 : Int) = m
      · have HK := Lib.hid hkm
        have hkz : ((0 : Int) == m) = true := by simp [hkm]
        clear hkm
        go_wp2_with fail
        refine (agreement_any _ p0 q0 r0 s0 _ hrd ⟨hp0.1, by omega⟩ ⟨hq0.1, by omega⟩ ⟨hr0.1, by omega⟩ ⟨hs0.1, by omega⟩).mono ?_
        rintro e we ⟨rfl, bd⟩
        have hBn := hB.trans (bd.below w1.heap.size)
        have hwr := wrap_in (t - (p0 - q0 - r0 + s0)) (by omega) (by omega)
        go_wp2
        go_roundw
        case rel => exact ⟨1, t - (p0 - q0 - r0 + s0), by omega, rfl, by go_num, sumUp_sub HT.out HZ0.out HK.out, by omega, by omega, hBn⟩
        case measure => simp [intOf]
      · have HK := Lib.hid hkm
        have hkz : ((0 : Int) == m) = false := by simp [hkm]
        clear hkm
        go_wp2_with fail
        refine (agreement_any _ p0 q0 r0 s0 _ hrd ⟨hp0.1, by omega⟩ ⟨hq0.1, by omega⟩ ⟨hr0.1, by omega⟩ ⟨hs0.1, by omega⟩).mono ?_
        rintro e we ⟨rfl, bd⟩
        have hBn := hB.trans (bd.below w1.heap.size)
        have hwr := wrap_in (t + (p0 - q0 - r0 + s0)) (by omega) (by omega)
        go_wp2
        go_roundw
        case rel => exact ⟨1, t + (p0 - q0 - r0 + s0), by omega, rfl, by go_num, sumUp_pos HT.out HZ0.out HK.out, by omega, by omega, hBn⟩
        case measure => simp [intOf]
    · rw [show ((1 : Nat) : Int) = (1 : Int) from rfl] at ht0 ht1 ⊢
      have cv := keepAt (B1.trans (hB.mono B1.size)) lv1 HV1.out.1
      have hrd := HV1.out.2.kept (Nat.le_refl _) (B1.trans (hB.mono B1.size))
      obtain ⟨hp1, hq1, hr1, hs1⟩ := HB1.out
      by_cases hkm : (1 : Int) = m
      · have HK := Lib.hid hkm
        have hkz : ((1 : Int) == m) = true := by simp [hkm]
        clear hkm
        go_wp2_with fail
        refine (agreement_any _ p1 q1 r1 s1 _ hrd ⟨hp1.1, by omega⟩ ⟨hq1.1, by omega⟩ ⟨hr1.1, by omega⟩ ⟨hs1.1, by omega⟩).mono ?_
        rintro e we ⟨rfl, bd⟩
        have hBn := hB.trans (bd.below w1.heap.size)
        have hwr := wrap_in (t - (p1 - q1 - r1 + s1)) (by omega) (by omega)
        go_wp2
        go_roundw
        case rel => exact ⟨2, t - (p1 - q1 - r1 + s1), by omega, rfl, by go_num, sumUp_sub HT.out HZ1.out HK.out, by omega, by omega, hBn⟩
        case measure => simp [intOf]
      · have HK := Lib.hid hkm
        have hkz : ((1 : Int) == m) = false := by simp [hkm]
        clear hkm
        go_wp2_with fail
        refine (agreement_any _ p1 q1 r1 s1 _ hrd ⟨hp1.1, by omega⟩ ⟨hq1.1, by omega⟩ ⟨hr1.1, by omega⟩ ⟨hs1.1, by omega⟩).mono ?_
        rintro e we ⟨rfl, bd⟩
        have hBn := hB.trans (bd.below w1.heap.size)
        have hwr := wrap_in (t + (p1 - q1 - r1 + s1)) (by omega) (by omega)
        go_wp2
        go_roundw
        case rel => exact ⟨2, t + (p1 - q1 - r1 + s1), by omega, rfl, by go_num, sumUp_pos HT.out HZ1.out HK.out, by omega, by omega, hBn⟩
        case measure => simp [intOf]
    · rw [show ((2 : Nat) : Int) = (2 : Int) from rfl] at ht0 ht1 ⊢
      have cv := keepAt (B1.trans (hB.mono B1.size)) lv2 HV2.out.1
      have hrd := HV2.out.2.kept (Nat.le_refl _) (B1.trans (hB.mono B1.size))
      obtain ⟨hp2, hq2, hr2, hs2⟩ := HB2.out
      by_cases hkm : (2 : Int) = m
      · have HK := Lib.hid hkm
        have hkz : ((2 : Int) == m) = true := by simp [hkm]
        clear hkm
        go_wp2_with fail
        refine (agreement_any _ p2 q2 r2 s2 _ hrd ⟨hp2.1, by omega⟩ ⟨hq2.1, by omega⟩ ⟨hr2.1, by omega⟩ ⟨hs2.1, by omega⟩).mono ?_
        rintro e we ⟨rfl, bd⟩
        have hBn := hB.trans (bd.below w1.heap.size)
        have hwr := wrap_in (t - (p2 - q2 - r2 + s2)) (by omega) (by omega)
        go_wp2
        go_roundw
        case rel => exact ⟨3, t - (p2 - q2 - r2 + s2), by omega, rfl, by go_num, sumUp_sub HT.out HZ2.out HK.out, by omega, by omega, hBn⟩
        case measure => simp [intOf]
      · have HK := Lib.hid hkm
        have hkz : ((2 : Int) == m) = false := by simp [hkm]
        clear hkm
        go_wp2_with fail
        refine (agreement_any _ p2 q2 r2 s2 _ hrd ⟨hp2.1, by omega⟩ ⟨hq2.1, by omega⟩ ⟨hr2.1, by omega⟩ ⟨hs2.1, by omega⟩).mono ?_
        rintro e we ⟨rfl, bd⟩
        have hBn := hB.trans (bd.below w1.heap.size)
        have hwr := wrap_in (t + (p2 - q2 - r2 + s2)) (by omega) (by omega)
        go_wp2
        go_roundw
        case rel => exact ⟨3, t + (p2 - q2 - r2 + s2), by omega, rfl, by go_num, sumUp_pos HT.out HZ2.out HK.out, by omega, by omega, hBn⟩
        case measure => simp [intOf]
    · rw [show ((3 : Nat) : Int) = (3 : Int) from rfl] at ht0 ht1 ⊢
      have cv := keepAt (B1.trans (hB.mono B1.size)) lv3 HV3.out.1
      have hrd := HV3.out.2.kept (Nat.le_refl _) (B1.trans (hB.mono B1.size))
      obtain ⟨hp3, hq3, hr3, hs3⟩ := HB3.out
      by_cases hkm : (3 : Int) = m
      · have HK := Lib.hid hkm
        have hkz : ((3 : Int) == m) = true := by simp [hkm]
        clear hkm
        go_wp2_with fail
        refine (agreement_any _ p3 q3 r3 s3 _ hrd ⟨hp3.1, by omega⟩ ⟨hq3.1, by omega⟩ ⟨hr3.1, by omega⟩ ⟨hs3.1, by omega⟩).mono ?_
        rintro e we ⟨rfl, bd⟩
        have hBn := hB.trans (bd.below w1.heap.size)
        have hwr := wrap_in (t - (p3 - q3 - r3 + s3)) (by omega) (by omega)
        go_wp2
        go_roundw
        case rel => exact ⟨4, t - (p3 - q3 - r3 + s3), by omega, rfl, by go_num, sumUp_sub HT.out HZ3.out HK.out, by omega, by omega, hBn⟩
        case measure => simp [intOf]
      · have HK := Lib.hid hkm
        have hkz : ((3 : Int) == m) = false := by simp [hkm]
        clear hkm
        go_wp2_with fail
        refine (agreement_any _ p3 q3 r3 s3 _ hrd ⟨hp3.1, by omega⟩ ⟨hq3.1, by omega⟩ ⟨hr3.1, by omega⟩ ⟨hs3.1, by omega⟩).mono ?_
        rintro e we ⟨rfl, bd⟩
        have hBn := hB.trans (bd.below w1.heap.size)
        have hwr := wrap_in (t + (p3 - q3 - r3 + s3)) (by omega) (by omega)
        go_wp2
        go_roundw
        case rel => exact ⟨4, t + (p3 - q3 - r3 + s3), by omega, rfl, by go_num, sumUp_pos HT.out HZ3.out HK.out, by omega, by omega, hBn⟩
        case measure => simp [intOf]
    · go_wp2
      go_ret
      exact ⟨ret_int HT.out, B1.trans (hB.mono B1.size)⟩
end Go.Proofs.Ytnmnmnpeoiblhaa
