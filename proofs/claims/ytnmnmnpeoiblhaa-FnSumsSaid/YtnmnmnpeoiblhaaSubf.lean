/- IsLocal: contracts of the program's and the reference's functions. -/
import Derived.Test.YtnmnmnpeoiblhaaSube
import Derived.Test.YtnmnmnpeoiblhaaSuaz
import Derived.Deep.RegionHeld3
set_option linter.unusedSimpArgs false
set_option linter.unusedVariables false
namespace Go.Proofs.Ytnmnmnpeoiblhaa
open Go.RowKit

def localB (b : BoxD) : Bool := quietB b && (decide ((great b).best ≤ 2 * b.Whole) && (decide (b.X < 3) || (decide (b.Y < 3) || decide (mostT b ≤ 0))))
def localOk (b : BoxD) : Bool := boxB b && localB b
set_option maxRecDepth 100000 in
set_option maxHeartbeats 1600000 in
theorem isLocal_any (v : Value) (b : BoxD) (hb : boxB b = true) (w : World) (h : RdII w v b.Rows) :
    Calls Try.prog 95 #[.agg #[.int .i64 b.X, .int .i64 b.Y, .int .i64 b.Whole, v]] w fun e w' => e = .returned (.bool (localB b)) ∧ Below w.heap.size w w' := by
  obtain ⟨⟨hx, hy⟩, hwh, _⟩ := boxB_iff.1 hb
  obtain ⟨m, hm⟩ : ∃ m, mostT b = m := ⟨_, rfl⟩
  have CM := fun hX hY W hW => greatestTriple_any v b hb hX hY W hW
  rw [hm] at CM
  have HL := Lib.hid (show localB b = (quietB b && (decide ((great b).best ≤ 2 * b.Whole) && (decide (b.X < 3) || (decide (b.Y < 3) || decide (m ≤ 0))))) by rw [← hm]; rfl)
  clear hm
  have CG := greatest_any v b hb (w.alloc (.cells #[.int .i64 b.X, .int .i64 b.Y, .int .i64 b.Whole, v] 26)) (h.kept (Nat.le_refl _) (by repeat' (first | with_reducible exact Below.refl _ _ | with_reducible assumption | with_reducible apply Below.alloc | with_reducible apply Below.setCell | with_reducible apply Below.drew | exact Nat.le_refl _ | omega | (simp only [World.size_alloc, World.size_setCell]; omega))))
  have CQ := Lib.hid (fun W hW => isQuiet_any v b W hW)
  have CT := Lib.hid (fun W hW => isTriple_any v b W hW)
  have htr : tripleOk b = (quietB b && (decide (b.X = 3) && decide (b.Y = 3))) := by unfold tripleOk; rw [hb]; rfl
  rw [hb] at CQ
  rw [htr] at CT
  clear htr
  have hw2 : IntKind.i64.wrap (2 * b.Whole) = 2 * b.Whole := wrap_in _ (by omega) (by omega)
  go_enter Try.func95, Try.ntmps95
  go_wp2_with fail
  refine CG.mono ?_
  rintro e w1 ⟨rfl, b1⟩
  generalize great b = g at *
  obtain ⟨best, F0, F1, S0, S1, m0, there⟩ := g
  have B1 : Below w.heap.size w w1 := Below.trans (by repeat' (first | with_reducible exact Below.refl _ _ | with_reducible assumption | with_reducible apply Below.alloc | with_reducible apply Below.setCell | with_reducible apply Below.drew | exact Nat.le_refl _ | omega | (simp only [World.size_alloc, World.size_setCell]; omega))) (b1.mono (by first | exact Nat.le_refl _ | omega | (simp only [World.size_alloc, World.size_setCell]; omega)))
  have A1 : BoxAt w1 w.heap.size b.X b.Y b.Whole v := ⟨keepCell b1 (by repeat' (first | with_reducible assumption | (refine cell_top ?_ rfl; first | with_reducible rfl | (simp only [World.size_alloc, World.size_setCell]; done)) | (refine cell_under ?_ ?_; (first | omega | (simp only [World.size_alloc, World.size_setCell]; omega))) | refine cell_drew ?_)), keepCell b1 (by repeat' (first | with_reducible assumption | (refine cell_top ?_ rfl; first | with_reducible rfl | (simp only [World.size_alloc, World.size_setCell]; done)) | (refine cell_under ?_ ?_; (first | omega | (simp only [World.size_alloc, World.size_setCell]; omega))) | refine cell_drew ?_)), keepCell b1 (by repeat' (first | with_reducible assumption | (refine cell_top ?_ rfl; first | with_reducible rfl | (simp only [World.size_alloc, World.size_setCell]; done)) | (refine cell_under ?_ ?_; (first | omega | (simp only [World.size_alloc, World.size_setCell]; omega))) | refine cell_drew ?_)), keepCell b1 (by repeat' (first | with_reducible assumption | (refine cell_top ?_ rfl; first | with_reducible rfl | (simp only [World.size_alloc, World.size_setCell]; done)) | (refine cell_under ?_ ?_; (first | omega | (simp only [World.size_alloc, World.size_setCell]; omega))) | refine cell_drew ?_))⟩
  have hz := b1.size
  simp only [World.size_alloc] at hz
  clear b1 CG
  have l1 := A1.lt
  obtain ⟨a0, a1, a2, a3⟩ := A1
  have B2 : Below w.heap.size w ((w1.alloc (.cells #[.int .i64 F0, .int .i64 F1] 47)).alloc (.cells #[.int .i64 S0, .int .i64 S1] 47)) := (by repeat' (first | with_reducible exact Below.refl _ _ | with_reducible assumption | with_reducible apply Below.alloc | with_reducible apply Below.setCell | with_reducible apply Below.drew | exact Nat.le_refl _ | omega | (simp only [World.size_alloc, World.size_setCell]; omega)))
  have A2 : BoxAt ((w1.alloc (.cells #[.int .i64 F0, .int .i64 F1] 47)).alloc (.cells #[.int .i64 S0, .int .i64 S1] 47)) w.heap.size b.X b.Y b.Whole v := ⟨(by repeat' (first | with_reducible assumption | (refine cell_top ?_ rfl; first | with_reducible rfl | (simp only [World.size_alloc, World.size_setCell]; done)) | (refine cell_under ?_ ?_; (first | omega | (simp only [World.size_alloc, World.size_setCell]; omega))) | refine cell_drew ?_)), (by repeat' (first | with_reducible assumption | (refine cell_top ?_ rfl; first | with_reducible rfl | (simp only [World.size_alloc, World.size_setCell]; done)) | (refine cell_under ?_ ?_; (first | omega | (simp only [World.size_alloc, World.size_setCell]; omega))) | refine cell_drew ?_)), (by repeat' (first | with_reducible assumption | (refine cell_top ?_ rfl; first | with_reducible rfl | (simp only [World.size_alloc, World.size_setCell]; done)) | (refine cell_under ?_ ?_; (first | omega | (simp only [World.size_alloc, World.size_setCell]; omega))) | refine cell_drew ?_)), (by repeat' (first | with_reducible assumption | (refine cell_top ?_ rfl; first | with_reducible rfl | (simp only [World.size_alloc, World.size_setCell]; done)) | (refine cell_under ?_ ?_; (first | omega | (simp only [World.size_alloc, World.size_setCell]; omega))) | refine cell_drew ?_))⟩
  obtain ⟨e0, e1, e2, e3⟩ := id A2
  go_wp2_with fail
  revert A2 B2
  generalize (w1.alloc (.cells #[.int .i64 F0, .int .i64 F1] 47)).alloc (.cells #[.int .i64 S0, .int .i64 S1] 47) = w2 at *
  intro B2 A2
  refine (CQ.out _ (h.kept (Nat.le_refl _) B2)).mono ?_
  rintro e w3 ⟨rfl, b3⟩
  have B3 := B2.trans (b3.mono B2.size)
  have A3 := A2.kept b3 A2.lt
  clear e0 e1 e2 e3 a0 a1 a2 a3 b3 A2 B2
  generalize quietB b = q at *
  obtain ⟨a0, a1, a2, a3⟩ := id A3
  cases q with
  | false =>
    rw [show (true && false) = false from rfl]
    go_wp2
    go_ret
    exact ⟨ret_bool (by rw [HL.out]; rfl), B3⟩
  | true =>
    rw [show (true && true) = true from rfl]
    replace HL := Lib.hid (show localB b = (decide (best ≤ 2 * b.Whole) && (decide (b.X < 3) || (decide (b.Y < 3) || decide (m ≤ 0)))) from HL.out)
    by_cases hgt : 2 * b.Whole < best
    · have HD := Lib.hid (decide_eq_false (show ¬ best ≤ 2 * b.Whole by omega))
      go_wp2
      go_ret
      exact ⟨ret_bool (by rw [HL.out, HD.out]; rfl), B3⟩
    · have hle : best ≤ 2 * b.Whole := by omega
      have HD := Lib.hid (decide_eq_true hle)
      obtain ⟨t, ht⟩ : ∃ t, (true && (decide (b.X = 3) && decide (b.Y = 3))) = t := ⟨_, rfl⟩
      rw [ht] at CT
      have CT3 := CT.out w3 (h.kept (Nat.le_refl _) B3)
      go_wp2_with fail
      refine CT3.mono ?_
      rintro e w4 ⟨rfl, b4⟩
      have B4 := B3.trans (b4.mono B3.size)
      obtain ⟨c0, c1, c2, c3⟩ := A3.kept b4 A3.lt
      clear CT3 CT a0 a1 a2 a3
      cases t with
      | false =>
        have HT : (decide (b.X < 3) || (decide (b.Y < 3) || decide (m ≤ 0))) = true := by
          by_cases h3 : b.X < 3
          · rw [decide_eq_true h3]; rfl
          · by_cases h4 : b.Y < 3
            · rw [decide_eq_true h4, Bool.true_or, Bool.or_true]
            · rw [decide_eq_true (show b.X = 3 by omega), decide_eq_true (show b.Y = 3 by omega)] at ht
              cases ht
        have HH := Lib.hid HT
        clear HT ht
        go_wp2
        go_ret
        exact ⟨ret_bool (by rw [HL.out, HD.out, HH.out]; rfl), B4⟩
      | true =>
        have h34 : b.X = 3 ∧ b.Y = 3 := by simpa using ht
        have HX := Lib.hid (decide_eq_false (show ¬ b.X < 3 by omega))
        have HY := Lib.hid (decide_eq_false (show ¬ b.Y < 3 by omega))
        have CC := CM h34.1 h34.2 w4 (h.kept (Nat.le_refl _) B4)
        clear h34 ht
        go_wp2_with fail
        refine CC.mono ?_
        rintro e w5 ⟨rfl, b5⟩
        go_wp2
        go_ret
        exact ⟨ret_bool (by rw [HL.out, HD.out, HX.out, HY.out]; rfl), B4.trans (b5.mono B4.size)⟩
set_option maxHeartbeats 800000 in
theorem implIsLocal_any (v : Value) (b : BoxD) (w : World) (h : RdII w v b.Rows) :
    Calls Try.prog 43 #[.agg #[.int .i64 b.X, .int .i64 b.Y, .int .i64 b.Whole, v]] w fun e w' => e = .returned (.tuple #[.bool (localOk b), .bool (boxB b)]) ∧ Below w.heap.size w w' := by
  go_enter Try.func43, Try.ntmps43
  go_wp2_with fail
  refine (implIsBox_any v b _ (h.kept (Nat.le_refl _) (by repeat' (first | with_reducible exact Below.refl _ _ | with_reducible assumption | with_reducible apply Below.alloc | with_reducible apply Below.setCell | with_reducible apply Below.drew | exact Nat.le_refl _ | omega | (simp only [World.size_alloc, World.size_setCell]; omega))))).mono ?_
  rintro e w1 ⟨rfl, b1⟩
  have B1 : Below w.heap.size w w1 := Below.trans (by repeat' (first | with_reducible exact Below.refl _ _ | with_reducible assumption | with_reducible apply Below.alloc | with_reducible apply Below.setCell | with_reducible apply Below.drew | exact Nat.le_refl _ | omega | (simp only [World.size_alloc, World.size_setCell]; omega))) (b1.mono (by first | exact Nat.le_refl _ | omega | (simp only [World.size_alloc, World.size_setCell]; omega)))
  have A1 : BoxAt w1 w.heap.size b.X b.Y b.Whole v := ⟨keepCell b1 (by repeat' (first | with_reducible assumption | (refine cell_top ?_ rfl; first | with_reducible rfl | (simp only [World.size_alloc, World.size_setCell]; done)) | (refine cell_under ?_ ?_; (first | omega | (simp only [World.size_alloc, World.size_setCell]; omega))) | refine cell_drew ?_)), keepCell b1 (by repeat' (first | with_reducible assumption | (refine cell_top ?_ rfl; first | with_reducible rfl | (simp only [World.size_alloc, World.size_setCell]; done)) | (refine cell_under ?_ ?_; (first | omega | (simp only [World.size_alloc, World.size_setCell]; omega))) | refine cell_drew ?_)), keepCell b1 (by repeat' (first | with_reducible assumption | (refine cell_top ?_ rfl; first | with_reducible rfl | (simp only [World.size_alloc, World.size_setCell]; done)) | (refine cell_under ?_ ?_; (first | omega | (simp only [World.size_alloc, World.size_setCell]; omega))) | refine cell_drew ?_)), keepCell b1 (by repeat' (first | with_reducible assumption | (refine cell_top ?_ rfl; first | with_reducible rfl | (simp only [World.size_alloc, World.size_setCell]; done)) | (refine cell_under ?_ ?_; (first | omega | (simp only [World.size_alloc, World.size_setCell]; omega))) | refine cell_drew ?_))⟩
  clear b1
  rcases Bool.eq_false_or_eq_true (boxB b) with hok | hok
  · obtain ⟨a0, a1, a2, a3⟩ := A1
    have HM := Lib.hid hok
    rw [hok]
    clear hok
    go_wp2_with fail
    refine (isLocal_any v b HM.out _ (h.kept (Nat.le_refl _) B1)).mono ?_
    rintro e w2 ⟨rfl, b2⟩
    have B2 := B1.trans (b2.mono B1.size)
    go_wp2
    refine bodyPost_ret (v := .tuple #[.bool (localB b), .bool true]) (by simp [results, Try.results43, go_sem]) rfl ⟨by unfold localOk; rw [HM.out]; rfl, B2⟩
  · have HM := Lib.hid hok
    rw [hok]
    clear hok
    go_wp2
    refine bodyPost_ret (v := .tuple #[.bool false, .bool false]) (by simp [results, Try.results43, go_sem]) rfl ⟨by unfold localOk; rw [HM.out]; rfl, B1⟩
end Go.Proofs.Ytnmnmnpeoiblhaa
