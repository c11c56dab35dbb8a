/- IsQuiet and FirstLoud: contracts of the program's and the reference's functions. IsPlay: the program's answers are the reference's, for all arguments. -/
import Derived.Test.YtcifpfdlkpddeaaGreatDoorQxat
import Derived.Test.YtcifpfdlkpddeaaGreatDoorQxae
set_option linter.unusedSimpArgs false
set_option linter.unusedVariables false
namespace Go.Proofs.YtcifpfdlkpddeaaGreatDoor
open Go.RowKit

def quietB (b : BoxD) : Bool := (loudF b).isNone
theorem loudS_neg (b : BoxD) : decide ((loudS b).1 < 0) = quietB b := by
  unfold loudS quietB
  cases loudF b with
  | none => rfl
  | some p => simp <;> omega
theorem loudI_quiet (b : BoxD) : (loudI b).2.2 = !quietB b := by
  unfold loudI quietB
  cases loudF b <;> rfl

set_option maxHeartbeats 800000 in
theorem l2Quiet_any (v : Value) (b : BoxD) (hb : boxB b = true) (w : World) (h : RdII w v b.Rows) :
    Calls Tryz.prog 36 #[.agg #[.int .i64 b.X, .int .i64 b.Y, .int .i64 b.Whole, v]] w fun e w' => e = .returned (.bool (quietB b)) ∧ Below w.heap.size w w' := by
  have hs := loudS_neg b
  go_enter Tryz.func36, Tryz.ntmps36
  go_wp2_with fail
  refine (l2Loud_any v b hb _ (h.kept (Nat.le_refl _) (by repeat' (first | with_reducible exact Below.refl _ _ | with_reducible assumption | with_reducible apply Below.alloc | with_reducible apply Below.setCell | with_reducible apply Below.drew | exact Nat.le_refl _ | omega | (simp only [World.size_alloc, World.size_setCell]; omega))))).mono ?_
  rintro e w1 ⟨rfl, b1⟩
  have B1 : Below w.heap.size w w1 := Below.trans (by repeat' (first | with_reducible exact Below.refl _ _ | with_reducible assumption | with_reducible apply Below.alloc | with_reducible apply Below.setCell | with_reducible apply Below.drew | exact Nat.le_refl _ | omega | (simp only [World.size_alloc, World.size_setCell]; omega))) (b1.mono (by first | exact Nat.le_refl _ | omega | (simp only [World.size_alloc, World.size_setCell]; omega)))
  generalize (loudS b).1 = s1 at *
  generalize (loudS b).2 = s2 at *
  have HS := Lib.hid hs
  clear hs
  by_cases hn : s1 < 0
  · go_wp2
    go_ret
    exact ⟨ret_bool (by rw [← HS.out, decide_eq_true hn]), B1⟩
  · go_wp2
    go_ret
    exact ⟨ret_bool (by rw [← HS.out]; first | done | exact (decide_eq_false (by omega)).symm), B1⟩
def isQuietD (b : BoxD) : Bool := boxB b && quietB b
set_option maxHeartbeats 800000 in
theorem specIsQuiet_any (v : Value) (b : BoxD) (w : World) (h : RdII w v b.Rows) :
    Calls Tryz.prog 9 #[.agg #[.int .i64 b.X, .int .i64 b.Y, .int .i64 b.Whole, v]] w fun e w' => e = .returned (.tuple #[.bool (isQuietD b), .bool (boxB b)]) ∧ Below w.heap.size w w' := by
  go_enter Tryz.func9, Tryz.ntmps9
  go_wp2_with fail
  refine (l2Box_any v b _ (h.kept (Nat.le_refl _) (by repeat' (first | with_reducible exact Below.refl _ _ | with_reducible assumption | with_reducible apply Below.alloc | with_reducible apply Below.setCell | with_reducible apply Below.drew | exact Nat.le_refl _ | omega | (simp only [World.size_alloc, World.size_setCell]; omega))))).mono ?_
  rintro e w1 ⟨rfl, b1⟩
  have B1 : Below w.heap.size w w1 := Below.trans (by repeat' (first | with_reducible exact Below.refl _ _ | with_reducible assumption | with_reducible apply Below.alloc | with_reducible apply Below.setCell | with_reducible apply Below.drew | exact Nat.le_refl _ | omega | (simp only [World.size_alloc, World.size_setCell]; omega))) (b1.mono (by first | exact Nat.le_refl _ | omega | (simp only [World.size_alloc, World.size_setCell]; omega)))
  have A1 : BoxAt w1 w.heap.size b.X b.Y b.Whole v := ⟨keepCell b1 (by repeat' (first | with_reducible assumption | (refine cell_top ?_ rfl; first | with_reducible rfl | (simp only [World.size_alloc, World.size_setCell]; done)) | (refine cell_under ?_ ?_; (first | omega | (simp only [World.size_alloc, World.size_setCell]; omega))) | refine cell_drew ?_)), keepCell b1 (by repeat' (first | with_reducible assumption | (refine cell_top ?_ rfl; first | with_reducible rfl | (simp only [World.size_alloc, World.size_setCell]; done)) | (refine cell_under ?_ ?_; (first | omega | (simp only [World.size_alloc, World.size_setCell]; omega))) | refine cell_drew ?_)), keepCell b1 (by repeat' (first | with_reducible assumption | (refine cell_top ?_ rfl; first | with_reducible rfl | (simp only [World.size_alloc, World.size_setCell]; done)) | (refine cell_under ?_ ?_; (first | omega | (simp only [World.size_alloc, World.size_setCell]; omega))) | refine cell_drew ?_)), keepCell b1 (by repeat' (first | with_reducible assumption | (refine cell_top ?_ rfl; first | with_reducible rfl | (simp only [World.size_alloc, World.size_setCell]; done)) | (refine cell_under ?_ ?_; (first | omega | (simp only [World.size_alloc, World.size_setCell]; omega))) | refine cell_drew ?_))⟩
  clear b1
  rcases Bool.eq_false_or_eq_true (boxB b) with hok | hok
  · obtain ⟨a0, a1, a2, a3⟩ := A1
    have HM := Lib.hid hok
    rw [hok]
    clear hok
    go_wp2_with fail
    refine (l2Quiet_any v b HM.out _ (h.kept (Nat.le_refl _) B1)).mono ?_
    rintro e w2 ⟨rfl, b2⟩
    have B2 := B1.trans (b2.mono B1.size)
    go_wp2
    refine bodyPost_ret (v := .tuple #[.bool (quietB b), .bool true]) (by simp [results, Tryz.results9, go_sem]) rfl ⟨by unfold isQuietD; rw [HM.out]; rfl, B2⟩
  · have HM := Lib.hid hok
    rw [hok]
    clear hok
    go_wp2
    refine bodyPost_ret (v := .tuple #[.bool false, .bool false]) (by simp [results, Tryz.results9, go_sem]) rfl ⟨by unfold isQuietD; rw [HM.out]; rfl, B1⟩
set_option maxHeartbeats 800000 in
theorem isQuiet_any (v : Value) (b : BoxD) (w : World) (h : RdII w v b.Rows) :
    Calls Tryz.prog 38 #[.agg #[.int .i64 b.X, .int .i64 b.Y, .int .i64 b.Whole, v]] w fun e w' => e = .returned (.bool (boxB b && quietB b)) ∧ Below w.heap.size w w' := by
  go_enter Tryz.func38, Tryz.ntmps38
  go_wp2_with fail
  refine (implIsBox_any v b _ (h.kept (Nat.le_refl _) (by repeat' (first | with_reducible exact Below.refl _ _ | with_reducible assumption | with_reducible apply Below.alloc | with_reducible apply Below.setCell | with_reducible apply Below.drew | exact Nat.le_refl _ | omega | (simp only [World.size_alloc, World.size_setCell]; omega))))).mono ?_
  rintro e w1 ⟨rfl, b1⟩
  have B1 : Below w.heap.size w w1 := Below.trans (by repeat' (first | with_reducible exact Below.refl _ _ | with_reducible assumption | with_reducible apply Below.alloc | with_reducible apply Below.setCell | with_reducible apply Below.drew | exact Nat.le_refl _ | omega | (simp only [World.size_alloc, World.size_setCell]; omega))) (b1.mono (by first | exact Nat.le_refl _ | omega | (simp only [World.size_alloc, World.size_setCell]; omega)))
  have A1 : BoxAt w1 w.heap.size b.X b.Y b.Whole v := ⟨keepCell b1 (by repeat' (first | with_reducible assumption | (refine cell_top ?_ rfl; first | with_reducible rfl | (simp only [World.size_alloc, World.size_setCell]; done)) | (refine cell_under ?_ ?_; (first | omega | (simp only [World.size_alloc, World.size_setCell]; omega))) | refine cell_drew ?_)), keepCell b1 (by repeat' (first | with_reducible assumption | (refine cell_top ?_ rfl; first | with_reducible rfl | (simp only [World.size_alloc, World.size_setCell]; done)) | (refine cell_under ?_ ?_; (first | omega | (simp only [World.size_alloc, World.size_setCell]; omega))) | refine cell_drew ?_)), keepCell b1 (by repeat' (first | with_reducible assumption | (refine cell_top ?_ rfl; first | with_reducible rfl | (simp only [World.size_alloc, World.size_setCell]; done)) | (refine cell_under ?_ ?_; (first | omega | (simp only [World.size_alloc, World.size_setCell]; omega))) | refine cell_drew ?_)), keepCell b1 (by repeat' (first | with_reducible assumption | (refine cell_top ?_ rfl; first | with_reducible rfl | (simp only [World.size_alloc, World.size_setCell]; done)) | (refine cell_under ?_ ?_; (first | omega | (simp only [World.size_alloc, World.size_setCell]; omega))) | refine cell_drew ?_))⟩
  clear b1
  rcases Bool.eq_false_or_eq_true (boxB b) with hok | hok
  · obtain ⟨a0, a1, a2, a3⟩ := A1
    have HM := Lib.hid hok
    rw [hok]
    clear hok
    go_wp2_with fail
    refine (loud_any v b HM.out _ (h.kept (Nat.le_refl _) B1)).mono ?_
    rintro e w2 ⟨rfl, b2⟩
    have B2 := B1.trans (b2.mono B1.size)
    have hq := loudI_quiet b
    have HQ := Lib.hid hq
    generalize (loudI b).2.2 = q3 at *
    clear hq
    go_wp2
    go_ret
    exact ⟨ret_bool (by rw [HQ.out, HM.out]; simp), B2⟩
  · have HM := Lib.hid hok
    rw [hok]
    clear hok
    go_wp2
    go_ret
    exact ⟨ret_bool (by rw [HM.out]; rfl), B1⟩
set_option maxHeartbeats 800000 in
theorem implIsQuiet_any (v : Value) (b : BoxD) (w : World) (h : RdII w v b.Rows) :
    Calls Tryz.prog 8 #[.agg #[.int .i64 b.X, .int .i64 b.Y, .int .i64 b.Whole, v]] w fun e w' => e = .returned (.tuple #[.bool (isQuietD b), .bool (boxB b)]) ∧ Below w.heap.size w w' := by
  go_enter Tryz.func8, Tryz.ntmps8
  go_wp2_with fail
  refine (implIsBox_any v b _ (h.kept (Nat.le_refl _) (by repeat' (first | with_reducible exact Below.refl _ _ | with_reducible assumption | with_reducible apply Below.alloc | with_reducible apply Below.setCell | with_reducible apply Below.drew | exact Nat.le_refl _ | omega | (simp only [World.size_alloc, World.size_setCell]; omega))))).mono ?_
  rintro e w1 ⟨rfl, b1⟩
  have B1 : Below w.heap.size w w1 := Below.trans (by repeat' (first | with_reducible exact Below.refl _ _ | with_reducible assumption | with_reducible apply Below.alloc | with_reducible apply Below.setCell | with_reducible apply Below.drew | exact Nat.le_refl _ | omega | (simp only [World.size_alloc, World.size_setCell]; omega))) (b1.mono (by first | exact Nat.le_refl _ | omega | (simp only [World.size_alloc, World.size_setCell]; omega)))
  have A1 : BoxAt w1 w.heap.size b.X b.Y b.Whole v := ⟨keepCell b1 (by repeat' (first | with_reducible assumption | (refine cell_top ?_ rfl; first | with_reducible rfl | (simp only [World.size_alloc, World.size_setCell]; done)) | (refine cell_under ?_ ?_; (first | omega | (simp only [World.size_alloc, World.size_setCell]; omega))) | refine cell_drew ?_)), keepCell b1 (by repeat' (first | with_reducible assumption | (refine cell_top ?_ rfl; first | with_reducible rfl | (simp only [World.size_alloc, World.size_setCell]; done)) | (refine cell_under ?_ ?_; (first | omega | (simp only [World.size_alloc, World.size_setCell]; omega))) | refine cell_drew ?_)), keepCell b1 (by repeat' (first | with_reducible assumption | (refine cell_top ?_ rfl; first | with_reducible rfl | (simp only [World.size_alloc, World.size_setCell]; done)) | (refine cell_under ?_ ?_; (first | omega | (simp only [World.size_alloc, World.size_setCell]; omega))) | refine cell_drew ?_)), keepCell b1 (by repeat' (first | with_reducible assumption | (refine cell_top ?_ rfl; first | with_reducible rfl | (simp only [World.size_alloc, World.size_setCell]; done)) | (refine cell_under ?_ ?_; (first | omega | (simp only [World.size_alloc, World.size_setCell]; omega))) | refine cell_drew ?_))⟩
  clear b1
  rcases Bool.eq_false_or_eq_true (boxB b) with hok | hok
  · obtain ⟨a0, a1, a2, a3⟩ := A1
    have HM := Lib.hid hok
    rw [hok]
    clear hok
    go_wp2_with fail
    refine (isQuiet_any v b _ (h.kept (Nat.le_refl _) B1)).mono ?_
    rintro e w2 ⟨rfl, b2⟩
    have B2 := B1.trans (b2.mono B1.size)
    rw [HM.out]
    go_wp2
    refine bodyPost_ret (v := .tuple #[.bool (true && quietB b), .bool true]) (by simp [results, Tryz.results8, go_sem]) rfl ⟨by unfold isQuietD; rw [HM.out], B2⟩
  · have HM := Lib.hid hok
    rw [hok]
    clear hok
    go_wp2
    refine bodyPost_ret (v := .tuple #[.bool false, .bool false]) (by simp [results, Tryz.results8, go_sem]) rfl ⟨by unfold isQuietD; rw [HM.out]; rfl, B1⟩
def firstD (b : BoxD) : Int × Int × Bool := if boxB b then loudI b else (0, 0, false)
set_option maxHeartbeats 800000 in
theorem specFirstLoud_any (v : Value) (b : BoxD) (w : World) (h : RdII w v b.Rows) :
    Calls Tryz.prog 7 #[.agg #[.int .i64 b.X, .int .i64 b.Y, .int .i64 b.Whole, v]] w fun e w' => e = .returned (.tuple #[.int .i64 (firstD b).1, .int .i64 (firstD b).2.1, .bool (firstD b).2.2]) ∧ Below w.heap.size w w' := by
  go_enter Tryz.func7, Tryz.ntmps7
  go_wp2_with fail
  refine (l2Box_any v b _ (h.kept (Nat.le_refl _) (by repeat' (first | with_reducible exact Below.refl _ _ | with_reducible assumption | with_reducible apply Below.alloc | with_reducible apply Below.setCell | with_reducible apply Below.drew | exact Nat.le_refl _ | omega | (simp only [World.size_alloc, World.size_setCell]; omega))))).mono ?_
  rintro e w1 ⟨rfl, b1⟩
  have B1 : Below w.heap.size w w1 := Below.trans (by repeat' (first | with_reducible exact Below.refl _ _ | with_reducible assumption | with_reducible apply Below.alloc | with_reducible apply Below.setCell | with_reducible apply Below.drew | exact Nat.le_refl _ | omega | (simp only [World.size_alloc, World.size_setCell]; omega))) (b1.mono (by first | exact Nat.le_refl _ | omega | (simp only [World.size_alloc, World.size_setCell]; omega)))
  have A1 : BoxAt w1 w.heap.size b.X b.Y b.Whole v := ⟨keepCell b1 (by repeat' (first | with_reducible assumption | (refine cell_top ?_ rfl; first | with_reducible rfl | (simp only [World.size_alloc, World.size_setCell]; done)) | (refine cell_under ?_ ?_; (first | omega | (simp only [World.size_alloc, World.size_setCell]; omega))) | refine cell_drew ?_)), keepCell b1 (by repeat' (first | with_reducible assumption | (refine cell_top ?_ rfl; first | with_reducible rfl | (simp only [World.size_alloc, World.size_setCell]; done)) | (refine cell_under ?_ ?_; (first | omega | (simp only [World.size_alloc, World.size_setCell]; omega))) | refine cell_drew ?_)), keepCell b1 (by repeat' (first | with_reducible assumption | (refine cell_top ?_ rfl; first | with_reducible rfl | (simp only [World.size_alloc, World.size_setCell]; done)) | (refine cell_under ?_ ?_; (first | omega | (simp only [World.size_alloc, World.size_setCell]; omega))) | refine cell_drew ?_)), keepCell b1 (by repeat' (first | with_reducible assumption | (refine cell_top ?_ rfl; first | with_reducible rfl | (simp only [World.size_alloc, World.size_setCell]; done)) | (refine cell_under ?_ ?_; (first | omega | (simp only [World.size_alloc, World.size_setCell]; omega))) | refine cell_drew ?_))⟩
  clear b1
  rcases Bool.eq_false_or_eq_true (boxB b) with hok | hok
  · obtain ⟨a0, a1, a2, a3⟩ := A1
    have HM := Lib.hid hok
    rw [hok]
    clear hok
    go_wp2_with fail
    refine (l2Quiet_any v b HM.out _ (h.kept (Nat.le_refl _) B1)).mono ?_
    rintro e w2 ⟨rfl, b2⟩
    have B2 := B1.trans (b2.mono B1.size)
    rcases Bool.eq_false_or_eq_true (quietB b) with hq | hq
    · have hl : firstD b = (0, 0, false) := by
        unfold firstD loudI; rw [HM.out]; unfold quietB at hq
        cases hf : loudF b with
        | none => rfl
        | some p => rw [hf] at hq; cases hq
      have HL := Lib.hid hl
      rw [hq]
      clear hl hq
      go_wp2
      refine bodyPost_ret (v := .tuple #[.int .i64 0, .int .i64 0, .bool false]) (by simp [results, Tryz.results7, go_sem]) rfl ⟨by rw [HL.out], B2⟩
    · have hl : firstD b = ((loudS b).1, (loudS b).2, true) := by
        unfold firstD loudI loudS; rw [HM.out]; unfold quietB at hq
        cases hf : loudF b with
        | none => rw [hf] at hq; cases hq
        | some p => rfl
      have HL := Lib.hid hl
      rw [hq]
      clear hl hq
      replace a0 := keepCell b2 a0
      replace a1 := keepCell b2 a1
      replace a2 := keepCell b2 a2
      replace a3 := keepCell b2 a3
      go_wp2_with fail
      refine (l2Loud_any v b HM.out _ (h.kept (Nat.le_refl _) B2)).mono ?_
      rintro e w3 ⟨rfl, b3⟩
      have B3 := B2.trans (b3.mono B2.size)
      go_wp2
      refine bodyPost_ret (v := .tuple #[.int .i64 (loudS b).1, .int .i64 (loudS b).2, .bool true]) (by simp [results, Tryz.results7, go_sem]) rfl ⟨by rw [HL.out], B3⟩
  · have hl : firstD b = (0, 0, false) := by unfold firstD; rw [hok]; rfl
    have HL := Lib.hid hl
    rw [hok]
    clear hok hl
    go_wp2
    refine bodyPost_ret (v := .tuple #[.int .i64 0, .int .i64 0, .bool false]) (by simp [results, Tryz.results7, go_sem]) rfl ⟨by rw [HL.out], B1⟩
set_option maxHeartbeats 800000 in
theorem implFirstLoud_any (v : Value) (b : BoxD) (w : World) (h : RdII w v b.Rows) :
    Calls Tryz.prog 6 #[.agg #[.int .i64 b.X, .int .i64 b.Y, .int .i64 b.Whole, v]] w fun e w' => e = .returned (.tuple #[.int .i64 (firstD b).1, .int .i64 (firstD b).2.1, .bool (firstD b).2.2]) ∧ Below w.heap.size w w' := by
  go_enter Tryz.func6, Tryz.ntmps6
  go_wp2_with fail
  refine (implIsBox_any v b _ (h.kept (Nat.le_refl _) (by repeat' (first | with_reducible exact Below.refl _ _ | with_reducible assumption | with_reducible apply Below.alloc | with_reducible apply Below.setCell | with_reducible apply Below.drew | exact Nat.le_refl _ | omega | (simp only [World.size_alloc, World.size_setCell]; omega))))).mono ?_
  rintro e w1 ⟨rfl, b1⟩
  have B1 : Below w.heap.size w w1 := Below.trans (by repeat' (first | with_reducible exact Below.refl _ _ | with_reducible assumption | with_reducible apply Below.alloc | with_reducible apply Below.setCell | with_reducible apply Below.drew | exact Nat.le_refl _ | omega | (simp only [World.size_alloc, World.size_setCell]; omega))) (b1.mono (by first | exact Nat.le_refl _ | omega | (simp only [World.size_alloc, World.size_setCell]; omega)))
  have A1 : BoxAt w1 w.heap.size b.X b.Y b.Whole v := ⟨keepCell b1 (by repeat' (first | with_reducible assumption | (refine cell_top ?_ rfl; first | with_reducible rfl | (simp only [World.size_alloc, World.size_setCell]; done)) | (refine cell_under ?_ ?_; (first | omega | (simp only [World.size_alloc, World.size_setCell]; omega))) | refine cell_drew ?_)), keepCell b1 (by repeat' (first | with_reducible assumption | (refine cell_top ?_ rfl; first | with_reducible rfl | (simp only [World.size_alloc, World.size_setCell]; done)) | (refine cell_under ?_ ?_; (first | omega | (simp only [World.size_alloc, World.size_setCell]; omega))) | refine cell_drew ?_)), keepCell b1 (by repeat' (first | with_reducible assumption | (refine cell_top ?_ rfl; first | with_reducible rfl | (simp only [World.size_alloc, World.size_setCell]; done)) | (refine cell_under ?_ ?_; (first | omega | (simp only [World.size_alloc, World.size_setCell]; omega))) | refine cell_drew ?_)), keepCell b1 (by repeat' (first | with_reducible assumption | (refine cell_top ?_ rfl; first | with_reducible rfl | (simp only [World.size_alloc, World.size_setCell]; done)) | (refine cell_under ?_ ?_; (first | omega | (simp only [World.size_alloc, World.size_setCell]; omega))) | refine cell_drew ?_))⟩
  clear b1
  rcases Bool.eq_false_or_eq_true (boxB b) with hok | hok
  · obtain ⟨a0, a1, a2, a3⟩ := A1
    have hl : firstD b = loudI b := by unfold firstD; rw [hok]; rfl
    have HL := Lib.hid hl
    have HM := Lib.hid hok
    rw [hok]
    clear hok hl
    go_wp2_with fail
    refine (loud_any v b HM.out _ (h.kept (Nat.le_refl _) B1)).mono ?_
    rintro e w2 ⟨rfl, b2⟩
    have B2 := B1.trans (b2.mono B1.size)
    go_wp2
    refine bodyPost_ret (v := .tuple #[.int .i64 (loudI b).1, .int .i64 (loudI b).2.1, .bool (loudI b).2.2]) (by simp [results, Tryz.results6, go_sem]) rfl ⟨by rw [HL.out], B2⟩
  · have hl : firstD b = (0, 0, false) := by unfold firstD; rw [hok]; rfl
    have HL := Lib.hid hl
    rw [hok]
    clear hok hl
    go_wp2
    refine bodyPost_ret (v := .tuple #[.int .i64 0, .int .i64 0, .bool false]) (by simp [results, Tryz.results6, go_sem]) rfl ⟨by rw [HL.out], B1⟩
end Go.Proofs.YtcifpfdlkpddeaaGreatDoor
set_option linter.unusedSimpArgs false
set_option linter.unusedVariables false
namespace Go.Proofs.YtcifpfdlkpddeaaGreatDoor
open Go.RowKit

theorem ret_bool2 {a b c d : Bool} (h : a = c) (h' : b = d) : Ending.returned (.tuple #[.bool a, .bool b]) = .returned (.tuple #[.bool c, .bool d]) := by rw [h, h']

theorem specIsPlay_any (v : Value) (xs : List Int) (x y : Int) (w : World) (h : RdI w v xs) :
    Calls Tryz.prog 32 #[.int .i64 x, .int .i64 y, v] w fun e w' => e = .returned (.tuple #[.bool (sizesB x y && bitsB xs (x + y)), .bool (sizesB x y)]) ∧ w = w' := by
  rcases Bool.eq_false_or_eq_true (sizesB x y) with hs | hs
  · obtain ⟨⟨hx1, hx2⟩, hy1, hy2⟩ := sizesB_iff.1 hs
    go_enter Tryz.func32, Tryz.ntmps32
    go_wp2_with (first | (go_at_call 72; refine (l2Sizes_any _ _ _).mono ?_; rintro e w' ⟨rfl, rfl⟩) | (go_at_call 77; refine (l2Bits_any _ xs _ _ h).mono ?_; rintro e w' ⟨rfl, rfl⟩))
    go_ret2
    exact ⟨ret_bool2 (by rw [hs]; rfl) hs.symm, rfl⟩
  · go_enter Tryz.func32, Tryz.ntmps32
    go_wp2_with (go_at_call 72; refine (l2Sizes_any _ _ _).mono ?_; rintro e w' ⟨rfl, rfl⟩)
    go_ret2
    exact ⟨ret_bool2 (by rw [hs]; rfl) hs.symm, rfl⟩

theorem implIsPlay_any (v : Value) (xs : List Int) (x y : Int) (w : World) (h : RdI w v xs) :
    Calls Tryz.prog 31 #[.int .i64 x, .int .i64 y, v] w fun e w' => e = .returned (.tuple #[.bool (sizesB x y && bitsB xs (x + y)), .bool (sizesB x y)]) ∧ w = w' := by
  rcases Bool.eq_false_or_eq_true (sizesB x y) with hs | hs
  · have hq := sizesB_iff.1 hs
    go_enter Tryz.func31, Tryz.ntmps31
    go_wp2_with (first | (go_at_call 39; refine (areQuestions_any _ _ _).mono ?_; rintro e w' ⟨rfl, rfl⟩) | (go_at_call 61; refine (isPlay_any _ xs _ _ _ h hq.1 hq.2).mono ?_; rintro e w' ⟨rfl, rfl⟩))
    go_ret2
    exact ⟨ret_bool2 (by rw [hs]; rfl) hs.symm, rfl⟩
  · go_enter Tryz.func31, Tryz.ntmps31
    go_wp2_with (go_at_call 39; refine (areQuestions_any _ _ _).mono ?_; rintro e w' ⟨rfl, rfl⟩)
    go_ret2
    exact ⟨ret_bool2 (by rw [hs]; rfl) hs.symm, rfl⟩

end Go.Proofs.YtcifpfdlkpddeaaGreatDoor
