/- GreatestSum, FirstSum: contracts of the program's and the reference's functions. -/
import Derived.Test.YtadnjljpceeolaaLobr
import Derived.Test.YtadnjljpceeolaaLobs
set_option linter.unusedSimpArgs false
set_option linter.unusedVariables false
namespace Go.Proofs.Ytadnjljpceeolaa
open Go.RowKit

def greatD (b : BoxD) : Int := if boxB b = true then (great b).best else 0
theorem best_field (best : Int) (F0 F1 S0 S1 m : Nat) (there : Bool) (W : World) : (Instr.field 124 (.agg #[.int .i64 best, .int .i64 F0, .int .i64 F1, .int .i64 S0, .int .i64 S1, .int .i64 m, .bool there]) 0).run Try.prog W = .ok (.int .i64 best) W := by kernel_rfl
set_option maxRecDepth 100000 in
set_option maxHeartbeats 1600000 in
theorem specGreatestSum_any (vb : Value) (b : BoxD) (w : World) (rb : RdII w vb b.Rows) :
    Calls Try.prog 58 #[.agg #[.int .i64 b.X, .int .i64 b.Y, .int .i64 b.Whole, vb]] w fun e w' => e = .returned (.tuple #[.int .i64 (greatD b), .bool (boxB b)]) ∧ Below w.heap.size w w' := by
  go_enter Try.func58, Try.ntmps58
  go_wp2_with fail
  refine (l2Box_any vb b _ (rb.kept (Nat.le_refl _) (by repeat' (first | with_reducible exact Below.refl _ _ | with_reducible assumption | with_reducible apply Below.alloc | with_reducible apply Below.setCell | with_reducible apply Below.drew | exact Nat.le_refl _ | omega | (simp only [World.size_alloc, World.size_setCell]; omega))))).mono ?_
  rintro e w1 ⟨rfl, b1⟩
  have B1 : Below w.heap.size w w1 := Below.trans (by repeat' (first | with_reducible exact Below.refl _ _ | with_reducible assumption | with_reducible apply Below.alloc | with_reducible apply Below.setCell | with_reducible apply Below.drew | exact Nat.le_refl _ | omega | (simp only [World.size_alloc, World.size_setCell]; omega))) (b1.mono (by first | exact Nat.le_refl _ | omega | (simp only [World.size_alloc, World.size_setCell]; omega)))
  obtain ⟨a0, a1, a2, a3⟩ : BoxAt w1 w.heap.size b.X b.Y b.Whole vb := ⟨keepCell b1 (by repeat' (first | with_reducible assumption | (refine cell_top ?_ rfl; first | with_reducible rfl | (simp only [World.size_alloc, World.size_setCell]; done)) | (refine cell_under ?_ ?_; (first | omega | (simp only [World.size_alloc, World.size_setCell]; omega))) | refine cell_drew ?_)), keepCell b1 (by repeat' (first | with_reducible assumption | (refine cell_top ?_ rfl; first | with_reducible rfl | (simp only [World.size_alloc, World.size_setCell]; done)) | (refine cell_under ?_ ?_; (first | omega | (simp only [World.size_alloc, World.size_setCell]; omega))) | refine cell_drew ?_)), keepCell b1 (by repeat' (first | with_reducible assumption | (refine cell_top ?_ rfl; first | with_reducible rfl | (simp only [World.size_alloc, World.size_setCell]; done)) | (refine cell_under ?_ ?_; (first | omega | (simp only [World.size_alloc, World.size_setCell]; omega))) | refine cell_drew ?_)), keepCell b1 (by repeat' (first | with_reducible assumption | (refine cell_top ?_ rfl; first | with_reducible rfl | (simp only [World.size_alloc, World.size_setCell]; done)) | (refine cell_under ?_ ?_; (first | omega | (simp only [World.size_alloc, World.size_setCell]; omega))) | refine cell_drew ?_))⟩
  clear b1
  rcases Bool.eq_false_or_eq_true (boxB b) with hok | hok
  · have HD := Lib.hid (show greatD b = (great b).best by unfold greatD; rw [if_pos hok])
    have CG := l3Greatest_any vb b hok w1 (rb.kept (Nat.le_refl _) B1)
    have HM := Lib.hid hok
    rw [hok]
    clear hok
    go_wp2_with fail
    refine CG.mono ?_
    rintro e w2 ⟨rfl, b2⟩
    generalize great b = g at *
    obtain ⟨best, F0, F1, S0, S1, m, there⟩ := g
    clear CG
    have hbf := fun W => best_field best F0 F1 S0 S1 m there W
    go_wp2
    refine bodyPost_ret (v := .tuple #[.int .i64 best, .bool true]) (by simp [results, Try.results58, go_sem]) rfl ⟨by rw [HD.out, HM.out], B1.trans (b2.mono B1.size)⟩
  · have HD := Lib.hid (show greatD b = 0 by unfold greatD; rw [if_neg (by rw [hok]; decide)])
    have HM := Lib.hid hok
    rw [hok]
    clear hok
    go_wp2
    refine bodyPost_ret (v := .tuple #[.int .i64 0, .bool false]) (by simp [results, Try.results58, go_sem]) rfl ⟨by rw [HD.out, HM.out], B1⟩
set_option maxHeartbeats 1600000 in
theorem implGreatestSum_any (vb : Value) (b : BoxD) (w : World) (rb : RdII w vb b.Rows) :
    Calls Try.prog 57 #[.agg #[.int .i64 b.X, .int .i64 b.Y, .int .i64 b.Whole, vb]] w fun e w' => e = .returned (.tuple #[.int .i64 (greatD b), .bool (boxB b)]) ∧ Below w.heap.size w w' := by
  go_enter Try.func57, Try.ntmps57
  go_wp2_with fail
  refine (implIsBox_any vb b _ (rb.kept (Nat.le_refl _) (by repeat' (first | with_reducible exact Below.refl _ _ | with_reducible assumption | with_reducible apply Below.alloc | with_reducible apply Below.setCell | with_reducible apply Below.drew | exact Nat.le_refl _ | omega | (simp only [World.size_alloc, World.size_setCell]; omega))))).mono ?_
  rintro e w1 ⟨rfl, b1⟩
  have B1 : Below w.heap.size w w1 := Below.trans (by repeat' (first | with_reducible exact Below.refl _ _ | with_reducible assumption | with_reducible apply Below.alloc | with_reducible apply Below.setCell | with_reducible apply Below.drew | exact Nat.le_refl _ | omega | (simp only [World.size_alloc, World.size_setCell]; omega))) (b1.mono (by first | exact Nat.le_refl _ | omega | (simp only [World.size_alloc, World.size_setCell]; omega)))
  obtain ⟨a0, a1, a2, a3⟩ : BoxAt w1 w.heap.size b.X b.Y b.Whole vb := ⟨keepCell b1 (by repeat' (first | with_reducible assumption | (refine cell_top ?_ rfl; first | with_reducible rfl | (simp only [World.size_alloc, World.size_setCell]; done)) | (refine cell_under ?_ ?_; (first | omega | (simp only [World.size_alloc, World.size_setCell]; omega))) | refine cell_drew ?_)), keepCell b1 (by repeat' (first | with_reducible assumption | (refine cell_top ?_ rfl; first | with_reducible rfl | (simp only [World.size_alloc, World.size_setCell]; done)) | (refine cell_under ?_ ?_; (first | omega | (simp only [World.size_alloc, World.size_setCell]; omega))) | refine cell_drew ?_)), keepCell b1 (by repeat' (first | with_reducible assumption | (refine cell_top ?_ rfl; first | with_reducible rfl | (simp only [World.size_alloc, World.size_setCell]; done)) | (refine cell_under ?_ ?_; (first | omega | (simp only [World.size_alloc, World.size_setCell]; omega))) | refine cell_drew ?_)), keepCell b1 (by repeat' (first | with_reducible assumption | (refine cell_top ?_ rfl; first | with_reducible rfl | (simp only [World.size_alloc, World.size_setCell]; done)) | (refine cell_under ?_ ?_; (first | omega | (simp only [World.size_alloc, World.size_setCell]; omega))) | refine cell_drew ?_))⟩
  clear b1
  rcases Bool.eq_false_or_eq_true (boxB b) with hok | hok
  · have HD := Lib.hid (show greatD b = (great b).best by unfold greatD; rw [if_pos hok])
    have CG := greatest_any vb b hok w1 (rb.kept (Nat.le_refl _) B1)
    have HM := Lib.hid hok
    rw [hok]
    clear hok
    go_wp2_with fail
    refine CG.mono ?_
    rintro e w2 ⟨rfl, b2⟩
    generalize great b = g at *
    obtain ⟨best, F0, F1, S0, S1, m, there⟩ := g
    have B2 := B1.trans (b2.mono B1.size)
    have hz := B2.size
    clear CG
    go_wp2
    refine bodyPost_ret (v := .tuple #[.int .i64 best, .bool true]) (by simp [results, Try.results57, go_sem]) rfl ⟨by rw [HD.out, HM.out], (by repeat' (first | with_reducible exact Below.refl _ _ | with_reducible assumption | with_reducible apply Below.alloc | with_reducible apply Below.setCell | with_reducible apply Below.drew | exact Nat.le_refl _ | omega | (simp only [World.size_alloc, World.size_setCell]; omega)))⟩
  · have HD := Lib.hid (show greatD b = 0 by unfold greatD; rw [if_neg (by rw [hok]; decide)])
    have HM := Lib.hid hok
    rw [hok]
    clear hok
    go_wp2
    refine bodyPost_ret (v := .tuple #[.int .i64 0, .bool false]) (by simp [results, Try.results57, go_sem]) rfl ⟨by rw [HD.out, HM.out], B1⟩
def FirstRes (w : World) (g : Gr) (e : Ending) (w' : World) : Prop :=
  e = .returned (.tuple #[.agg #[.int .i64 g.F0, .int .i64 g.F1], .agg #[.int .i64 g.S0, .int .i64 g.S1], .int .i64 g.m, .bool g.there]) ∧ Below w.heap.size w w'
set_option maxHeartbeats 1600000 in
theorem specFirstSum_any (vb : Value) (b : BoxD) (w : World) (rb : RdII w vb b.Rows) :
    Calls Try.prog 60 #[.agg #[.int .i64 b.X, .int .i64 b.Y, .int .i64 b.Whole, vb]] w (FirstRes w (firstG b)) := by
  go_enter Try.func60, Try.ntmps60
  go_wp2_with fail
  refine (l2Box_any vb b _ (rb.kept (Nat.le_refl _) (by repeat' (first | with_reducible exact Below.refl _ _ | with_reducible assumption | with_reducible apply Below.alloc | with_reducible apply Below.setCell | with_reducible apply Below.drew | exact Nat.le_refl _ | omega | (simp only [World.size_alloc, World.size_setCell]; omega))))).mono ?_
  rintro e w1 ⟨rfl, b1⟩
  have B1 : Below w.heap.size w w1 := Below.trans (by repeat' (first | with_reducible exact Below.refl _ _ | with_reducible assumption | with_reducible apply Below.alloc | with_reducible apply Below.setCell | with_reducible apply Below.drew | exact Nat.le_refl _ | omega | (simp only [World.size_alloc, World.size_setCell]; omega))) (b1.mono (by first | exact Nat.le_refl _ | omega | (simp only [World.size_alloc, World.size_setCell]; omega)))
  have A1 : BoxAt w1 w.heap.size b.X b.Y b.Whole vb := ⟨keepCell b1 (by repeat' (first | with_reducible assumption | (refine cell_top ?_ rfl; first | with_reducible rfl | (simp only [World.size_alloc, World.size_setCell]; done)) | (refine cell_under ?_ ?_; (first | omega | (simp only [World.size_alloc, World.size_setCell]; omega))) | refine cell_drew ?_)), keepCell b1 (by repeat' (first | with_reducible assumption | (refine cell_top ?_ rfl; first | with_reducible rfl | (simp only [World.size_alloc, World.size_setCell]; done)) | (refine cell_under ?_ ?_; (first | omega | (simp only [World.size_alloc, World.size_setCell]; omega))) | refine cell_drew ?_)), keepCell b1 (by repeat' (first | with_reducible assumption | (refine cell_top ?_ rfl; first | with_reducible rfl | (simp only [World.size_alloc, World.size_setCell]; done)) | (refine cell_under ?_ ?_; (first | omega | (simp only [World.size_alloc, World.size_setCell]; omega))) | refine cell_drew ?_)), keepCell b1 (by repeat' (first | with_reducible assumption | (refine cell_top ?_ rfl; first | with_reducible rfl | (simp only [World.size_alloc, World.size_setCell]; done)) | (refine cell_under ?_ ?_; (first | omega | (simp only [World.size_alloc, World.size_setCell]; omega))) | refine cell_drew ?_))⟩
  have T1 : PairAt w1 (w.heap.size + 1) (.int .i64 0) (.int .i64 0) := PairAt.kept (by repeat' (first | with_reducible assumption | (refine PairAt.top ?_; first | with_reducible rfl | (simp only [World.size_alloc]; done)) | (refine PairAt.under ?_ ?_; (first | omega | (simp only [World.size_alloc]; omega))))) b1
  have T2 : PairAt w1 (w.heap.size + 1 + 1) (.int .i64 0) (.int .i64 0) := PairAt.kept (by repeat' (first | with_reducible assumption | (refine PairAt.top ?_; first | with_reducible rfl | (simp only [World.size_alloc]; done)) | (refine PairAt.under ?_ ?_; (first | omega | (simp only [World.size_alloc]; omega))))) b1
  have hz := b1.size
  simp only [World.size_alloc] at hz
  clear b1
  rcases Bool.eq_false_or_eq_true (boxB b) with hok | hok
  · obtain ⟨a0, a1, a2, a3⟩ := A1
    by_cases hx : b.X < 2
    · have HD := Lib.hid (firstG_no (fun _ => Or.inl hx))
      obtain ⟨r0, r1, rf⟩ := T1.cells
      obtain ⟨t0, t1, tf⟩ := T2.cells
      rw [hok]
      clear hok
      go_wp2
      refine bodyPost_ret (v := .tuple #[.agg #[.int .i64 0, .int .i64 0], .agg #[.int .i64 0, .int .i64 0], .int .i64 0, .bool false]) ?_ rfl ?_
      · simp [results, Try.results60, go_sem, r0, r1, t0, t1, rf, tf]
      · rw [HD.out]; exact ⟨rfl, (by repeat' (first | with_reducible exact Below.refl _ _ | with_reducible assumption | with_reducible apply Below.alloc | with_reducible apply Below.setCell | with_reducible apply Below.drew | exact Nat.le_refl _ | omega | (simp only [World.size_alloc, World.size_setCell]; omega)))⟩
    · by_cases hy : b.Y < 2
      · have HD := Lib.hid (firstG_no (fun _ => Or.inr hy))
        obtain ⟨r0, r1, rf⟩ := T1.cells
        obtain ⟨t0, t1, tf⟩ := T2.cells
        rw [hok]
        clear hok
        go_wp2
        refine bodyPost_ret (v := .tuple #[.agg #[.int .i64 0, .int .i64 0], .agg #[.int .i64 0, .int .i64 0], .int .i64 0, .bool false]) ?_ rfl ?_
        · simp [results, Try.results60, go_sem, r0, r1, t0, t1, rf, tf]
        · rw [HD.out]; exact ⟨rfl, (by repeat' (first | with_reducible exact Below.refl _ _ | with_reducible assumption | with_reducible apply Below.alloc | with_reducible apply Below.setCell | with_reducible apply Below.drew | exact Nat.le_refl _ | omega | (simp only [World.size_alloc, World.size_setCell]; omega)))⟩
      · have HD := Lib.hid (firstG_yes hok)
        have HT := Lib.hid (great_there hok (by omega) (by omega))
        have CG := l3Greatest_any vb b hok w1 (rb.kept (Nat.le_refl _) B1)
        rw [hok]
        clear hok
        go_wp2_with fail
        refine CG.mono ?_
        rintro e w2 ⟨rfl, b2⟩
        have B2 := B1.trans (b2.mono B1.size)
        have V1 := T1.kept b2
        have V2 := T2.kept b2
        have hz2 := b2.size
        clear CG a0 a1 a2 a3
        generalize great b = g at *
        obtain ⟨best, F0, F1, S0, S1, m, there⟩ := g
        have ht : there = true := HT.out
        subst ht
        go_wp2
        obtain ⟨W5, hW5⟩ : ∃ W5, W5 = w2.alloc (.cells #[.int .i64 best, .int .i64 F0, .int .i64 F1, .int .i64 S0, .int .i64 S1, .int .i64 m, .bool true] 124) := ⟨_, rfl⟩
        have U1 : PairAt W5 (w.heap.size + 1) (.int .i64 0) (.int .i64 0) := by rw [hW5]; exact PairAt.under (by omega) V1
        have U2 : PairAt W5 (w.heap.size + 1 + 1) (.int .i64 0) (.int .i64 0) := by rw [hW5]; exact PairAt.under (by omega) V2
        have GA : SumAt W5 w2.heap.size ⟨best, F0, F1, S0, S1, m, true⟩ := by rw [hW5]; exact heap_alloc_new w2 _
        have B5 : Below w.heap.size w W5 := by rw [hW5]; exact B2.alloc B2.size _
        rw [← hW5]
        obtain ⟨r0, r1, rf⟩ := U1.cells
        obtain ⟨t0, t1, tf⟩ := U2.cells
        obtain ⟨⟨d0, d1, d2, d3, d4, d5, d6⟩, f8⟩ := GA.cells
        clear hW5 GA U1 U2 V1 V2
        go_region
        all_goals go_wp2
        refine bodyPost_ret (v := .tuple #[.agg #[.int .i64 F0, .int .i64 F1], .agg #[.int .i64 S0, .int .i64 S1], .int .i64 m, .bool true]) ?_ rfl ?_
        · simp [results, Try.results60, go_sem, r0, r1, t0, t1, rf, tf]
        · rw [HD.out]; exact ⟨rfl, (by repeat' (first | with_reducible exact Below.refl _ _ | with_reducible assumption | with_reducible apply Below.alloc | with_reducible apply Below.setCell | with_reducible apply Below.drew | exact Nat.le_refl _ | omega | (simp only [World.size_alloc, World.size_setCell]; omega)))⟩
  · have HD := Lib.hid (firstG_no (fun h => absurd h (by rw [hok]; decide)))
    obtain ⟨r0, r1, rf⟩ := T1.cells
    obtain ⟨t0, t1, tf⟩ := T2.cells
    rw [hok]
    clear hok
    go_wp2
    refine bodyPost_ret (v := .tuple #[.agg #[.int .i64 0, .int .i64 0], .agg #[.int .i64 0, .int .i64 0], .int .i64 0, .bool false]) ?_ rfl ?_
    · simp [results, Try.results60, go_sem, r0, r1, t0, t1, rf, tf]
    · rw [HD.out]; exact ⟨rfl, (by repeat' (first | with_reducible exact Below.refl _ _ | with_reducible assumption | with_reducible apply Below.alloc | with_reducible apply Below.setCell | with_reducible apply Below.drew | exact Nat.le_refl _ | omega | (simp only [World.size_alloc, World.size_setCell]; omega)))⟩
set_option maxHeartbeats 1600000 in
theorem implFirstSum_any (vb : Value) (b : BoxD) (w : World) (rb : RdII w vb b.Rows) :
    Calls Try.prog 59 #[.agg #[.int .i64 b.X, .int .i64 b.Y, .int .i64 b.Whole, vb]] w (FirstRes w (firstG b)) := by
  go_enter Try.func59, Try.ntmps59
  go_wp2_with fail
  refine (implIsBox_any vb b _ (rb.kept (Nat.le_refl _) (by repeat' (first | with_reducible exact Below.refl _ _ | with_reducible assumption | with_reducible apply Below.alloc | with_reducible apply Below.setCell | with_reducible apply Below.drew | exact Nat.le_refl _ | omega | (simp only [World.size_alloc, World.size_setCell]; omega))))).mono ?_
  rintro e w1 ⟨rfl, b1⟩
  have B1 : Below w.heap.size w w1 := Below.trans (by repeat' (first | with_reducible exact Below.refl _ _ | with_reducible assumption | with_reducible apply Below.alloc | with_reducible apply Below.setCell | with_reducible apply Below.drew | exact Nat.le_refl _ | omega | (simp only [World.size_alloc, World.size_setCell]; omega))) (b1.mono (by first | exact Nat.le_refl _ | omega | (simp only [World.size_alloc, World.size_setCell]; omega)))
  have A1 : BoxAt w1 w.heap.size b.X b.Y b.Whole vb := ⟨keepCell b1 (by repeat' (first | with_reducible assumption | (refine cell_top ?_ rfl; first | with_reducible rfl | (simp only [World.size_alloc, World.size_setCell]; done)) | (refine cell_under ?_ ?_; (first | omega | (simp only [World.size_alloc, World.size_setCell]; omega))) | refine cell_drew ?_)), keepCell b1 (by repeat' (first | with_reducible assumption | (refine cell_top ?_ rfl; first | with_reducible rfl | (simp only [World.size_alloc, World.size_setCell]; done)) | (refine cell_under ?_ ?_; (first | omega | (simp only [World.size_alloc, World.size_setCell]; omega))) | refine cell_drew ?_)), keepCell b1 (by repeat' (first | with_reducible assumption | (refine cell_top ?_ rfl; first | with_reducible rfl | (simp only [World.size_alloc, World.size_setCell]; done)) | (refine cell_under ?_ ?_; (first | omega | (simp only [World.size_alloc, World.size_setCell]; omega))) | refine cell_drew ?_)), keepCell b1 (by repeat' (first | with_reducible assumption | (refine cell_top ?_ rfl; first | with_reducible rfl | (simp only [World.size_alloc, World.size_setCell]; done)) | (refine cell_under ?_ ?_; (first | omega | (simp only [World.size_alloc, World.size_setCell]; omega))) | refine cell_drew ?_))⟩
  have T1 : PairAt w1 (w.heap.size + 1) (.int .i64 0) (.int .i64 0) := PairAt.kept (by repeat' (first | with_reducible assumption | (refine PairAt.top ?_; first | with_reducible rfl | (simp only [World.size_alloc]; done)) | (refine PairAt.under ?_ ?_; (first | omega | (simp only [World.size_alloc]; omega))))) b1
  have T2 : PairAt w1 (w.heap.size + 1 + 1) (.int .i64 0) (.int .i64 0) := PairAt.kept (by repeat' (first | with_reducible assumption | (refine PairAt.top ?_; first | with_reducible rfl | (simp only [World.size_alloc]; done)) | (refine PairAt.under ?_ ?_; (first | omega | (simp only [World.size_alloc]; omega))))) b1
  have hz := b1.size
  simp only [World.size_alloc] at hz
  clear b1
  rcases Bool.eq_false_or_eq_true (boxB b) with hok | hok
  · obtain ⟨a0, a1, a2, a3⟩ := A1
    have HD := Lib.hid (firstG_yes hok)
    have CG := greatest_any vb b hok w1 (rb.kept (Nat.le_refl _) B1)
    rw [hok]
    clear hok
    go_wp2_with fail
    refine CG.mono ?_
    rintro e w2 ⟨rfl, b2⟩
    have B2 := B1.trans (b2.mono B1.size)
    have V1 := T1.kept b2
    have V2 := T2.kept b2
    have hz2 := b2.size
    clear CG a0 a1 a2 a3
    generalize great b = g at *
    obtain ⟨best, F0, F1, S0, S1, m, there⟩ := g
    go_wp2
    obtain ⟨W5, hW5⟩ : ∃ W5, W5 = (w2.alloc (.cells #[.int .i64 F0, .int .i64 F1] 67)).alloc (.cells #[.int .i64 S0, .int .i64 S1] 67) := ⟨_, rfl⟩
    have U1 : PairAt W5 (w.heap.size + 1) (.int .i64 0) (.int .i64 0) := by rw [hW5]; exact (by repeat' (first | with_reducible assumption | (refine PairAt.top ?_; first | with_reducible rfl | (simp only [World.size_alloc]; done)) | (refine PairAt.under ?_ ?_; (first | omega | (simp only [World.size_alloc]; omega)))))
    have U2 : PairAt W5 (w.heap.size + 1 + 1) (.int .i64 0) (.int .i64 0) := by rw [hW5]; exact (by repeat' (first | with_reducible assumption | (refine PairAt.top ?_; first | with_reducible rfl | (simp only [World.size_alloc]; done)) | (refine PairAt.under ?_ ?_; (first | omega | (simp only [World.size_alloc]; omega)))))
    have U3 : PairAt W5 w2.heap.size (.int .i64 F0) (.int .i64 F1) := by rw [hW5]; exact (by repeat' (first | with_reducible assumption | (refine PairAt.top ?_; first | with_reducible rfl | (simp only [World.size_alloc]; done)) | (refine PairAt.under ?_ ?_; (first | omega | (simp only [World.size_alloc]; omega)))))
    have U4 : PairAt W5 (w2.heap.size + 1) (.int .i64 S0) (.int .i64 S1) := by rw [hW5]; exact (by repeat' (first | with_reducible assumption | (refine PairAt.top ?_; first | with_reducible rfl | (simp only [World.size_alloc]; done)) | (refine PairAt.under ?_ ?_; (first | omega | (simp only [World.size_alloc]; omega)))))
    have B5 : Below w.heap.size w W5 := by rw [hW5]; exact (by repeat' (first | with_reducible exact Below.refl _ _ | with_reducible assumption | with_reducible apply Below.alloc | with_reducible apply Below.setCell | with_reducible apply Below.drew | exact Nat.le_refl _ | omega | (simp only [World.size_alloc, World.size_setCell]; omega)))
    rw [← hW5]
    obtain ⟨r0, r1, rf⟩ := U1.cells
    obtain ⟨t0, t1, tf⟩ := U2.cells
    obtain ⟨d0, d1, df⟩ := U3.cells
    obtain ⟨k0, k1, kf⟩ := U4.cells
    clear hW5 U1 U2 U3 U4 V1 V2
    go_region
    all_goals go_wp2
    refine bodyPost_ret (v := .tuple #[.agg #[.int .i64 F0, .int .i64 F1], .agg #[.int .i64 S0, .int .i64 S1], .int .i64 m, .bool there]) ?_ rfl ?_
    · simp [results, Try.results59, go_sem, r0, r1, t0, t1, rf, tf]
    · rw [HD.out]; exact ⟨rfl, (by repeat' (first | with_reducible exact Below.refl _ _ | with_reducible assumption | with_reducible apply Below.alloc | with_reducible apply Below.setCell | with_reducible apply Below.drew | exact Nat.le_refl _ | omega | (simp only [World.size_alloc, World.size_setCell]; omega)))⟩
  · have HD := Lib.hid (firstG_no (fun h => absurd h (by rw [hok]; decide)))
    obtain ⟨r0, r1, rf⟩ := T1.cells
    obtain ⟨t0, t1, tf⟩ := T2.cells
    rw [hok]
    clear hok
    go_wp2
    refine bodyPost_ret (v := .tuple #[.agg #[.int .i64 0, .int .i64 0], .agg #[.int .i64 0, .int .i64 0], .int .i64 0, .bool false]) ?_ rfl ?_
    · simp [results, Try.results59, go_sem, r0, r1, t0, t1, rf, tf]
    · rw [HD.out]; exact ⟨rfl, (by repeat' (first | with_reducible exact Below.refl _ _ | with_reducible assumption | with_reducible apply Below.alloc | with_reducible apply Below.setCell | with_reducible apply Below.drew | exact Nat.le_refl _ | omega | (simp only [World.size_alloc, World.size_setCell]; omega)))⟩
end Go.Proofs.Ytadnjljpceeolaa
