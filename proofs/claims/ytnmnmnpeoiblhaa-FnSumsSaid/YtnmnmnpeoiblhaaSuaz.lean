/- GreatestSum, FirstSum: contracts of the program's and the reference's functions. Orders and flips of three questions: what the walks need of them. No program in sight. -/
import Derived.Test.YtnmnmnpeoiblhaaSuax
import Derived.Test.YtnmnmnpeoiblhaaSuay
import Derived.Test.YtnmnmnpeoiblhaaSuap
import Derived.Test.YtnmnmnpeoiblhaaSuaw
set_option linter.unusedSimpArgs false
set_option linter.unusedVariables false
namespace Go.Proofs.Ytnmnmnpeoiblhaa
open Go.RowKit

def greatD (b : BoxD) : Int := if boxB b = true then (great b).best else 0
theorem best_field (best : Int) (F0 F1 S0 S1 m : Nat) (there : Bool) (W : World) : (Instr.field 100 (.agg #[.int .i64 best, .int .i64 F0, .int .i64 F1, .int .i64 S0, .int .i64 S1, .int .i64 m, .bool there]) 0).run Try.prog W = .ok (.int .i64 best) W := by kernel_rfl
set_option maxRecDepth 100000 in
set_option maxHeartbeats 1600000 in
theorem specGreatestSum_any (vb : Value) (b : BoxD) (w : World) (rb : RdII w vb b.Rows) :
    Calls Try.prog 33 #[.agg #[.int .i64 b.X, .int .i64 b.Y, .int .i64 b.Whole, vb]] w fun e w' => e = .returned (.tuple #[.int .i64 (greatD b), .bool (boxB b)]) ∧ Below w.heap.size w w' := by
  go_enter Try.func33, Try.ntmps33
  go_wp2_with fail
  refine (l2Box_any vb b _ (rb.kept (Nat.le_refl _) (by repeat' (first | with_reducible exact Below.refl _ _ | with_reducible assumption | with_reducible apply Below.alloc | with_reducible apply Below.setCell | with_reducible apply Below.drew | exact Nat.le_refl _ | omega | (simp only [World.size_alloc, World.size_setCell]; omega))))).mono ?_
  rintro e w1 ⟨rfl, b1⟩
  have B1 : Below w.heap.size w w1 := Below.trans (by repeat' (first | with_reducible exact Below.refl _ _ | with_reducible assumption | with_reducible apply Below.alloc | with_reducible apply Below.setCell | with_reducible apply Below.drew | exact Nat.le_refl _ | omega | (simp only [World.size_alloc, World.size_setCell]; omega))) (b1.mono (by first | exact Nat.le_refl _ | omega | (simp only [World.size_alloc, World.size_setCell]; omega)))
  obtain ⟨a0, a1, a2, a3⟩ : BoxAt w1 w.heap.size b.X b.Y b.Whole vb := ⟨keepCell b1 (by repeat' (first | with_reducible assumption | (refine cell_top ?_ rfl; first | with_reducible rfl | (simp only [World.size_alloc, World.size_setCell]; done)) | (refine cell_under ?_ ?_; (first | omega | (simp only [World.size_alloc, World.size_setCell]; omega))) | refine cell_drew ?_)), keepCell b1 (by repeat' (first | with_reducible assumption | (refine cell_top ?_ rfl; first | with_reducible rfl | (simp only [World.size_alloc, World.size_setCell]; done)) | (refine cell_under ?_ ?_; (first | omega | (simp only [World.size_alloc, World.size_setCell]; omega))) | refine cell_drew ?_)), keepCell b1 (by repeat' (first | with_reducible assumption | (refine cell_top ?_ rfl; first | with_reducible rfl | (simp only [World.size_alloc, World.size_setCell]; done)) | (refine cell_under ?_ ?_; (first | omega | (simp only [World.size_alloc, World.size_setCell]; omega))) | refine cell_drew ?_)), keepCell b1 (by repeat' (first | with_reducible assumption | (refine cell_top ?_ rfl; first | with_reducible rfl | (simp only [World.size_alloc, World.size_setCell]; done)) | (refine cell_under ?_ ?_; (first | omega | (simp only [World.size_alloc, World.size_setCell]; omega))) | refine cell_drew ?_))⟩
  clear b1
  rcases Bool.eq_false_or_eq_true (boxB b) with hok | hok
  · have HD := Lib.hid (show greatD b = (great b).best by unfold greatD; rw [if_pos hok])
    have CG := l3Greatest_any vb b hok w1 (rb.kept (Nat.le_refl _) B1)
    have HM := Lib.hid hok
    rw [hok]
    clear hok
    go_wp2_with fail
    refine CG.mono ?_
    rintro e w2 ⟨rfl, b2⟩
    generalize great b = g at *
    obtain ⟨best, F0, F1, S0, S1, m, there⟩ := g
    clear CG
    have hbf := fun W => best_field best F0 F1 S0 S1 m there W
    go_wp2
    refine bodyPost_ret (v := .tuple #[.int .i64 best, .bool true]) (by simp [results, Try.results33, go_sem]) rfl ⟨by rw [HD.out, HM.out], B1.trans (b2.mono B1.size)⟩
  · have HD := Lib.hid (show greatD b = 0 by unfold greatD; rw [if_neg (by rw [hok]; decide)])
    have HM := Lib.hid hok
    rw [hok]
    clear hok
    go_wp2
    refine bodyPost_ret (v := .tuple #[.int .i64 0, .bool false]) (by simp [results, Try.results33, go_sem]) rfl ⟨by rw [HD.out, HM.out], B1⟩
set_option maxHeartbeats 1600000 in
theorem implGreatestSum_any (vb : Value) (b : BoxD) (w : World) (rb : RdII w vb b.Rows) :
    Calls Try.prog 32 #[.agg #[.int .i64 b.X, .int .i64 b.Y, .int .i64 b.Whole, vb]] w fun e w' => e = .returned (.tuple #[.int .i64 (greatD b), .bool (boxB b)]) ∧ Below w.heap.size w w' := by
  go_enter Try.func32, Try.ntmps32
  go_wp2_with fail
  refine (implIsBox_any vb b _ (rb.kept (Nat.le_refl _) (by repeat' (first | with_reducible exact Below.refl _ _ | with_reducible assumption | with_reducible apply Below.alloc | with_reducible apply Below.setCell | with_reducible apply Below.drew | exact Nat.le_refl _ | omega | (simp only [World.size_alloc, World.size_setCell]; omega))))).mono ?_
  rintro e w1 ⟨rfl, b1⟩
  have B1 : Below w.heap.size w w1 := Below.trans (by repeat' (first | with_reducible exact Below.refl _ _ | with_reducible assumption | with_reducible apply Below.alloc | with_reducible apply Below.setCell | with_reducible apply Below.drew | exact Nat.le_refl _ | omega | (simp only [World.size_alloc, World.size_setCell]; omega))) (b1.mono (by first | exact Nat.le_refl _ | omega | (simp only [World.size_alloc, World.size_setCell]; omega)))
  obtain ⟨a0, a1, a2, a3⟩ : BoxAt w1 w.heap.size b.X b.Y b.Whole vb := ⟨keepCell b1 (by repeat' (first | with_reducible assumption | (refine cell_top ?_ rfl; first | with_reducible rfl | (simp only [World.size_alloc, World.size_setCell]; done)) | (refine cell_under ?_ ?_; (first | omega | (simp only [World.size_alloc, World.size_setCell]; omega))) | refine cell_drew ?_)), keepCell b1 (by repeat' (first | with_reducible assumption | (refine cell_top ?_ rfl; first | with_reducible rfl | (simp only [World.size_alloc, World.size_setCell]; done)) | (refine cell_under ?_ ?_; (first | omega | (simp only [World.size_alloc, World.size_setCell]; omega))) | refine cell_drew ?_)), keepCell b1 (by repeat' (first | with_reducible assumption | (refine cell_top ?_ rfl; first | with_reducible rfl | (simp only [World.size_alloc, World.size_setCell]; done)) | (refine cell_under ?_ ?_; (first | omega | (simp only [World.size_alloc, World.size_setCell]; omega))) | refine cell_drew ?_)), keepCell b1 (by repeat' (first | with_reducible assumption | (refine cell_top ?_ rfl; first | with_reducible rfl | (simp only [World.size_alloc, World.size_setCell]; done)) | (refine cell_under ?_ ?_; (first | omega | (simp only [World.size_alloc, World.size_setCell]; omega))) | refine cell_drew ?_))⟩
  clear b1
  rcases Bool.eq_false_or_eq_true (boxB b) with hok | hok
  · have HD := Lib.hid (show greatD b = (great b).best by unfold greatD; rw [if_pos hok])
    have CG := greatest_any vb b hok w1 (rb.kept (Nat.le_refl _) B1)
    have HM := Lib.hid hok
    rw [hok]
    clear hok
    go_wp2_with fail
    refine CG.mono ?_
    rintro e w2 ⟨rfl, b2⟩
    generalize great b = g at *
    obtain ⟨best, F0, F1, S0, S1, m, there⟩ := g
    have B2 := B1.trans (b2.mono B1.size)
    have hz := B2.size
    clear CG
    go_wp2
    refine bodyPost_ret (v := .tuple #[.int .i64 best, .bool true]) (by simp [results, Try.results32, go_sem]) rfl ⟨by rw [HD.out, HM.out], (by repeat' (first | with_reducible exact Below.refl _ _ | with_reducible assumption | with_reducible apply Below.alloc | with_reducible apply Below.setCell | with_reducible apply Below.drew | exact Nat.le_refl _ | omega | (simp only [World.size_alloc, World.size_setCell]; omega)))⟩
  · have HD := Lib.hid (show greatD b = 0 by unfold greatD; rw [if_neg (by rw [hok]; decide)])
    have HM := Lib.hid hok
    rw [hok]
    clear hok
    go_wp2
    refine bodyPost_ret (v := .tuple #[.int .i64 0, .bool false]) (by simp [results, Try.results32, go_sem]) rfl ⟨by rw [HD.out, HM.out], B1⟩
def FirstRes (w : World) (g : Gr) (e : Ending) (w' : World) : Prop :=
  e = .returned (.tuple #[.agg #[.int .i64 g.F0, .int .i64 g.F1], .agg #[.int .i64 g.S0, .int .i64 g.S1], .int .i64 g.m, .bool g.there]) ∧ Below w.heap.size w w'
set_option maxHeartbeats 1600000 in
theorem specFirstSum_any (vb : Value) (b : BoxD) (w : World) (rb : RdII w vb b.Rows) :
    Calls Try.prog 35 #[.agg #[.int .i64 b.X, .int .i64 b.Y, .int .i64 b.Whole, vb]] w (FirstRes w (firstG b)) := by
  go_enter Try.func35, Try.ntmps35
  go_wp2_with fail
  refine (l2Box_any vb b _ (rb.kept (Nat.le_refl _) (by repeat' (first | with_reducible exact Below.refl _ _ | with_reducible assumption | with_reducible apply Below.alloc | with_reducible apply Below.setCell | with_reducible apply Below.drew | exact Nat.le_refl _ | omega | (simp only [World.size_alloc, World.size_setCell]; omega))))).mono ?_
  rintro e w1 ⟨rfl, b1⟩
  have B1 : Below w.heap.size w w1 := Below.trans (by repeat' (first | with_reducible exact Below.refl _ _ | with_reducible assumption | with_reducible apply Below.alloc | with_reducible apply Below.setCell | with_reducible apply Below.drew | exact Nat.le_refl _ | omega | (simp only [World.size_alloc, World.size_setCell]; omega))) (b1.mono (by first | exact Nat.le_refl _ | omega | (simp only [World.size_alloc, World.size_setCell]; omega)))
  have A1 : BoxAt w1 w.heap.size b.X b.Y b.Whole vb := ⟨keepCell b1 (by repeat' (first | with_reducible assumption | (refine cell_top ?_ rfl; first | with_reducible rfl | (simp only [World.size_alloc, World.size_setCell]; done)) | (refine cell_under ?_ ?_; (first | omega | (simp only [World.size_alloc, World.size_setCell]; omega))) | refine cell_drew ?_)), keepCell b1 (by repeat' (first | with_reducible assumption | (refine cell_top ?_ rfl; first | with_reducible rfl | (simp only [World.size_alloc, World.size_setCell]; done)) | (refine cell_under ?_ ?_; (first | omega | (simp only [World.size_alloc, World.size_setCell]; omega))) | refine cell_drew ?_)), keepCell b1 (by repeat' (first | with_reducible assumption | (refine cell_top ?_ rfl; first | with_reducible rfl | (simp only [World.size_alloc, World.size_setCell]; done)) | (refine cell_under ?_ ?_; (first | omega | (simp only [World.size_alloc, World.size_setCell]; omega))) | refine cell_drew ?_)), keepCell b1 (by repeat' (first | with_reducible assumption | (refine cell_top ?_ rfl; first | with_reducible rfl | (simp only [World.size_alloc, World.size_setCell]; done)) | (refine cell_under ?_ ?_; (first | omega | (simp only [World.size_alloc, World.size_setCell]; omega))) | refine cell_drew ?_))⟩
  have T1 : PairAt w1 (w.heap.size + 1) (.int .i64 0) (.int .i64 0) := PairAt.kept (by repeat' (first | with_reducible assumption | (refine PairAt.top ?_; first | with_reducible rfl | (simp only [World.size_alloc]; done)) | (refine PairAt.under ?_ ?_; (first | omega | (simp only [World.size_alloc]; omega))))) b1
  have T2 : PairAt w1 (w.heap.size + 1 + 1) (.int .i64 0) (.int .i64 0) := PairAt.kept (by repeat' (first | with_reducible assumption | (refine PairAt.top ?_; first | with_reducible rfl | (simp only [World.size_alloc]; done)) | (refine PairAt.under ?_ ?_; (first | omega | (simp only [World.size_alloc]; omega))))) b1
  have hz := b1.size
  simp only [World.size_alloc] at hz
  clear b1
  rcases Bool.eq_false_or_eq_true (boxB b) with hok | hok
  · obtain ⟨a0, a1, a2, a3⟩ := A1
    by_cases hx : b.X < 2
    · have HD := Lib.hid (firstG_no (fun _ => Or.inl hx))
      obtain ⟨r0, r1, rf⟩ := T1.cells
      obtain ⟨t0, t1, tf⟩ := T2.cells
      rw [hok]
      clear hok
      go_wp2
      refine bodyPost_ret (v := .tuple #[.agg #[.int .i64 0, .int .i64 0], .agg #[.int .i64 0, .int .i64 0], .int .i64 0, .bool false]) ?_ rfl ?_
      · simp [results, Try.results35, go_sem, r0, r1, t0, t1, rf, tf]
      · rw [HD.out]; exact ⟨rfl, (by repeat' (first | with_reducible exact Below.refl _ _ | with_reducible assumption | with_reducible apply Below.alloc | with_reducible apply Below.setCell | with_reducible apply Below.drew | exact Nat.le_refl _ | omega | (simp only [World.size_alloc, World.size_setCell]; omega)))⟩
    · by_cases hy : b.Y < 2
      · have HD := Lib.hid (firstG_no (fun _ => Or.inr hy))
        obtain ⟨r0, r1, rf⟩ := T1.cells
        obtain ⟨t0, t1, tf⟩ := T2.cells
        rw [hok]
        clear hok
        go_wp2
        refine bodyPost_ret (v := .tuple #[.agg #[.int .i64 0, .int .i64 0], .agg #[.int .i64 0, .int .i64 0], .int .i64 0, .bool false]) ?_ rfl ?_
        · simp [results, Try.results35, go_sem, r0, r1, t0, t1, rf, tf]
        · rw [HD.out]; exact ⟨rfl, (by repeat' (first | with_reducible exact Below.refl _ _ | with_reducible assumption | with_reducible apply Below.alloc | with_reducible apply Below.setCell | with_reducible apply Below.drew | exact Nat.le_refl _ | omega | (simp only [World.size_alloc, World.size_setCell]; omega)))⟩
      · have HD := Lib.hid (firstG_yes hok)
        have HT := Lib.hid (great_there hok (by omega) (by omega))
        have CG := l3Greatest_any vb b hok w1 (rb.kept (Nat.le_refl _) B1)
        rw [hok]
        clear hok
        go_wp2_with fail
        refine CG.mono ?_
        rintro e w2 ⟨rfl, b2⟩
        have B2 := B1.trans (b2.mono B1.size)
        have V1 := T1.kept b2
        have V2 := T2.kept b2
        have hz2 := b2.size
        clear CG a0 a1 a2 a3
        generalize great b = g at *
        obtain ⟨best, F0, F1, S0, S1, m, there⟩ := g
        have ht : there = true := HT.out
        subst ht
        go_wp2
        obtain ⟨W5, hW5⟩ : ∃ W5, W5 = w2.alloc (.cells #[.int .i64 best, .int .i64 F0, .int .i64 F1, .int .i64 S0, .int .i64 S1, .int .i64 m, .bool true] 100) := ⟨_, rfl⟩
        have U1 : PairAt W5 (w.heap.size + 1) (.int .i64 0) (.int .i64 0) := by rw [hW5]; exact PairAt.under (by omega) V1
        have U2 : PairAt W5 (w.heap.size + 1 + 1) (.int .i64 0) (.int .i64 0) := by rw [hW5]; exact PairAt.under (by omega) V2
        have GA : SumAt W5 w2.heap.size ⟨best, F0, F1, S0, S1, m, true⟩ := by rw [hW5]; exact heap_alloc_new w2 _
        have B5 : Below w.heap.size w W5 := by rw [hW5]; exact B2.alloc B2.size _
        rw [← hW5]
        obtain ⟨r0, r1, rf⟩ := U1.cells
        obtain ⟨t0, t1, tf⟩ := U2.cells
        obtain ⟨⟨d0, d1, d2, d3, d4, d5, d6⟩, f8⟩ := GA.cells
        clear hW5 GA U1 U2 V1 V2
        go_region
        all_goals go_wp2
        refine bodyPost_ret (v := .tuple #[.agg #[.int .i64 F0, .int .i64 F1], .agg #[.int .i64 S0, .int .i64 S1], .int .i64 m, .bool true]) ?_ rfl ?_
        · simp [results, Try.results35, go_sem, r0, r1, t0, t1, rf, tf]
        · rw [HD.out]; exact ⟨rfl, (by repeat' (first | with_reducible exact Below.refl _ _ | with_reducible assumption | with_reducible apply Below.alloc | with_reducible apply Below.setCell | with_reducible apply Below.drew | exact Nat.le_refl _ | omega | (simp only [World.size_alloc, World.size_setCell]; omega)))⟩
  · have HD := Lib.hid (firstG_no (fun h => absurd h (by rw [hok]; decide)))
    obtain ⟨r0, r1, rf⟩ := T1.cells
    obtain ⟨t0, t1, tf⟩ := T2.cells
    rw [hok]
    clear hok
    go_wp2
    refine bodyPost_ret (v := .tuple #[.agg #[.int .i64 0, .int .i64 0], .agg #[.int .i64 0, .int .i64 0], .int .i64 0, .bool false]) ?_ rfl ?_
    · simp [results, Try.results35, go_sem, r0, r1, t0, t1, rf, tf]
    · rw [HD.out]; exact ⟨rfl, (by repeat' (first | with_reducible exact Below.refl _ _ | with_reducible assumption | with_reducible apply Below.alloc | with_reducible apply Below.setCell | with_reducible apply Below.drew | exact Nat.le_refl _ | omega | (simp only [World.size_alloc, World.size_setCell]; omega)))⟩
set_option maxHeartbeats 1600000 in
theorem implFirstSum_any (vb : Value) (b : BoxD) (w : World) (rb : RdII w vb b.Rows) :
    Calls Try.prog 34 #[.agg #[.int .i64 b.X, .int .i64 b.Y, .int .i64 b.Whole, vb]] w (FirstRes w (firstG b)) := by
  go_enter Try.func34, Try.ntmps34
  go_wp2_with fail
  refine (implIsBox_any vb b _ (rb.kept (Nat.le_refl _) (by repeat' (first | with_reducible exact Below.refl _ _ | with_reducible assumption | with_reducible apply Below.alloc | with_reducible apply Below.setCell | with_reducible apply Below.drew | exact Nat.le_refl _ | omega | (simp only [World.size_alloc, World.size_setCell]; omega))))).mono ?_
  rintro e w1 ⟨rfl, b1⟩
  have B1 : Below w.heap.size w w1 := Below.trans (by repeat' (first | with_reducible exact Below.refl _ _ | with_reducible assumption | with_reducible apply Below.alloc | with_reducible apply Below.setCell | with_reducible apply Below.drew | exact Nat.le_refl _ | omega | (simp only [World.size_alloc, World.size_setCell]; omega))) (b1.mono (by first | exact Nat.le_refl _ | omega | (simp only [World.size_alloc, World.size_setCell]; omega)))
  have A1 : BoxAt w1 w.heap.size b.X b.Y b.Whole vb := ⟨keepCell b1 (by repeat' (first | with_reducible assumption | (refine cell_top ?_ rfl; first | with_reducible rfl | (simp only [World.size_alloc, World.size_setCell]; done)) | (refine cell_under ?_ ?_; (first | omega | (simp only [World.size_alloc, World.size_setCell]; omega))) | refine cell_drew ?_)), keepCell b1 (by repeat' (first | with_reducible assumption | (refine cell_top ?_ rfl; first | with_reducible rfl | (simp only [World.size_alloc, World.size_setCell]; done)) | (refine cell_under ?_ ?_; (first | omega | (simp only [World.size_alloc, World.size_setCell]; omega))) | refine cell_drew ?_)), keepCell b1 (by repeat' (first | with_reducible assumption | (refine cell_top ?_ rfl; first | with_reducible rfl | (simp only [World.size_alloc, World.size_setCell]; done)) | (refine cell_under ?_ ?_; (first | omega | (simp only [World.size_alloc, World.size_setCell]; omega))) | refine cell_drew ?_)), keepCell b1 (by repeat' (first | with_reducible assumption | (refine cell_top ?_ rfl; first | with_reducible rfl | (simp only [World.size_alloc, World.size_setCell]; done)) | (refine cell_under ?_ ?_; (first | omega | (simp only [World.size_alloc, World.size_setCell]; omega))) | refine cell_drew ?_))⟩
  have T1 : PairAt w1 (w.heap.size + 1) (.int .i64 0) (.int .i64 0) := PairAt.kept (by repeat' (first | with_reducible assumption | (refine PairAt.top ?_; first | with_reducible rfl | (simp only [World.size_alloc]; done)) | (refine PairAt.under ?_ ?_; (first | omega | (simp only [World.size_alloc]; omega))))) b1
  have T2 : PairAt w1 (w.heap.size + 1 + 1) (.int .i64 0) (.int .i64 0) := PairAt.kept (by repeat' (first | with_reducible assumption | (refine PairAt.top ?_; first | with_reducible rfl | (simp only [World.size_alloc]; done)) | (refine PairAt.under ?_ ?_; (first | omega | (simp only [World.size_alloc]; omega))))) b1
  have hz := b1.size
  simp only [World.size_alloc] at hz
  clear b1
  rcases Bool.eq_false_or_eq_true (boxB b) with hok | hok
  · obtain ⟨a0, a1, a2, a3⟩ := A1
    have HD := Lib.hid (firstG_yes hok)
    have CG := greatest_any vb b hok w1 (rb.kept (Nat.le_refl _) B1)
    rw [hok]
    clear hok
    go_wp2_with fail
    refine CG.mono ?_
    rintro e w2 ⟨rfl, b2⟩
    have B2 := B1.trans (b2.mono B1.size)
    have V1 := T1.kept b2
    have V2 := T2.kept b2
    have hz2 := b2.size
    clear CG a0 a1 a2 a3
    generalize great b = g at *
    obtain ⟨best, F0, F1, S0, S1, m, there⟩ := g
    go_wp2
    obtain ⟨W5, hW5⟩ : ∃ W5, W5 = (w2.alloc (.cells #[.int .i64 F0, .int .i64 F1] 47)).alloc (.cells #[.int .i64 S0, .int .i64 S1] 47) := ⟨_, rfl⟩
    have U1 : PairAt W5 (w.heap.size + 1) (.int .i64 0) (.int .i64 0) := by rw [hW5]; exact (by repeat' (first | with_reducible assumption | (refine PairAt.top ?_; first | with_reducible rfl | (simp only [World.size_alloc]; done)) | (refine PairAt.under ?_ ?_; (first | omega | (simp only [World.size_alloc]; omega)))))
    have U2 : PairAt W5 (w.heap.size + 1 + 1) (.int .i64 0) (.int .i64 0) := by rw [hW5]; exact (by repeat' (first | with_reducible assumption | (refine PairAt.top ?_; first | with_reducible rfl | (simp only [World.size_alloc]; done)) | (refine PairAt.under ?_ ?_; (first | omega | (simp only [World.size_alloc]; omega)))))
    have U3 : PairAt W5 w2.heap.size (.int .i64 F0) (.int .i64 F1) := by rw [hW5]; exact (by repeat' (first | with_reducible assumption | (refine PairAt.top ?_; first | with_reducible rfl | (simp only [World.size_alloc]; done)) | (refine PairAt.under ?_ ?_; (first | omega | (simp only [World.size_alloc]; omega)))))
    have U4 : PairAt W5 (w2.heap.size + 1) (.int .i64 S0) (.int .i64 S1) := by rw [hW5]; exact (by repeat' (first | with_reducible assumption | (refine PairAt.top ?_; first | with_reducible rfl | (simp only [World.size_alloc]; done)) | (refine PairAt.under ?_ ?_; (first | omega | (simp only [World.size_alloc]; omega)))))
    have B5 : Below w.heap.size w W5 := by rw [hW5]; exact (by repeat' (first | with_reducible exact Below.refl _ _ | with_reducible assumption | with_reducible apply Below.alloc | with_reducible apply Below.setCell | with_reducible apply Below.drew | exact Nat.le_refl _ | omega | (simp only [World.size_alloc, World.size_setCell]; omega)))
    rw [← hW5]
    obtain ⟨r0, r1, rf⟩ := U1.cells
    obtain ⟨t0, t1, tf⟩ := U2.cells
    obtain ⟨d0, d1, df⟩ := U3.cells
    obtain ⟨k0, k1, kf⟩ := U4.cells
    clear hW5 U1 U2 U3 U4 V1 V2
    go_region
    all_goals go_wp2
    refine bodyPost_ret (v := .tuple #[.agg #[.int .i64 F0, .int .i64 F1], .agg #[.int .i64 S0, .int .i64 S1], .int .i64 m, .bool there]) ?_ rfl ?_
    · simp [results, Try.results34, go_sem, r0, r1, t0, t1, rf, tf]
    · rw [HD.out]; exact ⟨rfl, (by repeat' (first | with_reducible exact Below.refl _ _ | with_reducible assumption | with_reducible apply Below.alloc | with_reducible apply Below.setCell | with_reducible apply Below.drew | exact Nat.le_refl _ | omega | (simp only [World.size_alloc, World.size_setCell]; omega)))⟩
  · have HD := Lib.hid (firstG_no (fun h => absurd h (by rw [hok]; decide)))
    obtain ⟨r0, r1, rf⟩ := T1.cells
    obtain ⟨t0, t1, tf⟩ := T2.cells
    rw [hok]
    clear hok
    go_wp2
    refine bodyPost_ret (v := .tuple #[.agg #[.int .i64 0, .int .i64 0], .agg #[.int .i64 0, .int .i64 0], .int .i64 0, .bool false]) ?_ rfl ?_
    · simp [results, Try.results34, go_sem, r0, r1, t0, t1, rf, tf]
    · rw [HD.out]; exact ⟨rfl, (by repeat' (first | with_reducible exact Below.refl _ _ | with_reducible assumption | with_reducible apply Below.alloc | with_reducible apply Below.setCell | with_reducible apply Below.drew | exact Nat.le_refl _ | omega | (simp only [World.size_alloc, World.size_setCell]; omega)))⟩
end Go.Proofs.Ytnmnmnpeoiblhaa
set_option linter.unusedSimpArgs false
set_option linter.unusedVariables false
namespace Go.Proofs.Ytnmnmnpeoiblhaa
open Go.RowKit

theorem ord_again {b : BoxD} (hb : boxB b = true) (hX : b.X = 3) (hY : b.Y = 3) {i k : Nat} (hi : i < 6) (hk : k < 6) : againB b (ordAt i) (ordAt k) = true := by
  obtain ⟨h1, h2⟩ := ordAt_ok i hi
  obtain ⟨h3, h4⟩ := ordAt_ok k hk
  refine againB_iff.2 ⟨?_, ?_, ?_⟩
  · rw [h1, h3]; decide
  · rw [hX]; exact h2
  · rw [hY]; exact h4
theorem againL_X {b : BoxD} {i k : Nat} (hi : i < 6) (hk : k < 6) : (againL b (ordAt i) (ordAt k)).X = 3 ∧ (againL b (ordAt i) (ordAt k)).Y = 3 := by
  unfold againL
  show ((ordAt i).length : Int) = 3 ∧ ((ordAt k).length : Int) = 3
  rw [(ordAt_ok i hi).1, (ordAt_ok k hk).1]
  exact ⟨rfl, rfl⟩
theorem againL_whole (b : BoxD) (f s : List Int) : (againL b f s).Whole = b.Whole := rfl
theorem ords_get {i : Nat} (hi : i < 6) : ords[i]? = some (ordAt i) := by
  have : i = 0 ∨ i = 1 ∨ i = 2 ∨ i = 3 ∨ i = 4 ∨ i = 5 := by omega
  rcases this with rfl | rfl | rfl | rfl | rfl | rfl <;> rfl
theorem flipsOf_bits (c : Nat) : bitsB (flipsOf c) 6 = true := by
  refine bits_iff.2 ⟨allIn_true fun j x hx => ?_, by unfold flipsOf; rw [seqTo_len]; rfl⟩
  unfold flipsOf at hx
  have hj : j < 6 := by have := (List.getElem?_eq_some_iff.1 hx).1; rw [seqTo_len] at this; exact this
  rw [seqTo_get _ _ _ hj] at hx
  cases hx
  exact inB_iff.2 (by omega)
theorem bits6_bits (c : Nat) : bitsB (bitsTo 6 c 6) 6 = true := bitsTo_bits 6 c 6 rfl
theorem upF_new (a : BoxD) (z : Int) (c : Nat) (u t : Int) (hu : u = upF a z c) (ht : t = trF a c) : (if u < t then t else u) = upF a z (c + 1) := by subst hu ht; rfl
/-- The orders as a value: rows of the call's own making. -/
theorem cells3 {w : World} {g : Nat} {x y z : Int} (h0 : w.cell? ⟨g, 0, none⟩ = some (.int .i64 x)) (h1 : w.cell? ⟨g, 1, none⟩ = some (.int .i64 y)) (h2 : w.cell? ⟨g, 2, none⟩ = some (.int .i64 z)) : RdI w (.slice (some ⟨g, 0, none⟩) 3 3) [x, y, z] := by
  refine ⟨_, g, 0, 3, rfl, by simp [maxLen], fun _ => rfl, fun j u hu => ?_⟩
  have hj : j < 3 := (List.getElem?_eq_some_iff.1 hu).1
  have : j = 0 ∨ j = 1 ∨ j = 2 := by omega
  rcases this with rfl | rfl | rfl <;> (simp at hu; subst hu; assumption)
theorem ords_rd {w : World} {g0 g1 g2 g3 g4 g5 g : Nat} (r0 : RdI w (.slice (some ⟨g0, 0, none⟩) 3 3) [0, 1, 2]) (r1 : RdI w (.slice (some ⟨g1, 0, none⟩) 3 3) [0, 2, 1]) (r2 : RdI w (.slice (some ⟨g2, 0, none⟩) 3 3) [1, 0, 2])
    (r3 : RdI w (.slice (some ⟨g3, 0, none⟩) 3 3) [1, 2, 0]) (r4 : RdI w (.slice (some ⟨g4, 0, none⟩) 3 3) [2, 0, 1]) (r5 : RdI w (.slice (some ⟨g5, 0, none⟩) 3 3) [2, 1, 0])
    (c0 : w.cell? ⟨g, 0, none⟩ = some (.slice (some ⟨g0, 0, none⟩) 3 3)) (c1 : w.cell? ⟨g, 1, none⟩ = some (.slice (some ⟨g1, 0, none⟩) 3 3)) (c2 : w.cell? ⟨g, 2, none⟩ = some (.slice (some ⟨g2, 0, none⟩) 3 3))
    (c3 : w.cell? ⟨g, 3, none⟩ = some (.slice (some ⟨g3, 0, none⟩) 3 3)) (c4 : w.cell? ⟨g, 4, none⟩ = some (.slice (some ⟨g4, 0, none⟩) 3 3)) (c5 : w.cell? ⟨g, 5, none⟩ = some (.slice (some ⟨g5, 0, none⟩) 3 3)) :
    RdII w (.slice (some ⟨g, 0, none⟩) 6 6) ords := by
  refine ⟨_, g, 0, 6, rfl, by simp [maxLen, ords], fun _ => rfl, fun i rs h => ?_⟩
  have hi : i < 6 := (List.getElem?_eq_some_iff.1 h).1
  rw [Nat.zero_add]
  have : i = 0 ∨ i = 1 ∨ i = 2 ∨ i = 3 ∨ i = 4 ∨ i = 5 := by omega
  rcases this with rfl | rfl | rfl | rfl | rfl | rfl <;> (simp [ords] at h; subst h; exact ⟨_, by assumption, by assumption⟩)
/-- One of the orders, read out of them. -/
theorem ords_path {w : World} {g c : Nat} (h : RdII w (.slice (some ⟨g, 0, none⟩) 6 c) ords) {i : Nat} (hi : i < 6) : ∃ a c2, w.cell? ⟨g, i, none⟩ = some (.slice a 3 c2) ∧ RdI w (.slice a 3 c2) (ordAt i) ∧ g < w.heap.size := by
  obtain ⟨a, b, off, cap, hv, _, ha, hc⟩ := h
  have he := ha (by decide)
  injection hv with e1 e2 e3
  rw [he] at e1
  simp only [Option.some.injEq, Addr.mk.injEq, and_true] at e1
  obtain ⟨rfl, rfl⟩ := e1
  obtain ⟨v', hc1, hr⟩ := hc i _ (ords_get hi)
  obtain ⟨a2, b2, o2, c2, hv2, hm2, ha2, hc2⟩ := hr
  rw [Nat.zero_add] at hc1
  rw [(ordAt_ok i hi).1] at hv2
  have lt := World.block_lt_of_cell? _ _ hc1
  exact ⟨a2, c2, by rw [hc1, hv2], ⟨a2, b2, o2, c2, by rw [(ordAt_ok i hi).1], hm2, ha2, hc2⟩, lt⟩
/-- The best behind start s. -/
def upT (b : BoxD) : Nat → Int
  | 0 => tripleV b
  | 1 => upO b (tripleV b) 6
  | _ => mostT b
end Go.Proofs.Ytnmnmnpeoiblhaa
