/- SumOf: the program's answer is the reference's, for all arguments; nothing is shared. -/
import Derived.Test.YtbleeakcmmpcgaaFnSumT
import Derived.Test.YtbleeakcmmpcgaaHarE
import Derived.Test.YtbleeakcmmpcgaaRowB
import Derived.Test.YtbleeakcmmpcgaaHarD
set_option linter.unusedSimpArgs false
set_option linter.unusedVariables false
namespace Go.Proofs.Ytbleeakcmmpcgaa
open Go.ChangeShapes Go.WideShapes Go.ChangeAt Go.RowKit
open Go.ChangeMaps (open_string shut_string)

set_option maxHeartbeats 3000000 in
theorem fnExactSumOf_walk (vb : Value) (bb : BoxD) (fa fb : Int) (sa sb : Int) (m : Int) (w : World) (hb : RdII w vb bb.Rows) :
    Calls Try.prog 8 #[.agg #[.int .i64 bb.X, .int .i64 bb.Y, .int .i64 bb.Whole, vb], .agg #[.int .i64 fa, .int .i64 fb], .agg #[.int .i64 sa, .int .i64 sb], .int .i64 m] w fun e w' => e = .returned (.bool true) ∧ Below w.heap.size w w' := by
  have hw0 : w.heap.size ≤ w.heap.size := Nat.le_refl _
  go_enter Try.func8, Try.ntmps8
  go_wp2_with fail
  refine (szBox_any vb bb.X bb.Y bb.Whole bb.Rows 1048576 (((w.alloc (.cells #[.int .i64 bb.X, .int .i64 bb.Y, .int .i64 bb.Whole, vb] 42)).alloc (.cells #[.int .i64 fa, .int .i64 fb] 50)).alloc (.cells #[.int .i64 sa, .int .i64 sb] 50)) (hb.kept (Nat.le_refl _) (by repeat' (first | with_reducible exact Below.refl _ _ | with_reducible assumption | with_reducible apply Below.alloc | with_reducible apply Below.setCell | with_reducible apply Below.drew | exact Nat.le_refl _ | omega | (simp only [World.size_alloc, World.size_setCell]; omega)))) (by omega) (by omega)).mono ?_
  rintro e w1 ⟨⟨lb, rfl, hsb⟩, bw1⟩
  have BB : Below w.heap.size w w1 := Below.trans (by repeat' (first | with_reducible exact Below.refl _ _ | with_reducible assumption | with_reducible apply Below.alloc | with_reducible apply Below.setCell | with_reducible apply Below.drew | exact Nat.le_refl _ | omega | (simp only [World.size_alloc, World.size_setCell]; omega))) (bw1.mono (by first | exact Nat.le_refl _ | omega | (simp only [World.size_alloc, World.size_setCell]; omega)))
  have sw1 : w.heap.size ≤ w1.heap.size := BB.size
  have tw1 := bw1.size
  simp only [World.size_alloc] at tw1
  obtain ⟨pb0, pb1, pb2, pb3⟩ : w1.cell? ⟨w.heap.size, 0, none⟩ = some (.int .i64 bb.X) ∧ w1.cell? ⟨w.heap.size, 1, none⟩ = some (.int .i64 bb.Y) ∧ w1.cell? ⟨w.heap.size, 2, none⟩ = some (.int .i64 bb.Whole) ∧ w1.cell? ⟨w.heap.size, 3, none⟩ = some (vb) := by
    obtain ⟨hc, _⟩ := bcell bw1
    refine ⟨?_, ?_, ?_, ?_⟩ <;> (rw [hc _ _ (by simp only [World.size_alloc]; omega)]; first | (simp; done) | exact (by repeat' (first | with_reducible assumption | (refine cell_top ?_ rfl; first | with_reducible rfl | (simp only [World.size_alloc, World.size_setCell]; done)) | (refine cell_under ?_ ?_; (first | omega | (simp only [World.size_alloc, World.size_setCell]; omega))) | refine cell_drew ?_)))
  obtain ⟨pf0, pf1⟩ : w1.cell? ⟨w.heap.size + 1, 0, none⟩ = some (.int .i64 fa) ∧ w1.cell? ⟨w.heap.size + 1, 1, none⟩ = some (.int .i64 fb) := by
    obtain ⟨hc, _⟩ := bcell bw1
    refine ⟨?_, ?_⟩ <;> (rw [hc _ _ (by simp only [World.size_alloc]; omega)]; first | (simp; done) | exact (by repeat' (first | with_reducible assumption | (refine cell_top ?_ rfl; first | with_reducible rfl | (simp only [World.size_alloc, World.size_setCell]; done)) | (refine cell_under ?_ ?_; (first | omega | (simp only [World.size_alloc, World.size_setCell]; omega))) | refine cell_drew ?_)))
  obtain ⟨ps0, ps1⟩ : w1.cell? ⟨w.heap.size + 1 + 1, 0, none⟩ = some (.int .i64 sa) ∧ w1.cell? ⟨w.heap.size + 1 + 1, 1, none⟩ = some (.int .i64 sb) := by
    obtain ⟨hc, _⟩ := bcell bw1
    refine ⟨?_, ?_⟩ <;> (rw [hc _ _ (by simp only [World.size_alloc]; omega)]; first | (simp; done) | exact (by repeat' (first | with_reducible assumption | (refine cell_top ?_ rfl; first | with_reducible rfl | (simp only [World.size_alloc, World.size_setCell]; done)) | (refine cell_under ?_ ?_; (first | omega | (simp only [World.size_alloc, World.size_setCell]; omega))) | refine cell_drew ?_)))
  replace hw0 : w.heap.size ≤ w1.heap.size := by omega
  have Bw1 : Below w.heap.size w w1 := BB
  clear BB
  have lpbw1 : w.heap.size < w1.heap.size := by omega
  have lpfw1 : w.heap.size + 1 < w1.heap.size := by omega
  have lpsw1 : w.heap.size + 1 + 1 < w1.heap.size := by omega
  by_cases hnb : lb < 0
  · go_wp2
    go_ret
    exact ⟨rfl, Bw1⟩
  obtain ⟨hsb, hqb⟩ : bb.Rows.length + sumLen bb.Rows ≤ 1048576 ∧ lb ≤ 1048576 := by unfold SzLeft at hsb; omega
  go_wp2_with fail
  go_region_held3 (fun w' => w'.cell? ⟨w.heap.size, 0, none⟩ = some (.int .i64 bb.X) ∧ w'.cell? ⟨w.heap.size, 1, none⟩ = some (.int .i64 bb.Y) ∧ w'.cell? ⟨w.heap.size, 2, none⟩ = some (.int .i64 bb.Whole) ∧ w'.cell? ⟨w.heap.size, 3, none⟩ = some (vb) ∧ w'.cell? ⟨w.heap.size + 1, 0, none⟩ = some (.int .i64 fa) ∧ w'.cell? ⟨w.heap.size + 1, 1, none⟩ = some (.int .i64 fb) ∧ w'.cell? ⟨w.heap.size + 1 + 1, 0, none⟩ = some (.int .i64 sa) ∧ w'.cell? ⟨w.heap.size + 1 + 1, 1, none⟩ = some (.int .i64 sb))
    (first | go_keep | exact ⟨pb0, pb1, pb2, pb3, pf0, pf1, ps0, ps1⟩)
    (first
      | (go_at_call 34
         (with_reducible refine (toBox_any vb bb.X bb.Y bb.Whole bb.Rows w1.drew (hb.kept (Nat.le_refl _) Bw1.drew) hsb).mono ?_)
         rintro e w2 ⟨aub, cub, zub, rfl, oub, bw2⟩
         replace oub := oub.weaken (lo' := w1.heap.size) (Nat.le_refl _) (Nat.le_refl _)
         have BB : Below w1.heap.size w1 w2 := ((Below.refl w1.heap.size w1).drew).trans bw2
         have sw2 : w1.heap.size ≤ w2.heap.size := BB.size
         replace hw0 : w.heap.size ≤ w2.heap.size := by omega
         have tq := cells4_kept BB (by omega) pb0 pb1 pb2 pb3
         clear pb0 pb1 pb2 pb3
         obtain ⟨pb0, pb1, pb2, pb3⟩ := tq
         have tq := cells2_kept BB (by omega) pf0 pf1
         clear pf0 pf1
         obtain ⟨pf0, pf1⟩ := tq
         have tq := cells2_kept BB (by omega) ps0 ps1
         clear ps0 ps1
         obtain ⟨ps0, ps1⟩ := tq
         have Bw2 : Below w.heap.size w w2 := Bw1.trans (BB.mono Bw1.size)
         clear BB
         have lpbw2 : w.heap.size < w2.heap.size := by omega
         have lpfw2 : w.heap.size + 1 < w2.heap.size := by omega
         have lpsw2 : w.heap.size + 1 + 1 < w2.heap.size := by omega)
      | (go_at_call 39
         (with_reducible refine (toIntA2_any fa fb w2).mono ?_)
         rintro e w3 ⟨rfl, bw3⟩
         have BB : Below w2.heap.size w2 w3 := bw3
         have sw3 : w2.heap.size ≤ w3.heap.size := BB.size
         replace hw0 : w.heap.size ≤ w3.heap.size := by omega
         have tq := cells4_kept BB (by omega) pb0 pb1 pb2 pb3
         clear pb0 pb1 pb2 pb3
         obtain ⟨pb0, pb1, pb2, pb3⟩ := tq
         have tq := cells2_kept BB (by omega) pf0 pf1
         clear pf0 pf1
         obtain ⟨pf0, pf1⟩ := tq
         have tq := cells2_kept BB (by omega) ps0 ps1
         clear ps0 ps1
         obtain ⟨ps0, ps1⟩ := tq
         replace oub := oub.kept BB (by omega)
         have Bw3 : Below w.heap.size w w3 := Bw2.trans (BB.mono Bw2.size)
         clear BB
         have lpbw3 : w.heap.size < w3.heap.size := by omega
         have lpfw3 : w.heap.size + 1 < w3.heap.size := by omega
         have lpsw3 : w.heap.size + 1 + 1 < w3.heap.size := by omega)
      | (go_at_call 39
         (with_reducible refine (toIntA2_any sa sb w3).mono ?_)
         rintro e w4 ⟨rfl, bw4⟩
         have BB : Below w3.heap.size w3 w4 := bw4
         have sw4 : w3.heap.size ≤ w4.heap.size := BB.size
         replace hw0 : w.heap.size ≤ w4.heap.size := by omega
         have tq := cells4_kept BB (by omega) pb0 pb1 pb2 pb3
         clear pb0 pb1 pb2 pb3
         obtain ⟨pb0, pb1, pb2, pb3⟩ := tq
         have tq := cells2_kept BB (by omega) pf0 pf1
         clear pf0 pf1
         obtain ⟨pf0, pf1⟩ := tq
         have tq := cells2_kept BB (by omega) ps0 ps1
         clear ps0 ps1
         obtain ⟨ps0, ps1⟩ := tq
         replace oub := oub.kept BB (by omega)
         have Bw4 : Below w.heap.size w w4 := Bw3.trans (BB.mono Bw3.size)
         clear BB
         have lpbw4 : w.heap.size < w4.heap.size := by omega
         have lpfw4 : w.heap.size + 1 < w4.heap.size := by omega
         have lpsw4 : w.heap.size + 1 + 1 < w4.heap.size := by omega)
      | (go_at_call 38
         (with_reducible refine (specSumOf_any _ bb fa fb sa sb m w4 (oub.rdII)).mono ?_)
         rintro e w5 ⟨rfl, bw5⟩
         have BB : Below w4.heap.size w4 w5 := bw5
         have sw5 : w4.heap.size ≤ w5.heap.size := BB.size
         replace hw0 : w.heap.size ≤ w5.heap.size := by omega
         have tq := cells4_kept BB (by omega) pb0 pb1 pb2 pb3
         clear pb0 pb1 pb2 pb3
         obtain ⟨pb0, pb1, pb2, pb3⟩ := tq
         have tq := cells2_kept BB (by omega) pf0 pf1
         clear pf0 pf1
         obtain ⟨pf0, pf1⟩ := tq
         have tq := cells2_kept BB (by omega) ps0 ps1
         clear ps0 ps1
         obtain ⟨ps0, ps1⟩ := tq
         replace oub := oub.kept BB (by omega)
         have Bw5 : Below w.heap.size w w5 := Bw4.trans (BB.mono Bw4.size)
         clear BB
         have lpbw5 : w.heap.size < w5.heap.size := by omega
         have lpfw5 : w.heap.size + 1 < w5.heap.size := by omega
         have lpsw5 : w.heap.size + 1 + 1 < w5.heap.size := by omega))
  go_wp2_with fail
  refine (toBox_any vb bb.X bb.Y bb.Whole bb.Rows w5 (hb.kept (Nat.le_refl _) Bw5) hsb).mono ?_
  rintro e w6 ⟨axb, cxb, zxb, rfl, oxb, bw6⟩
  have BB : Below w5.heap.size w5 w6 := bw6
  have sw6 : w5.heap.size ≤ w6.heap.size := BB.size
  replace hw0 : w.heap.size ≤ w6.heap.size := by omega
  have tq := cells4_kept BB (by omega) pb0 pb1 pb2 pb3
  clear pb0 pb1 pb2 pb3
  obtain ⟨pb0, pb1, pb2, pb3⟩ := tq
  have tq := cells2_kept BB (by omega) pf0 pf1
  clear pf0 pf1
  obtain ⟨pf0, pf1⟩ := tq
  have tq := cells2_kept BB (by omega) ps0 ps1
  clear ps0 ps1
  obtain ⟨ps0, ps1⟩ := tq
  have Bw6 : Below w.heap.size w w6 := Bw5.trans (BB.mono Bw5.size)
  clear BB
  have lpbw6 : w.heap.size < w6.heap.size := by omega
  have lpfw6 : w.heap.size + 1 < w6.heap.size := by omega
  have lpsw6 : w.heap.size + 1 + 1 < w6.heap.size := by omega
  go_wp2_with fail
  obtain ⟨w7, hw7⟩ : ∃ W : World, W = (w6.alloc (.cells #[.int .i64 bb.X, .int .i64 bb.Y, .int .i64 bb.Whole, .slice axb bb.Rows.length cxb] 33)) := ⟨_, rfl⟩
  rw [← hw7]
  have bw7 : Below (w6.alloc (.cells #[.int .i64 bb.X, .int .i64 bb.Y, .int .i64 bb.Whole, .slice axb bb.Rows.length cxb] 33)).heap.size (w6.alloc (.cells #[.int .i64 bb.X, .int .i64 bb.Y, .int .i64 bb.Whole, .slice axb bb.Rows.length cxb] 33)) w7 := by rw [hw7]; exact Below.refl _ _
  clear hw7
  have BB : Below w6.heap.size w6 w7 := Below.trans (by repeat' (first | with_reducible exact Below.refl _ _ | with_reducible assumption | with_reducible apply Below.alloc | with_reducible apply Below.setCell | with_reducible apply Below.drew | exact Nat.le_refl _ | omega | (simp only [World.size_alloc, World.size_setCell]; omega))) (bw7.mono (by first | exact Nat.le_refl _ | omega | (simp only [World.size_alloc, World.size_setCell]; omega)))
  have sw7 : w6.heap.size ≤ w7.heap.size := BB.size
  have tw7 := bw7.size
  simp only [World.size_alloc] at tw7
  obtain ⟨xb0, xb1, xb2, xb3⟩ : w7.cell? ⟨w6.heap.size, 0, none⟩ = some (.int .i64 bb.X) ∧ w7.cell? ⟨w6.heap.size, 1, none⟩ = some (.int .i64 bb.Y) ∧ w7.cell? ⟨w6.heap.size, 2, none⟩ = some (.int .i64 bb.Whole) ∧ w7.cell? ⟨w6.heap.size, 3, none⟩ = some (.slice axb bb.Rows.length cxb) := by
    obtain ⟨hc, _⟩ := bcell bw7
    refine ⟨?_, ?_, ?_, ?_⟩ <;> (rw [hc _ _ (by simp only [World.size_alloc]; omega)]; first | (simp; done) | exact (by repeat' (first | with_reducible assumption | (refine cell_top ?_ rfl; first | with_reducible rfl | (simp only [World.size_alloc, World.size_setCell]; done)) | (refine cell_under ?_ ?_; (first | omega | (simp only [World.size_alloc, World.size_setCell]; omega))) | refine cell_drew ?_)))
  replace hw0 : w.heap.size ≤ w7.heap.size := by omega
  have tq := cells4_kept BB (by omega) pb0 pb1 pb2 pb3
  clear pb0 pb1 pb2 pb3
  obtain ⟨pb0, pb1, pb2, pb3⟩ := tq
  have tq := cells2_kept BB (by omega) pf0 pf1
  clear pf0 pf1
  obtain ⟨pf0, pf1⟩ := tq
  have tq := cells2_kept BB (by omega) ps0 ps1
  clear ps0 ps1
  obtain ⟨ps0, ps1⟩ := tq
  replace oxb := oxb.kept BB (by omega)
  have Bw7 : Below w.heap.size w w7 := Bw6.trans (BB.mono Bw6.size)
  clear BB
  have lpbw7 : w.heap.size < w7.heap.size := by omega
  have lpfw7 : w.heap.size + 1 < w7.heap.size := by omega
  have lpsw7 : w.heap.size + 1 + 1 < w7.heap.size := by omega
  have lxbw7 : w6.heap.size < w7.heap.size := by omega
  go_wp2_with fail
  go_region_held3 (fun w' => w'.cell? ⟨w.heap.size + 1, 0, none⟩ = some (.int .i64 fa) ∧ w'.cell? ⟨w.heap.size + 1, 1, none⟩ = some (.int .i64 fb) ∧ w'.cell? ⟨w.heap.size + 1 + 1, 0, none⟩ = some (.int .i64 sa) ∧ w'.cell? ⟨w.heap.size + 1 + 1, 1, none⟩ = some (.int .i64 sb) ∧ w'.cell? ⟨w6.heap.size, 0, none⟩ = some (.int .i64 bb.X) ∧ w'.cell? ⟨w6.heap.size, 1, none⟩ = some (.int .i64 bb.Y) ∧ w'.cell? ⟨w6.heap.size, 2, none⟩ = some (.int .i64 bb.Whole) ∧ w'.cell? ⟨w6.heap.size, 3, none⟩ = some (.slice axb bb.Rows.length cxb))
    (first | go_keep | exact ⟨pf0, pf1, ps0, ps1, xb0, xb1, xb2, xb3⟩)
    (first
      | (go_at_call 39
         (with_reducible refine (toIntA2_any fa fb w7.drew).mono ?_)
         rintro e w8 ⟨rfl, bw8⟩
         have BB : Below w7.heap.size w7 w8 := ((Below.refl w7.heap.size w7).drew).trans bw8
         have sw8 : w7.heap.size ≤ w8.heap.size := BB.size
         replace hw0 : w.heap.size ≤ w8.heap.size := by omega
         have tq := cells4_kept BB (by omega) pb0 pb1 pb2 pb3
         clear pb0 pb1 pb2 pb3
         obtain ⟨pb0, pb1, pb2, pb3⟩ := tq
         have tq := cells2_kept BB (by omega) pf0 pf1
         clear pf0 pf1
         obtain ⟨pf0, pf1⟩ := tq
         have tq := cells2_kept BB (by omega) ps0 ps1
         clear ps0 ps1
         obtain ⟨ps0, ps1⟩ := tq
         have tq := cells4_kept BB (by omega) xb0 xb1 xb2 xb3
         clear xb0 xb1 xb2 xb3
         obtain ⟨xb0, xb1, xb2, xb3⟩ := tq
         replace oxb := oxb.kept BB (by omega)
         have Bw8 : Below w.heap.size w w8 := Bw7.trans (BB.mono Bw7.size)
         clear BB
         have lpbw8 : w.heap.size < w8.heap.size := by omega
         have lpfw8 : w.heap.size + 1 < w8.heap.size := by omega
         have lpsw8 : w.heap.size + 1 + 1 < w8.heap.size := by omega
         have lxbw8 : w6.heap.size < w8.heap.size := by omega)
      | (go_at_call 39
         (with_reducible refine (toIntA2_any sa sb w8).mono ?_)
         rintro e w9 ⟨rfl, bw9⟩
         have BB : Below w8.heap.size w8 w9 := bw9
         have sw9 : w8.heap.size ≤ w9.heap.size := BB.size
         replace hw0 : w.heap.size ≤ w9.heap.size := by omega
         have tq := cells4_kept BB (by omega) pb0 pb1 pb2 pb3
         clear pb0 pb1 pb2 pb3
         obtain ⟨pb0, pb1, pb2, pb3⟩ := tq
         have tq := cells2_kept BB (by omega) pf0 pf1
         clear pf0 pf1
         obtain ⟨pf0, pf1⟩ := tq
         have tq := cells2_kept BB (by omega) ps0 ps1
         clear ps0 ps1
         obtain ⟨ps0, ps1⟩ := tq
         have tq := cells4_kept BB (by omega) xb0 xb1 xb2 xb3
         clear xb0 xb1 xb2 xb3
         obtain ⟨xb0, xb1, xb2, xb3⟩ := tq
         replace oxb := oxb.kept BB (by omega)
         have Bw9 : Below w.heap.size w w9 := Bw8.trans (BB.mono Bw8.size)
         clear BB
         have lpbw9 : w.heap.size < w9.heap.size := by omega
         have lpfw9 : w.heap.size + 1 < w9.heap.size := by omega
         have lpsw9 : w.heap.size + 1 + 1 < w9.heap.size := by omega
         have lxbw9 : w6.heap.size < w9.heap.size := by omega)
      | (go_at_call 40
         (with_reducible refine (implSumOf_any _ bb fa fb sa sb m w9 (oxb.rdII)).mono ?_)
         rintro e w10 ⟨rfl, bw10⟩
         have BB : Below w9.heap.size w9 w10 := bw10
         have sw10 : w9.heap.size ≤ w10.heap.size := BB.size
         replace hw0 : w.heap.size ≤ w10.heap.size := by omega
         have tq := cells4_kept BB (by omega) pb0 pb1 pb2 pb3
         clear pb0 pb1 pb2 pb3
         obtain ⟨pb0, pb1, pb2, pb3⟩ := tq
         have tq := cells2_kept BB (by omega) pf0 pf1
         clear pf0 pf1
         obtain ⟨pf0, pf1⟩ := tq
         have tq := cells2_kept BB (by omega) ps0 ps1
         clear ps0 ps1
         obtain ⟨ps0, ps1⟩ := tq
         have tq := cells4_kept BB (by omega) xb0 xb1 xb2 xb3
         clear xb0 xb1 xb2 xb3
         obtain ⟨xb0, xb1, xb2, xb3⟩ := tq
         replace oxb := oxb.kept BB (by omega)
         have Bw10 : Below w.heap.size w w10 := Bw9.trans (BB.mono Bw9.size)
         clear BB
         have lpbw10 : w.heap.size < w10.heap.size := by omega
         have lpfw10 : w.heap.size + 1 < w10.heap.size := by omega
         have lpsw10 : w.heap.size + 1 + 1 < w10.heap.size := by omega
         have lxbw10 : w6.heap.size < w10.heap.size := by omega))
  have e0 : ((sumD bb fa fb sa sb m) != (sumD bb fa fb sa sb m)) = false := by simp
  have e1 : ((sumOk bb fa fb sa sb m) != (sumOk bb fa fb sa sb m)) = false := by simp
  go_wp2_with fail
  go_region_held3 (fun w' => w'.cell? ⟨w6.heap.size, 0, none⟩ = some (.int .i64 bb.X) ∧ w'.cell? ⟨w6.heap.size, 1, none⟩ = some (.int .i64 bb.Y) ∧ w'.cell? ⟨w6.heap.size, 2, none⟩ = some (.int .i64 bb.Whole) ∧ w'.cell? ⟨w6.heap.size, 3, none⟩ = some (.slice axb bb.Rows.length cxb) ∧ w'.cell? ⟨w.heap.size, 0, none⟩ = some (.int .i64 bb.X) ∧ w'.cell? ⟨w.heap.size, 1, none⟩ = some (.int .i64 bb.Y) ∧ w'.cell? ⟨w.heap.size, 2, none⟩ = some (.int .i64 bb.Whole) ∧ w'.cell? ⟨w.heap.size, 3, none⟩ = some (vb))
    (first | go_keep | exact ⟨xb0, xb1, xb2, xb3, pb0, pb1, pb2, pb3⟩)
    (first
      | (go_at_call 34
         (with_reducible refine (toBox_any vb bb.X bb.Y bb.Whole bb.Rows w10.drew (hb.kept (Nat.le_refl _) Bw10.drew) hsb).mono ?_)
         rintro e w11 ⟨ayb, cyb, zyb, rfl, oyb, bw11⟩
         replace oyb := oyb.weaken (lo' := w10.heap.size) (Nat.le_refl _) (Nat.le_refl _)
         have BB : Below w10.heap.size w10 w11 := ((Below.refl w10.heap.size w10).drew).trans bw11
         have sw11 : w10.heap.size ≤ w11.heap.size := BB.size
         replace hw0 : w.heap.size ≤ w11.heap.size := by omega
         have tq := cells4_kept BB (by omega) pb0 pb1 pb2 pb3
         clear pb0 pb1 pb2 pb3
         obtain ⟨pb0, pb1, pb2, pb3⟩ := tq
         have tq := cells2_kept BB (by omega) pf0 pf1
         clear pf0 pf1
         obtain ⟨pf0, pf1⟩ := tq
         have tq := cells2_kept BB (by omega) ps0 ps1
         clear ps0 ps1
         obtain ⟨ps0, ps1⟩ := tq
         have tq := cells4_kept BB (by omega) xb0 xb1 xb2 xb3
         clear xb0 xb1 xb2 xb3
         obtain ⟨xb0, xb1, xb2, xb3⟩ := tq
         replace oxb := oxb.kept BB (by omega)
         have Bw11 : Below w.heap.size w w11 := Bw10.trans (BB.mono Bw10.size)
         clear BB
         have lpbw11 : w.heap.size < w11.heap.size := by omega
         have lpfw11 : w.heap.size + 1 < w11.heap.size := by omega
         have lpsw11 : w.heap.size + 1 + 1 < w11.heap.size := by omega
         have lxbw11 : w6.heap.size < w11.heap.size := by omega)
      | (go_at_call 27
         (with_reducible refine (eqBox_any _ _ bb bb w11 (oxb.rdII) (oyb.rdII)).mono ?_)
         rintro e w12 ⟨rfl, dw12⟩
         have BB : Below w11.heap.size w11 w12 := dw12
         have sw12 : w11.heap.size ≤ w12.heap.size := BB.size
         replace hw0 : w.heap.size ≤ w12.heap.size := by omega
         have tq := cells4_kept BB (by omega) pb0 pb1 pb2 pb3
         clear pb0 pb1 pb2 pb3
         obtain ⟨pb0, pb1, pb2, pb3⟩ := tq
         have tq := cells2_kept BB (by omega) pf0 pf1
         clear pf0 pf1
         obtain ⟨pf0, pf1⟩ := tq
         have tq := cells2_kept BB (by omega) ps0 ps1
         clear ps0 ps1
         obtain ⟨ps0, ps1⟩ := tq
         have tq := cells4_kept BB (by omega) xb0 xb1 xb2 xb3
         clear xb0 xb1 xb2 xb3
         obtain ⟨xb0, xb1, xb2, xb3⟩ := tq
         replace oxb := oxb.kept BB (by omega)
         replace oyb := oyb.kept BB (by omega)
         have Bw12 : Below w.heap.size w w12 := Bw11.trans (BB.mono Bw11.size)
         clear BB
         have lpbw12 : w.heap.size < w12.heap.size := by omega
         have lpfw12 : w.heap.size + 1 < w12.heap.size := by omega
         have lpsw12 : w.heap.size + 1 + 1 < w12.heap.size := by omega
         have lxbw12 : w6.heap.size < w12.heap.size := by omega))
  go_wp2
  go_ret
  exact ⟨rfl, Bw12⟩

/-! ### The row -/
set_option maxRecDepth 100000 in
theorem fnExactSumOf_lifted (os : Os) (started : os.Started) (H : Type) (enc : TypeId × Value → H) :
    ReturnsInHanded {} Try.checked os 8 .any (Rows.fnExactSumOfSpec.pre6 enc Try.prog Try.f8 Rows.fnExactSumOfRow.domain false) (Rows.fnExactSumOfSpec.post enc Try.prog Try.f8 false true false false) := by
  refine returnsInHanded_of_change (C := Try.checked) Try.own started (by kernel_rfl) Try.func8
    (ChangeSpec.witness6 (enc := enc) (C := Try.checked) false ⟨#[], #[.agg #[.int .i64 0, .int .i64 0, .int .i64 0, .slice none 0 0], .agg #[.int .i64 0, .int .i64 0], .agg #[.int .i64 0, .int .i64 0], .int .i64 0], []⟩ 8 (by kernel_rfl) (by kernel_rfl) (by kernel_rfl) (by kernel_rfl)) ?_
  intro W base args ds gs before hval0 hW hcnd _
  have hval : ∀ (j : Nat) t v, Try.f8.params[j]? = some t → args[j]? = some v → Value.okWide Try.prog W .any base t v := hval0
  have hW' := hW
  obtain ⟨p, q, hA0, hV, rfl, hfz, hnd⟩ := hW
  have hA : DataW.TrodAll enc Try.prog W 0 (fun _ => true) true Try.f8.params.toList args.toList ds p := hA0
  rw [Try.params8] at hA hval
  obtain ⟨v0, vs0, d0, ds0, p0, q0, hargs, rfl, rfl, h0, r0⟩ := trodAll_cons hA
  obtain ⟨v1, vs1, d1, ds1, p1, q1, rfl, rfl, rfl, h1, r1⟩ := trodAll_cons r0
  obtain ⟨v2, vs2, d2, ds2, p2, q2, rfl, rfl, rfl, h2, r2⟩ := trodAll_cons r1
  obtain ⟨v3, vs3, d3, ds3, p3, q3, rfl, rfl, rfl, h3, r3⟩ := trodAll_cons r2
  obtain ⟨rfl, rfl, rfl⟩ := trodAll_nil r3
  obtain rfl : args = #[v0, v1, v2, v3] := by cases args; simp_all
  obtain ⟨bx0, vr0, rfl, hx0, wx0⟩ := box_of (hval 0 42 v0 rfl rfl) h0
  obtain ⟨xa1, xb1, rfl, wxa1, wxb1⟩ := arr2_of (hval 1 50 v1 rfl rfl) h1
  obtain ⟨xa2, xb2, rfl, wxa2, wxb2⟩ := arr2_of (hval 2 50 v2 rfl rfl) h2
  obtain ⟨x3, rfl, rfl, rfl, wx3⟩ := open_int Try.underlying3 (hval 3 3 v3 rfl rfl) h3
  clear hA0 hval0
  refine (fnExactSumOf_walk vr0 bx0 xa1 xb1 xa2 xb2 x3 W hx0).mono fun e W' ⟨he, hb⟩ => ?_
  subst he
  exact ⟨_, rfl, law_post Try.laidOut (by kernel_rfl) rfl Try.underlying4 rfl (fun ds hd => by match ds, hd with | [e0, e1, e2, e3], _ => rfl) hW' hb⟩

theorem fnExactSumOf_holds : Rows.FnExactSumOfSaid :=
  OpenClaim.holds_of_wide 8 Try.f8 rfl rfl rfl rfl rfl rfl rfl ⟨rfl, rfl, rfl, rfl, rfl⟩ rfl rfl rfl rfl rfl (by kernel_rfl) Try.func8 (by kernel_rfl)
    (of_decide_eq_true (by kernel_rfl)) (by unfold Func.isWrapper; first | (rw [if_pos (by decide +kernel)]; kernel_rfl) | (rw [if_neg (by decide +kernel)]; exact ⟨rfl, rfl⟩))
    (fun os started H enc _ => fnExactSumOf_lifted os started H enc)

end Go.Proofs.Ytbleeakcmmpcgaa
