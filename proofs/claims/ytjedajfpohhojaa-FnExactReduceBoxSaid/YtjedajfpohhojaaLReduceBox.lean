/- ReduceBox: the program's answer is the reference's, for all arguments; nothing is shared. -/
import Derived.Test.YtjedajfpohhojaaSpReduce
import Derived.Test.YtjedajfpohhojaaRowB
import Derived.Test.YtjedajfpohhojaaHarD
set_option linter.unusedSimpArgs false
set_option linter.unusedVariables false
namespace Go.Proofs.Ytjedajfpohhojaa
open Go.ChangeShapes Go.WideShapes Go.ChangeAt Go.RowKit
open Go.ChangeMaps (open_string shut_string)

set_option maxHeartbeats 3000000 in
theorem fnExactReduceBox_walk (va : Value) (ba : BoxD) (w : World) (ha : RdII w va ba.Rows) :
    Calls Try.prog 10 #[.agg #[.int .i64 ba.X, .int .i64 ba.Y, .int .i64 ba.Whole, va]] w fun e w' => e = .returned (.bool true) ∧ Below w.heap.size w w' := by
  have hw0 : w.heap.size ≤ w.heap.size := Nat.le_refl _
  go_enter Try.func10, Try.ntmps10
  go_wp2_with fail
  refine (szBox_any va ba.X ba.Y ba.Whole ba.Rows 1048576 (w.alloc (.cells #[.int .i64 ba.X, .int .i64 ba.Y, .int .i64 ba.Whole, va] 40)) (ha.kept (Nat.le_refl _) (by repeat' (first | with_reducible exact Below.refl _ _ | with_reducible assumption | with_reducible apply Below.alloc | with_reducible apply Below.setCell | with_reducible apply Below.drew | exact Nat.le_refl _ | omega | (simp only [World.size_alloc, World.size_setCell]; omega)))) (by omega) (by omega)).mono ?_
  rintro e w1 ⟨⟨la, rfl, hsa⟩, bw1⟩
  have BB : Below w.heap.size w w1 := Below.trans (by repeat' (first | with_reducible exact Below.refl _ _ | with_reducible assumption | with_reducible apply Below.alloc | with_reducible apply Below.setCell | with_reducible apply Below.drew | exact Nat.le_refl _ | omega | (simp only [World.size_alloc, World.size_setCell]; omega))) (bw1.mono (by first | exact Nat.le_refl _ | omega | (simp only [World.size_alloc, World.size_setCell]; omega)))
  have sw1 : w.heap.size ≤ w1.heap.size := BB.size
  have tw1 := bw1.size
  simp only [World.size_alloc] at tw1
  obtain ⟨pa0, pa1, pa2, pa3⟩ : w1.cell? ⟨w.heap.size, 0, none⟩ = some (.int .i64 ba.X) ∧ w1.cell? ⟨w.heap.size, 1, none⟩ = some (.int .i64 ba.Y) ∧ w1.cell? ⟨w.heap.size, 2, none⟩ = some (.int .i64 ba.Whole) ∧ w1.cell? ⟨w.heap.size, 3, none⟩ = some (va) := by
    obtain ⟨hc, _⟩ := bcell bw1
    refine ⟨?_, ?_, ?_, ?_⟩ <;> (rw [hc _ _ (by simp only [World.size_alloc]; omega)]; simp)
  replace hw0 : w.heap.size ≤ w1.heap.size := by omega
  have Bw1 : Below w.heap.size w w1 := BB
  clear BB
  have lpaw1 : w.heap.size < w1.heap.size := by omega
  by_cases hna : la < 0
  · go_wp2
    go_ret
    exact ⟨rfl, Bw1⟩
  obtain ⟨hsa, hqa⟩ : ba.Rows.length + sumLen ba.Rows ≤ 1048576 ∧ la ≤ 1048576 := by unfold SzLeft at hsa; omega
  go_wp2_with fail
  refine (toBox_any va ba.X ba.Y ba.Whole ba.Rows w1 (ha.kept (Nat.le_refl _) Bw1) hsa).mono ?_
  rintro e w2 ⟨aua, cua, zua, rfl, oua, bw2⟩
  have BB : Below w1.heap.size w1 w2 := bw2
  have sw2 : w1.heap.size ≤ w2.heap.size := BB.size
  replace hw0 : w.heap.size ≤ w2.heap.size := by omega
  have tq := cells4_kept BB (by omega) pa0 pa1 pa2 pa3
  clear pa0 pa1 pa2 pa3
  obtain ⟨pa0, pa1, pa2, pa3⟩ := tq
  have Bw2 : Below w.heap.size w w2 := Bw1.trans (BB.mono Bw1.size)
  clear BB
  have lpaw2 : w.heap.size < w2.heap.size := by omega
  go_wp2_with fail
  refine (specReduceBox_any _ ba w2 (oua.rdII)).mono ?_
  rintro e w3 ⟨aR, cR, zR, rfl, oR, bw3⟩
  have BB : Below w2.heap.size w2 w3 := bw3
  have sw3 : w2.heap.size ≤ w3.heap.size := BB.size
  replace hw0 : w.heap.size ≤ w3.heap.size := by omega
  have tq := cells4_kept BB (by omega) pa0 pa1 pa2 pa3
  clear pa0 pa1 pa2 pa3
  obtain ⟨pa0, pa1, pa2, pa3⟩ := tq
  replace oua := oua.kept BB (by omega)
  have Bw3 : Below w.heap.size w w3 := Bw2.trans (BB.mono Bw2.size)
  clear BB
  have lpaw3 : w.heap.size < w3.heap.size := by omega
  go_wp2_with fail
  refine (toBox_any va ba.X ba.Y ba.Whole ba.Rows (w3.alloc (.cells #[.int .i64 (redD ba).X, .int .i64 (redD ba).Y, .int .i64 (redD ba).Whole, .slice aR (redD ba).Rows.length cR] 25)) ((ha.kept (Nat.le_refl _) Bw3).kept (Nat.le_refl _) (by repeat' (first | with_reducible exact Below.refl _ _ | with_reducible assumption | with_reducible apply Below.alloc | with_reducible apply Below.setCell | with_reducible apply Below.drew | exact Nat.le_refl _ | omega | (simp only [World.size_alloc, World.size_setCell]; omega)))) hsa).mono ?_
  rintro e w4 ⟨axa, cxa, zxa, rfl, oxa, bw4⟩
  simp only [World.size_alloc] at oxa
  have BB : Below w3.heap.size w3 w4 := Below.trans (by repeat' (first | with_reducible exact Below.refl _ _ | with_reducible assumption | with_reducible apply Below.alloc | with_reducible apply Below.setCell | with_reducible apply Below.drew | exact Nat.le_refl _ | omega | (simp only [World.size_alloc, World.size_setCell]; omega))) (bw4.mono (by first | exact Nat.le_refl _ | omega | (simp only [World.size_alloc, World.size_setCell]; omega)))
  have sw4 : w3.heap.size ≤ w4.heap.size := BB.size
  have tw4 := bw4.size
  simp only [World.size_alloc] at tw4
  obtain ⟨R0, R1, R2, R3⟩ : w4.cell? ⟨w3.heap.size, 0, none⟩ = some (.int .i64 (redD ba).X) ∧ w4.cell? ⟨w3.heap.size, 1, none⟩ = some (.int .i64 (redD ba).Y) ∧ w4.cell? ⟨w3.heap.size, 2, none⟩ = some (.int .i64 (redD ba).Whole) ∧ w4.cell? ⟨w3.heap.size, 3, none⟩ = some (.slice aR (redD ba).Rows.length cR) := by
    obtain ⟨hc, _⟩ := bcell bw4
    refine ⟨?_, ?_, ?_, ?_⟩ <;> (rw [hc _ _ (by simp only [World.size_alloc]; omega)]; simp)
  replace hw0 : w.heap.size ≤ w4.heap.size := by omega
  have tq := cells4_kept BB (by omega) pa0 pa1 pa2 pa3
  clear pa0 pa1 pa2 pa3
  obtain ⟨pa0, pa1, pa2, pa3⟩ := tq
  replace oR := oR.kept BB (by omega)
  have Bw4 : Below w.heap.size w w4 := Bw3.trans (BB.mono Bw3.size)
  clear BB
  have lpaw4 : w.heap.size < w4.heap.size := by omega
  have lRw4 : w3.heap.size < w4.heap.size := by omega
  go_wp2_with fail
  refine (implReduceBox_any _ ba (w4.alloc (.cells #[.int .i64 ba.X, .int .i64 ba.Y, .int .i64 ba.Whole, .slice axa ba.Rows.length cxa] 25)) ((oxa.rdII.kept (Nat.le_refl _) (by repeat' (first | with_reducible exact Below.refl _ _ | with_reducible assumption | with_reducible apply Below.alloc | with_reducible apply Below.setCell | with_reducible apply Below.drew | exact Nat.le_refl _ | omega | (simp only [World.size_alloc, World.size_setCell]; omega)))))).mono ?_
  rintro e w5 ⟨aI, cI, zI, rfl, oI, bw5⟩
  simp only [World.size_alloc] at oI
  have BB : Below w4.heap.size w4 w5 := Below.trans (by repeat' (first | with_reducible exact Below.refl _ _ | with_reducible assumption | with_reducible apply Below.alloc | with_reducible apply Below.setCell | with_reducible apply Below.drew | exact Nat.le_refl _ | omega | (simp only [World.size_alloc, World.size_setCell]; omega))) (bw5.mono (by first | exact Nat.le_refl _ | omega | (simp only [World.size_alloc, World.size_setCell]; omega)))
  have sw5 : w4.heap.size ≤ w5.heap.size := BB.size
  have tw5 := bw5.size
  simp only [World.size_alloc] at tw5
  obtain ⟨xa0, xa1, xa2, xa3⟩ : w5.cell? ⟨w4.heap.size, 0, none⟩ = some (.int .i64 ba.X) ∧ w5.cell? ⟨w4.heap.size, 1, none⟩ = some (.int .i64 ba.Y) ∧ w5.cell? ⟨w4.heap.size, 2, none⟩ = some (.int .i64 ba.Whole) ∧ w5.cell? ⟨w4.heap.size, 3, none⟩ = some (.slice axa ba.Rows.length cxa) := by
    obtain ⟨hc, _⟩ := bcell bw5
    refine ⟨?_, ?_, ?_, ?_⟩ <;> (rw [hc _ _ (by simp only [World.size_alloc]; omega)]; simp)
  replace hw0 : w.heap.size ≤ w5.heap.size := by omega
  have tq := cells4_kept BB (by omega) pa0 pa1 pa2 pa3
  clear pa0 pa1 pa2 pa3
  obtain ⟨pa0, pa1, pa2, pa3⟩ := tq
  have tq := cells4_kept BB (by omega) R0 R1 R2 R3
  clear R0 R1 R2 R3
  obtain ⟨R0, R1, R2, R3⟩ := tq
  replace oR := oR.kept BB (by omega)
  replace oxa := oxa.kept BB (by omega)
  have Bw5 : Below w.heap.size w w5 := Bw4.trans (BB.mono Bw4.size)
  clear BB
  have lpaw5 : w.heap.size < w5.heap.size := by omega
  have lRw5 : w3.heap.size < w5.heap.size := by omega
  have lxaw5 : w4.heap.size < w5.heap.size := by omega
  have hz0 := redD_size ba
  have e1 : ((boxB ba) != (boxB ba)) = false := by simp
  go_wp2_with fail
  refine (eqBox_any _ _ (redD ba) (redD ba) (w5.alloc (.cells #[.int .i64 (redD ba).X, .int .i64 (redD ba).Y, .int .i64 (redD ba).Whole, .slice aI (redD ba).Rows.length cI] 25)) ((oI.rdII.kept (Nat.le_refl _) (by repeat' (first | with_reducible exact Below.refl _ _ | with_reducible assumption | with_reducible apply Below.alloc | with_reducible apply Below.setCell | with_reducible apply Below.drew | exact Nat.le_refl _ | omega | (simp only [World.size_alloc, World.size_setCell]; omega))))) ((oR.rdII.kept (Nat.le_refl _) (by repeat' (first | with_reducible exact Below.refl _ _ | with_reducible assumption | with_reducible apply Below.alloc | with_reducible apply Below.setCell | with_reducible apply Below.drew | exact Nat.le_refl _ | omega | (simp only [World.size_alloc, World.size_setCell]; omega)))))).mono ?_
  rintro e w6 ⟨rfl, dw6⟩
  have BB : Below w5.heap.size w5 w6 := Below.trans (by repeat' (first | with_reducible exact Below.refl _ _ | with_reducible assumption | with_reducible apply Below.alloc | with_reducible apply Below.setCell | with_reducible apply Below.drew | exact Nat.le_refl _ | omega | (simp only [World.size_alloc, World.size_setCell]; omega))) (dw6.mono (by first | exact Nat.le_refl _ | omega | (simp only [World.size_alloc, World.size_setCell]; omega)))
  have sw6 : w5.heap.size ≤ w6.heap.size := BB.size
  have tw6 := dw6.size
  simp only [World.size_alloc] at tw6
  obtain ⟨I0, I1, I2, I3⟩ : w6.cell? ⟨w5.heap.size, 0, none⟩ = some (.int .i64 (redD ba).X) ∧ w6.cell? ⟨w5.heap.size, 1, none⟩ = some (.int .i64 (redD ba).Y) ∧ w6.cell? ⟨w5.heap.size, 2, none⟩ = some (.int .i64 (redD ba).Whole) ∧ w6.cell? ⟨w5.heap.size, 3, none⟩ = some (.slice aI (redD ba).Rows.length cI) := by
    obtain ⟨hc, _⟩ := bcell dw6
    refine ⟨?_, ?_, ?_, ?_⟩ <;> (rw [hc _ _ (by simp only [World.size_alloc]; omega)]; simp)
  replace hw0 : w.heap.size ≤ w6.heap.size := by omega
  have tq := cells4_kept BB (by omega) pa0 pa1 pa2 pa3
  clear pa0 pa1 pa2 pa3
  obtain ⟨pa0, pa1, pa2, pa3⟩ := tq
  have tq := cells4_kept BB (by omega) R0 R1 R2 R3
  clear R0 R1 R2 R3
  obtain ⟨R0, R1, R2, R3⟩ := tq
  have tq := cells4_kept BB (by omega) xa0 xa1 xa2 xa3
  clear xa0 xa1 xa2 xa3
  obtain ⟨xa0, xa1, xa2, xa3⟩ := tq
  replace oR := oR.kept BB (by omega)
  replace oxa := oxa.kept BB (by omega)
  replace oI := oI.kept BB (by omega)
  have Bw6 : Below w.heap.size w w6 := Bw5.trans (BB.mono Bw5.size)
  clear BB
  have lpaw6 : w.heap.size < w6.heap.size := by omega
  have lRw6 : w3.heap.size < w6.heap.size := by omega
  have lxaw6 : w4.heap.size < w6.heap.size := by omega
  have lIw6 : w5.heap.size < w6.heap.size := by omega
  go_wp2_with fail
  go_region_held3 (fun w' => w'.cell? ⟨w4.heap.size, 0, none⟩ = some (.int .i64 ba.X) ∧ w'.cell? ⟨w4.heap.size, 1, none⟩ = some (.int .i64 ba.Y) ∧ w'.cell? ⟨w4.heap.size, 2, none⟩ = some (.int .i64 ba.Whole) ∧ w'.cell? ⟨w4.heap.size, 3, none⟩ = some (.slice axa ba.Rows.length cxa) ∧ w'.cell? ⟨w.heap.size, 0, none⟩ = some (.int .i64 ba.X) ∧ w'.cell? ⟨w.heap.size, 1, none⟩ = some (.int .i64 ba.Y) ∧ w'.cell? ⟨w.heap.size, 2, none⟩ = some (.int .i64 ba.Whole) ∧ w'.cell? ⟨w.heap.size, 3, none⟩ = some (va))
    (first | go_keep | exact ⟨xa0, xa1, xa2, xa3, pa0, pa1, pa2, pa3⟩)
    (first
      | (go_at_call 30
         (with_reducible refine (toBox_any va ba.X ba.Y ba.Whole ba.Rows w6.drew (ha.kept (Nat.le_refl _) Bw6.drew) hsa).mono ?_)
         rintro e w7 ⟨aya, cya, zya, rfl, oya, bw7⟩
         replace oya := oya.weaken (lo' := w6.heap.size) (Nat.le_refl _) (Nat.le_refl _)
         have BB : Below w6.heap.size w6 w7 := ((Below.refl w6.heap.size w6).drew).trans bw7
         have sw7 : w6.heap.size ≤ w7.heap.size := BB.size
         replace hw0 : w.heap.size ≤ w7.heap.size := by omega
         have tq := cells4_kept BB (by omega) pa0 pa1 pa2 pa3
         clear pa0 pa1 pa2 pa3
         obtain ⟨pa0, pa1, pa2, pa3⟩ := tq
         have tq := cells4_kept BB (by omega) R0 R1 R2 R3
         clear R0 R1 R2 R3
         obtain ⟨R0, R1, R2, R3⟩ := tq
         have tq := cells4_kept BB (by omega) xa0 xa1 xa2 xa3
         clear xa0 xa1 xa2 xa3
         obtain ⟨xa0, xa1, xa2, xa3⟩ := tq
         have tq := cells4_kept BB (by omega) I0 I1 I2 I3
         clear I0 I1 I2 I3
         obtain ⟨I0, I1, I2, I3⟩ := tq
         replace oR := oR.kept BB (by omega)
         replace oxa := oxa.kept BB (by omega)
         replace oI := oI.kept BB (by omega)
         have Bw7 : Below w.heap.size w w7 := Bw6.trans (BB.mono Bw6.size)
         clear BB
         have lpaw7 : w.heap.size < w7.heap.size := by omega
         have lRw7 : w3.heap.size < w7.heap.size := by omega
         have lxaw7 : w4.heap.size < w7.heap.size := by omega
         have lIw7 : w5.heap.size < w7.heap.size := by omega)
      | (go_at_call 18
         (with_reducible refine (eqBox_any _ _ ba ba w7 (oxa.rdII) (oya.rdII)).mono ?_)
         rintro e w8 ⟨rfl, dw8⟩
         have BB : Below w7.heap.size w7 w8 := dw8
         have sw8 : w7.heap.size ≤ w8.heap.size := BB.size
         replace hw0 : w.heap.size ≤ w8.heap.size := by omega
         have tq := cells4_kept BB (by omega) pa0 pa1 pa2 pa3
         clear pa0 pa1 pa2 pa3
         obtain ⟨pa0, pa1, pa2, pa3⟩ := tq
         have tq := cells4_kept BB (by omega) R0 R1 R2 R3
         clear R0 R1 R2 R3
         obtain ⟨R0, R1, R2, R3⟩ := tq
         have tq := cells4_kept BB (by omega) xa0 xa1 xa2 xa3
         clear xa0 xa1 xa2 xa3
         obtain ⟨xa0, xa1, xa2, xa3⟩ := tq
         have tq := cells4_kept BB (by omega) I0 I1 I2 I3
         clear I0 I1 I2 I3
         obtain ⟨I0, I1, I2, I3⟩ := tq
         replace oR := oR.kept BB (by omega)
         replace oxa := oxa.kept BB (by omega)
         replace oI := oI.kept BB (by omega)
         replace oya := oya.kept BB (by omega)
         have Bw8 : Below w.heap.size w w8 := Bw7.trans (BB.mono Bw7.size)
         clear BB
         have lpaw8 : w.heap.size < w8.heap.size := by omega
         have lRw8 : w3.heap.size < w8.heap.size := by omega
         have lxaw8 : w4.heap.size < w8.heap.size := by omega
         have lIw8 : w5.heap.size < w8.heap.size := by omega))
  go_wp2_with fail
  refine (markBox_any _ _ _ _ _ _ _ _ _ _ _ _ oxa (by omega) (by omega) (by omega) (by omega)).mono ?_
  rintro e w9 ⟨rfl, oxa, mw9⟩
  have tq := cells4_mid mw9 (by omega) (by omega) pa0 pa1 pa2 pa3
  clear pa0 pa1 pa2 pa3
  obtain ⟨pa0, pa1, pa2, pa3⟩ := tq
  have tq := cells4_mid mw9 (by omega) (by omega) R0 R1 R2 R3
  clear R0 R1 R2 R3
  obtain ⟨R0, R1, R2, R3⟩ := tq
  have tq := cells4_mid mw9 (by omega) (by omega) xa0 xa1 xa2 xa3
  clear xa0 xa1 xa2 xa3
  obtain ⟨xa0, xa1, xa2, xa3⟩ := tq
  have tq := cells4_mid mw9 (by omega) (by omega) I0 I1 I2 I3
  clear I0 I1 I2 I3
  obtain ⟨I0, I1, I2, I3⟩ := tq
  replace oR := oR.mid mw9 (by omega)
  replace oI := oI.mid mw9 (by omega)
  have sw9 : w8.heap.size ≤ w9.heap.size := mw9.size
  have Bw9 : Below w.heap.size w w9 := Bw8.trans (mw9.below (by omega) (by omega))
  replace hw0 : w.heap.size ≤ w9.heap.size := by omega
  clear mw9
  have lpaw9 : w.heap.size < w9.heap.size := by omega
  have lRw9 : w3.heap.size < w9.heap.size := by omega
  have lxaw9 : w4.heap.size < w9.heap.size := by omega
  have lIw9 : w5.heap.size < w9.heap.size := by omega
  go_wp2_with fail
  refine (eqBox_any _ _ (redD ba) (redD ba) w9 (oI.rdII) (oR.rdII)).mono ?_
  rintro e w10 ⟨rfl, dw10⟩
  have BB : Below w9.heap.size w9 w10 := dw10
  have sw10 : w9.heap.size ≤ w10.heap.size := BB.size
  replace hw0 : w.heap.size ≤ w10.heap.size := by omega
  have tq := cells4_kept BB (by omega) pa0 pa1 pa2 pa3
  clear pa0 pa1 pa2 pa3
  obtain ⟨pa0, pa1, pa2, pa3⟩ := tq
  have tq := cells4_kept BB (by omega) R0 R1 R2 R3
  clear R0 R1 R2 R3
  obtain ⟨R0, R1, R2, R3⟩ := tq
  have tq := cells4_kept BB (by omega) xa0 xa1 xa2 xa3
  clear xa0 xa1 xa2 xa3
  obtain ⟨xa0, xa1, xa2, xa3⟩ := tq
  have tq := cells4_kept BB (by omega) I0 I1 I2 I3
  clear I0 I1 I2 I3
  obtain ⟨I0, I1, I2, I3⟩ := tq
  replace oR := oR.kept BB (by omega)
  replace oI := oI.kept BB (by omega)
  have Bw10 : Below w.heap.size w w10 := Bw9.trans (BB.mono Bw9.size)
  clear BB
  have lpaw10 : w.heap.size < w10.heap.size := by omega
  have lRw10 : w3.heap.size < w10.heap.size := by omega
  have lxaw10 : w4.heap.size < w10.heap.size := by omega
  have lIw10 : w5.heap.size < w10.heap.size := by omega
  go_wp2_with fail
  refine (markBox_any _ _ _ _ _ _ _ _ _ _ _ _ oI (by omega) (by omega) (by omega) (by omega)).mono ?_
  rintro e w11 ⟨rfl, oI, mw11⟩
  have tq := cells4_mid mw11 (by omega) (by omega) pa0 pa1 pa2 pa3
  clear pa0 pa1 pa2 pa3
  obtain ⟨pa0, pa1, pa2, pa3⟩ := tq
  have tq := cells4_mid mw11 (by omega) (by omega) R0 R1 R2 R3
  clear R0 R1 R2 R3
  obtain ⟨R0, R1, R2, R3⟩ := tq
  have tq := cells4_mid mw11 (by omega) (by omega) xa0 xa1 xa2 xa3
  clear xa0 xa1 xa2 xa3
  obtain ⟨xa0, xa1, xa2, xa3⟩ := tq
  have tq := cells4_mid mw11 (by omega) (by omega) I0 I1 I2 I3
  clear I0 I1 I2 I3
  obtain ⟨I0, I1, I2, I3⟩ := tq
  replace oR := oR.mid mw11 (by omega)
  have sw11 : w10.heap.size ≤ w11.heap.size := mw11.size
  have Bw11 : Below w.heap.size w w11 := Bw10.trans (mw11.below (by omega) (by omega))
  replace hw0 : w.heap.size ≤ w11.heap.size := by omega
  clear mw11
  have lpaw11 : w.heap.size < w11.heap.size := by omega
  have lRw11 : w3.heap.size < w11.heap.size := by omega
  have lxaw11 : w4.heap.size < w11.heap.size := by omega
  have lIw11 : w5.heap.size < w11.heap.size := by omega
  go_wp2_with fail
  refine (heldBox_any _ _ _ _ _ _ _ (oI.rdII) (by omega) (by omega) (by omega)).mono ?_
  rintro e w12 ⟨rfl, bw12⟩
  have BB : Below w11.heap.size w11 w12 := bw12
  have sw12 : w11.heap.size ≤ w12.heap.size := BB.size
  replace hw0 : w.heap.size ≤ w12.heap.size := by omega
  have tq := cells4_kept BB (by omega) pa0 pa1 pa2 pa3
  clear pa0 pa1 pa2 pa3
  obtain ⟨pa0, pa1, pa2, pa3⟩ := tq
  have tq := cells4_kept BB (by omega) R0 R1 R2 R3
  clear R0 R1 R2 R3
  obtain ⟨R0, R1, R2, R3⟩ := tq
  have tq := cells4_kept BB (by omega) xa0 xa1 xa2 xa3
  clear xa0 xa1 xa2 xa3
  obtain ⟨xa0, xa1, xa2, xa3⟩ := tq
  have tq := cells4_kept BB (by omega) I0 I1 I2 I3
  clear I0 I1 I2 I3
  obtain ⟨I0, I1, I2, I3⟩ := tq
  replace oR := oR.kept BB (by omega)
  replace oI := oI.kept BB (by omega)
  have Bw12 : Below w.heap.size w w12 := Bw11.trans (BB.mono Bw11.size)
  clear BB
  have lpaw12 : w.heap.size < w12.heap.size := by omega
  have lRw12 : w3.heap.size < w12.heap.size := by omega
  have lxaw12 : w4.heap.size < w12.heap.size := by omega
  have lIw12 : w5.heap.size < w12.heap.size := by omega
  go_wp2_with fail
  refine (toBox_any va ba.X ba.Y ba.Whole ba.Rows w12 (ha.kept (Nat.le_refl _) Bw12) hsa).mono ?_
  rintro e w13 ⟨ata, cta, zta, rfl, ota, bw13⟩
  have BB : Below w12.heap.size w12 w13 := bw13
  have sw13 : w12.heap.size ≤ w13.heap.size := BB.size
  replace hw0 : w.heap.size ≤ w13.heap.size := by omega
  have tq := cells4_kept BB (by omega) pa0 pa1 pa2 pa3
  clear pa0 pa1 pa2 pa3
  obtain ⟨pa0, pa1, pa2, pa3⟩ := tq
  have tq := cells4_kept BB (by omega) R0 R1 R2 R3
  clear R0 R1 R2 R3
  obtain ⟨R0, R1, R2, R3⟩ := tq
  have tq := cells4_kept BB (by omega) xa0 xa1 xa2 xa3
  clear xa0 xa1 xa2 xa3
  obtain ⟨xa0, xa1, xa2, xa3⟩ := tq
  have tq := cells4_kept BB (by omega) I0 I1 I2 I3
  clear I0 I1 I2 I3
  obtain ⟨I0, I1, I2, I3⟩ := tq
  replace oR := oR.kept BB (by omega)
  replace oI := oI.kept BB (by omega)
  have Bw13 : Below w.heap.size w w13 := Bw12.trans (BB.mono Bw12.size)
  clear BB
  have lpaw13 : w.heap.size < w13.heap.size := by omega
  have lRw13 : w3.heap.size < w13.heap.size := by omega
  have lxaw13 : w4.heap.size < w13.heap.size := by omega
  have lIw13 : w5.heap.size < w13.heap.size := by omega
  go_wp2_with fail
  refine (implReduceBox_any _ ba w13 (ota.rdII)).mono ?_
  rintro e w14 ⟨aJ, cJ, zJ, rfl, oJ, bw14⟩
  have BB : Below w13.heap.size w13 w14 := bw14
  have sw14 : w13.heap.size ≤ w14.heap.size := BB.size
  replace hw0 : w.heap.size ≤ w14.heap.size := by omega
  have tq := cells4_kept BB (by omega) pa0 pa1 pa2 pa3
  clear pa0 pa1 pa2 pa3
  obtain ⟨pa0, pa1, pa2, pa3⟩ := tq
  have tq := cells4_kept BB (by omega) R0 R1 R2 R3
  clear R0 R1 R2 R3
  obtain ⟨R0, R1, R2, R3⟩ := tq
  have tq := cells4_kept BB (by omega) xa0 xa1 xa2 xa3
  clear xa0 xa1 xa2 xa3
  obtain ⟨xa0, xa1, xa2, xa3⟩ := tq
  have tq := cells4_kept BB (by omega) I0 I1 I2 I3
  clear I0 I1 I2 I3
  obtain ⟨I0, I1, I2, I3⟩ := tq
  replace oR := oR.kept BB (by omega)
  replace oI := oI.kept BB (by omega)
  replace ota := ota.kept BB (by omega)
  have Bw14 : Below w.heap.size w w14 := Bw13.trans (BB.mono Bw13.size)
  clear BB
  have lpaw14 : w.heap.size < w14.heap.size := by omega
  have lRw14 : w3.heap.size < w14.heap.size := by omega
  have lxaw14 : w4.heap.size < w14.heap.size := by omega
  have lIw14 : w5.heap.size < w14.heap.size := by omega
  go_wp2_with fail
  refine (eqBox_any _ _ (redD ba) (redD ba) (w14.alloc (.cells #[.int .i64 (redD ba).X, .int .i64 (redD ba).Y, .int .i64 (redD ba).Whole, .slice aJ (redD ba).Rows.length cJ] 25)) ((oJ.rdII.kept (Nat.le_refl _) (by repeat' (first | with_reducible exact Below.refl _ _ | with_reducible assumption | with_reducible apply Below.alloc | with_reducible apply Below.setCell | with_reducible apply Below.drew | exact Nat.le_refl _ | omega | (simp only [World.size_alloc, World.size_setCell]; omega))))) ((oR.rdII.kept (Nat.le_refl _) (by repeat' (first | with_reducible exact Below.refl _ _ | with_reducible assumption | with_reducible apply Below.alloc | with_reducible apply Below.setCell | with_reducible apply Below.drew | exact Nat.le_refl _ | omega | (simp only [World.size_alloc, World.size_setCell]; omega)))))).mono ?_
  rintro e w15 ⟨rfl, dw15⟩
  have BB : Below w14.heap.size w14 w15 := Below.trans (by repeat' (first | with_reducible exact Below.refl _ _ | with_reducible assumption | with_reducible apply Below.alloc | with_reducible apply Below.setCell | with_reducible apply Below.drew | exact Nat.le_refl _ | omega | (simp only [World.size_alloc, World.size_setCell]; omega))) (dw15.mono (by first | exact Nat.le_refl _ | omega | (simp only [World.size_alloc, World.size_setCell]; omega)))
  have sw15 : w14.heap.size ≤ w15.heap.size := BB.size
  have tw15 := dw15.size
  simp only [World.size_alloc] at tw15
  obtain ⟨J0, J1, J2, J3⟩ : w15.cell? ⟨w14.heap.size, 0, none⟩ = some (.int .i64 (redD ba).X) ∧ w15.cell? ⟨w14.heap.size, 1, none⟩ = some (.int .i64 (redD ba).Y) ∧ w15.cell? ⟨w14.heap.size, 2, none⟩ = some (.int .i64 (redD ba).Whole) ∧ w15.cell? ⟨w14.heap.size, 3, none⟩ = some (.slice aJ (redD ba).Rows.length cJ) := by
    obtain ⟨hc, _⟩ := bcell dw15
    refine ⟨?_, ?_, ?_, ?_⟩ <;> (rw [hc _ _ (by simp only [World.size_alloc]; omega)]; simp)
  replace hw0 : w.heap.size ≤ w15.heap.size := by omega
  have tq := cells4_kept BB (by omega) pa0 pa1 pa2 pa3
  clear pa0 pa1 pa2 pa3
  obtain ⟨pa0, pa1, pa2, pa3⟩ := tq
  have tq := cells4_kept BB (by omega) R0 R1 R2 R3
  clear R0 R1 R2 R3
  obtain ⟨R0, R1, R2, R3⟩ := tq
  have tq := cells4_kept BB (by omega) xa0 xa1 xa2 xa3
  clear xa0 xa1 xa2 xa3
  obtain ⟨xa0, xa1, xa2, xa3⟩ := tq
  have tq := cells4_kept BB (by omega) I0 I1 I2 I3
  clear I0 I1 I2 I3
  obtain ⟨I0, I1, I2, I3⟩ := tq
  replace oR := oR.kept BB (by omega)
  replace oI := oI.kept BB (by omega)
  replace ota := ota.kept BB (by omega)
  replace oJ := oJ.kept BB (by omega)
  have Bw15 : Below w.heap.size w w15 := Bw14.trans (BB.mono Bw14.size)
  clear BB
  have lpaw15 : w.heap.size < w15.heap.size := by omega
  have lRw15 : w3.heap.size < w15.heap.size := by omega
  have lxaw15 : w4.heap.size < w15.heap.size := by omega
  have lIw15 : w5.heap.size < w15.heap.size := by omega
  have lJw15 : w14.heap.size < w15.heap.size := by omega
  go_wp2_with fail
  refine (heldBox_any _ _ _ _ _ _ _ (oI.rdII) (by omega) (by omega) (by omega)).mono ?_
  rintro e w16 ⟨rfl, bw16⟩
  have BB : Below w15.heap.size w15 w16 := bw16
  have sw16 : w15.heap.size ≤ w16.heap.size := BB.size
  replace hw0 : w.heap.size ≤ w16.heap.size := by omega
  have tq := cells4_kept BB (by omega) pa0 pa1 pa2 pa3
  clear pa0 pa1 pa2 pa3
  obtain ⟨pa0, pa1, pa2, pa3⟩ := tq
  have tq := cells4_kept BB (by omega) R0 R1 R2 R3
  clear R0 R1 R2 R3
  obtain ⟨R0, R1, R2, R3⟩ := tq
  have tq := cells4_kept BB (by omega) xa0 xa1 xa2 xa3
  clear xa0 xa1 xa2 xa3
  obtain ⟨xa0, xa1, xa2, xa3⟩ := tq
  have tq := cells4_kept BB (by omega) I0 I1 I2 I3
  clear I0 I1 I2 I3
  obtain ⟨I0, I1, I2, I3⟩ := tq
  have tq := cells4_kept BB (by omega) J0 J1 J2 J3
  clear J0 J1 J2 J3
  obtain ⟨J0, J1, J2, J3⟩ := tq
  replace oR := oR.kept BB (by omega)
  replace oI := oI.kept BB (by omega)
  replace ota := ota.kept BB (by omega)
  replace oJ := oJ.kept BB (by omega)
  have Bw16 : Below w.heap.size w w16 := Bw15.trans (BB.mono Bw15.size)
  clear BB
  have lpaw16 : w.heap.size < w16.heap.size := by omega
  have lRw16 : w3.heap.size < w16.heap.size := by omega
  have lxaw16 : w4.heap.size < w16.heap.size := by omega
  have lIw16 : w5.heap.size < w16.heap.size := by omega
  have lJw16 : w14.heap.size < w16.heap.size := by omega
  go_wp2
  go_ret
  exact ⟨rfl, Bw16⟩

/-! ### The row -/
set_option maxRecDepth 100000 in
theorem fnExactReduceBox_lifted (os : Os) (started : os.Started) (H : Type) (enc : TypeId × Value → H) :
    ReturnsInHanded {} Try.checked os 10 .any (Rows.fnExactReduceBoxSpec.pre6 enc Try.prog Try.f10 Rows.fnExactReduceBoxRow.domain false) (Rows.fnExactReduceBoxSpec.post enc Try.prog Try.f10 false true false false) := by
  refine returnsInHanded_of_change (C := Try.checked) Try.own started (by kernel_rfl) Try.func10
    (ChangeSpec.witness6 (enc := enc) (C := Try.checked) false ⟨#[], #[.agg #[.int .i64 0, .int .i64 0, .int .i64 0, .slice none 0 0]], []⟩ 8 (by kernel_rfl) (by kernel_rfl) (by kernel_rfl) (by kernel_rfl)) ?_
  intro W base args ds gs before hval0 hW hcnd _
  have hval : ∀ (j : Nat) t v, Try.f10.params[j]? = some t → args[j]? = some v → Value.okWide Try.prog W .any base t v := hval0
  have hW' := hW
  obtain ⟨p, q, hA0, hV, rfl, hfz, hnd⟩ := hW
  have hA : DataW.TrodAll enc Try.prog W 0 (fun _ => true) true Try.f10.params.toList args.toList ds p := hA0
  rw [Try.params10] at hA hval
  obtain ⟨v0, vs0, d0, ds0, p0, q0, hargs, rfl, rfl, h0, r0⟩ := trodAll_cons hA
  obtain ⟨rfl, rfl, rfl⟩ := trodAll_nil r0
  obtain rfl : args = #[v0] := by cases args; simp_all
  obtain ⟨bx0, vr0, rfl, hx0, wx0⟩ := box_of (hval 0 40 v0 rfl rfl) h0
  clear hA0 hval0
  refine (fnExactReduceBox_walk vr0 bx0 W hx0).mono fun e W' ⟨he, hb⟩ => ?_
  subst he
  exact ⟨_, rfl, law_post Try.laidOut (by kernel_rfl) rfl Try.underlying4 rfl (fun ds hd => by match ds, hd with | [e0], _ => rfl) hW' hb⟩

theorem fnExactReduceBox_holds : Rows.FnExactReduceBoxSaid :=
  OpenClaim.holds_of_wide 10 Try.f10 rfl rfl rfl rfl rfl rfl rfl ⟨rfl, rfl, rfl, rfl, rfl⟩ rfl rfl rfl rfl rfl (by kernel_rfl) Try.func10 (by kernel_rfl)
    (of_decide_eq_true (by kernel_rfl)) (by unfold Func.isWrapper; first | (rw [if_pos (by decide +kernel)]; kernel_rfl) | (rw [if_neg (by decide +kernel)]; exact ⟨rfl, rfl⟩))
    (fun os started H enc _ => fnExactReduceBox_lifted os started H enc)

end Go.Proofs.Ytjedajfpohhojaa
