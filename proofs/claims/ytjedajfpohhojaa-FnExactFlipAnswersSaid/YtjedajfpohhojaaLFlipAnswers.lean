/- FlipAnswers: the program's answer is the reference's, for all arguments; nothing is shared. -/
import Derived.Test.YtjedajfpohhojaaSpFlipA
import Derived.Test.YtjedajfpohhojaaRowB
import Derived.Test.YtjedajfpohhojaaHarD
set_option linter.unusedSimpArgs false
set_option linter.unusedVariables false
namespace Go.Proofs.Ytjedajfpohhojaa
open Go.ChangeShapes Go.WideShapes Go.ChangeAt Go.RowKit
open Go.ChangeMaps (open_string shut_string)

set_option maxHeartbeats 3000000 in
theorem fnExactFlipAnswers_walk (va : Value) (ba : BoxD) (vf : Value) (xsf : List Int) (w : World) (ha : RdII w va ba.Rows) (hf : RdI w vf xsf) :
    Calls Try.prog 9 #[.agg #[.int .i64 ba.X, .int .i64 ba.Y, .int .i64 ba.Whole, va], vf] w fun e w' => e = .returned (.bool true) ∧ Below w.heap.size w w' := by
  have hw0 : w.heap.size ≤ w.heap.size := Nat.le_refl _
  have hmf : xsf.length ≤ maxLen := by obtain ⟨_, _, _, _, _, hm, _⟩ := hf; exact hm
  obtain ⟨qf, kf, hvf⟩ : ∃ q k, vf = .slice q xsf.length k := by obtain ⟨q, _, _, k, hv, _⟩ := hf; exact ⟨q, k, hv⟩
  subst hvf
  unfold maxLen at hmf
  by_cases hlf : (1048576 : Int) < xsf.length
  · go_enter Try.func9, Try.ntmps9
    go_wp2
    go_ret
    exact ⟨rfl, (by repeat' (first | with_reducible exact Below.refl _ _ | with_reducible assumption | with_reducible apply Below.alloc | with_reducible apply Below.setCell | with_reducible apply Below.drew | exact Nat.le_refl _ | omega | (simp only [World.size_alloc, World.size_setCell]; omega)))⟩
  replace hlf : xsf.length ≤ 1048576 := by omega
  go_enter Try.func9, Try.ntmps9
  go_wp2_with fail
  refine (szBox_any va ba.X ba.Y ba.Whole ba.Rows 1048576 (w.alloc (.cells #[.int .i64 ba.X, .int .i64 ba.Y, .int .i64 ba.Whole, va] 40)) (ha.kept (Nat.le_refl _) (by repeat' (first | with_reducible exact Below.refl _ _ | with_reducible assumption | with_reducible apply Below.alloc | with_reducible apply Below.setCell | with_reducible apply Below.drew | exact Nat.le_refl _ | omega | (simp only [World.size_alloc, World.size_setCell]; omega)))) (by omega) (by omega)).mono ?_
  rintro e w1 ⟨⟨la, rfl, hsa⟩, bw1⟩
  have BB : Below w.heap.size w w1 := Below.trans (by repeat' (first | with_reducible exact Below.refl _ _ | with_reducible assumption | with_reducible apply Below.alloc | with_reducible apply Below.setCell | with_reducible apply Below.drew | exact Nat.le_refl _ | omega | (simp only [World.size_alloc, World.size_setCell]; omega))) (bw1.mono (by first | exact Nat.le_refl _ | omega | (simp only [World.size_alloc, World.size_setCell]; omega)))
  have sw1 : w.heap.size ≤ w1.heap.size := BB.size
  have tw1 := bw1.size
  simp only [World.size_alloc] at tw1
  obtain ⟨pa0, pa1, pa2, pa3⟩ : w1.cell? ⟨w.heap.size, 0, none⟩ = some (.int .i64 ba.X) ∧ w1.cell? ⟨w.heap.size, 1, none⟩ = some (.int .i64 ba.Y) ∧ w1.cell? ⟨w.heap.size, 2, none⟩ = some (.int .i64 ba.Whole) ∧ w1.cell? ⟨w.heap.size, 3, none⟩ = some (va) := by
    obtain ⟨hc, _⟩ := bcell bw1
    refine ⟨?_, ?_, ?_, ?_⟩ <;> (rw [hc _ _ (by simp only [World.size_alloc]; omega)]; simp)
  replace hw0 : w.heap.size ≤ w1.heap.size := by omega
  have Bw1 : Below w.heap.size w w1 := BB
  clear BB
  have lpaw1 : w.heap.size < w1.heap.size := by omega
  by_cases hna : la < 0
  · go_wp2
    go_ret
    exact ⟨rfl, Bw1⟩
  obtain ⟨hsa, hqa⟩ : ba.Rows.length + sumLen ba.Rows ≤ 1048576 ∧ la ≤ 1048576 := by unfold SzLeft at hsa; omega
  go_wp2_with fail
  refine (toBox_any va ba.X ba.Y ba.Whole ba.Rows w1 (ha.kept (Nat.le_refl _) Bw1) hsa).mono ?_
  rintro e w2 ⟨aua, cua, zua, rfl, oua, bw2⟩
  have BB : Below w1.heap.size w1 w2 := bw2
  have sw2 : w1.heap.size ≤ w2.heap.size := BB.size
  replace hw0 : w.heap.size ≤ w2.heap.size := by omega
  have tq := cells4_kept BB (by omega) pa0 pa1 pa2 pa3
  clear pa0 pa1 pa2 pa3
  obtain ⟨pa0, pa1, pa2, pa3⟩ := tq
  have Bw2 : Below w.heap.size w w2 := Bw1.trans (BB.mono Bw1.size)
  clear BB
  have lpaw2 : w.heap.size < w2.heap.size := by omega
  go_wp2_with fail
  refine (toIntS_any _ xsf w2 (hf.kept (Nat.le_refl _) Bw2) hlf).mono ?_
  rintro e w3 ⟨auf, cuf, rfl, ouf, bw3⟩
  have BB : Below w2.heap.size w2 w3 := bw3
  have sw3 : w2.heap.size ≤ w3.heap.size := BB.size
  replace hw0 : w.heap.size ≤ w3.heap.size := by omega
  have tq := cells4_kept BB (by omega) pa0 pa1 pa2 pa3
  clear pa0 pa1 pa2 pa3
  obtain ⟨pa0, pa1, pa2, pa3⟩ := tq
  replace oua := oua.kept BB (by omega)
  have Bw3 : Below w.heap.size w w3 := Bw2.trans (BB.mono Bw2.size)
  clear BB
  have lpaw3 : w.heap.size < w3.heap.size := by omega
  go_wp2_with fail
  refine (specFlipAnswers_any _ ba _ xsf w3 (oua.rdII) (ouf.rdI)).mono ?_
  rintro e w4 ⟨aR, cR, zR, rfl, oR, bw4⟩
  have BB : Below w3.heap.size w3 w4 := bw4
  have sw4 : w3.heap.size ≤ w4.heap.size := BB.size
  replace hw0 : w.heap.size ≤ w4.heap.size := by omega
  have tq := cells4_kept BB (by omega) pa0 pa1 pa2 pa3
  clear pa0 pa1 pa2 pa3
  obtain ⟨pa0, pa1, pa2, pa3⟩ := tq
  replace oua := oua.kept BB (by omega)
  replace ouf := ouf.kept BB (by omega)
  have Bw4 : Below w.heap.size w w4 := Bw3.trans (BB.mono Bw3.size)
  clear BB
  have lpaw4 : w.heap.size < w4.heap.size := by omega
  go_wp2_with fail
  refine (toBox_any va ba.X ba.Y ba.Whole ba.Rows (w4.alloc (.cells #[.int .i64 (flipBD ba xsf).X, .int .i64 (flipBD ba xsf).Y, .int .i64 (flipBD ba xsf).Whole, .slice aR (flipBD ba xsf).Rows.length cR] 25)) ((ha.kept (Nat.le_refl _) Bw4).kept (Nat.le_refl _) (by repeat' (first | with_reducible exact Below.refl _ _ | with_reducible assumption | with_reducible apply Below.alloc | with_reducible apply Below.setCell | with_reducible apply Below.drew | exact Nat.le_refl _ | omega | (simp only [World.size_alloc, World.size_setCell]; omega)))) hsa).mono ?_
  rintro e w5 ⟨axa, cxa, zxa, rfl, oxa, bw5⟩
  simp only [World.size_alloc] at oxa
  have BB : Below w4.heap.size w4 w5 := Below.trans (by repeat' (first | with_reducible exact Below.refl _ _ | with_reducible assumption | with_reducible apply Below.alloc | with_reducible apply Below.setCell | with_reducible apply Below.drew | exact Nat.le_refl _ | omega | (simp only [World.size_alloc, World.size_setCell]; omega))) (bw5.mono (by first | exact Nat.le_refl _ | omega | (simp only [World.size_alloc, World.size_setCell]; omega)))
  have sw5 : w4.heap.size ≤ w5.heap.size := BB.size
  have tw5 := bw5.size
  simp only [World.size_alloc] at tw5
  obtain ⟨R0, R1, R2, R3⟩ : w5.cell? ⟨w4.heap.size, 0, none⟩ = some (.int .i64 (flipBD ba xsf).X) ∧ w5.cell? ⟨w4.heap.size, 1, none⟩ = some (.int .i64 (flipBD ba xsf).Y) ∧ w5.cell? ⟨w4.heap.size, 2, none⟩ = some (.int .i64 (flipBD ba xsf).Whole) ∧ w5.cell? ⟨w4.heap.size, 3, none⟩ = some (.slice aR (flipBD ba xsf).Rows.length cR) := by
    obtain ⟨hc, _⟩ := bcell bw5
    refine ⟨?_, ?_, ?_, ?_⟩ <;> (rw [hc _ _ (by simp only [World.size_alloc]; omega)]; simp)
  replace hw0 : w.heap.size ≤ w5.heap.size := by omega
  have tq := cells4_kept BB (by omega) pa0 pa1 pa2 pa3
  clear pa0 pa1 pa2 pa3
  obtain ⟨pa0, pa1, pa2, pa3⟩ := tq
  replace oR := oR.kept BB (by omega)
  have Bw5 : Below w.heap.size w w5 := Bw4.trans (BB.mono Bw4.size)
  clear BB
  have lpaw5 : w.heap.size < w5.heap.size := by omega
  have lRw5 : w4.heap.size < w5.heap.size := by omega
  go_wp2_with fail
  refine (toIntS_any _ xsf (w5.alloc (.cells #[.int .i64 ba.X, .int .i64 ba.Y, .int .i64 ba.Whole, .slice axa ba.Rows.length cxa] 25)) ((hf.kept (Nat.le_refl _) Bw5).kept (Nat.le_refl _) (by repeat' (first | with_reducible exact Below.refl _ _ | with_reducible assumption | with_reducible apply Below.alloc | with_reducible apply Below.setCell | with_reducible apply Below.drew | exact Nat.le_refl _ | omega | (simp only [World.size_alloc, World.size_setCell]; omega)))) hlf).mono ?_
  rintro e w6 ⟨axf, cxf, rfl, oxf, bw6⟩
  simp only [World.size_alloc] at oxf
  have BB : Below w5.heap.size w5 w6 := Below.trans (by repeat' (first | with_reducible exact Below.refl _ _ | with_reducible assumption | with_reducible apply Below.alloc | with_reducible apply Below.setCell | with_reducible apply Below.drew | exact Nat.le_refl _ | omega | (simp only [World.size_alloc, World.size_setCell]; omega))) (bw6.mono (by first | exact Nat.le_refl _ | omega | (simp only [World.size_alloc, World.size_setCell]; omega)))
  have sw6 : w5.heap.size ≤ w6.heap.size := BB.size
  have tw6 := bw6.size
  simp only [World.size_alloc] at tw6
  obtain ⟨xa0, xa1, xa2, xa3⟩ : w6.cell? ⟨w5.heap.size, 0, none⟩ = some (.int .i64 ba.X) ∧ w6.cell? ⟨w5.heap.size, 1, none⟩ = some (.int .i64 ba.Y) ∧ w6.cell? ⟨w5.heap.size, 2, none⟩ = some (.int .i64 ba.Whole) ∧ w6.cell? ⟨w5.heap.size, 3, none⟩ = some (.slice axa ba.Rows.length cxa) := by
    obtain ⟨hc, _⟩ := bcell bw6
    refine ⟨?_, ?_, ?_, ?_⟩ <;> (rw [hc _ _ (by simp only [World.size_alloc]; omega)]; simp)
  replace hw0 : w.heap.size ≤ w6.heap.size := by omega
  have tq := cells4_kept BB (by omega) pa0 pa1 pa2 pa3
  clear pa0 pa1 pa2 pa3
  obtain ⟨pa0, pa1, pa2, pa3⟩ := tq
  have tq := cells4_kept BB (by omega) R0 R1 R2 R3
  clear R0 R1 R2 R3
  obtain ⟨R0, R1, R2, R3⟩ := tq
  replace oR := oR.kept BB (by omega)
  replace oxa := oxa.kept BB (by omega)
  have Bw6 : Below w.heap.size w w6 := Bw5.trans (BB.mono Bw5.size)
  clear BB
  have lpaw6 : w.heap.size < w6.heap.size := by omega
  have lRw6 : w4.heap.size < w6.heap.size := by omega
  have lxaw6 : w5.heap.size < w6.heap.size := by omega
  go_wp2_with fail
  refine (implFlipAnswers_any _ ba _ xsf w6 (oxa.rdII) (oxf.rdI)).mono ?_
  rintro e w7 ⟨aI, cI, zI, rfl, oI, bw7⟩
  have BB : Below w6.heap.size w6 w7 := bw7
  have sw7 : w6.heap.size ≤ w7.heap.size := BB.size
  replace hw0 : w.heap.size ≤ w7.heap.size := by omega
  have tq := cells4_kept BB (by omega) pa0 pa1 pa2 pa3
  clear pa0 pa1 pa2 pa3
  obtain ⟨pa0, pa1, pa2, pa3⟩ := tq
  have tq := cells4_kept BB (by omega) R0 R1 R2 R3
  clear R0 R1 R2 R3
  obtain ⟨R0, R1, R2, R3⟩ := tq
  have tq := cells4_kept BB (by omega) xa0 xa1 xa2 xa3
  clear xa0 xa1 xa2 xa3
  obtain ⟨xa0, xa1, xa2, xa3⟩ := tq
  replace oR := oR.kept BB (by omega)
  replace oxa := oxa.kept BB (by omega)
  replace oxf := oxf.kept BB (by omega)
  have Bw7 : Below w.heap.size w w7 := Bw6.trans (BB.mono Bw6.size)
  clear BB
  have lpaw7 : w.heap.size < w7.heap.size := by omega
  have lRw7 : w4.heap.size < w7.heap.size := by omega
  have lxaw7 : w5.heap.size < w7.heap.size := by omega
  have hz0 := flipBD_size ba xsf
  have e1 : ((flipBOk ba xsf) != (flipBOk ba xsf)) = false := by simp
  go_wp2_with fail
  refine (eqBox_any _ _ (flipBD ba xsf) (flipBD ba xsf) (w7.alloc (.cells #[.int .i64 (flipBD ba xsf).X, .int .i64 (flipBD ba xsf).Y, .int .i64 (flipBD ba xsf).Whole, .slice aI (flipBD ba xsf).Rows.length cI] 25)) ((oI.rdII.kept (Nat.le_refl _) (by repeat' (first | with_reducible exact Below.refl _ _ | with_reducible assumption | with_reducible apply Below.alloc | with_reducible apply Below.setCell | with_reducible apply Below.drew | exact Nat.le_refl _ | omega | (simp only [World.size_alloc, World.size_setCell]; omega))))) ((oR.rdII.kept (Nat.le_refl _) (by repeat' (first | with_reducible exact Below.refl _ _ | with_reducible assumption | with_reducible apply Below.alloc | with_reducible apply Below.setCell | with_reducible apply Below.drew | exact Nat.le_refl _ | omega | (simp only [World.size_alloc, World.size_setCell]; omega)))))).mono ?_
  rintro e w8 ⟨rfl, dw8⟩
  have BB : Below w7.heap.size w7 w8 := Below.trans (by repeat' (first | with_reducible exact Below.refl _ _ | with_reducible assumption | with_reducible apply Below.alloc | with_reducible apply Below.setCell | with_reducible apply Below.drew | exact Nat.le_refl _ | omega | (simp only [World.size_alloc, World.size_setCell]; omega))) (dw8.mono (by first | exact Nat.le_refl _ | omega | (simp only [World.size_alloc, World.size_setCell]; omega)))
  have sw8 : w7.heap.size ≤ w8.heap.size := BB.size
  have tw8 := dw8.size
  simp only [World.size_alloc] at tw8
  obtain ⟨I0, I1, I2, I3⟩ : w8.cell? ⟨w7.heap.size, 0, none⟩ = some (.int .i64 (flipBD ba xsf).X) ∧ w8.cell? ⟨w7.heap.size, 1, none⟩ = some (.int .i64 (flipBD ba xsf).Y) ∧ w8.cell? ⟨w7.heap.size, 2, none⟩ = some (.int .i64 (flipBD ba xsf).Whole) ∧ w8.cell? ⟨w7.heap.size, 3, none⟩ = some (.slice aI (flipBD ba xsf).Rows.length cI) := by
    obtain ⟨hc, _⟩ := bcell dw8
    refine ⟨?_, ?_, ?_, ?_⟩ <;> (rw [hc _ _ (by simp only [World.size_alloc]; omega)]; simp)
  replace hw0 : w.heap.size ≤ w8.heap.size := by omega
  have tq := cells4_kept BB (by omega) pa0 pa1 pa2 pa3
  clear pa0 pa1 pa2 pa3
  obtain ⟨pa0, pa1, pa2, pa3⟩ := tq
  have tq := cells4_kept BB (by omega) R0 R1 R2 R3
  clear R0 R1 R2 R3
  obtain ⟨R0, R1, R2, R3⟩ := tq
  have tq := cells4_kept BB (by omega) xa0 xa1 xa2 xa3
  clear xa0 xa1 xa2 xa3
  obtain ⟨xa0, xa1, xa2, xa3⟩ := tq
  replace oR := oR.kept BB (by omega)
  replace oxa := oxa.kept BB (by omega)
  replace oxf := oxf.kept BB (by omega)
  replace oI := oI.kept BB (by omega)
  have Bw8 : Below w.heap.size w w8 := Bw7.trans (BB.mono Bw7.size)
  clear BB
  have lpaw8 : w.heap.size < w8.heap.size := by omega
  have lRw8 : w4.heap.size < w8.heap.size := by omega
  have lxaw8 : w5.heap.size < w8.heap.size := by omega
  have lIw8 : w7.heap.size < w8.heap.size := by omega
  go_wp2_with fail
  go_region_held3 (fun w' => w'.cell? ⟨w5.heap.size, 0, none⟩ = some (.int .i64 ba.X) ∧ w'.cell? ⟨w5.heap.size, 1, none⟩ = some (.int .i64 ba.Y) ∧ w'.cell? ⟨w5.heap.size, 2, none⟩ = some (.int .i64 ba.Whole) ∧ w'.cell? ⟨w5.heap.size, 3, none⟩ = some (.slice axa ba.Rows.length cxa) ∧ w'.cell? ⟨w.heap.size, 0, none⟩ = some (.int .i64 ba.X) ∧ w'.cell? ⟨w.heap.size, 1, none⟩ = some (.int .i64 ba.Y) ∧ w'.cell? ⟨w.heap.size, 2, none⟩ = some (.int .i64 ba.Whole) ∧ w'.cell? ⟨w.heap.size, 3, none⟩ = some (va))
    (first | go_keep | exact ⟨xa0, xa1, xa2, xa3, pa0, pa1, pa2, pa3⟩)
    (first
      | (go_at_call 30
         (with_reducible refine (toBox_any va ba.X ba.Y ba.Whole ba.Rows w8.drew (ha.kept (Nat.le_refl _) Bw8.drew) hsa).mono ?_)
         rintro e w9 ⟨aya, cya, zya, rfl, oya, bw9⟩
         replace oya := oya.weaken (lo' := w8.heap.size) (Nat.le_refl _) (Nat.le_refl _)
         have BB : Below w8.heap.size w8 w9 := ((Below.refl w8.heap.size w8).drew).trans bw9
         have sw9 : w8.heap.size ≤ w9.heap.size := BB.size
         replace hw0 : w.heap.size ≤ w9.heap.size := by omega
         have tq := cells4_kept BB (by omega) pa0 pa1 pa2 pa3
         clear pa0 pa1 pa2 pa3
         obtain ⟨pa0, pa1, pa2, pa3⟩ := tq
         have tq := cells4_kept BB (by omega) R0 R1 R2 R3
         clear R0 R1 R2 R3
         obtain ⟨R0, R1, R2, R3⟩ := tq
         have tq := cells4_kept BB (by omega) xa0 xa1 xa2 xa3
         clear xa0 xa1 xa2 xa3
         obtain ⟨xa0, xa1, xa2, xa3⟩ := tq
         have tq := cells4_kept BB (by omega) I0 I1 I2 I3
         clear I0 I1 I2 I3
         obtain ⟨I0, I1, I2, I3⟩ := tq
         replace oR := oR.kept BB (by omega)
         replace oxa := oxa.kept BB (by omega)
         replace oxf := oxf.kept BB (by omega)
         replace oI := oI.kept BB (by omega)
         have Bw9 : Below w.heap.size w w9 := Bw8.trans (BB.mono Bw8.size)
         clear BB
         have lpaw9 : w.heap.size < w9.heap.size := by omega
         have lRw9 : w4.heap.size < w9.heap.size := by omega
         have lxaw9 : w5.heap.size < w9.heap.size := by omega
         have lIw9 : w7.heap.size < w9.heap.size := by omega)
      | (go_at_call 18
         (with_reducible refine (eqBox_any _ _ ba ba w9 (oxa.rdII) (oya.rdII)).mono ?_)
         rintro e w10 ⟨rfl, dw10⟩
         have BB : Below w9.heap.size w9 w10 := dw10
         have sw10 : w9.heap.size ≤ w10.heap.size := BB.size
         replace hw0 : w.heap.size ≤ w10.heap.size := by omega
         have tq := cells4_kept BB (by omega) pa0 pa1 pa2 pa3
         clear pa0 pa1 pa2 pa3
         obtain ⟨pa0, pa1, pa2, pa3⟩ := tq
         have tq := cells4_kept BB (by omega) R0 R1 R2 R3
         clear R0 R1 R2 R3
         obtain ⟨R0, R1, R2, R3⟩ := tq
         have tq := cells4_kept BB (by omega) xa0 xa1 xa2 xa3
         clear xa0 xa1 xa2 xa3
         obtain ⟨xa0, xa1, xa2, xa3⟩ := tq
         have tq := cells4_kept BB (by omega) I0 I1 I2 I3
         clear I0 I1 I2 I3
         obtain ⟨I0, I1, I2, I3⟩ := tq
         replace oR := oR.kept BB (by omega)
         replace oxa := oxa.kept BB (by omega)
         replace oxf := oxf.kept BB (by omega)
         replace oI := oI.kept BB (by omega)
         replace oya := oya.kept BB (by omega)
         have Bw10 : Below w.heap.size w w10 := Bw9.trans (BB.mono Bw9.size)
         clear BB
         have lpaw10 : w.heap.size < w10.heap.size := by omega
         have lRw10 : w4.heap.size < w10.heap.size := by omega
         have lxaw10 : w5.heap.size < w10.heap.size := by omega
         have lIw10 : w7.heap.size < w10.heap.size := by omega))
  go_wp2_with fail
  refine (toIntS_any _ xsf w10 (hf.kept (Nat.le_refl _) Bw10) hlf).mono ?_
  rintro e w11 ⟨ayf, cyf, rfl, oyf, bw11⟩
  have BB : Below w10.heap.size w10 w11 := bw11
  have sw11 : w10.heap.size ≤ w11.heap.size := BB.size
  replace hw0 : w.heap.size ≤ w11.heap.size := by omega
  have tq := cells4_kept BB (by omega) pa0 pa1 pa2 pa3
  clear pa0 pa1 pa2 pa3
  obtain ⟨pa0, pa1, pa2, pa3⟩ := tq
  have tq := cells4_kept BB (by omega) R0 R1 R2 R3
  clear R0 R1 R2 R3
  obtain ⟨R0, R1, R2, R3⟩ := tq
  have tq := cells4_kept BB (by omega) xa0 xa1 xa2 xa3
  clear xa0 xa1 xa2 xa3
  obtain ⟨xa0, xa1, xa2, xa3⟩ := tq
  have tq := cells4_kept BB (by omega) I0 I1 I2 I3
  clear I0 I1 I2 I3
  obtain ⟨I0, I1, I2, I3⟩ := tq
  replace oR := oR.kept BB (by omega)
  replace oxa := oxa.kept BB (by omega)
  replace oxf := oxf.kept BB (by omega)
  replace oI := oI.kept BB (by omega)
  have Bw11 : Below w.heap.size w w11 := Bw10.trans (BB.mono Bw10.size)
  clear BB
  have lpaw11 : w.heap.size < w11.heap.size := by omega
  have lRw11 : w4.heap.size < w11.heap.size := by omega
  have lxaw11 : w5.heap.size < w11.heap.size := by omega
  have lIw11 : w7.heap.size < w11.heap.size := by omega
  go_wp2_with fail
  refine (eqIntS_any _ _ xsf xsf w11 (oxf.rdI) (oyf.rdI)).mono ?_
  rintro e w12 ⟨rfl, dw12⟩
  have dw12b := dw12.below w11.heap.size
  have BB : Below w11.heap.size w11 w12 := dw12b
  have sw12 : w11.heap.size ≤ w12.heap.size := BB.size
  replace hw0 : w.heap.size ≤ w12.heap.size := by omega
  have tq := cells4_kept BB (by omega) pa0 pa1 pa2 pa3
  clear pa0 pa1 pa2 pa3
  obtain ⟨pa0, pa1, pa2, pa3⟩ := tq
  have tq := cells4_kept BB (by omega) R0 R1 R2 R3
  clear R0 R1 R2 R3
  obtain ⟨R0, R1, R2, R3⟩ := tq
  have tq := cells4_kept BB (by omega) xa0 xa1 xa2 xa3
  clear xa0 xa1 xa2 xa3
  obtain ⟨xa0, xa1, xa2, xa3⟩ := tq
  have tq := cells4_kept BB (by omega) I0 I1 I2 I3
  clear I0 I1 I2 I3
  obtain ⟨I0, I1, I2, I3⟩ := tq
  replace oR := oR.kept BB (by omega)
  replace oxa := oxa.kept BB (by omega)
  replace oxf := oxf.kept BB (by omega)
  replace oI := oI.kept BB (by omega)
  replace oyf := oyf.kept BB (by omega)
  have Bw12 : Below w.heap.size w w12 := Bw11.trans (BB.mono Bw11.size)
  clear BB
  have lpaw12 : w.heap.size < w12.heap.size := by omega
  have lRw12 : w4.heap.size < w12.heap.size := by omega
  have lxaw12 : w5.heap.size < w12.heap.size := by omega
  have lIw12 : w7.heap.size < w12.heap.size := by omega
  go_wp2_with fail
  refine (markBox_any _ _ _ _ _ _ _ _ _ _ _ _ oxa (by omega) (by omega) (by omega) (by omega)).mono ?_
  rintro e w13 ⟨rfl, oxa, mw13⟩
  have tq := cells4_mid mw13 (by omega) (by omega) pa0 pa1 pa2 pa3
  clear pa0 pa1 pa2 pa3
  obtain ⟨pa0, pa1, pa2, pa3⟩ := tq
  have tq := cells4_mid mw13 (by omega) (by omega) R0 R1 R2 R3
  clear R0 R1 R2 R3
  obtain ⟨R0, R1, R2, R3⟩ := tq
  have tq := cells4_mid mw13 (by omega) (by omega) xa0 xa1 xa2 xa3
  clear xa0 xa1 xa2 xa3
  obtain ⟨xa0, xa1, xa2, xa3⟩ := tq
  have tq := cells4_mid mw13 (by omega) (by omega) I0 I1 I2 I3
  clear I0 I1 I2 I3
  obtain ⟨I0, I1, I2, I3⟩ := tq
  replace oR := oR.mid mw13 (by omega)
  replace oxf := oxf.mid mw13 (by omega)
  replace oI := oI.mid mw13 (by omega)
  have sw13 : w12.heap.size ≤ w13.heap.size := mw13.size
  have Bw13 : Below w.heap.size w w13 := Bw12.trans (mw13.below (by omega) (by omega))
  replace hw0 : w.heap.size ≤ w13.heap.size := by omega
  clear mw13
  have lpaw13 : w.heap.size < w13.heap.size := by omega
  have lRw13 : w4.heap.size < w13.heap.size := by omega
  have lxaw13 : w5.heap.size < w13.heap.size := by omega
  have lIw13 : w7.heap.size < w13.heap.size := by omega
  go_wp2_with fail
  refine (markIntS_any _ _ _ _ _ _ _ oxf (by rw [ints_length]; omega) (by omega) (by omega)).mono ?_
  rintro e w14 ⟨rfl, oxf, gw14⟩
  simp only [ints_length] at oxf
  have mw14 : Mid (w5.heap.size + 1) (w6.heap.size) w13 w14 := Mid.of_grown gw14 (fun g hg => by have := oxf.lt g hg; omega)
  clear gw14
  have tq := cells4_mid mw14 (by omega) (by omega) pa0 pa1 pa2 pa3
  clear pa0 pa1 pa2 pa3
  obtain ⟨pa0, pa1, pa2, pa3⟩ := tq
  have tq := cells4_mid mw14 (by omega) (by omega) R0 R1 R2 R3
  clear R0 R1 R2 R3
  obtain ⟨R0, R1, R2, R3⟩ := tq
  have tq := cells4_mid mw14 (by omega) (by omega) xa0 xa1 xa2 xa3
  clear xa0 xa1 xa2 xa3
  obtain ⟨xa0, xa1, xa2, xa3⟩ := tq
  have tq := cells4_mid mw14 (by omega) (by omega) I0 I1 I2 I3
  clear I0 I1 I2 I3
  obtain ⟨I0, I1, I2, I3⟩ := tq
  replace oR := oR.mid mw14 (by omega)
  replace oI := oI.mid mw14 (by omega)
  have sw14 : w13.heap.size ≤ w14.heap.size := mw14.size
  have Bw14 : Below w.heap.size w w14 := Bw13.trans (mw14.below (by omega) (by omega))
  replace hw0 : w.heap.size ≤ w14.heap.size := by omega
  clear mw14
  have lpaw14 : w.heap.size < w14.heap.size := by omega
  have lRw14 : w4.heap.size < w14.heap.size := by omega
  have lxaw14 : w5.heap.size < w14.heap.size := by omega
  have lIw14 : w7.heap.size < w14.heap.size := by omega
  go_wp2_with fail
  refine (eqBox_any _ _ (flipBD ba xsf) (flipBD ba xsf) w14 (oI.rdII) (oR.rdII)).mono ?_
  rintro e w15 ⟨rfl, dw15⟩
  have BB : Below w14.heap.size w14 w15 := dw15
  have sw15 : w14.heap.size ≤ w15.heap.size := BB.size
  replace hw0 : w.heap.size ≤ w15.heap.size := by omega
  have tq := cells4_kept BB (by omega) pa0 pa1 pa2 pa3
  clear pa0 pa1 pa2 pa3
  obtain ⟨pa0, pa1, pa2, pa3⟩ := tq
  have tq := cells4_kept BB (by omega) R0 R1 R2 R3
  clear R0 R1 R2 R3
  obtain ⟨R0, R1, R2, R3⟩ := tq
  have tq := cells4_kept BB (by omega) xa0 xa1 xa2 xa3
  clear xa0 xa1 xa2 xa3
  obtain ⟨xa0, xa1, xa2, xa3⟩ := tq
  have tq := cells4_kept BB (by omega) I0 I1 I2 I3
  clear I0 I1 I2 I3
  obtain ⟨I0, I1, I2, I3⟩ := tq
  replace oR := oR.kept BB (by omega)
  replace oI := oI.kept BB (by omega)
  have Bw15 : Below w.heap.size w w15 := Bw14.trans (BB.mono Bw14.size)
  clear BB
  have lpaw15 : w.heap.size < w15.heap.size := by omega
  have lRw15 : w4.heap.size < w15.heap.size := by omega
  have lxaw15 : w5.heap.size < w15.heap.size := by omega
  have lIw15 : w7.heap.size < w15.heap.size := by omega
  go_wp2_with fail
  refine (markBox_any _ _ _ _ _ _ _ _ _ _ _ _ oI (by omega) (by omega) (by omega) (by omega)).mono ?_
  rintro e w16 ⟨rfl, oI, mw16⟩
  have tq := cells4_mid mw16 (by omega) (by omega) pa0 pa1 pa2 pa3
  clear pa0 pa1 pa2 pa3
  obtain ⟨pa0, pa1, pa2, pa3⟩ := tq
  have tq := cells4_mid mw16 (by omega) (by omega) R0 R1 R2 R3
  clear R0 R1 R2 R3
  obtain ⟨R0, R1, R2, R3⟩ := tq
  have tq := cells4_mid mw16 (by omega) (by omega) xa0 xa1 xa2 xa3
  clear xa0 xa1 xa2 xa3
  obtain ⟨xa0, xa1, xa2, xa3⟩ := tq
  have tq := cells4_mid mw16 (by omega) (by omega) I0 I1 I2 I3
  clear I0 I1 I2 I3
  obtain ⟨I0, I1, I2, I3⟩ := tq
  replace oR := oR.mid mw16 (by omega)
  have sw16 : w15.heap.size ≤ w16.heap.size := mw16.size
  have Bw16 : Below w.heap.size w w16 := Bw15.trans (mw16.below (by omega) (by omega))
  replace hw0 : w.heap.size ≤ w16.heap.size := by omega
  clear mw16
  have lpaw16 : w.heap.size < w16.heap.size := by omega
  have lRw16 : w4.heap.size < w16.heap.size := by omega
  have lxaw16 : w5.heap.size < w16.heap.size := by omega
  have lIw16 : w7.heap.size < w16.heap.size := by omega
  go_wp2_with fail
  refine (heldBox_any _ _ _ _ _ _ _ (oI.rdII) (by omega) (by omega) (by omega)).mono ?_
  rintro e w17 ⟨rfl, bw17⟩
  have BB : Below w16.heap.size w16 w17 := bw17
  have sw17 : w16.heap.size ≤ w17.heap.size := BB.size
  replace hw0 : w.heap.size ≤ w17.heap.size := by omega
  have tq := cells4_kept BB (by omega) pa0 pa1 pa2 pa3
  clear pa0 pa1 pa2 pa3
  obtain ⟨pa0, pa1, pa2, pa3⟩ := tq
  have tq := cells4_kept BB (by omega) R0 R1 R2 R3
  clear R0 R1 R2 R3
  obtain ⟨R0, R1, R2, R3⟩ := tq
  have tq := cells4_kept BB (by omega) xa0 xa1 xa2 xa3
  clear xa0 xa1 xa2 xa3
  obtain ⟨xa0, xa1, xa2, xa3⟩ := tq
  have tq := cells4_kept BB (by omega) I0 I1 I2 I3
  clear I0 I1 I2 I3
  obtain ⟨I0, I1, I2, I3⟩ := tq
  replace oR := oR.kept BB (by omega)
  replace oI := oI.kept BB (by omega)
  have Bw17 : Below w.heap.size w w17 := Bw16.trans (BB.mono Bw16.size)
  clear BB
  have lpaw17 : w.heap.size < w17.heap.size := by omega
  have lRw17 : w4.heap.size < w17.heap.size := by omega
  have lxaw17 : w5.heap.size < w17.heap.size := by omega
  have lIw17 : w7.heap.size < w17.heap.size := by omega
  go_wp2_with fail
  refine (toBox_any va ba.X ba.Y ba.Whole ba.Rows w17 (ha.kept (Nat.le_refl _) Bw17) hsa).mono ?_
  rintro e w18 ⟨ata, cta, zta, rfl, ota, bw18⟩
  have BB : Below w17.heap.size w17 w18 := bw18
  have sw18 : w17.heap.size ≤ w18.heap.size := BB.size
  replace hw0 : w.heap.size ≤ w18.heap.size := by omega
  have tq := cells4_kept BB (by omega) pa0 pa1 pa2 pa3
  clear pa0 pa1 pa2 pa3
  obtain ⟨pa0, pa1, pa2, pa3⟩ := tq
  have tq := cells4_kept BB (by omega) R0 R1 R2 R3
  clear R0 R1 R2 R3
  obtain ⟨R0, R1, R2, R3⟩ := tq
  have tq := cells4_kept BB (by omega) xa0 xa1 xa2 xa3
  clear xa0 xa1 xa2 xa3
  obtain ⟨xa0, xa1, xa2, xa3⟩ := tq
  have tq := cells4_kept BB (by omega) I0 I1 I2 I3
  clear I0 I1 I2 I3
  obtain ⟨I0, I1, I2, I3⟩ := tq
  replace oR := oR.kept BB (by omega)
  replace oI := oI.kept BB (by omega)
  have Bw18 : Below w.heap.size w w18 := Bw17.trans (BB.mono Bw17.size)
  clear BB
  have lpaw18 : w.heap.size < w18.heap.size := by omega
  have lRw18 : w4.heap.size < w18.heap.size := by omega
  have lxaw18 : w5.heap.size < w18.heap.size := by omega
  have lIw18 : w7.heap.size < w18.heap.size := by omega
  go_wp2_with fail
  refine (toIntS_any _ xsf w18 (hf.kept (Nat.le_refl _) Bw18) hlf).mono ?_
  rintro e w19 ⟨atf, ctf, rfl, otf, bw19⟩
  have BB : Below w18.heap.size w18 w19 := bw19
  have sw19 : w18.heap.size ≤ w19.heap.size := BB.size
  replace hw0 : w.heap.size ≤ w19.heap.size := by omega
  have tq := cells4_kept BB (by omega) pa0 pa1 pa2 pa3
  clear pa0 pa1 pa2 pa3
  obtain ⟨pa0, pa1, pa2, pa3⟩ := tq
  have tq := cells4_kept BB (by omega) R0 R1 R2 R3
  clear R0 R1 R2 R3
  obtain ⟨R0, R1, R2, R3⟩ := tq
  have tq := cells4_kept BB (by omega) xa0 xa1 xa2 xa3
  clear xa0 xa1 xa2 xa3
  obtain ⟨xa0, xa1, xa2, xa3⟩ := tq
  have tq := cells4_kept BB (by omega) I0 I1 I2 I3
  clear I0 I1 I2 I3
  obtain ⟨I0, I1, I2, I3⟩ := tq
  replace oR := oR.kept BB (by omega)
  replace oI := oI.kept BB (by omega)
  replace ota := ota.kept BB (by omega)
  have Bw19 : Below w.heap.size w w19 := Bw18.trans (BB.mono Bw18.size)
  clear BB
  have lpaw19 : w.heap.size < w19.heap.size := by omega
  have lRw19 : w4.heap.size < w19.heap.size := by omega
  have lxaw19 : w5.heap.size < w19.heap.size := by omega
  have lIw19 : w7.heap.size < w19.heap.size := by omega
  go_wp2_with fail
  refine (implFlipAnswers_any _ ba _ xsf w19 (ota.rdII) (otf.rdI)).mono ?_
  rintro e w20 ⟨aJ, cJ, zJ, rfl, oJ, bw20⟩
  have BB : Below w19.heap.size w19 w20 := bw20
  have sw20 : w19.heap.size ≤ w20.heap.size := BB.size
  replace hw0 : w.heap.size ≤ w20.heap.size := by omega
  have tq := cells4_kept BB (by omega) pa0 pa1 pa2 pa3
  clear pa0 pa1 pa2 pa3
  obtain ⟨pa0, pa1, pa2, pa3⟩ := tq
  have tq := cells4_kept BB (by omega) R0 R1 R2 R3
  clear R0 R1 R2 R3
  obtain ⟨R0, R1, R2, R3⟩ := tq
  have tq := cells4_kept BB (by omega) xa0 xa1 xa2 xa3
  clear xa0 xa1 xa2 xa3
  obtain ⟨xa0, xa1, xa2, xa3⟩ := tq
  have tq := cells4_kept BB (by omega) I0 I1 I2 I3
  clear I0 I1 I2 I3
  obtain ⟨I0, I1, I2, I3⟩ := tq
  replace oR := oR.kept BB (by omega)
  replace oI := oI.kept BB (by omega)
  replace ota := ota.kept BB (by omega)
  replace otf := otf.kept BB (by omega)
  have Bw20 : Below w.heap.size w w20 := Bw19.trans (BB.mono Bw19.size)
  clear BB
  have lpaw20 : w.heap.size < w20.heap.size := by omega
  have lRw20 : w4.heap.size < w20.heap.size := by omega
  have lxaw20 : w5.heap.size < w20.heap.size := by omega
  have lIw20 : w7.heap.size < w20.heap.size := by omega
  go_wp2_with fail
  refine (eqBox_any _ _ (flipBD ba xsf) (flipBD ba xsf) (w20.alloc (.cells #[.int .i64 (flipBD ba xsf).X, .int .i64 (flipBD ba xsf).Y, .int .i64 (flipBD ba xsf).Whole, .slice aJ (flipBD ba xsf).Rows.length cJ] 25)) ((oJ.rdII.kept (Nat.le_refl _) (by repeat' (first | with_reducible exact Below.refl _ _ | with_reducible assumption | with_reducible apply Below.alloc | with_reducible apply Below.setCell | with_reducible apply Below.drew | exact Nat.le_refl _ | omega | (simp only [World.size_alloc, World.size_setCell]; omega))))) ((oR.rdII.kept (Nat.le_refl _) (by repeat' (first | with_reducible exact Below.refl _ _ | with_reducible assumption | with_reducible apply Below.alloc | with_reducible apply Below.setCell | with_reducible apply Below.drew | exact Nat.le_refl _ | omega | (simp only [World.size_alloc, World.size_setCell]; omega)))))).mono ?_
  rintro e w21 ⟨rfl, dw21⟩
  have BB : Below w20.heap.size w20 w21 := Below.trans (by repeat' (first | with_reducible exact Below.refl _ _ | with_reducible assumption | with_reducible apply Below.alloc | with_reducible apply Below.setCell | with_reducible apply Below.drew | exact Nat.le_refl _ | omega | (simp only [World.size_alloc, World.size_setCell]; omega))) (dw21.mono (by first | exact Nat.le_refl _ | omega | (simp only [World.size_alloc, World.size_setCell]; omega)))
  have sw21 : w20.heap.size ≤ w21.heap.size := BB.size
  have tw21 := dw21.size
  simp only [World.size_alloc] at tw21
  obtain ⟨J0, J1, J2, J3⟩ : w21.cell? ⟨w20.heap.size, 0, none⟩ = some (.int .i64 (flipBD ba xsf).X) ∧ w21.cell? ⟨w20.heap.size, 1, none⟩ = some (.int .i64 (flipBD ba xsf).Y) ∧ w21.cell? ⟨w20.heap.size, 2, none⟩ = some (.int .i64 (flipBD ba xsf).Whole) ∧ w21.cell? ⟨w20.heap.size, 3, none⟩ = some (.slice aJ (flipBD ba xsf).Rows.length cJ) := by
    obtain ⟨hc, _⟩ := bcell dw21
    refine ⟨?_, ?_, ?_, ?_⟩ <;> (rw [hc _ _ (by simp only [World.size_alloc]; omega)]; simp)
  replace hw0 : w.heap.size ≤ w21.heap.size := by omega
  have tq := cells4_kept BB (by omega) pa0 pa1 pa2 pa3
  clear pa0 pa1 pa2 pa3
  obtain ⟨pa0, pa1, pa2, pa3⟩ := tq
  have tq := cells4_kept BB (by omega) R0 R1 R2 R3
  clear R0 R1 R2 R3
  obtain ⟨R0, R1, R2, R3⟩ := tq
  have tq := cells4_kept BB (by omega) xa0 xa1 xa2 xa3
  clear xa0 xa1 xa2 xa3
  obtain ⟨xa0, xa1, xa2, xa3⟩ := tq
  have tq := cells4_kept BB (by omega) I0 I1 I2 I3
  clear I0 I1 I2 I3
  obtain ⟨I0, I1, I2, I3⟩ := tq
  replace oR := oR.kept BB (by omega)
  replace oI := oI.kept BB (by omega)
  replace ota := ota.kept BB (by omega)
  replace otf := otf.kept BB (by omega)
  replace oJ := oJ.kept BB (by omega)
  have Bw21 : Below w.heap.size w w21 := Bw20.trans (BB.mono Bw20.size)
  clear BB
  have lpaw21 : w.heap.size < w21.heap.size := by omega
  have lRw21 : w4.heap.size < w21.heap.size := by omega
  have lxaw21 : w5.heap.size < w21.heap.size := by omega
  have lIw21 : w7.heap.size < w21.heap.size := by omega
  have lJw21 : w20.heap.size < w21.heap.size := by omega
  go_wp2_with fail
  refine (heldBox_any _ _ _ _ _ _ _ (oI.rdII) (by omega) (by omega) (by omega)).mono ?_
  rintro e w22 ⟨rfl, bw22⟩
  have BB : Below w21.heap.size w21 w22 := bw22
  have sw22 : w21.heap.size ≤ w22.heap.size := BB.size
  replace hw0 : w.heap.size ≤ w22.heap.size := by omega
  have tq := cells4_kept BB (by omega) pa0 pa1 pa2 pa3
  clear pa0 pa1 pa2 pa3
  obtain ⟨pa0, pa1, pa2, pa3⟩ := tq
  have tq := cells4_kept BB (by omega) R0 R1 R2 R3
  clear R0 R1 R2 R3
  obtain ⟨R0, R1, R2, R3⟩ := tq
  have tq := cells4_kept BB (by omega) xa0 xa1 xa2 xa3
  clear xa0 xa1 xa2 xa3
  obtain ⟨xa0, xa1, xa2, xa3⟩ := tq
  have tq := cells4_kept BB (by omega) I0 I1 I2 I3
  clear I0 I1 I2 I3
  obtain ⟨I0, I1, I2, I3⟩ := tq
  have tq := cells4_kept BB (by omega) J0 J1 J2 J3
  clear J0 J1 J2 J3
  obtain ⟨J0, J1, J2, J3⟩ := tq
  replace oR := oR.kept BB (by omega)
  replace oI := oI.kept BB (by omega)
  replace ota := ota.kept BB (by omega)
  replace otf := otf.kept BB (by omega)
  replace oJ := oJ.kept BB (by omega)
  have Bw22 : Below w.heap.size w w22 := Bw21.trans (BB.mono Bw21.size)
  clear BB
  have lpaw22 : w.heap.size < w22.heap.size := by omega
  have lRw22 : w4.heap.size < w22.heap.size := by omega
  have lxaw22 : w5.heap.size < w22.heap.size := by omega
  have lIw22 : w7.heap.size < w22.heap.size := by omega
  have lJw22 : w20.heap.size < w22.heap.size := by omega
  go_wp2
  go_ret
  exact ⟨rfl, Bw22⟩

/-! ### The row -/
set_option maxRecDepth 100000 in
theorem fnExactFlipAnswers_lifted (os : Os) (started : os.Started) (H : Type) (enc : TypeId × Value → H) :
    ReturnsInHanded {} Try.checked os 9 .any (Rows.fnExactFlipAnswersSpec.pre6 enc Try.prog Try.f9 Rows.fnExactFlipAnswersRow.domain false) (Rows.fnExactFlipAnswersSpec.post enc Try.prog Try.f9 false true false false) := by
  refine returnsInHanded_of_change (C := Try.checked) Try.own started (by kernel_rfl) Try.func9
    (ChangeSpec.witness6 (enc := enc) (C := Try.checked) false ⟨#[], #[.agg #[.int .i64 0, .int .i64 0, .int .i64 0, .slice none 0 0], .slice none 0 0], []⟩ 8 (by kernel_rfl) (by kernel_rfl) (by kernel_rfl) (by kernel_rfl)) ?_
  intro W base args ds gs before hval0 hW hcnd _
  have hval : ∀ (j : Nat) t v, Try.f9.params[j]? = some t → args[j]? = some v → Value.okWide Try.prog W .any base t v := hval0
  have hW' := hW
  obtain ⟨p, q, hA0, hV, rfl, hfz, hnd⟩ := hW
  have hA : DataW.TrodAll enc Try.prog W 0 (fun _ => true) true Try.f9.params.toList args.toList ds p := hA0
  rw [Try.params9] at hA hval
  obtain ⟨v0, vs0, d0, ds0, p0, q0, hargs, rfl, rfl, h0, r0⟩ := trodAll_cons hA
  obtain ⟨v1, vs1, d1, ds1, p1, q1, rfl, rfl, rfl, h1, r1⟩ := trodAll_cons r0
  obtain ⟨rfl, rfl, rfl⟩ := trodAll_nil r1
  obtain rfl : args = #[v0, v1] := by cases args; simp_all
  obtain ⟨bx0, vr0, rfl, hx0, wx0⟩ := box_of (hval 0 40 v0 rfl rfl) h0
  obtain ⟨xs1, hx1⟩ := rdI_of Try.underlying22 Try.underlying3 Try.cellsInt (hval 1 22 v1 rfl rfl) h1
  clear hA0 hval0
  refine (fnExactFlipAnswers_walk vr0 bx0 _ xs1 W hx0 hx1).mono fun e W' ⟨he, hb⟩ => ?_
  subst he
  exact ⟨_, rfl, law_post Try.laidOut (by kernel_rfl) rfl Try.underlying4 rfl (fun ds hd => by match ds, hd with | [e0, e1], _ => rfl) hW' hb⟩

theorem fnExactFlipAnswers_holds : Rows.FnExactFlipAnswersSaid :=
  OpenClaim.holds_of_wide 9 Try.f9 rfl rfl rfl rfl rfl rfl rfl ⟨rfl, rfl, rfl, rfl, rfl⟩ rfl rfl rfl rfl rfl (by kernel_rfl) Try.func9 (by kernel_rfl)
    (of_decide_eq_true (by kernel_rfl)) (by unfold Func.isWrapper; first | (rw [if_pos (by decide +kernel)]; kernel_rfl) | (rw [if_neg (by decide +kernel)]; exact ⟨rfl, rfl⟩))
    (fun os started H enc _ => fnExactFlipAnswers_lifted os started H enc)

end Go.Proofs.Ytjedajfpohhojaa
