/- MixtureBox: the program's answer is the reference's, for all arguments; nothing is shared. -/
import Derived.Test.YtbleeakcmmpcgaaFnMixtT
import Derived.Test.YtbleeakcmmpcgaaRowB
import Derived.Test.YtbleeakcmmpcgaaHarD
set_option linter.unusedSimpArgs false
set_option linter.unusedVariables false
namespace Go.Proofs.Ytbleeakcmmpcgaa
open Go.ChangeShapes Go.WideShapes Go.ChangeAt Go.RowKit
open Go.ChangeMaps (open_string shut_string)

set_option maxHeartbeats 3000000 in
theorem fnExactMixtureBox_walk (x : Int) (y : Int) (vs : Value) (xss : List Int) (w : World) (hs : RdI w vs xss) :
    Calls Try.prog 5 #[.int .i64 x, .int .i64 y, vs] w fun e w' => e = .returned (.bool true) ∧ Below w.heap.size w w' := by
  have hw0 : w.heap.size ≤ w.heap.size := Nat.le_refl _
  have hms : xss.length ≤ maxLen := by obtain ⟨_, _, _, _, _, hm, _⟩ := hs; exact hm
  obtain ⟨qs, ks, hvs⟩ : ∃ q k, vs = .slice q xss.length k := by obtain ⟨q, _, _, k, hv, _⟩ := hs; exact ⟨q, k, hv⟩
  subst hvs
  unfold maxLen at hms
  by_cases hls : (1048576 : Int) < xss.length
  · go_enter Try.func5, Try.ntmps5
    go_wp2
    go_ret
    exact ⟨rfl, (by repeat' (first | with_reducible exact Below.refl _ _ | with_reducible assumption | with_reducible apply Below.alloc | with_reducible apply Below.setCell | with_reducible apply Below.drew | exact Nat.le_refl _ | omega | (simp only [World.size_alloc, World.size_setCell]; omega)))⟩
  replace hls : xss.length ≤ 1048576 := by omega
  go_enter Try.func5, Try.ntmps5
  go_wp2_with fail
  refine (toIntS_any _ xss w (hs.kept (Nat.le_refl _) (by repeat' (first | with_reducible exact Below.refl _ _ | with_reducible assumption | with_reducible apply Below.alloc | with_reducible apply Below.setCell | with_reducible apply Below.drew | exact Nat.le_refl _ | omega | (simp only [World.size_alloc, World.size_setCell]; omega)))) hls).mono ?_
  rintro e w1 ⟨aus, cus, rfl, ous, bw1⟩
  have BB : Below w.heap.size w w1 := bw1
  have sw1 : w.heap.size ≤ w1.heap.size := BB.size
  replace hw0 : w.heap.size ≤ w1.heap.size := by omega
  have Bw1 : Below w.heap.size w w1 := BB
  clear BB
  go_wp2_with fail
  refine (specMixtureBox_any x y _ xss w1 (ous.rdI) (by omega)).mono ?_
  rintro e w2 ⟨aR, cR, zR, rfl, oR, bw2⟩
  have BB : Below w1.heap.size w1 w2 := bw2
  have sw2 : w1.heap.size ≤ w2.heap.size := BB.size
  replace hw0 : w.heap.size ≤ w2.heap.size := by omega
  replace ous := ous.kept BB (by omega)
  have Bw2 : Below w.heap.size w w2 := Bw1.trans (BB.mono Bw1.size)
  clear BB
  go_wp2_with fail
  refine (toIntS_any _ xss (w2.alloc (.cells #[.int .i64 (mixtD x y xss).X, .int .i64 (mixtD x y xss).Y, .int .i64 (mixtD x y xss).Whole, .slice aR (mixtD x y xss).Rows.length cR] 33)) ((hs.kept (Nat.le_refl _) Bw2).kept (Nat.le_refl _) (by repeat' (first | with_reducible exact Below.refl _ _ | with_reducible assumption | with_reducible apply Below.alloc | with_reducible apply Below.setCell | with_reducible apply Below.drew | exact Nat.le_refl _ | omega | (simp only [World.size_alloc, World.size_setCell]; omega)))) hls).mono ?_
  rintro e w3 ⟨axs, cxs, rfl, oxs, bw3⟩
  simp only [World.size_alloc] at oxs
  have BB : Below w2.heap.size w2 w3 := Below.trans (by repeat' (first | with_reducible exact Below.refl _ _ | with_reducible assumption | with_reducible apply Below.alloc | with_reducible apply Below.setCell | with_reducible apply Below.drew | exact Nat.le_refl _ | omega | (simp only [World.size_alloc, World.size_setCell]; omega))) (bw3.mono (by first | exact Nat.le_refl _ | omega | (simp only [World.size_alloc, World.size_setCell]; omega)))
  have sw3 : w2.heap.size ≤ w3.heap.size := BB.size
  have tw3 := bw3.size
  simp only [World.size_alloc] at tw3
  obtain ⟨R0, R1, R2, R3⟩ : w3.cell? ⟨w2.heap.size, 0, none⟩ = some (.int .i64 (mixtD x y xss).X) ∧ w3.cell? ⟨w2.heap.size, 1, none⟩ = some (.int .i64 (mixtD x y xss).Y) ∧ w3.cell? ⟨w2.heap.size, 2, none⟩ = some (.int .i64 (mixtD x y xss).Whole) ∧ w3.cell? ⟨w2.heap.size, 3, none⟩ = some (.slice aR (mixtD x y xss).Rows.length cR) := by
    obtain ⟨hc, _⟩ := bcell bw3
    refine ⟨?_, ?_, ?_, ?_⟩ <;> (rw [hc _ _ (by simp only [World.size_alloc]; omega)]; first | (simp; done) | exact (by repeat' (first | with_reducible assumption | (refine cell_top ?_ rfl; first | with_reducible rfl | (simp only [World.size_alloc, World.size_setCell]; done)) | (refine cell_under ?_ ?_; (first | omega | (simp only [World.size_alloc, World.size_setCell]; omega))) | refine cell_drew ?_)))
  replace hw0 : w.heap.size ≤ w3.heap.size := by omega
  replace oR := oR.kept BB (by omega)
  have Bw3 : Below w.heap.size w w3 := Bw2.trans (BB.mono Bw2.size)
  clear BB
  have lRw3 : w2.heap.size < w3.heap.size := by omega
  go_wp2_with fail
  refine (implMixtureBox_any x y _ xss w3 (oxs.rdI) (by omega)).mono ?_
  rintro e w4 ⟨aI, cI, zI, rfl, oI, bw4⟩
  have BB : Below w3.heap.size w3 w4 := bw4
  have sw4 : w3.heap.size ≤ w4.heap.size := BB.size
  replace hw0 : w.heap.size ≤ w4.heap.size := by omega
  have tq := cells4_kept BB (by omega) R0 R1 R2 R3
  clear R0 R1 R2 R3
  obtain ⟨R0, R1, R2, R3⟩ := tq
  replace oR := oR.kept BB (by omega)
  replace oxs := oxs.kept BB (by omega)
  have Bw4 : Below w.heap.size w w4 := Bw3.trans (BB.mono Bw3.size)
  clear BB
  have lRw4 : w2.heap.size < w4.heap.size := by omega
  have hz0 := mixtD_size x y xss
  have e1 : ((sharesB x y xss) != (sharesB x y xss)) = false := by simp
  go_wp2_with fail
  refine (eqBox_any _ _ (mixtD x y xss) (mixtD x y xss) (w4.alloc (.cells #[.int .i64 (mixtD x y xss).X, .int .i64 (mixtD x y xss).Y, .int .i64 (mixtD x y xss).Whole, .slice aI (mixtD x y xss).Rows.length cI] 33)) ((oI.rdII.kept (Nat.le_refl _) (by repeat' (first | with_reducible exact Below.refl _ _ | with_reducible assumption | with_reducible apply Below.alloc | with_reducible apply Below.setCell | with_reducible apply Below.drew | exact Nat.le_refl _ | omega | (simp only [World.size_alloc, World.size_setCell]; omega))))) ((oR.rdII.kept (Nat.le_refl _) (by repeat' (first | with_reducible exact Below.refl _ _ | with_reducible assumption | with_reducible apply Below.alloc | with_reducible apply Below.setCell | with_reducible apply Below.drew | exact Nat.le_refl _ | omega | (simp only [World.size_alloc, World.size_setCell]; omega)))))).mono ?_
  rintro e w5 ⟨rfl, dw5⟩
  have BB : Below w4.heap.size w4 w5 := Below.trans (by repeat' (first | with_reducible exact Below.refl _ _ | with_reducible assumption | with_reducible apply Below.alloc | with_reducible apply Below.setCell | with_reducible apply Below.drew | exact Nat.le_refl _ | omega | (simp only [World.size_alloc, World.size_setCell]; omega))) (dw5.mono (by first | exact Nat.le_refl _ | omega | (simp only [World.size_alloc, World.size_setCell]; omega)))
  have sw5 : w4.heap.size ≤ w5.heap.size := BB.size
  have tw5 := dw5.size
  simp only [World.size_alloc] at tw5
  obtain ⟨I0, I1, I2, I3⟩ : w5.cell? ⟨w4.heap.size, 0, none⟩ = some (.int .i64 (mixtD x y xss).X) ∧ w5.cell? ⟨w4.heap.size, 1, none⟩ = some (.int .i64 (mixtD x y xss).Y) ∧ w5.cell? ⟨w4.heap.size, 2, none⟩ = some (.int .i64 (mixtD x y xss).Whole) ∧ w5.cell? ⟨w4.heap.size, 3, none⟩ = some (.slice aI (mixtD x y xss).Rows.length cI) := by
    obtain ⟨hc, _⟩ := bcell dw5
    refine ⟨?_, ?_, ?_, ?_⟩ <;> (rw [hc _ _ (by simp only [World.size_alloc]; omega)]; first | (simp; done) | exact (by repeat' (first | with_reducible assumption | (refine cell_top ?_ rfl; first | with_reducible rfl | (simp only [World.size_alloc, World.size_setCell]; done)) | (refine cell_under ?_ ?_; (first | omega | (simp only [World.size_alloc, World.size_setCell]; omega))) | refine cell_drew ?_)))
  replace hw0 : w.heap.size ≤ w5.heap.size := by omega
  have tq := cells4_kept BB (by omega) R0 R1 R2 R3
  clear R0 R1 R2 R3
  obtain ⟨R0, R1, R2, R3⟩ := tq
  replace oR := oR.kept BB (by omega)
  replace oxs := oxs.kept BB (by omega)
  replace oI := oI.kept BB (by omega)
  have Bw5 : Below w.heap.size w w5 := Bw4.trans (BB.mono Bw4.size)
  clear BB
  have lRw5 : w2.heap.size < w5.heap.size := by omega
  have lIw5 : w4.heap.size < w5.heap.size := by omega
  go_wp2_with fail
  refine (toIntS_any _ xss w5 (hs.kept (Nat.le_refl _) Bw5) hls).mono ?_
  rintro e w6 ⟨ays, cys, rfl, oys, bw6⟩
  have BB : Below w5.heap.size w5 w6 := bw6
  have sw6 : w5.heap.size ≤ w6.heap.size := BB.size
  replace hw0 : w.heap.size ≤ w6.heap.size := by omega
  have tq := cells4_kept BB (by omega) R0 R1 R2 R3
  clear R0 R1 R2 R3
  obtain ⟨R0, R1, R2, R3⟩ := tq
  have tq := cells4_kept BB (by omega) I0 I1 I2 I3
  clear I0 I1 I2 I3
  obtain ⟨I0, I1, I2, I3⟩ := tq
  replace oR := oR.kept BB (by omega)
  replace oxs := oxs.kept BB (by omega)
  replace oI := oI.kept BB (by omega)
  have Bw6 : Below w.heap.size w w6 := Bw5.trans (BB.mono Bw5.size)
  clear BB
  have lRw6 : w2.heap.size < w6.heap.size := by omega
  have lIw6 : w4.heap.size < w6.heap.size := by omega
  go_wp2_with fail
  refine (eqIntS_any _ _ xss xss w6 (oxs.rdI) (oys.rdI)).mono ?_
  rintro e w7 ⟨rfl, dw7⟩
  have dw7b := dw7.below w6.heap.size
  have BB : Below w6.heap.size w6 w7 := dw7b
  have sw7 : w6.heap.size ≤ w7.heap.size := BB.size
  replace hw0 : w.heap.size ≤ w7.heap.size := by omega
  have tq := cells4_kept BB (by omega) R0 R1 R2 R3
  clear R0 R1 R2 R3
  obtain ⟨R0, R1, R2, R3⟩ := tq
  have tq := cells4_kept BB (by omega) I0 I1 I2 I3
  clear I0 I1 I2 I3
  obtain ⟨I0, I1, I2, I3⟩ := tq
  replace oR := oR.kept BB (by omega)
  replace oxs := oxs.kept BB (by omega)
  replace oI := oI.kept BB (by omega)
  replace oys := oys.kept BB (by omega)
  have Bw7 : Below w.heap.size w w7 := Bw6.trans (BB.mono Bw6.size)
  clear BB
  have lRw7 : w2.heap.size < w7.heap.size := by omega
  have lIw7 : w4.heap.size < w7.heap.size := by omega
  go_wp2_with fail
  refine (markIntS_any _ _ _ _ _ _ _ oxs (by rw [ints_length]; omega) (by omega) (by omega)).mono ?_
  rintro e w8 ⟨rfl, oxs, gw8⟩
  simp only [ints_length] at oxs
  have mw8 : Mid (w2.heap.size + 1) (w3.heap.size) w7 w8 := Mid.of_grown gw8 (fun g hg => by have := oxs.lt g hg; omega)
  clear gw8
  have tq := cells4_mid mw8 (by omega) (by omega) R0 R1 R2 R3
  clear R0 R1 R2 R3
  obtain ⟨R0, R1, R2, R3⟩ := tq
  have tq := cells4_mid mw8 (by omega) (by omega) I0 I1 I2 I3
  clear I0 I1 I2 I3
  obtain ⟨I0, I1, I2, I3⟩ := tq
  replace oR := oR.mid mw8 (by omega)
  replace oI := oI.mid mw8 (by omega)
  have sw8 : w7.heap.size ≤ w8.heap.size := mw8.size
  have Bw8 : Below w.heap.size w w8 := Bw7.trans (mw8.below (by omega) (by omega))
  replace hw0 : w.heap.size ≤ w8.heap.size := by omega
  clear mw8
  have lRw8 : w2.heap.size < w8.heap.size := by omega
  have lIw8 : w4.heap.size < w8.heap.size := by omega
  go_wp2_with fail
  refine (eqBox_any _ _ (mixtD x y xss) (mixtD x y xss) w8 (oI.rdII) (oR.rdII)).mono ?_
  rintro e w9 ⟨rfl, dw9⟩
  have BB : Below w8.heap.size w8 w9 := dw9
  have sw9 : w8.heap.size ≤ w9.heap.size := BB.size
  replace hw0 : w.heap.size ≤ w9.heap.size := by omega
  have tq := cells4_kept BB (by omega) R0 R1 R2 R3
  clear R0 R1 R2 R3
  obtain ⟨R0, R1, R2, R3⟩ := tq
  have tq := cells4_kept BB (by omega) I0 I1 I2 I3
  clear I0 I1 I2 I3
  obtain ⟨I0, I1, I2, I3⟩ := tq
  replace oR := oR.kept BB (by omega)
  replace oI := oI.kept BB (by omega)
  have Bw9 : Below w.heap.size w w9 := Bw8.trans (BB.mono Bw8.size)
  clear BB
  have lRw9 : w2.heap.size < w9.heap.size := by omega
  have lIw9 : w4.heap.size < w9.heap.size := by omega
  go_wp2_with fail
  refine (markBox_any _ _ _ _ _ _ _ _ _ _ _ _ oI (by omega) (by omega) (by omega) (by omega)).mono ?_
  rintro e w10 ⟨rfl, oI, mw10⟩
  have tq := cells4_mid mw10 (by omega) (by omega) R0 R1 R2 R3
  clear R0 R1 R2 R3
  obtain ⟨R0, R1, R2, R3⟩ := tq
  have tq := cells4_mid mw10 (by omega) (by omega) I0 I1 I2 I3
  clear I0 I1 I2 I3
  obtain ⟨I0, I1, I2, I3⟩ := tq
  replace oR := oR.mid mw10 (by omega)
  have sw10 : w9.heap.size ≤ w10.heap.size := mw10.size
  have Bw10 : Below w.heap.size w w10 := Bw9.trans (mw10.below (by omega) (by omega))
  replace hw0 : w.heap.size ≤ w10.heap.size := by omega
  clear mw10
  have lRw10 : w2.heap.size < w10.heap.size := by omega
  have lIw10 : w4.heap.size < w10.heap.size := by omega
  go_wp2_with fail
  refine (heldBox_any _ _ _ _ _ _ _ (oI.rdII) (by omega) (by omega) (by omega)).mono ?_
  rintro e w11 ⟨rfl, bw11⟩
  have BB : Below w10.heap.size w10 w11 := bw11
  have sw11 : w10.heap.size ≤ w11.heap.size := BB.size
  replace hw0 : w.heap.size ≤ w11.heap.size := by omega
  have tq := cells4_kept BB (by omega) R0 R1 R2 R3
  clear R0 R1 R2 R3
  obtain ⟨R0, R1, R2, R3⟩ := tq
  have tq := cells4_kept BB (by omega) I0 I1 I2 I3
  clear I0 I1 I2 I3
  obtain ⟨I0, I1, I2, I3⟩ := tq
  replace oR := oR.kept BB (by omega)
  replace oI := oI.kept BB (by omega)
  have Bw11 : Below w.heap.size w w11 := Bw10.trans (BB.mono Bw10.size)
  clear BB
  have lRw11 : w2.heap.size < w11.heap.size := by omega
  have lIw11 : w4.heap.size < w11.heap.size := by omega
  go_wp2_with fail
  refine (toIntS_any _ xss w11 (hs.kept (Nat.le_refl _) Bw11) hls).mono ?_
  rintro e w12 ⟨ats, cts, rfl, ots, bw12⟩
  have BB : Below w11.heap.size w11 w12 := bw12
  have sw12 : w11.heap.size ≤ w12.heap.size := BB.size
  replace hw0 : w.heap.size ≤ w12.heap.size := by omega
  have tq := cells4_kept BB (by omega) R0 R1 R2 R3
  clear R0 R1 R2 R3
  obtain ⟨R0, R1, R2, R3⟩ := tq
  have tq := cells4_kept BB (by omega) I0 I1 I2 I3
  clear I0 I1 I2 I3
  obtain ⟨I0, I1, I2, I3⟩ := tq
  replace oR := oR.kept BB (by omega)
  replace oI := oI.kept BB (by omega)
  have Bw12 : Below w.heap.size w w12 := Bw11.trans (BB.mono Bw11.size)
  clear BB
  have lRw12 : w2.heap.size < w12.heap.size := by omega
  have lIw12 : w4.heap.size < w12.heap.size := by omega
  go_wp2_with fail
  refine (implMixtureBox_any x y _ xss w12 (ots.rdI) (by omega)).mono ?_
  rintro e w13 ⟨aJ, cJ, zJ, rfl, oJ, bw13⟩
  have BB : Below w12.heap.size w12 w13 := bw13
  have sw13 : w12.heap.size ≤ w13.heap.size := BB.size
  replace hw0 : w.heap.size ≤ w13.heap.size := by omega
  have tq := cells4_kept BB (by omega) R0 R1 R2 R3
  clear R0 R1 R2 R3
  obtain ⟨R0, R1, R2, R3⟩ := tq
  have tq := cells4_kept BB (by omega) I0 I1 I2 I3
  clear I0 I1 I2 I3
  obtain ⟨I0, I1, I2, I3⟩ := tq
  replace oR := oR.kept BB (by omega)
  replace oI := oI.kept BB (by omega)
  replace ots := ots.kept BB (by omega)
  have Bw13 : Below w.heap.size w w13 := Bw12.trans (BB.mono Bw12.size)
  clear BB
  have lRw13 : w2.heap.size < w13.heap.size := by omega
  have lIw13 : w4.heap.size < w13.heap.size := by omega
  go_wp2_with fail
  refine (eqBox_any _ _ (mixtD x y xss) (mixtD x y xss) (w13.alloc (.cells #[.int .i64 (mixtD x y xss).X, .int .i64 (mixtD x y xss).Y, .int .i64 (mixtD x y xss).Whole, .slice aJ (mixtD x y xss).Rows.length cJ] 33)) ((oJ.rdII.kept (Nat.le_refl _) (by repeat' (first | with_reducible exact Below.refl _ _ | with_reducible assumption | with_reducible apply Below.alloc | with_reducible apply Below.setCell | with_reducible apply Below.drew | exact Nat.le_refl _ | omega | (simp only [World.size_alloc, World.size_setCell]; omega))))) ((oR.rdII.kept (Nat.le_refl _) (by repeat' (first | with_reducible exact Below.refl _ _ | with_reducible assumption | with_reducible apply Below.alloc | with_reducible apply Below.setCell | with_reducible apply Below.drew | exact Nat.le_refl _ | omega | (simp only [World.size_alloc, World.size_setCell]; omega)))))).mono ?_
  rintro e w14 ⟨rfl, dw14⟩
  have BB : Below w13.heap.size w13 w14 := Below.trans (by repeat' (first | with_reducible exact Below.refl _ _ | with_reducible assumption | with_reducible apply Below.alloc | with_reducible apply Below.setCell | with_reducible apply Below.drew | exact Nat.le_refl _ | omega | (simp only [World.size_alloc, World.size_setCell]; omega))) (dw14.mono (by first | exact Nat.le_refl _ | omega | (simp only [World.size_alloc, World.size_setCell]; omega)))
  have sw14 : w13.heap.size ≤ w14.heap.size := BB.size
  have tw14 := dw14.size
  simp only [World.size_alloc] at tw14
  obtain ⟨J0, J1, J2, J3⟩ : w14.cell? ⟨w13.heap.size, 0, none⟩ = some (.int .i64 (mixtD x y xss).X) ∧ w14.cell? ⟨w13.heap.size, 1, none⟩ = some (.int .i64 (mixtD x y xss).Y) ∧ w14.cell? ⟨w13.heap.size, 2, none⟩ = some (.int .i64 (mixtD x y xss).Whole) ∧ w14.cell? ⟨w13.heap.size, 3, none⟩ = some (.slice aJ (mixtD x y xss).Rows.length cJ) := by
    obtain ⟨hc, _⟩ := bcell dw14
    refine ⟨?_, ?_, ?_, ?_⟩ <;> (rw [hc _ _ (by simp only [World.size_alloc]; omega)]; first | (simp; done) | exact (by repeat' (first | with_reducible assumption | (refine cell_top ?_ rfl; first | with_reducible rfl | (simp only [World.size_alloc, World.size_setCell]; done)) | (refine cell_under ?_ ?_; (first | omega | (simp only [World.size_alloc, World.size_setCell]; omega))) | refine cell_drew ?_)))
  replace hw0 : w.heap.size ≤ w14.heap.size := by omega
  have tq := cells4_kept BB (by omega) R0 R1 R2 R3
  clear R0 R1 R2 R3
  obtain ⟨R0, R1, R2, R3⟩ := tq
  have tq := cells4_kept BB (by omega) I0 I1 I2 I3
  clear I0 I1 I2 I3
  obtain ⟨I0, I1, I2, I3⟩ := tq
  replace oR := oR.kept BB (by omega)
  replace oI := oI.kept BB (by omega)
  replace ots := ots.kept BB (by omega)
  replace oJ := oJ.kept BB (by omega)
  have Bw14 : Below w.heap.size w w14 := Bw13.trans (BB.mono Bw13.size)
  clear BB
  have lRw14 : w2.heap.size < w14.heap.size := by omega
  have lIw14 : w4.heap.size < w14.heap.size := by omega
  have lJw14 : w13.heap.size < w14.heap.size := by omega
  go_wp2_with fail
  refine (heldBox_any _ _ _ _ _ _ _ (oI.rdII) (by omega) (by omega) (by omega)).mono ?_
  rintro e w15 ⟨rfl, bw15⟩
  have BB : Below w14.heap.size w14 w15 := bw15
  have sw15 : w14.heap.size ≤ w15.heap.size := BB.size
  replace hw0 : w.heap.size ≤ w15.heap.size := by omega
  have tq := cells4_kept BB (by omega) R0 R1 R2 R3
  clear R0 R1 R2 R3
  obtain ⟨R0, R1, R2, R3⟩ := tq
  have tq := cells4_kept BB (by omega) I0 I1 I2 I3
  clear I0 I1 I2 I3
  obtain ⟨I0, I1, I2, I3⟩ := tq
  have tq := cells4_kept BB (by omega) J0 J1 J2 J3
  clear J0 J1 J2 J3
  obtain ⟨J0, J1, J2, J3⟩ := tq
  replace oR := oR.kept BB (by omega)
  replace oI := oI.kept BB (by omega)
  replace ots := ots.kept BB (by omega)
  replace oJ := oJ.kept BB (by omega)
  have Bw15 : Below w.heap.size w w15 := Bw14.trans (BB.mono Bw14.size)
  clear BB
  have lRw15 : w2.heap.size < w15.heap.size := by omega
  have lIw15 : w4.heap.size < w15.heap.size := by omega
  have lJw15 : w13.heap.size < w15.heap.size := by omega
  go_wp2
  go_ret
  exact ⟨rfl, Bw15⟩

/-! ### The row -/
set_option maxRecDepth 100000 in
theorem fnExactMixtureBox_lifted (os : Os) (started : os.Started) (H : Type) (enc : TypeId × Value → H) :
    ReturnsInHanded {} Try.checked os 5 .any (Rows.fnExactMixtureBoxSpec.pre6 enc Try.prog Try.f5 Rows.fnExactMixtureBoxRow.domain false) (Rows.fnExactMixtureBoxSpec.post enc Try.prog Try.f5 false true false false) := by
  refine returnsInHanded_of_change (C := Try.checked) Try.own started (by kernel_rfl) Try.func5
    (ChangeSpec.witness6 (enc := enc) (C := Try.checked) false ⟨#[], #[.int .i64 0, .int .i64 0, .slice none 0 0], []⟩ 8 (by kernel_rfl) (by kernel_rfl) (by kernel_rfl) (by kernel_rfl)) ?_
  intro W base args ds gs before hval0 hW hcnd _
  have hval : ∀ (j : Nat) t v, Try.f5.params[j]? = some t → args[j]? = some v → Value.okWide Try.prog W .any base t v := hval0
  have hW' := hW
  obtain ⟨p, q, hA0, hV, rfl, hfz, hnd⟩ := hW
  have hA : DataW.TrodAll enc Try.prog W 0 (fun _ => true) true Try.f5.params.toList args.toList ds p := hA0
  rw [Try.params5] at hA hval
  obtain ⟨v0, vs0, d0, ds0, p0, q0, hargs, rfl, rfl, h0, r0⟩ := trodAll_cons hA
  obtain ⟨v1, vs1, d1, ds1, p1, q1, rfl, rfl, rfl, h1, r1⟩ := trodAll_cons r0
  obtain ⟨v2, vs2, d2, ds2, p2, q2, rfl, rfl, rfl, h2, r2⟩ := trodAll_cons r1
  obtain ⟨rfl, rfl, rfl⟩ := trodAll_nil r2
  obtain rfl : args = #[v0, v1, v2] := by cases args; simp_all
  obtain ⟨x0, rfl, rfl, rfl, wx0⟩ := open_int Try.underlying3 (hval 0 3 v0 rfl rfl) h0
  obtain ⟨x1, rfl, rfl, rfl, wx1⟩ := open_int Try.underlying3 (hval 1 3 v1 rfl rfl) h1
  obtain ⟨xs2, hx2⟩ := rdI_of Try.underlying31 Try.underlying3 Try.cellsInt (hval 2 31 v2 rfl rfl) h2
  clear hA0 hval0
  refine (fnExactMixtureBox_walk x0 x1 _ xs2 W hx2).mono fun e W' ⟨he, hb⟩ => ?_
  subst he
  exact ⟨_, rfl, law_post Try.laidOut (by kernel_rfl) rfl Try.underlying4 rfl (fun ds hd => by match ds, hd with | [e0, e1, e2], _ => rfl) hW' hb⟩

theorem fnExactMixtureBox_holds : Rows.FnExactMixtureBoxSaid :=
  OpenClaim.holds_of_wide 5 Try.f5 rfl rfl rfl rfl rfl rfl rfl ⟨rfl, rfl, rfl, rfl, rfl⟩ rfl rfl rfl rfl rfl (by kernel_rfl) Try.func5 (by kernel_rfl)
    (of_decide_eq_true (by kernel_rfl)) (by unfold Func.isWrapper; first | (rw [if_pos (by decide +kernel)]; kernel_rfl) | (rw [if_neg (by decide +kernel)]; exact ⟨rfl, rfl⟩))
    (fun os started H enc _ => fnExactMixtureBox_lifted os started H enc)

end Go.Proofs.Ytbleeakcmmpcgaa
