/- ProductBox: the program's answer is the reference's, for all arguments; nothing is shared. -/
import Derived.Test.YtgkiddmmlkkfkaaFnProd
import Derived.Test.YtgkiddmmlkkfkaaRowB
import Derived.Test.YtgkiddmmlkkfkaaHarD
set_option linter.unusedSimpArgs false
set_option linter.unusedVariables false
namespace Go.Proofs.Ytgkiddmmlkkfkaa
open Go.ChangeShapes Go.WideShapes Go.ChangeAt Go.RowKit
open Go.ChangeMaps (open_string shut_string)

set_option maxHeartbeats 3000000 in
theorem fnExactProductBox_walk (vp : Value) (xsp : List Int) (vq : Value) (xsq : List Int) (m : Int) (w : World) (hp : RdI w vp xsp) (hq : RdI w vq xsq) :
    Calls Try.prog 12 #[vp, vq, .int .i64 m] w fun e w' => e = .returned (.bool true) ∧ Below w.heap.size w w' := by
  have hw0 : w.heap.size ≤ w.heap.size := Nat.le_refl _
  have hmp : xsp.length ≤ maxLen := by obtain ⟨_, _, _, _, _, hm, _⟩ := hp; exact hm
  obtain ⟨qp, kp, hvp⟩ : ∃ q k, vp = .slice q xsp.length k := by obtain ⟨q, _, _, k, hv, _⟩ := hp; exact ⟨q, k, hv⟩
  subst hvp
  unfold maxLen at hmp
  have hmq : xsq.length ≤ maxLen := by obtain ⟨_, _, _, _, _, hm, _⟩ := hq; exact hm
  obtain ⟨qq, kq, hvq⟩ : ∃ q k, vq = .slice q xsq.length k := by obtain ⟨q, _, _, k, hv, _⟩ := hq; exact ⟨q, k, hv⟩
  subst hvq
  unfold maxLen at hmq
  by_cases hlp : (1048576 : Int) < xsp.length
  · go_enter Try.func12, Try.ntmps12
    go_wp2
    go_ret
    exact ⟨rfl, (by repeat' (first | with_reducible exact Below.refl _ _ | with_reducible assumption | with_reducible apply Below.alloc | with_reducible apply Below.setCell | with_reducible apply Below.drew | exact Nat.le_refl _ | omega | (simp only [World.size_alloc, World.size_setCell]; omega)))⟩
  replace hlp : xsp.length ≤ 1048576 := by omega
  by_cases hlq : (1048576 : Int) < xsq.length
  · go_enter Try.func12, Try.ntmps12
    go_wp2
    go_ret
    exact ⟨rfl, (by repeat' (first | with_reducible exact Below.refl _ _ | with_reducible assumption | with_reducible apply Below.alloc | with_reducible apply Below.setCell | with_reducible apply Below.drew | exact Nat.le_refl _ | omega | (simp only [World.size_alloc, World.size_setCell]; omega)))⟩
  replace hlq : xsq.length ≤ 1048576 := by omega
  go_enter Try.func12, Try.ntmps12
  go_wp2_with fail
  refine (toIntS_any _ xsp w (hp.kept (Nat.le_refl _) (by repeat' (first | with_reducible exact Below.refl _ _ | with_reducible assumption | with_reducible apply Below.alloc | with_reducible apply Below.setCell | with_reducible apply Below.drew | exact Nat.le_refl _ | omega | (simp only [World.size_alloc, World.size_setCell]; omega)))) hlp).mono ?_
  rintro e w1 ⟨aup, cup, rfl, oup, bw1⟩
  have BB : Below w.heap.size w w1 := bw1
  have sw1 : w.heap.size ≤ w1.heap.size := BB.size
  replace hw0 : w.heap.size ≤ w1.heap.size := by omega
  have Bw1 : Below w.heap.size w w1 := BB
  clear BB
  go_wp2_with fail
  refine (toIntS_any _ xsq w1 (hq.kept (Nat.le_refl _) Bw1) hlq).mono ?_
  rintro e w2 ⟨auq, cuq, rfl, ouq, bw2⟩
  have BB : Below w1.heap.size w1 w2 := bw2
  have sw2 : w1.heap.size ≤ w2.heap.size := BB.size
  replace hw0 : w.heap.size ≤ w2.heap.size := by omega
  replace oup := oup.kept BB (by omega)
  have Bw2 : Below w.heap.size w w2 := Bw1.trans (BB.mono Bw1.size)
  clear BB
  go_wp2_with fail
  refine (specProductBox_any _ xsp _ xsq m w2 (oup.rdI) (ouq.rdI)).mono ?_
  rintro e w3 ⟨aR, cR, zR, rfl, oR, bw3⟩
  have BB : Below w2.heap.size w2 w3 := bw3
  have sw3 : w2.heap.size ≤ w3.heap.size := BB.size
  replace hw0 : w.heap.size ≤ w3.heap.size := by omega
  replace oup := oup.kept BB (by omega)
  replace ouq := ouq.kept BB (by omega)
  have Bw3 : Below w.heap.size w w3 := Bw2.trans (BB.mono Bw2.size)
  clear BB
  go_wp2_with fail
  refine (toIntS_any _ xsp (w3.alloc (.cells #[.int .i64 (prodD xsp xsq m).X, .int .i64 (prodD xsp xsq m).Y, .int .i64 (prodD xsp xsq m).Whole, .slice aR (prodD xsp xsq m).Rows.length cR] 51)) ((hp.kept (Nat.le_refl _) Bw3).kept (Nat.le_refl _) (by repeat' (first | with_reducible exact Below.refl _ _ | with_reducible assumption | with_reducible apply Below.alloc | with_reducible apply Below.setCell | with_reducible apply Below.drew | exact Nat.le_refl _ | omega | (simp only [World.size_alloc, World.size_setCell]; omega)))) hlp).mono ?_
  rintro e w4 ⟨axp, cxp, rfl, oxp, bw4⟩
  simp only [World.size_alloc] at oxp
  have BB : Below w3.heap.size w3 w4 := Below.trans (by repeat' (first | with_reducible exact Below.refl _ _ | with_reducible assumption | with_reducible apply Below.alloc | with_reducible apply Below.setCell | with_reducible apply Below.drew | exact Nat.le_refl _ | omega | (simp only [World.size_alloc, World.size_setCell]; omega))) (bw4.mono (by first | exact Nat.le_refl _ | omega | (simp only [World.size_alloc, World.size_setCell]; omega)))
  have sw4 : w3.heap.size ≤ w4.heap.size := BB.size
  have tw4 := bw4.size
  simp only [World.size_alloc] at tw4
  obtain ⟨R0, R1, R2, R3⟩ : w4.cell? ⟨w3.heap.size, 0, none⟩ = some (.int .i64 (prodD xsp xsq m).X) ∧ w4.cell? ⟨w3.heap.size, 1, none⟩ = some (.int .i64 (prodD xsp xsq m).Y) ∧ w4.cell? ⟨w3.heap.size, 2, none⟩ = some (.int .i64 (prodD xsp xsq m).Whole) ∧ w4.cell? ⟨w3.heap.size, 3, none⟩ = some (.slice aR (prodD xsp xsq m).Rows.length cR) := by
    obtain ⟨hc, _⟩ := bcell bw4
    refine ⟨?_, ?_, ?_, ?_⟩ <;> (rw [hc _ _ (by simp only [World.size_alloc]; omega)]; simp)
  replace hw0 : w.heap.size ≤ w4.heap.size := by omega
  replace oR := oR.kept BB (by omega)
  have Bw4 : Below w.heap.size w w4 := Bw3.trans (BB.mono Bw3.size)
  clear BB
  have lRw4 : w3.heap.size < w4.heap.size := by omega
  go_wp2_with fail
  refine (toIntS_any _ xsq w4 (hq.kept (Nat.le_refl _) Bw4) hlq).mono ?_
  rintro e w5 ⟨axq, cxq, rfl, oxq, bw5⟩
  have BB : Below w4.heap.size w4 w5 := bw5
  have sw5 : w4.heap.size ≤ w5.heap.size := BB.size
  replace hw0 : w.heap.size ≤ w5.heap.size := by omega
  have tq := cells4_kept BB (by omega) R0 R1 R2 R3
  clear R0 R1 R2 R3
  obtain ⟨R0, R1, R2, R3⟩ := tq
  replace oR := oR.kept BB (by omega)
  replace oxp := oxp.kept BB (by omega)
  have Bw5 : Below w.heap.size w w5 := Bw4.trans (BB.mono Bw4.size)
  clear BB
  have lRw5 : w3.heap.size < w5.heap.size := by omega
  go_wp2_with fail
  refine (implProductBox_any _ xsp _ xsq m w5 (oxp.rdI) (oxq.rdI)).mono ?_
  rintro e w6 ⟨aI, cI, zI, rfl, oI, bw6⟩
  have BB : Below w5.heap.size w5 w6 := bw6
  have sw6 : w5.heap.size ≤ w6.heap.size := BB.size
  replace hw0 : w.heap.size ≤ w6.heap.size := by omega
  have tq := cells4_kept BB (by omega) R0 R1 R2 R3
  clear R0 R1 R2 R3
  obtain ⟨R0, R1, R2, R3⟩ := tq
  replace oR := oR.kept BB (by omega)
  replace oxp := oxp.kept BB (by omega)
  replace oxq := oxq.kept BB (by omega)
  have Bw6 : Below w.heap.size w w6 := Bw5.trans (BB.mono Bw5.size)
  clear BB
  have lRw6 : w3.heap.size < w6.heap.size := by omega
  have hz0 := prodD_size xsp xsq m
  have e1 : ((prodOk xsp xsq m) != (prodOk xsp xsq m)) = false := by simp
  go_wp2_with fail
  refine (eqBox_any _ _ (prodD xsp xsq m) (prodD xsp xsq m) (w6.alloc (.cells #[.int .i64 (prodD xsp xsq m).X, .int .i64 (prodD xsp xsq m).Y, .int .i64 (prodD xsp xsq m).Whole, .slice aI (prodD xsp xsq m).Rows.length cI] 51)) ((oI.rdII.kept (Nat.le_refl _) (by repeat' (first | with_reducible exact Below.refl _ _ | with_reducible assumption | with_reducible apply Below.alloc | with_reducible apply Below.setCell | with_reducible apply Below.drew | exact Nat.le_refl _ | omega | (simp only [World.size_alloc, World.size_setCell]; omega))))) ((oR.rdII.kept (Nat.le_refl _) (by repeat' (first | with_reducible exact Below.refl _ _ | with_reducible assumption | with_reducible apply Below.alloc | with_reducible apply Below.setCell | with_reducible apply Below.drew | exact Nat.le_refl _ | omega | (simp only [World.size_alloc, World.size_setCell]; omega)))))).mono ?_
  rintro e w7 ⟨rfl, dw7⟩
  have BB : Below w6.heap.size w6 w7 := Below.trans (by repeat' (first | with_reducible exact Below.refl _ _ | with_reducible assumption | with_reducible apply Below.alloc | with_reducible apply Below.setCell | with_reducible apply Below.drew | exact Nat.le_refl _ | omega | (simp only [World.size_alloc, World.size_setCell]; omega))) (dw7.mono (by first | exact Nat.le_refl _ | omega | (simp only [World.size_alloc, World.size_setCell]; omega)))
  have sw7 : w6.heap.size ≤ w7.heap.size := BB.size
  have tw7 := dw7.size
  simp only [World.size_alloc] at tw7
  obtain ⟨I0, I1, I2, I3⟩ : w7.cell? ⟨w6.heap.size, 0, none⟩ = some (.int .i64 (prodD xsp xsq m).X) ∧ w7.cell? ⟨w6.heap.size, 1, none⟩ = some (.int .i64 (prodD xsp xsq m).Y) ∧ w7.cell? ⟨w6.heap.size, 2, none⟩ = some (.int .i64 (prodD xsp xsq m).Whole) ∧ w7.cell? ⟨w6.heap.size, 3, none⟩ = some (.slice aI (prodD xsp xsq m).Rows.length cI) := by
    obtain ⟨hc, _⟩ := bcell dw7
    refine ⟨?_, ?_, ?_, ?_⟩ <;> (rw [hc _ _ (by simp only [World.size_alloc]; omega)]; simp)
  replace hw0 : w.heap.size ≤ w7.heap.size := by omega
  have tq := cells4_kept BB (by omega) R0 R1 R2 R3
  clear R0 R1 R2 R3
  obtain ⟨R0, R1, R2, R3⟩ := tq
  replace oR := oR.kept BB (by omega)
  replace oxp := oxp.kept BB (by omega)
  replace oxq := oxq.kept BB (by omega)
  replace oI := oI.kept BB (by omega)
  have Bw7 : Below w.heap.size w w7 := Bw6.trans (BB.mono Bw6.size)
  clear BB
  have lRw7 : w3.heap.size < w7.heap.size := by omega
  have lIw7 : w6.heap.size < w7.heap.size := by omega
  go_wp2_with fail
  refine (toIntS_any _ xsp w7 (hp.kept (Nat.le_refl _) Bw7) hlp).mono ?_
  rintro e w8 ⟨ayp, cyp, rfl, oyp, bw8⟩
  have BB : Below w7.heap.size w7 w8 := bw8
  have sw8 : w7.heap.size ≤ w8.heap.size := BB.size
  replace hw0 : w.heap.size ≤ w8.heap.size := by omega
  have tq := cells4_kept BB (by omega) R0 R1 R2 R3
  clear R0 R1 R2 R3
  obtain ⟨R0, R1, R2, R3⟩ := tq
  have tq := cells4_kept BB (by omega) I0 I1 I2 I3
  clear I0 I1 I2 I3
  obtain ⟨I0, I1, I2, I3⟩ := tq
  replace oR := oR.kept BB (by omega)
  replace oxp := oxp.kept BB (by omega)
  replace oxq := oxq.kept BB (by omega)
  replace oI := oI.kept BB (by omega)
  have Bw8 : Below w.heap.size w w8 := Bw7.trans (BB.mono Bw7.size)
  clear BB
  have lRw8 : w3.heap.size < w8.heap.size := by omega
  have lIw8 : w6.heap.size < w8.heap.size := by omega
  go_wp2_with fail
  refine (eqIntS_any _ _ xsp xsp w8 (oxp.rdI) (oyp.rdI)).mono ?_
  rintro e w9 ⟨rfl, dw9⟩
  have dw9b := dw9.below w8.heap.size
  have BB : Below w8.heap.size w8 w9 := dw9b
  have sw9 : w8.heap.size ≤ w9.heap.size := BB.size
  replace hw0 : w.heap.size ≤ w9.heap.size := by omega
  have tq := cells4_kept BB (by omega) R0 R1 R2 R3
  clear R0 R1 R2 R3
  obtain ⟨R0, R1, R2, R3⟩ := tq
  have tq := cells4_kept BB (by omega) I0 I1 I2 I3
  clear I0 I1 I2 I3
  obtain ⟨I0, I1, I2, I3⟩ := tq
  replace oR := oR.kept BB (by omega)
  replace oxp := oxp.kept BB (by omega)
  replace oxq := oxq.kept BB (by omega)
  replace oI := oI.kept BB (by omega)
  replace oyp := oyp.kept BB (by omega)
  have Bw9 : Below w.heap.size w w9 := Bw8.trans (BB.mono Bw8.size)
  clear BB
  have lRw9 : w3.heap.size < w9.heap.size := by omega
  have lIw9 : w6.heap.size < w9.heap.size := by omega
  go_wp2_with fail
  refine (toIntS_any _ xsq w9 (hq.kept (Nat.le_refl _) Bw9) hlq).mono ?_
  rintro e w10 ⟨ayq, cyq, rfl, oyq, bw10⟩
  have BB : Below w9.heap.size w9 w10 := bw10
  have sw10 : w9.heap.size ≤ w10.heap.size := BB.size
  replace hw0 : w.heap.size ≤ w10.heap.size := by omega
  have tq := cells4_kept BB (by omega) R0 R1 R2 R3
  clear R0 R1 R2 R3
  obtain ⟨R0, R1, R2, R3⟩ := tq
  have tq := cells4_kept BB (by omega) I0 I1 I2 I3
  clear I0 I1 I2 I3
  obtain ⟨I0, I1, I2, I3⟩ := tq
  replace oR := oR.kept BB (by omega)
  replace oxp := oxp.kept BB (by omega)
  replace oxq := oxq.kept BB (by omega)
  replace oI := oI.kept BB (by omega)
  have Bw10 : Below w.heap.size w w10 := Bw9.trans (BB.mono Bw9.size)
  clear BB
  have lRw10 : w3.heap.size < w10.heap.size := by omega
  have lIw10 : w6.heap.size < w10.heap.size := by omega
  go_wp2_with fail
  refine (eqIntS_any _ _ xsq xsq w10 (oxq.rdI) (oyq.rdI)).mono ?_
  rintro e w11 ⟨rfl, dw11⟩
  have dw11b := dw11.below w10.heap.size
  have BB : Below w10.heap.size w10 w11 := dw11b
  have sw11 : w10.heap.size ≤ w11.heap.size := BB.size
  replace hw0 : w.heap.size ≤ w11.heap.size := by omega
  have tq := cells4_kept BB (by omega) R0 R1 R2 R3
  clear R0 R1 R2 R3
  obtain ⟨R0, R1, R2, R3⟩ := tq
  have tq := cells4_kept BB (by omega) I0 I1 I2 I3
  clear I0 I1 I2 I3
  obtain ⟨I0, I1, I2, I3⟩ := tq
  replace oR := oR.kept BB (by omega)
  replace oxp := oxp.kept BB (by omega)
  replace oxq := oxq.kept BB (by omega)
  replace oI := oI.kept BB (by omega)
  replace oyq := oyq.kept BB (by omega)
  have Bw11 : Below w.heap.size w w11 := Bw10.trans (BB.mono Bw10.size)
  clear BB
  have lRw11 : w3.heap.size < w11.heap.size := by omega
  have lIw11 : w6.heap.size < w11.heap.size := by omega
  go_wp2_with fail
  refine (markIntS_any _ _ _ _ _ _ _ oxp (by rw [ints_length]; omega) (by omega) (by omega)).mono ?_
  rintro e w12 ⟨rfl, oxp, gw12⟩
  simp only [ints_length] at oxp
  have mw12 : Mid (w3.heap.size + 1) (w4.heap.size) w11 w12 := Mid.of_grown gw12 (fun g hg => by have := oxp.lt g hg; omega)
  clear gw12
  have tq := cells4_mid mw12 (by omega) (by omega) R0 R1 R2 R3
  clear R0 R1 R2 R3
  obtain ⟨R0, R1, R2, R3⟩ := tq
  have tq := cells4_mid mw12 (by omega) (by omega) I0 I1 I2 I3
  clear I0 I1 I2 I3
  obtain ⟨I0, I1, I2, I3⟩ := tq
  replace oR := oR.mid mw12 (by omega)
  replace oxq := oxq.mid mw12 (by omega)
  replace oI := oI.mid mw12 (by omega)
  have sw12 : w11.heap.size ≤ w12.heap.size := mw12.size
  have Bw12 : Below w.heap.size w w12 := Bw11.trans (mw12.below (by omega) (by omega))
  replace hw0 : w.heap.size ≤ w12.heap.size := by omega
  clear mw12
  have lRw12 : w3.heap.size < w12.heap.size := by omega
  have lIw12 : w6.heap.size < w12.heap.size := by omega
  go_wp2_with fail
  refine (markIntS_any _ _ _ _ _ _ _ oxq (by rw [ints_length]; omega) (by omega) (by omega)).mono ?_
  rintro e w13 ⟨rfl, oxq, gw13⟩
  simp only [ints_length] at oxq
  have mw13 : Mid (w4.heap.size) (w5.heap.size) w12 w13 := Mid.of_grown gw13 (fun g hg => by have := oxq.lt g hg; omega)
  clear gw13
  have tq := cells4_mid mw13 (by omega) (by omega) R0 R1 R2 R3
  clear R0 R1 R2 R3
  obtain ⟨R0, R1, R2, R3⟩ := tq
  have tq := cells4_mid mw13 (by omega) (by omega) I0 I1 I2 I3
  clear I0 I1 I2 I3
  obtain ⟨I0, I1, I2, I3⟩ := tq
  replace oR := oR.mid mw13 (by omega)
  replace oI := oI.mid mw13 (by omega)
  have sw13 : w12.heap.size ≤ w13.heap.size := mw13.size
  have Bw13 : Below w.heap.size w w13 := Bw12.trans (mw13.below (by omega) (by omega))
  replace hw0 : w.heap.size ≤ w13.heap.size := by omega
  clear mw13
  have lRw13 : w3.heap.size < w13.heap.size := by omega
  have lIw13 : w6.heap.size < w13.heap.size := by omega
  go_wp2_with fail
  refine (eqBox_any _ _ (prodD xsp xsq m) (prodD xsp xsq m) w13 (oI.rdII) (oR.rdII)).mono ?_
  rintro e w14 ⟨rfl, dw14⟩
  have BB : Below w13.heap.size w13 w14 := dw14
  have sw14 : w13.heap.size ≤ w14.heap.size := BB.size
  replace hw0 : w.heap.size ≤ w14.heap.size := by omega
  have tq := cells4_kept BB (by omega) R0 R1 R2 R3
  clear R0 R1 R2 R3
  obtain ⟨R0, R1, R2, R3⟩ := tq
  have tq := cells4_kept BB (by omega) I0 I1 I2 I3
  clear I0 I1 I2 I3
  obtain ⟨I0, I1, I2, I3⟩ := tq
  replace oR := oR.kept BB (by omega)
  replace oI := oI.kept BB (by omega)
  have Bw14 : Below w.heap.size w w14 := Bw13.trans (BB.mono Bw13.size)
  clear BB
  have lRw14 : w3.heap.size < w14.heap.size := by omega
  have lIw14 : w6.heap.size < w14.heap.size := by omega
  go_wp2_with fail
  refine (markBox_any _ _ _ _ _ _ _ _ _ _ _ _ oI (by omega) (by omega) (by omega) (by omega)).mono ?_
  rintro e w15 ⟨rfl, oI, mw15⟩
  have tq := cells4_mid mw15 (by omega) (by omega) R0 R1 R2 R3
  clear R0 R1 R2 R3
  obtain ⟨R0, R1, R2, R3⟩ := tq
  have tq := cells4_mid mw15 (by omega) (by omega) I0 I1 I2 I3
  clear I0 I1 I2 I3
  obtain ⟨I0, I1, I2, I3⟩ := tq
  replace oR := oR.mid mw15 (by omega)
  have sw15 : w14.heap.size ≤ w15.heap.size := mw15.size
  have Bw15 : Below w.heap.size w w15 := Bw14.trans (mw15.below (by omega) (by omega))
  replace hw0 : w.heap.size ≤ w15.heap.size := by omega
  clear mw15
  have lRw15 : w3.heap.size < w15.heap.size := by omega
  have lIw15 : w6.heap.size < w15.heap.size := by omega
  go_wp2_with fail
  refine (heldBox_any _ _ _ _ _ _ _ (oI.rdII) (by omega) (by omega) (by omega)).mono ?_
  rintro e w16 ⟨rfl, bw16⟩
  have BB : Below w15.heap.size w15 w16 := bw16
  have sw16 : w15.heap.size ≤ w16.heap.size := BB.size
  replace hw0 : w.heap.size ≤ w16.heap.size := by omega
  have tq := cells4_kept BB (by omega) R0 R1 R2 R3
  clear R0 R1 R2 R3
  obtain ⟨R0, R1, R2, R3⟩ := tq
  have tq := cells4_kept BB (by omega) I0 I1 I2 I3
  clear I0 I1 I2 I3
  obtain ⟨I0, I1, I2, I3⟩ := tq
  replace oR := oR.kept BB (by omega)
  replace oI := oI.kept BB (by omega)
  have Bw16 : Below w.heap.size w w16 := Bw15.trans (BB.mono Bw15.size)
  clear BB
  have lRw16 : w3.heap.size < w16.heap.size := by omega
  have lIw16 : w6.heap.size < w16.heap.size := by omega
  go_wp2_with fail
  refine (toIntS_any _ xsp w16 (hp.kept (Nat.le_refl _) Bw16) hlp).mono ?_
  rintro e w17 ⟨atp, ctp, rfl, otp, bw17⟩
  have BB : Below w16.heap.size w16 w17 := bw17
  have sw17 : w16.heap.size ≤ w17.heap.size := BB.size
  replace hw0 : w.heap.size ≤ w17.heap.size := by omega
  have tq := cells4_kept BB (by omega) R0 R1 R2 R3
  clear R0 R1 R2 R3
  obtain ⟨R0, R1, R2, R3⟩ := tq
  have tq := cells4_kept BB (by omega) I0 I1 I2 I3
  clear I0 I1 I2 I3
  obtain ⟨I0, I1, I2, I3⟩ := tq
  replace oR := oR.kept BB (by omega)
  replace oI := oI.kept BB (by omega)
  have Bw17 : Below w.heap.size w w17 := Bw16.trans (BB.mono Bw16.size)
  clear BB
  have lRw17 : w3.heap.size < w17.heap.size := by omega
  have lIw17 : w6.heap.size < w17.heap.size := by omega
  go_wp2_with fail
  refine (toIntS_any _ xsq w17 (hq.kept (Nat.le_refl _) Bw17) hlq).mono ?_
  rintro e w18 ⟨atq, ctq, rfl, otq, bw18⟩
  have BB : Below w17.heap.size w17 w18 := bw18
  have sw18 : w17.heap.size ≤ w18.heap.size := BB.size
  replace hw0 : w.heap.size ≤ w18.heap.size := by omega
  have tq := cells4_kept BB (by omega) R0 R1 R2 R3
  clear R0 R1 R2 R3
  obtain ⟨R0, R1, R2, R3⟩ := tq
  have tq := cells4_kept BB (by omega) I0 I1 I2 I3
  clear I0 I1 I2 I3
  obtain ⟨I0, I1, I2, I3⟩ := tq
  replace oR := oR.kept BB (by omega)
  replace oI := oI.kept BB (by omega)
  replace otp := otp.kept BB (by omega)
  have Bw18 : Below w.heap.size w w18 := Bw17.trans (BB.mono Bw17.size)
  clear BB
  have lRw18 : w3.heap.size < w18.heap.size := by omega
  have lIw18 : w6.heap.size < w18.heap.size := by omega
  go_wp2_with fail
  refine (implProductBox_any _ xsp _ xsq m w18 (otp.rdI) (otq.rdI)).mono ?_
  rintro e w19 ⟨aJ, cJ, zJ, rfl, oJ, bw19⟩
  have BB : Below w18.heap.size w18 w19 := bw19
  have sw19 : w18.heap.size ≤ w19.heap.size := BB.size
  replace hw0 : w.heap.size ≤ w19.heap.size := by omega
  have tq := cells4_kept BB (by omega) R0 R1 R2 R3
  clear R0 R1 R2 R3
  obtain ⟨R0, R1, R2, R3⟩ := tq
  have tq := cells4_kept BB (by omega) I0 I1 I2 I3
  clear I0 I1 I2 I3
  obtain ⟨I0, I1, I2, I3⟩ := tq
  replace oR := oR.kept BB (by omega)
  replace oI := oI.kept BB (by omega)
  replace otp := otp.kept BB (by omega)
  replace otq := otq.kept BB (by omega)
  have Bw19 : Below w.heap.size w w19 := Bw18.trans (BB.mono Bw18.size)
  clear BB
  have lRw19 : w3.heap.size < w19.heap.size := by omega
  have lIw19 : w6.heap.size < w19.heap.size := by omega
  go_wp2_with fail
  refine (eqBox_any _ _ (prodD xsp xsq m) (prodD xsp xsq m) (w19.alloc (.cells #[.int .i64 (prodD xsp xsq m).X, .int .i64 (prodD xsp xsq m).Y, .int .i64 (prodD xsp xsq m).Whole, .slice aJ (prodD xsp xsq m).Rows.length cJ] 51)) ((oJ.rdII.kept (Nat.le_refl _) (by repeat' (first | with_reducible exact Below.refl _ _ | with_reducible assumption | with_reducible apply Below.alloc | with_reducible apply Below.setCell | with_reducible apply Below.drew | exact Nat.le_refl _ | omega | (simp only [World.size_alloc, World.size_setCell]; omega))))) ((oR.rdII.kept (Nat.le_refl _) (by repeat' (first | with_reducible exact Below.refl _ _ | with_reducible assumption | with_reducible apply Below.alloc | with_reducible apply Below.setCell | with_reducible apply Below.drew | exact Nat.le_refl _ | omega | (simp only [World.size_alloc, World.size_setCell]; omega)))))).mono ?_
  rintro e w20 ⟨rfl, dw20⟩
  have BB : Below w19.heap.size w19 w20 := Below.trans (by repeat' (first | with_reducible exact Below.refl _ _ | with_reducible assumption | with_reducible apply Below.alloc | with_reducible apply Below.setCell | with_reducible apply Below.drew | exact Nat.le_refl _ | omega | (simp only [World.size_alloc, World.size_setCell]; omega))) (dw20.mono (by first | exact Nat.le_refl _ | omega | (simp only [World.size_alloc, World.size_setCell]; omega)))
  have sw20 : w19.heap.size ≤ w20.heap.size := BB.size
  have tw20 := dw20.size
  simp only [World.size_alloc] at tw20
  obtain ⟨J0, J1, J2, J3⟩ : w20.cell? ⟨w19.heap.size, 0, none⟩ = some (.int .i64 (prodD xsp xsq m).X) ∧ w20.cell? ⟨w19.heap.size, 1, none⟩ = some (.int .i64 (prodD xsp xsq m).Y) ∧ w20.cell? ⟨w19.heap.size, 2, none⟩ = some (.int .i64 (prodD xsp xsq m).Whole) ∧ w20.cell? ⟨w19.heap.size, 3, none⟩ = some (.slice aJ (prodD xsp xsq m).Rows.length cJ) := by
    obtain ⟨hc, _⟩ := bcell dw20
    refine ⟨?_, ?_, ?_, ?_⟩ <;> (rw [hc _ _ (by simp only [World.size_alloc]; omega)]; simp)
  replace hw0 : w.heap.size ≤ w20.heap.size := by omega
  have tq := cells4_kept BB (by omega) R0 R1 R2 R3
  clear R0 R1 R2 R3
  obtain ⟨R0, R1, R2, R3⟩ := tq
  have tq := cells4_kept BB (by omega) I0 I1 I2 I3
  clear I0 I1 I2 I3
  obtain ⟨I0, I1, I2, I3⟩ := tq
  replace oR := oR.kept BB (by omega)
  replace oI := oI.kept BB (by omega)
  replace otp := otp.kept BB (by omega)
  replace otq := otq.kept BB (by omega)
  replace oJ := oJ.kept BB (by omega)
  have Bw20 : Below w.heap.size w w20 := Bw19.trans (BB.mono Bw19.size)
  clear BB
  have lRw20 : w3.heap.size < w20.heap.size := by omega
  have lIw20 : w6.heap.size < w20.heap.size := by omega
  have lJw20 : w19.heap.size < w20.heap.size := by omega
  go_wp2_with fail
  refine (heldBox_any _ _ _ _ _ _ _ (oI.rdII) (by omega) (by omega) (by omega)).mono ?_
  rintro e w21 ⟨rfl, bw21⟩
  have BB : Below w20.heap.size w20 w21 := bw21
  have sw21 : w20.heap.size ≤ w21.heap.size := BB.size
  replace hw0 : w.heap.size ≤ w21.heap.size := by omega
  have tq := cells4_kept BB (by omega) R0 R1 R2 R3
  clear R0 R1 R2 R3
  obtain ⟨R0, R1, R2, R3⟩ := tq
  have tq := cells4_kept BB (by omega) I0 I1 I2 I3
  clear I0 I1 I2 I3
  obtain ⟨I0, I1, I2, I3⟩ := tq
  have tq := cells4_kept BB (by omega) J0 J1 J2 J3
  clear J0 J1 J2 J3
  obtain ⟨J0, J1, J2, J3⟩ := tq
  replace oR := oR.kept BB (by omega)
  replace oI := oI.kept BB (by omega)
  replace otp := otp.kept BB (by omega)
  replace otq := otq.kept BB (by omega)
  replace oJ := oJ.kept BB (by omega)
  have Bw21 : Below w.heap.size w w21 := Bw20.trans (BB.mono Bw20.size)
  clear BB
  have lRw21 : w3.heap.size < w21.heap.size := by omega
  have lIw21 : w6.heap.size < w21.heap.size := by omega
  have lJw21 : w19.heap.size < w21.heap.size := by omega
  go_wp2
  go_ret
  exact ⟨rfl, Bw21⟩

/-! ### The row -/
set_option maxRecDepth 100000 in
theorem fnExactProductBox_lifted (os : Os) (started : os.Started) (H : Type) (enc : TypeId × Value → H) :
    ReturnsInHanded {} Try.checked os 12 .any (Rows.fnExactProductBoxSpec.pre6 enc Try.prog Try.f12 Rows.fnExactProductBoxRow.domain false) (Rows.fnExactProductBoxSpec.post enc Try.prog Try.f12 false true false false) := by
  refine returnsInHanded_of_change (C := Try.checked) Try.own started (by kernel_rfl) Try.func12
    (ChangeSpec.witness6 (enc := enc) (C := Try.checked) false ⟨#[], #[.slice none 0 0, .slice none 0 0, .int .i64 0], []⟩ 8 (by kernel_rfl) (by kernel_rfl) (by kernel_rfl) (by kernel_rfl)) ?_
  intro W base args ds gs before hval0 hW hcnd _
  have hval : ∀ (j : Nat) t v, Try.f12.params[j]? = some t → args[j]? = some v → Value.okWide Try.prog W .any base t v := hval0
  have hW' := hW
  obtain ⟨p, q, hA0, hV, rfl, hfz, hnd⟩ := hW
  have hA : DataW.TrodAll enc Try.prog W 0 (fun _ => true) true Try.f12.params.toList args.toList ds p := hA0
  rw [Try.params12] at hA hval
  obtain ⟨v0, vs0, d0, ds0, p0, q0, hargs, rfl, rfl, h0, r0⟩ := trodAll_cons hA
  obtain ⟨v1, vs1, d1, ds1, p1, q1, rfl, rfl, rfl, h1, r1⟩ := trodAll_cons r0
  obtain ⟨v2, vs2, d2, ds2, p2, q2, rfl, rfl, rfl, h2, r2⟩ := trodAll_cons r1
  obtain ⟨rfl, rfl, rfl⟩ := trodAll_nil r2
  obtain rfl : args = #[v0, v1, v2] := by cases args; simp_all
  obtain ⟨xs0, hx0⟩ := rdI_of Try.underlying27 Try.underlying3 Try.cellsInt (hval 0 27 v0 rfl rfl) h0
  obtain ⟨xs1, hx1⟩ := rdI_of Try.underlying27 Try.underlying3 Try.cellsInt (hval 1 27 v1 rfl rfl) h1
  obtain ⟨x2, rfl, rfl, rfl, wx2⟩ := open_int Try.underlying3 (hval 2 3 v2 rfl rfl) h2
  clear hA0 hval0
  refine (fnExactProductBox_walk _ xs0 _ xs1 x2 W hx0 hx1).mono fun e W' ⟨he, hb⟩ => ?_
  subst he
  exact ⟨_, rfl, law_post Try.laidOut (by kernel_rfl) rfl Try.underlying4 rfl (fun ds hd => by match ds, hd with | [e0, e1, e2], _ => rfl) hW' hb⟩

theorem fnExactProductBox_holds : Rows.FnExactProductBoxSaid :=
  OpenClaim.holds_of_wide 12 Try.f12 rfl rfl rfl rfl rfl rfl rfl ⟨rfl, rfl, rfl, rfl, rfl⟩ rfl rfl rfl rfl rfl (by kernel_rfl) Try.func12 (by kernel_rfl)
    (of_decide_eq_true (by kernel_rfl)) (by unfold Func.isWrapper; first | (rw [if_pos (by decide +kernel)]; kernel_rfl) | (rw [if_neg (by decide +kernel)]; exact ⟨rfl, rfl⟩))
    (fun os started H enc _ => fnExactProductBox_lifted os started H enc)

end Go.Proofs.Ytgkiddmmlkkfkaa
