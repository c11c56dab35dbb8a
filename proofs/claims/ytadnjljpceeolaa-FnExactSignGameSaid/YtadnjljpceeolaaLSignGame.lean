/- SignGame: the program's answer is the reference's, for all arguments; nothing is shared. -/
import Derived.Test.YtadnjljpceeolaaFnSign
import Derived.Test.YtadnjljpceeolaaGameRel
import Derived.Test.YtadnjljpceeolaaRowB
import Derived.Test.YtadnjljpceeolaaHarD
set_option linter.unusedSimpArgs false
set_option linter.unusedVariables false
namespace Go.Proofs.Ytadnjljpceeolaa
open Go.ChangeShapes Go.WideShapes Go.ChangeAt Go.RowKit
open Go.ChangeMaps (open_string shut_string)

set_option maxHeartbeats 3000000 in
theorem fnExactSignGame_walk (x : Int) (y : Int) (vs : Value) (xss : List Int) (vo : Value) (xso : List Int) (w : World) (hs : RdI w vs xss) (ho : RdI w vo xso) :
    Calls Try.prog 4 #[.int .i64 x, .int .i64 y, vs, vo] w fun e w' => e = .returned (.bool true) ∧ Below w.heap.size w w' := by
  have hw0 : w.heap.size ≤ w.heap.size := Nat.le_refl _
  have hms : xss.length ≤ maxLen := by obtain ⟨_, _, _, _, _, hm, _⟩ := hs; exact hm
  obtain ⟨qs, ks, hvs⟩ : ∃ q k, vs = .slice q xss.length k := by obtain ⟨q, _, _, k, hv, _⟩ := hs; exact ⟨q, k, hv⟩
  subst hvs
  unfold maxLen at hms
  have hmo : xso.length ≤ maxLen := by obtain ⟨_, _, _, _, _, hm, _⟩ := ho; exact hm
  obtain ⟨qo, ko, hvo⟩ : ∃ q k, vo = .slice q xso.length k := by obtain ⟨q, _, _, k, hv, _⟩ := ho; exact ⟨q, k, hv⟩
  subst hvo
  unfold maxLen at hmo
  by_cases hls : (1048576 : Int) < xss.length
  · go_enter Try.func4, Try.ntmps4
    go_wp2
    go_ret
    exact ⟨rfl, (by repeat' (first | with_reducible exact Below.refl _ _ | with_reducible assumption | with_reducible apply Below.alloc | with_reducible apply Below.setCell | with_reducible apply Below.drew | exact Nat.le_refl _ | omega | (simp only [World.size_alloc, World.size_setCell]; omega)))⟩
  replace hls : xss.length ≤ 1048576 := by omega
  by_cases hlo : (1048576 : Int) < xso.length
  · go_enter Try.func4, Try.ntmps4
    go_wp2
    go_ret
    exact ⟨rfl, (by repeat' (first | with_reducible exact Below.refl _ _ | with_reducible assumption | with_reducible apply Below.alloc | with_reducible apply Below.setCell | with_reducible apply Below.drew | exact Nat.le_refl _ | omega | (simp only [World.size_alloc, World.size_setCell]; omega)))⟩
  replace hlo : xso.length ≤ 1048576 := by omega
  go_enter Try.func4, Try.ntmps4
  go_wp2_with fail
  refine (toIntS_any _ xss w (hs.kept (Nat.le_refl _) (by repeat' (first | with_reducible exact Below.refl _ _ | with_reducible assumption | with_reducible apply Below.alloc | with_reducible apply Below.setCell | with_reducible apply Below.drew | exact Nat.le_refl _ | omega | (simp only [World.size_alloc, World.size_setCell]; omega)))) hls).mono ?_
  rintro e w1 ⟨aus, cus, rfl, ous, bw1⟩
  have BB : Below w.heap.size w w1 := bw1
  have sw1 : w.heap.size ≤ w1.heap.size := BB.size
  replace hw0 : w.heap.size ≤ w1.heap.size := by omega
  have Bw1 : Below w.heap.size w w1 := BB
  clear BB
  go_wp2_with fail
  refine (toIntS_any _ xso w1 (ho.kept (Nat.le_refl _) Bw1) hlo).mono ?_
  rintro e w2 ⟨auo, cuo, rfl, ouo, bw2⟩
  have BB : Below w1.heap.size w1 w2 := bw2
  have sw2 : w1.heap.size ≤ w2.heap.size := BB.size
  replace hw0 : w.heap.size ≤ w2.heap.size := by omega
  replace ous := ous.kept BB (by omega)
  have Bw2 : Below w.heap.size w w2 := Bw1.trans (BB.mono Bw1.size)
  clear BB
  go_wp2_with fail
  refine (specSignGame_any x y _ xss _ xso w2 (ous.rdI) (ouo.rdI) ous.capn (by omega)).mono ?_
  rintro e w3 ⟨aR, cR, dR, fR, zR, mR, rfl, ⟨mlR, mhR⟩, pR, oR, bw3⟩
  have BB : Below w2.heap.size w2 w3 := bw3
  have sw3 : w2.heap.size ≤ w3.heap.size := BB.size
  replace hw0 : w.heap.size ≤ w3.heap.size := by omega
  replace ous := ous.kept BB (by omega)
  replace ouo := ouo.kept BB (by omega)
  have Bw3 : Below w.heap.size w w3 := Bw2.trans (BB.mono Bw2.size)
  clear BB
  go_wp2_with fail
  refine (toIntS_any _ xss (w3.alloc (.cells #[.int .i64 (signD x y xss xso).X, .int .i64 (signD x y xss xso).Y, .slice aR (signD x y xss xso).Weights.length cR, .slice dR (signD x y xss xso).Wins.length fR] 29)) ((hs.kept (Nat.le_refl _) Bw3).kept (Nat.le_refl _) (by repeat' (first | with_reducible exact Below.refl _ _ | with_reducible assumption | with_reducible apply Below.alloc | with_reducible apply Below.setCell | with_reducible apply Below.drew | exact Nat.le_refl _ | omega | (simp only [World.size_alloc, World.size_setCell]; omega)))) hls).mono ?_
  rintro e w4 ⟨axs, cxs, rfl, oxs, bw4⟩
  simp only [World.size_alloc] at oxs
  have BB : Below w3.heap.size w3 w4 := Below.trans (by repeat' (first | with_reducible exact Below.refl _ _ | with_reducible assumption | with_reducible apply Below.alloc | with_reducible apply Below.setCell | with_reducible apply Below.drew | exact Nat.le_refl _ | omega | (simp only [World.size_alloc, World.size_setCell]; omega))) (bw4.mono (by first | exact Nat.le_refl _ | omega | (simp only [World.size_alloc, World.size_setCell]; omega)))
  have sw4 : w3.heap.size ≤ w4.heap.size := BB.size
  have tw4 := bw4.size
  simp only [World.size_alloc] at tw4
  obtain ⟨R0, R1, R2, R3⟩ : w4.cell? ⟨w3.heap.size, 0, none⟩ = some (.int .i64 (signD x y xss xso).X) ∧ w4.cell? ⟨w3.heap.size, 1, none⟩ = some (.int .i64 (signD x y xss xso).Y) ∧ w4.cell? ⟨w3.heap.size, 2, none⟩ = some (.slice aR (signD x y xss xso).Weights.length cR) ∧ w4.cell? ⟨w3.heap.size, 3, none⟩ = some (.slice dR (signD x y xss xso).Wins.length fR) := by
    obtain ⟨hc, _⟩ := bcell bw4
    refine ⟨?_, ?_, ?_, ?_⟩ <;> (rw [hc _ _ (by simp only [World.size_alloc]; omega)]; first | (simp; done) | exact (by repeat' (first | with_reducible assumption | (refine cell_top ?_ rfl; first | with_reducible rfl | (simp only [World.size_alloc, World.size_setCell]; done)) | (refine cell_under ?_ ?_; (first | omega | (simp only [World.size_alloc, World.size_setCell]; omega))) | refine cell_drew ?_)))
  replace hw0 : w.heap.size ≤ w4.heap.size := by omega
  replace pR := pR.kept BB (by omega)
  replace oR := oR.kept BB (by omega)
  have Bw4 : Below w.heap.size w w4 := Bw3.trans (BB.mono Bw3.size)
  clear BB
  have lRw4 : w3.heap.size < w4.heap.size := by omega
  go_wp2_with fail
  refine (toIntS_any _ xso w4 (ho.kept (Nat.le_refl _) Bw4) hlo).mono ?_
  rintro e w5 ⟨axo, cxo, rfl, oxo, bw5⟩
  have BB : Below w4.heap.size w4 w5 := bw5
  have sw5 : w4.heap.size ≤ w5.heap.size := BB.size
  replace hw0 : w.heap.size ≤ w5.heap.size := by omega
  have tq := cells4_kept BB (by omega) R0 R1 R2 R3
  clear R0 R1 R2 R3
  obtain ⟨R0, R1, R2, R3⟩ := tq
  replace pR := pR.kept BB (by omega)
  replace oR := oR.kept BB (by omega)
  replace oxs := oxs.kept BB (by omega)
  have Bw5 : Below w.heap.size w w5 := Bw4.trans (BB.mono Bw4.size)
  clear BB
  have lRw5 : w3.heap.size < w5.heap.size := by omega
  go_wp2_with fail
  refine (implSignGame_any x y _ xss _ xso w5 (oxs.rdI) (oxo.rdI) oxs.capn (by omega)).mono ?_
  rintro e w6 ⟨aI, cI, dI, fI, zI, mI, rfl, ⟨mlI, mhI⟩, pI, oI, bw6⟩
  have BB : Below w5.heap.size w5 w6 := bw6
  have sw6 : w5.heap.size ≤ w6.heap.size := BB.size
  replace hw0 : w.heap.size ≤ w6.heap.size := by omega
  have tq := cells4_kept BB (by omega) R0 R1 R2 R3
  clear R0 R1 R2 R3
  obtain ⟨R0, R1, R2, R3⟩ := tq
  replace pR := pR.kept BB (by omega)
  replace oR := oR.kept BB (by omega)
  replace oxs := oxs.kept BB (by omega)
  replace oxo := oxo.kept BB (by omega)
  have Bw6 : Below w.heap.size w w6 := Bw5.trans (BB.mono Bw5.size)
  clear BB
  have lRw6 : w3.heap.size < w6.heap.size := by omega
  have hz0 := signD_size x y xss xso
  have e1 : ((signOk x y xss xso) != (signOk x y xss xso)) = false := by simp
  go_wp2_with fail
  refine (eqGame_any _ _ _ _ (signD x y xss xso) (signD x y xss xso) (w6.alloc (.cells #[.int .i64 (signD x y xss xso).X, .int .i64 (signD x y xss xso).Y, .slice aI (signD x y xss xso).Weights.length cI, .slice dI (signD x y xss xso).Wins.length fI] 29)) ((pI.rdI.kept (Nat.le_refl _) (by repeat' (first | with_reducible exact Below.refl _ _ | with_reducible assumption | with_reducible apply Below.alloc | with_reducible apply Below.setCell | with_reducible apply Below.drew | exact Nat.le_refl _ | omega | (simp only [World.size_alloc, World.size_setCell]; omega))))) ((oI.rdII.kept (Nat.le_refl _) (by repeat' (first | with_reducible exact Below.refl _ _ | with_reducible assumption | with_reducible apply Below.alloc | with_reducible apply Below.setCell | with_reducible apply Below.drew | exact Nat.le_refl _ | omega | (simp only [World.size_alloc, World.size_setCell]; omega))))) ((pR.rdI.kept (Nat.le_refl _) (by repeat' (first | with_reducible exact Below.refl _ _ | with_reducible assumption | with_reducible apply Below.alloc | with_reducible apply Below.setCell | with_reducible apply Below.drew | exact Nat.le_refl _ | omega | (simp only [World.size_alloc, World.size_setCell]; omega))))) ((oR.rdII.kept (Nat.le_refl _) (by repeat' (first | with_reducible exact Below.refl _ _ | with_reducible assumption | with_reducible apply Below.alloc | with_reducible apply Below.setCell | with_reducible apply Below.drew | exact Nat.le_refl _ | omega | (simp only [World.size_alloc, World.size_setCell]; omega)))))).mono ?_
  rintro e w7 ⟨rfl, dw7⟩
  have BB : Below w6.heap.size w6 w7 := Below.trans (by repeat' (first | with_reducible exact Below.refl _ _ | with_reducible assumption | with_reducible apply Below.alloc | with_reducible apply Below.setCell | with_reducible apply Below.drew | exact Nat.le_refl _ | omega | (simp only [World.size_alloc, World.size_setCell]; omega))) (dw7.mono (by first | exact Nat.le_refl _ | omega | (simp only [World.size_alloc, World.size_setCell]; omega)))
  have sw7 : w6.heap.size ≤ w7.heap.size := BB.size
  have tw7 := dw7.size
  simp only [World.size_alloc] at tw7
  obtain ⟨I0, I1, I2, I3⟩ : w7.cell? ⟨w6.heap.size, 0, none⟩ = some (.int .i64 (signD x y xss xso).X) ∧ w7.cell? ⟨w6.heap.size, 1, none⟩ = some (.int .i64 (signD x y xss xso).Y) ∧ w7.cell? ⟨w6.heap.size, 2, none⟩ = some (.slice aI (signD x y xss xso).Weights.length cI) ∧ w7.cell? ⟨w6.heap.size, 3, none⟩ = some (.slice dI (signD x y xss xso).Wins.length fI) := by
    obtain ⟨hc, _⟩ := bcell dw7
    refine ⟨?_, ?_, ?_, ?_⟩ <;> (rw [hc _ _ (by simp only [World.size_alloc]; omega)]; first | (simp; done) | exact (by repeat' (first | with_reducible assumption | (refine cell_top ?_ rfl; first | with_reducible rfl | (simp only [World.size_alloc, World.size_setCell]; done)) | (refine cell_under ?_ ?_; (first | omega | (simp only [World.size_alloc, World.size_setCell]; omega))) | refine cell_drew ?_)))
  replace hw0 : w.heap.size ≤ w7.heap.size := by omega
  have tq := cells4_kept BB (by omega) R0 R1 R2 R3
  clear R0 R1 R2 R3
  obtain ⟨R0, R1, R2, R3⟩ := tq
  replace pR := pR.kept BB (by omega)
  replace oR := oR.kept BB (by omega)
  replace oxs := oxs.kept BB (by omega)
  replace oxo := oxo.kept BB (by omega)
  replace pI := pI.kept BB (by omega)
  replace oI := oI.kept BB (by omega)
  have Bw7 : Below w.heap.size w w7 := Bw6.trans (BB.mono Bw6.size)
  clear BB
  have lRw7 : w3.heap.size < w7.heap.size := by omega
  have lIw7 : w6.heap.size < w7.heap.size := by omega
  go_wp2_with fail
  refine (toIntS_any _ xss w7 (hs.kept (Nat.le_refl _) Bw7) hls).mono ?_
  rintro e w8 ⟨ays, cys, rfl, oys, bw8⟩
  have BB : Below w7.heap.size w7 w8 := bw8
  have sw8 : w7.heap.size ≤ w8.heap.size := BB.size
  replace hw0 : w.heap.size ≤ w8.heap.size := by omega
  have tq := cells4_kept BB (by omega) R0 R1 R2 R3
  clear R0 R1 R2 R3
  obtain ⟨R0, R1, R2, R3⟩ := tq
  have tq := cells4_kept BB (by omega) I0 I1 I2 I3
  clear I0 I1 I2 I3
  obtain ⟨I0, I1, I2, I3⟩ := tq
  replace pR := pR.kept BB (by omega)
  replace oR := oR.kept BB (by omega)
  replace oxs := oxs.kept BB (by omega)
  replace oxo := oxo.kept BB (by omega)
  replace pI := pI.kept BB (by omega)
  replace oI := oI.kept BB (by omega)
  have Bw8 : Below w.heap.size w w8 := Bw7.trans (BB.mono Bw7.size)
  clear BB
  have lRw8 : w3.heap.size < w8.heap.size := by omega
  have lIw8 : w6.heap.size < w8.heap.size := by omega
  go_wp2_with fail
  refine (eqIntS_any _ _ xss xss w8 (oxs.rdI) (oys.rdI)).mono ?_
  rintro e w9 ⟨rfl, dw9⟩
  have dw9b := dw9.below w8.heap.size
  have BB : Below w8.heap.size w8 w9 := dw9b
  have sw9 : w8.heap.size ≤ w9.heap.size := BB.size
  replace hw0 : w.heap.size ≤ w9.heap.size := by omega
  have tq := cells4_kept BB (by omega) R0 R1 R2 R3
  clear R0 R1 R2 R3
  obtain ⟨R0, R1, R2, R3⟩ := tq
  have tq := cells4_kept BB (by omega) I0 I1 I2 I3
  clear I0 I1 I2 I3
  obtain ⟨I0, I1, I2, I3⟩ := tq
  replace pR := pR.kept BB (by omega)
  replace oR := oR.kept BB (by omega)
  replace oxs := oxs.kept BB (by omega)
  replace oxo := oxo.kept BB (by omega)
  replace pI := pI.kept BB (by omega)
  replace oI := oI.kept BB (by omega)
  replace oys := oys.kept BB (by omega)
  have Bw9 : Below w.heap.size w w9 := Bw8.trans (BB.mono Bw8.size)
  clear BB
  have lRw9 : w3.heap.size < w9.heap.size := by omega
  have lIw9 : w6.heap.size < w9.heap.size := by omega
  go_wp2_with fail
  refine (toIntS_any _ xso w9 (ho.kept (Nat.le_refl _) Bw9) hlo).mono ?_
  rintro e w10 ⟨ayo, cyo, rfl, oyo, bw10⟩
  have BB : Below w9.heap.size w9 w10 := bw10
  have sw10 : w9.heap.size ≤ w10.heap.size := BB.size
  replace hw0 : w.heap.size ≤ w10.heap.size := by omega
  have tq := cells4_kept BB (by omega) R0 R1 R2 R3
  clear R0 R1 R2 R3
  obtain ⟨R0, R1, R2, R3⟩ := tq
  have tq := cells4_kept BB (by omega) I0 I1 I2 I3
  clear I0 I1 I2 I3
  obtain ⟨I0, I1, I2, I3⟩ := tq
  replace pR := pR.kept BB (by omega)
  replace oR := oR.kept BB (by omega)
  replace oxs := oxs.kept BB (by omega)
  replace oxo := oxo.kept BB (by omega)
  replace pI := pI.kept BB (by omega)
  replace oI := oI.kept BB (by omega)
  have Bw10 : Below w.heap.size w w10 := Bw9.trans (BB.mono Bw9.size)
  clear BB
  have lRw10 : w3.heap.size < w10.heap.size := by omega
  have lIw10 : w6.heap.size < w10.heap.size := by omega
  go_wp2_with fail
  refine (eqIntS_any _ _ xso xso w10 (oxo.rdI) (oyo.rdI)).mono ?_
  rintro e w11 ⟨rfl, dw11⟩
  have dw11b := dw11.below w10.heap.size
  have BB : Below w10.heap.size w10 w11 := dw11b
  have sw11 : w10.heap.size ≤ w11.heap.size := BB.size
  replace hw0 : w.heap.size ≤ w11.heap.size := by omega
  have tq := cells4_kept BB (by omega) R0 R1 R2 R3
  clear R0 R1 R2 R3
  obtain ⟨R0, R1, R2, R3⟩ := tq
  have tq := cells4_kept BB (by omega) I0 I1 I2 I3
  clear I0 I1 I2 I3
  obtain ⟨I0, I1, I2, I3⟩ := tq
  replace pR := pR.kept BB (by omega)
  replace oR := oR.kept BB (by omega)
  replace oxs := oxs.kept BB (by omega)
  replace oxo := oxo.kept BB (by omega)
  replace pI := pI.kept BB (by omega)
  replace oI := oI.kept BB (by omega)
  replace oyo := oyo.kept BB (by omega)
  have Bw11 : Below w.heap.size w w11 := Bw10.trans (BB.mono Bw10.size)
  clear BB
  have lRw11 : w3.heap.size < w11.heap.size := by omega
  have lIw11 : w6.heap.size < w11.heap.size := by omega
  go_wp2_with fail
  refine (markIntS_any _ _ _ _ _ _ _ oxs (by rw [ints_length]; omega) (by omega) (by omega)).mono ?_
  rintro e w12 ⟨rfl, oxs, gw12⟩
  simp only [ints_length] at oxs
  have mw12 : Mid (w3.heap.size + 1) (w4.heap.size) w11 w12 := Mid.of_grown gw12 (fun g hg => by have := oxs.lt g hg; omega)
  clear gw12
  have tq := cells4_mid mw12 (by omega) (by omega) R0 R1 R2 R3
  clear R0 R1 R2 R3
  obtain ⟨R0, R1, R2, R3⟩ := tq
  have tq := cells4_mid mw12 (by omega) (by omega) I0 I1 I2 I3
  clear I0 I1 I2 I3
  obtain ⟨I0, I1, I2, I3⟩ := tq
  replace pR := pR.mid mw12 (by omega)
  replace oR := oR.mid mw12 (by omega)
  replace oxo := oxo.mid mw12 (by omega)
  replace pI := pI.mid mw12 (by omega)
  replace oI := oI.mid mw12 (by omega)
  have sw12 : w11.heap.size ≤ w12.heap.size := mw12.size
  have Bw12 : Below w.heap.size w w12 := Bw11.trans (mw12.below (by omega) (by omega))
  replace hw0 : w.heap.size ≤ w12.heap.size := by omega
  clear mw12
  have lRw12 : w3.heap.size < w12.heap.size := by omega
  have lIw12 : w6.heap.size < w12.heap.size := by omega
  go_wp2_with fail
  refine (markIntS_any _ _ _ _ _ _ _ oxo (by rw [ints_length]; omega) (by omega) (by omega)).mono ?_
  rintro e w13 ⟨rfl, oxo, gw13⟩
  simp only [ints_length] at oxo
  have mw13 : Mid (w4.heap.size) (w5.heap.size) w12 w13 := Mid.of_grown gw13 (fun g hg => by have := oxo.lt g hg; omega)
  clear gw13
  have tq := cells4_mid mw13 (by omega) (by omega) R0 R1 R2 R3
  clear R0 R1 R2 R3
  obtain ⟨R0, R1, R2, R3⟩ := tq
  have tq := cells4_mid mw13 (by omega) (by omega) I0 I1 I2 I3
  clear I0 I1 I2 I3
  obtain ⟨I0, I1, I2, I3⟩ := tq
  replace pR := pR.mid mw13 (by omega)
  replace oR := oR.mid mw13 (by omega)
  replace pI := pI.mid mw13 (by omega)
  replace oI := oI.mid mw13 (by omega)
  have sw13 : w12.heap.size ≤ w13.heap.size := mw13.size
  have Bw13 : Below w.heap.size w w13 := Bw12.trans (mw13.below (by omega) (by omega))
  replace hw0 : w.heap.size ≤ w13.heap.size := by omega
  clear mw13
  have lRw13 : w3.heap.size < w13.heap.size := by omega
  have lIw13 : w6.heap.size < w13.heap.size := by omega
  go_wp2_with fail
  refine (eqGame_any _ _ _ _ (signD x y xss xso) (signD x y xss xso) w13 (pI.rdI) (oI.rdII) (pR.rdI) (oR.rdII)).mono ?_
  rintro e w14 ⟨rfl, dw14⟩
  have BB : Below w13.heap.size w13 w14 := dw14
  have sw14 : w13.heap.size ≤ w14.heap.size := BB.size
  replace hw0 : w.heap.size ≤ w14.heap.size := by omega
  have tq := cells4_kept BB (by omega) R0 R1 R2 R3
  clear R0 R1 R2 R3
  obtain ⟨R0, R1, R2, R3⟩ := tq
  have tq := cells4_kept BB (by omega) I0 I1 I2 I3
  clear I0 I1 I2 I3
  obtain ⟨I0, I1, I2, I3⟩ := tq
  replace pR := pR.kept BB (by omega)
  replace oR := oR.kept BB (by omega)
  replace pI := pI.kept BB (by omega)
  replace oI := oI.kept BB (by omega)
  have Bw14 : Below w.heap.size w w14 := Bw13.trans (BB.mono Bw13.size)
  clear BB
  have lRw14 : w3.heap.size < w14.heap.size := by omega
  have lIw14 : w6.heap.size < w14.heap.size := by omega
  go_wp2_with fail
  refine (markGame_any _ _ _ _ _ _ _ _ _ pI oI (by omega) (by omega) (by omega) (by omega) (by omega) (by omega) (by omega)).mono ?_
  rintro e w15 ⟨rfl, pI, oI, mw15⟩
  have tq := cells4_mid mw15 (by omega) (by omega) R0 R1 R2 R3
  clear R0 R1 R2 R3
  obtain ⟨R0, R1, R2, R3⟩ := tq
  have tq := cells4_mid mw15 (by omega) (by omega) I0 I1 I2 I3
  clear I0 I1 I2 I3
  obtain ⟨I0, I1, I2, I3⟩ := tq
  replace pR := pR.mid mw15 (by omega)
  replace oR := oR.mid mw15 (by omega)
  have sw15 : w14.heap.size ≤ w15.heap.size := mw15.size
  have Bw15 : Below w.heap.size w w15 := Bw14.trans (mw15.below (by omega) (by omega))
  replace hw0 : w.heap.size ≤ w15.heap.size := by omega
  clear mw15
  have lRw15 : w3.heap.size < w15.heap.size := by omega
  have lIw15 : w6.heap.size < w15.heap.size := by omega
  go_wp2_with fail
  refine (heldGame_any _ _ _ _ _ (pI.rdI) (oI.rdII) (by omega) (by omega) (by omega) (by omega)).mono ?_
  rintro e w16 ⟨rfl, bw16⟩
  have BB : Below w15.heap.size w15 w16 := bw16
  have sw16 : w15.heap.size ≤ w16.heap.size := BB.size
  replace hw0 : w.heap.size ≤ w16.heap.size := by omega
  have tq := cells4_kept BB (by omega) R0 R1 R2 R3
  clear R0 R1 R2 R3
  obtain ⟨R0, R1, R2, R3⟩ := tq
  have tq := cells4_kept BB (by omega) I0 I1 I2 I3
  clear I0 I1 I2 I3
  obtain ⟨I0, I1, I2, I3⟩ := tq
  replace pR := pR.kept BB (by omega)
  replace oR := oR.kept BB (by omega)
  replace pI := pI.kept BB (by omega)
  replace oI := oI.kept BB (by omega)
  have Bw16 : Below w.heap.size w w16 := Bw15.trans (BB.mono Bw15.size)
  clear BB
  have lRw16 : w3.heap.size < w16.heap.size := by omega
  have lIw16 : w6.heap.size < w16.heap.size := by omega
  go_wp2_with fail
  refine (toIntS_any _ xss w16 (hs.kept (Nat.le_refl _) Bw16) hls).mono ?_
  rintro e w17 ⟨ats, cts, rfl, ots, bw17⟩
  have BB : Below w16.heap.size w16 w17 := bw17
  have sw17 : w16.heap.size ≤ w17.heap.size := BB.size
  replace hw0 : w.heap.size ≤ w17.heap.size := by omega
  have tq := cells4_kept BB (by omega) R0 R1 R2 R3
  clear R0 R1 R2 R3
  obtain ⟨R0, R1, R2, R3⟩ := tq
  have tq := cells4_kept BB (by omega) I0 I1 I2 I3
  clear I0 I1 I2 I3
  obtain ⟨I0, I1, I2, I3⟩ := tq
  replace pR := pR.kept BB (by omega)
  replace oR := oR.kept BB (by omega)
  replace pI := pI.kept BB (by omega)
  replace oI := oI.kept BB (by omega)
  have Bw17 : Below w.heap.size w w17 := Bw16.trans (BB.mono Bw16.size)
  clear BB
  have lRw17 : w3.heap.size < w17.heap.size := by omega
  have lIw17 : w6.heap.size < w17.heap.size := by omega
  go_wp2_with fail
  refine (toIntS_any _ xso w17 (ho.kept (Nat.le_refl _) Bw17) hlo).mono ?_
  rintro e w18 ⟨ato, cto, rfl, oto, bw18⟩
  have BB : Below w17.heap.size w17 w18 := bw18
  have sw18 : w17.heap.size ≤ w18.heap.size := BB.size
  replace hw0 : w.heap.size ≤ w18.heap.size := by omega
  have tq := cells4_kept BB (by omega) R0 R1 R2 R3
  clear R0 R1 R2 R3
  obtain ⟨R0, R1, R2, R3⟩ := tq
  have tq := cells4_kept BB (by omega) I0 I1 I2 I3
  clear I0 I1 I2 I3
  obtain ⟨I0, I1, I2, I3⟩ := tq
  replace pR := pR.kept BB (by omega)
  replace oR := oR.kept BB (by omega)
  replace pI := pI.kept BB (by omega)
  replace oI := oI.kept BB (by omega)
  replace ots := ots.kept BB (by omega)
  have Bw18 : Below w.heap.size w w18 := Bw17.trans (BB.mono Bw17.size)
  clear BB
  have lRw18 : w3.heap.size < w18.heap.size := by omega
  have lIw18 : w6.heap.size < w18.heap.size := by omega
  go_wp2_with fail
  refine (implSignGame_any x y _ xss _ xso w18 (ots.rdI) (oto.rdI) ots.capn (by omega)).mono ?_
  rintro e w19 ⟨aJ, cJ, dJ, fJ, zJ, mJ, rfl, ⟨mlJ, mhJ⟩, pJ, oJ, bw19⟩
  have BB : Below w18.heap.size w18 w19 := bw19
  have sw19 : w18.heap.size ≤ w19.heap.size := BB.size
  replace hw0 : w.heap.size ≤ w19.heap.size := by omega
  have tq := cells4_kept BB (by omega) R0 R1 R2 R3
  clear R0 R1 R2 R3
  obtain ⟨R0, R1, R2, R3⟩ := tq
  have tq := cells4_kept BB (by omega) I0 I1 I2 I3
  clear I0 I1 I2 I3
  obtain ⟨I0, I1, I2, I3⟩ := tq
  replace pR := pR.kept BB (by omega)
  replace oR := oR.kept BB (by omega)
  replace pI := pI.kept BB (by omega)
  replace oI := oI.kept BB (by omega)
  replace ots := ots.kept BB (by omega)
  replace oto := oto.kept BB (by omega)
  have Bw19 : Below w.heap.size w w19 := Bw18.trans (BB.mono Bw18.size)
  clear BB
  have lRw19 : w3.heap.size < w19.heap.size := by omega
  have lIw19 : w6.heap.size < w19.heap.size := by omega
  go_wp2_with fail
  refine (eqGame_any _ _ _ _ (signD x y xss xso) (signD x y xss xso) (w19.alloc (.cells #[.int .i64 (signD x y xss xso).X, .int .i64 (signD x y xss xso).Y, .slice aJ (signD x y xss xso).Weights.length cJ, .slice dJ (signD x y xss xso).Wins.length fJ] 29)) ((pJ.rdI.kept (Nat.le_refl _) (by repeat' (first | with_reducible exact Below.refl _ _ | with_reducible assumption | with_reducible apply Below.alloc | with_reducible apply Below.setCell | with_reducible apply Below.drew | exact Nat.le_refl _ | omega | (simp only [World.size_alloc, World.size_setCell]; omega))))) ((oJ.rdII.kept (Nat.le_refl _) (by repeat' (first | with_reducible exact Below.refl _ _ | with_reducible assumption | with_reducible apply Below.alloc | with_reducible apply Below.setCell | with_reducible apply Below.drew | exact Nat.le_refl _ | omega | (simp only [World.size_alloc, World.size_setCell]; omega))))) ((pR.rdI.kept (Nat.le_refl _) (by repeat' (first | with_reducible exact Below.refl _ _ | with_reducible assumption | with_reducible apply Below.alloc | with_reducible apply Below.setCell | with_reducible apply Below.drew | exact Nat.le_refl _ | omega | (simp only [World.size_alloc, World.size_setCell]; omega))))) ((oR.rdII.kept (Nat.le_refl _) (by repeat' (first | with_reducible exact Below.refl _ _ | with_reducible assumption | with_reducible apply Below.alloc | with_reducible apply Below.setCell | with_reducible apply Below.drew | exact Nat.le_refl _ | omega | (simp only [World.size_alloc, World.size_setCell]; omega)))))).mono ?_
  rintro e w20 ⟨rfl, dw20⟩
  have BB : Below w19.heap.size w19 w20 := Below.trans (by repeat' (first | with_reducible exact Below.refl _ _ | with_reducible assumption | with_reducible apply Below.alloc | with_reducible apply Below.setCell | with_reducible apply Below.drew | exact Nat.le_refl _ | omega | (simp only [World.size_alloc, World.size_setCell]; omega))) (dw20.mono (by first | exact Nat.le_refl _ | omega | (simp only [World.size_alloc, World.size_setCell]; omega)))
  have sw20 : w19.heap.size ≤ w20.heap.size := BB.size
  have tw20 := dw20.size
  simp only [World.size_alloc] at tw20
  obtain ⟨J0, J1, J2, J3⟩ : w20.cell? ⟨w19.heap.size, 0, none⟩ = some (.int .i64 (signD x y xss xso).X) ∧ w20.cell? ⟨w19.heap.size, 1, none⟩ = some (.int .i64 (signD x y xss xso).Y) ∧ w20.cell? ⟨w19.heap.size, 2, none⟩ = some (.slice aJ (signD x y xss xso).Weights.length cJ) ∧ w20.cell? ⟨w19.heap.size, 3, none⟩ = some (.slice dJ (signD x y xss xso).Wins.length fJ) := by
    obtain ⟨hc, _⟩ := bcell dw20
    refine ⟨?_, ?_, ?_, ?_⟩ <;> (rw [hc _ _ (by simp only [World.size_alloc]; omega)]; first | (simp; done) | exact (by repeat' (first | with_reducible assumption | (refine cell_top ?_ rfl; first | with_reducible rfl | (simp only [World.size_alloc, World.size_setCell]; done)) | (refine cell_under ?_ ?_; (first | omega | (simp only [World.size_alloc, World.size_setCell]; omega))) | refine cell_drew ?_)))
  replace hw0 : w.heap.size ≤ w20.heap.size := by omega
  have tq := cells4_kept BB (by omega) R0 R1 R2 R3
  clear R0 R1 R2 R3
  obtain ⟨R0, R1, R2, R3⟩ := tq
  have tq := cells4_kept BB (by omega) I0 I1 I2 I3
  clear I0 I1 I2 I3
  obtain ⟨I0, I1, I2, I3⟩ := tq
  replace pR := pR.kept BB (by omega)
  replace oR := oR.kept BB (by omega)
  replace pI := pI.kept BB (by omega)
  replace oI := oI.kept BB (by omega)
  replace ots := ots.kept BB (by omega)
  replace oto := oto.kept BB (by omega)
  replace pJ := pJ.kept BB (by omega)
  replace oJ := oJ.kept BB (by omega)
  have Bw20 : Below w.heap.size w w20 := Bw19.trans (BB.mono Bw19.size)
  clear BB
  have lRw20 : w3.heap.size < w20.heap.size := by omega
  have lIw20 : w6.heap.size < w20.heap.size := by omega
  have lJw20 : w19.heap.size < w20.heap.size := by omega
  go_wp2_with fail
  refine (heldGame_any _ _ _ _ _ (pI.rdI) (oI.rdII) (by omega) (by omega) (by omega) (by omega)).mono ?_
  rintro e w21 ⟨rfl, bw21⟩
  have BB : Below w20.heap.size w20 w21 := bw21
  have sw21 : w20.heap.size ≤ w21.heap.size := BB.size
  replace hw0 : w.heap.size ≤ w21.heap.size := by omega
  have tq := cells4_kept BB (by omega) R0 R1 R2 R3
  clear R0 R1 R2 R3
  obtain ⟨R0, R1, R2, R3⟩ := tq
  have tq := cells4_kept BB (by omega) I0 I1 I2 I3
  clear I0 I1 I2 I3
  obtain ⟨I0, I1, I2, I3⟩ := tq
  have tq := cells4_kept BB (by omega) J0 J1 J2 J3
  clear J0 J1 J2 J3
  obtain ⟨J0, J1, J2, J3⟩ := tq
  replace pR := pR.kept BB (by omega)
  replace oR := oR.kept BB (by omega)
  replace pI := pI.kept BB (by omega)
  replace oI := oI.kept BB (by omega)
  replace ots := ots.kept BB (by omega)
  replace oto := oto.kept BB (by omega)
  replace pJ := pJ.kept BB (by omega)
  replace oJ := oJ.kept BB (by omega)
  have Bw21 : Below w.heap.size w w21 := Bw20.trans (BB.mono Bw20.size)
  clear BB
  have lRw21 : w3.heap.size < w21.heap.size := by omega
  have lIw21 : w6.heap.size < w21.heap.size := by omega
  have lJw21 : w19.heap.size < w21.heap.size := by omega
  go_wp2
  go_ret
  exact ⟨rfl, Bw21⟩

/-! ### The row -/
set_option maxRecDepth 100000 in
theorem fnExactSignGame_lifted (os : Os) (started : os.Started) (H : Type) (enc : TypeId × Value → H) :
    ReturnsInHanded {} Try.checked os 4 .any (Rows.fnExactSignGameSpec.pre6 enc Try.prog Try.f4 Rows.fnExactSignGameRow.domain false) (Rows.fnExactSignGameSpec.post enc Try.prog Try.f4 false true false false) := by
  refine returnsInHanded_of_change (C := Try.checked) Try.own started (by kernel_rfl) Try.func4
    (ChangeSpec.witness6 (enc := enc) (C := Try.checked) false ⟨#[], #[.int .i64 0, .int .i64 0, .slice none 0 0, .slice none 0 0], []⟩ 8 (by kernel_rfl) (by kernel_rfl) (by kernel_rfl) (by kernel_rfl)) ?_
  intro W base args ds gs before hval0 hW hcnd _
  have hval : ∀ (j : Nat) t v, Try.f4.params[j]? = some t → args[j]? = some v → Value.okWide Try.prog W .any base t v := hval0
  have hW' := hW
  obtain ⟨p, q, hA0, hV, rfl, hfz, hnd⟩ := hW
  have hA : DataW.TrodAll enc Try.prog W 0 (fun _ => true) true Try.f4.params.toList args.toList ds p := hA0
  rw [Try.params4] at hA hval
  obtain ⟨v0, vs0, d0, ds0, p0, q0, hargs, rfl, rfl, h0, r0⟩ := trodAll_cons hA
  obtain ⟨v1, vs1, d1, ds1, p1, q1, rfl, rfl, rfl, h1, r1⟩ := trodAll_cons r0
  obtain ⟨v2, vs2, d2, ds2, p2, q2, rfl, rfl, rfl, h2, r2⟩ := trodAll_cons r1
  obtain ⟨v3, vs3, d3, ds3, p3, q3, rfl, rfl, rfl, h3, r3⟩ := trodAll_cons r2
  obtain ⟨rfl, rfl, rfl⟩ := trodAll_nil r3
  obtain rfl : args = #[v0, v1, v2, v3] := by cases args; simp_all
  obtain ⟨x0, rfl, rfl, rfl, wx0⟩ := open_int Try.underlying3 (hval 0 3 v0 rfl rfl) h0
  obtain ⟨x1, rfl, rfl, rfl, wx1⟩ := open_int Try.underlying3 (hval 1 3 v1 rfl rfl) h1
  obtain ⟨xs2, hx2⟩ := rdI_of Try.underlying22 Try.underlying3 Try.cellsInt (hval 2 22 v2 rfl rfl) h2
  obtain ⟨xs3, hx3⟩ := rdI_of Try.underlying22 Try.underlying3 Try.cellsInt (hval 3 22 v3 rfl rfl) h3
  clear hA0 hval0
  refine (fnExactSignGame_walk x0 x1 _ xs2 _ xs3 W hx2 hx3).mono fun e W' ⟨he, hb⟩ => ?_
  subst he
  exact ⟨_, rfl, law_post Try.laidOut (by kernel_rfl) rfl Try.underlying4 rfl (fun ds hd => by match ds, hd with | [e0, e1, e2, e3], _ => rfl) hW' hb⟩

theorem fnExactSignGame_holds : Rows.FnExactSignGameSaid :=
  OpenClaim.holds_of_wide 4 Try.f4 rfl rfl rfl rfl rfl rfl rfl ⟨rfl, rfl, rfl, rfl, rfl⟩ rfl rfl rfl rfl rfl (by kernel_rfl) Try.func4 (by kernel_rfl)
    (of_decide_eq_true (by kernel_rfl)) (by unfold Func.isWrapper; first | (rw [if_pos (by decide +kernel)]; kernel_rfl) | (rw [if_neg (by decide +kernel)]; exact ⟨rfl, rfl⟩))
    (fun os started H enc _ => fnExactSignGame_lifted os started H enc)

end Go.Proofs.Ytadnjljpceeolaa
