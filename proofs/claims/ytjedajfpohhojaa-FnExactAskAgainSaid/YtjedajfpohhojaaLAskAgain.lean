/- AskAgain: the program's answer is the reference's, for all arguments; nothing is shared. -/
import Derived.Test.YtjedajfpohhojaaSpAgain
import Derived.Test.YtjedajfpohhojaaRowB
import Derived.Test.YtjedajfpohhojaaHarD
set_option linter.unusedSimpArgs false
set_option linter.unusedVariables false
namespace Go.Proofs.Ytjedajfpohhojaa
open Go.ChangeShapes Go.WideShapes Go.ChangeAt Go.RowKit
open Go.ChangeMaps (open_string shut_string)

set_option maxHeartbeats 3000000 in
theorem fnExactAskAgain_walk (va : Value) (ba : BoxD) (vf : Value) (xsf : List Int) (vs : Value) (xss : List Int) (w : World) (ha : RdII w va ba.Rows) (hf : RdI w vf xsf) (hs : RdI w vs xss) :
    Calls Try.prog 8 #[.agg #[.int .i64 ba.X, .int .i64 ba.Y, .int .i64 ba.Whole, va], vf, vs] w fun e w' => e = .returned (.bool true) ∧ Below w.heap.size w w' := by
  have hw0 : w.heap.size ≤ w.heap.size := Nat.le_refl _
  have hmf : xsf.length ≤ maxLen := by obtain ⟨_, _, _, _, _, hm, _⟩ := hf; exact hm
  obtain ⟨qf, kf, hvf⟩ : ∃ q k, vf = .slice q xsf.length k := by obtain ⟨q, _, _, k, hv, _⟩ := hf; exact ⟨q, k, hv⟩
  subst hvf
  unfold maxLen at hmf
  have hms : xss.length ≤ maxLen := by obtain ⟨_, _, _, _, _, hm, _⟩ := hs; exact hm
  obtain ⟨qs, ks, hvs⟩ : ∃ q k, vs = .slice q xss.length k := by obtain ⟨q, _, _, k, hv, _⟩ := hs; exact ⟨q, k, hv⟩
  subst hvs
  unfold maxLen at hms
  by_cases hlf : (1048576 : Int) < xsf.length
  · go_enter Try.func8, Try.ntmps8
    go_wp2
    go_ret
    exact ⟨rfl, (by repeat' (first | with_reducible exact Below.refl _ _ | with_reducible assumption | with_reducible apply Below.alloc | with_reducible apply Below.setCell | with_reducible apply Below.drew | exact Nat.le_refl _ | omega | (simp only [World.size_alloc, World.size_setCell]; omega)))⟩
  replace hlf : xsf.length ≤ 1048576 := by omega
  by_cases hls : (1048576 : Int) < xss.length
  · go_enter Try.func8, Try.ntmps8
    go_wp2
    go_ret
    exact ⟨rfl, (by repeat' (first | with_reducible exact Below.refl _ _ | with_reducible assumption | with_reducible apply Below.alloc | with_reducible apply Below.setCell | with_reducible apply Below.drew | exact Nat.le_refl _ | omega | (simp only [World.size_alloc, World.size_setCell]; omega)))⟩
  replace hls : xss.length ≤ 1048576 := by omega
  go_enter Try.func8, Try.ntmps8
  go_wp2_with fail
  refine (szBox_any va ba.X ba.Y ba.Whole ba.Rows 1048576 (w.alloc (.cells #[.int .i64 ba.X, .int .i64 ba.Y, .int .i64 ba.Whole, va] 40)) (ha.kept (Nat.le_refl _) (by repeat' (first | with_reducible exact Below.refl _ _ | with_reducible assumption | with_reducible apply Below.alloc | with_reducible apply Below.setCell | with_reducible apply Below.drew | exact Nat.le_refl _ | omega | (simp only [World.size_alloc, World.size_setCell]; omega)))) (by omega) (by omega)).mono ?_
  rintro e w1 ⟨⟨la, rfl, hsa⟩, bw1⟩
  have BB : Below w.heap.size w w1 := Below.trans (by repeat' (first | with_reducible exact Below.refl _ _ | with_reducible assumption | with_reducible apply Below.alloc | with_reducible apply Below.setCell | with_reducible apply Below.drew | exact Nat.le_refl _ | omega | (simp only [World.size_alloc, World.size_setCell]; omega))) (bw1.mono (by first | exact Nat.le_refl _ | omega | (simp only [World.size_alloc, World.size_setCell]; omega)))
  have sw1 : w.heap.size ≤ w1.heap.size := BB.size
  have tw1 := bw1.size
  simp only [World.size_alloc] at tw1
  obtain ⟨pa0, pa1, pa2, pa3⟩ : w1.cell? ⟨w.heap.size, 0, none⟩ = some (.int .i64 ba.X) ∧ w1.cell? ⟨w.heap.size, 1, none⟩ = some (.int .i64 ba.Y) ∧ w1.cell? ⟨w.heap.size, 2, none⟩ = some (.int .i64 ba.Whole) ∧ w1.cell? ⟨w.heap.size, 3, none⟩ = some (va) := by
    obtain ⟨hc, _⟩ := bcell bw1
    refine ⟨?_, ?_, ?_, ?_⟩ <;> (rw [hc _ _ (by simp only [World.size_alloc]; omega)]; simp)
  replace hw0 : w.heap.size ≤ w1.heap.size := by omega
  have Bw1 : Below w.heap.size w w1 := BB
  clear BB
  have lpaw1 : w.heap.size < w1.heap.size := by omega
  by_cases hna : la < 0
  · go_wp2
    go_ret
    exact ⟨rfl, Bw1⟩
  obtain ⟨hsa, hqa⟩ : ba.Rows.length + sumLen ba.Rows ≤ 1048576 ∧ la ≤ 1048576 := by unfold SzLeft at hsa; omega
  go_wp2_with fail
  refine (toBox_any va ba.X ba.Y ba.Whole ba.Rows w1 (ha.kept (Nat.le_refl _) Bw1) hsa).mono ?_
  rintro e w2 ⟨aua, cua, zua, rfl, oua, bw2⟩
  have BB : Below w1.heap.size w1 w2 := bw2
  have sw2 : w1.heap.size ≤ w2.heap.size := BB.size
  replace hw0 : w.heap.size ≤ w2.heap.size := by omega
  have tq := cells4_kept BB (by omega) pa0 pa1 pa2 pa3
  clear pa0 pa1 pa2 pa3
  obtain ⟨pa0, pa1, pa2, pa3⟩ := tq
  have Bw2 : Below w.heap.size w w2 := Bw1.trans (BB.mono Bw1.size)
  clear BB
  have lpaw2 : w.heap.size < w2.heap.size := by omega
  go_wp2_with fail
  refine (toIntS_any _ xsf w2 (hf.kept (Nat.le_refl _) Bw2) hlf).mono ?_
  rintro e w3 ⟨auf, cuf, rfl, ouf, bw3⟩
  have BB : Below w2.heap.size w2 w3 := bw3
  have sw3 : w2.heap.size ≤ w3.heap.size := BB.size
  replace hw0 : w.heap.size ≤ w3.heap.size := by omega
  have tq := cells4_kept BB (by omega) pa0 pa1 pa2 pa3
  clear pa0 pa1 pa2 pa3
  obtain ⟨pa0, pa1, pa2, pa3⟩ := tq
  replace oua := oua.kept BB (by omega)
  have Bw3 : Below w.heap.size w w3 := Bw2.trans (BB.mono Bw2.size)
  clear BB
  have lpaw3 : w.heap.size < w3.heap.size := by omega
  go_wp2_with fail
  refine (toIntS_any _ xss w3 (hs.kept (Nat.le_refl _) Bw3) hls).mono ?_
  rintro e w4 ⟨aus, cus, rfl, ous, bw4⟩
  have BB : Below w3.heap.size w3 w4 := bw4
  have sw4 : w3.heap.size ≤ w4.heap.size := BB.size
  replace hw0 : w.heap.size ≤ w4.heap.size := by omega
  have tq := cells4_kept BB (by omega) pa0 pa1 pa2 pa3
  clear pa0 pa1 pa2 pa3
  obtain ⟨pa0, pa1, pa2, pa3⟩ := tq
  replace oua := oua.kept BB (by omega)
  replace ouf := ouf.kept BB (by omega)
  have Bw4 : Below w.heap.size w w4 := Bw3.trans (BB.mono Bw3.size)
  clear BB
  have lpaw4 : w.heap.size < w4.heap.size := by omega
  go_wp2_with fail
  refine (specAskAgain_any _ ba _ xsf _ xss w4 (oua.rdII) (ouf.rdI) (ous.rdI)).mono ?_
  rintro e w5 ⟨aR, cR, zR, rfl, oR, bw5⟩
  have BB : Below w4.heap.size w4 w5 := bw5
  have sw5 : w4.heap.size ≤ w5.heap.size := BB.size
  replace hw0 : w.heap.size ≤ w5.heap.size := by omega
  have tq := cells4_kept BB (by omega) pa0 pa1 pa2 pa3
  clear pa0 pa1 pa2 pa3
  obtain ⟨pa0, pa1, pa2, pa3⟩ := tq
  replace oua := oua.kept BB (by omega)
  replace ouf := ouf.kept BB (by omega)
  replace ous := ous.kept BB (by omega)
  have Bw5 : Below w.heap.size w w5 := Bw4.trans (BB.mono Bw4.size)
  clear BB
  have lpaw5 : w.heap.size < w5.heap.size := by omega
  go_wp2_with fail
  refine (toBox_any va ba.X ba.Y ba.Whole ba.Rows (w5.alloc (.cells #[.int .i64 (askD ba xsf xss).X, .int .i64 (askD ba xsf xss).Y, .int .i64 (askD ba xsf xss).Whole, .slice aR (askD ba xsf xss).Rows.length cR] 25)) ((ha.kept (Nat.le_refl _) Bw5).kept (Nat.le_refl _) (by repeat' (first | with_reducible exact Below.refl _ _ | with_reducible assumption | with_reducible apply Below.alloc | with_reducible apply Below.setCell | with_reducible apply Below.drew | exact Nat.le_refl _ | omega | (simp only [World.size_alloc, World.size_setCell]; omega)))) hsa).mono ?_
  rintro e w6 ⟨axa, cxa, zxa, rfl, oxa, bw6⟩
  simp only [World.size_alloc] at oxa
  have BB : Below w5.heap.size w5 w6 := Below.trans (by repeat' (first | with_reducible exact Below.refl _ _ | with_reducible assumption | with_reducible apply Below.alloc | with_reducible apply Below.setCell | with_reducible apply Below.drew | exact Nat.le_refl _ | omega | (simp only [World.size_alloc, World.size_setCell]; omega))) (bw6.mono (by first | exact Nat.le_refl _ | omega | (simp only [World.size_alloc, World.size_setCell]; omega)))
  have sw6 : w5.heap.size ≤ w6.heap.size := BB.size
  have tw6 := bw6.size
  simp only [World.size_alloc] at tw6
  obtain ⟨R0, R1, R2, R3⟩ : w6.cell? ⟨w5.heap.size, 0, none⟩ = some (.int .i64 (askD ba xsf xss).X) ∧ w6.cell? ⟨w5.heap.size, 1, none⟩ = some (.int .i64 (askD ba xsf xss).Y) ∧ w6.cell? ⟨w5.heap.size, 2, none⟩ = some (.int .i64 (askD ba xsf xss).Whole) ∧ w6.cell? ⟨w5.heap.size, 3, none⟩ = some (.slice aR (askD ba xsf xss).Rows.length cR) := by
    obtain ⟨hc, _⟩ := bcell bw6
    refine ⟨?_, ?_, ?_, ?_⟩ <;> (rw [hc _ _ (by simp only [World.size_alloc]; omega)]; simp)
  replace hw0 : w.heap.size ≤ w6.heap.size := by omega
  have tq := cells4_kept BB (by omega) pa0 pa1 pa2 pa3
  clear pa0 pa1 pa2 pa3
  obtain ⟨pa0, pa1, pa2, pa3⟩ := tq
  replace oR := oR.kept BB (by omega)
  have Bw6 : Below w.heap.size w w6 := Bw5.trans (BB.mono Bw5.size)
  clear BB
  have lpaw6 : w.heap.size < w6.heap.size := by omega
  have lRw6 : w5.heap.size < w6.heap.size := by omega
  go_wp2_with fail
  refine (toIntS_any _ xsf (w6.alloc (.cells #[.int .i64 ba.X, .int .i64 ba.Y, .int .i64 ba.Whole, .slice axa ba.Rows.length cxa] 25)) ((hf.kept (Nat.le_refl _) Bw6).kept (Nat.le_refl _) (by repeat' (first | with_reducible exact Below.refl _ _ | with_reducible assumption | with_reducible apply Below.alloc | with_reducible apply Below.setCell | with_reducible apply Below.drew | exact Nat.le_refl _ | omega | (simp only [World.size_alloc, World.size_setCell]; omega)))) hlf).mono ?_
  rintro e w7 ⟨axf, cxf, rfl, oxf, bw7⟩
  simp only [World.size_alloc] at oxf
  have BB : Below w6.heap.size w6 w7 := Below.trans (by repeat' (first | with_reducible exact Below.refl _ _ | with_reducible assumption | with_reducible apply Below.alloc | with_reducible apply Below.setCell | with_reducible apply Below.drew | exact Nat.le_refl _ | omega | (simp only [World.size_alloc, World.size_setCell]; omega))) (bw7.mono (by first | exact Nat.le_refl _ | omega | (simp only [World.size_alloc, World.size_setCell]; omega)))
  have sw7 : w6.heap.size ≤ w7.heap.size := BB.size
  have tw7 := bw7.size
  simp only [World.size_alloc] at tw7
  obtain ⟨xa0, xa1, xa2, xa3⟩ : w7.cell? ⟨w6.heap.size, 0, none⟩ = some (.int .i64 ba.X) ∧ w7.cell? ⟨w6.heap.size, 1, none⟩ = some (.int .i64 ba.Y) ∧ w7.cell? ⟨w6.heap.size, 2, none⟩ = some (.int .i64 ba.Whole) ∧ w7.cell? ⟨w6.heap.size, 3, none⟩ = some (.slice axa ba.Rows.length cxa) := by
    obtain ⟨hc, _⟩ := bcell bw7
    refine ⟨?_, ?_, ?_, ?_⟩ <;> (rw [hc _ _ (by simp only [World.size_alloc]; omega)]; simp)
  replace hw0 : w.heap.size ≤ w7.heap.size := by omega
  have tq := cells4_kept BB (by omega) pa0 pa1 pa2 pa3
  clear pa0 pa1 pa2 pa3
  obtain ⟨pa0, pa1, pa2, pa3⟩ := tq
  have tq := cells4_kept BB (by omega) R0 R1 R2 R3
  clear R0 R1 R2 R3
  obtain ⟨R0, R1, R2, R3⟩ := tq
  replace oR := oR.kept BB (by omega)
  replace oxa := oxa.kept BB (by omega)
  have Bw7 : Below w.heap.size w w7 := Bw6.trans (BB.mono Bw6.size)
  clear BB
  have lpaw7 : w.heap.size < w7.heap.size := by omega
  have lRw7 : w5.heap.size < w7.heap.size := by omega
  have lxaw7 : w6.heap.size < w7.heap.size := by omega
  go_wp2_with fail
  refine (toIntS_any _ xss w7 (hs.kept (Nat.le_refl _) Bw7) hls).mono ?_
  rintro e w8 ⟨axs, cxs, rfl, oxs, bw8⟩
  have BB : Below w7.heap.size w7 w8 := bw8
  have sw8 : w7.heap.size ≤ w8.heap.size := BB.size
  replace hw0 : w.heap.size ≤ w8.heap.size := by omega
  have tq := cells4_kept BB (by omega) pa0 pa1 pa2 pa3
  clear pa0 pa1 pa2 pa3
  obtain ⟨pa0, pa1, pa2, pa3⟩ := tq
  have tq := cells4_kept BB (by omega) R0 R1 R2 R3
  clear R0 R1 R2 R3
  obtain ⟨R0, R1, R2, R3⟩ := tq
  have tq := cells4_kept BB (by omega) xa0 xa1 xa2 xa3
  clear xa0 xa1 xa2 xa3
  obtain ⟨xa0, xa1, xa2, xa3⟩ := tq
  replace oR := oR.kept BB (by omega)
  replace oxa := oxa.kept BB (by omega)
  replace oxf := oxf.kept BB (by omega)
  have Bw8 : Below w.heap.size w w8 := Bw7.trans (BB.mono Bw7.size)
  clear BB
  have lpaw8 : w.heap.size < w8.heap.size := by omega
  have lRw8 : w5.heap.size < w8.heap.size := by omega
  have lxaw8 : w6.heap.size < w8.heap.size := by omega
  go_wp2_with fail
  refine (implAskAgain_any _ ba _ xsf _ xss w8 (oxa.rdII) (oxf.rdI) (oxs.rdI)).mono ?_
  rintro e w9 ⟨aI, cI, zI, rfl, oI, bw9⟩
  have BB : Below w8.heap.size w8 w9 := bw9
  have sw9 : w8.heap.size ≤ w9.heap.size := BB.size
  replace hw0 : w.heap.size ≤ w9.heap.size := by omega
  have tq := cells4_kept BB (by omega) pa0 pa1 pa2 pa3
  clear pa0 pa1 pa2 pa3
  obtain ⟨pa0, pa1, pa2, pa3⟩ := tq
  have tq := cells4_kept BB (by omega) R0 R1 R2 R3
  clear R0 R1 R2 R3
  obtain ⟨R0, R1, R2, R3⟩ := tq
  have tq := cells4_kept BB (by omega) xa0 xa1 xa2 xa3
  clear xa0 xa1 xa2 xa3
  obtain ⟨xa0, xa1, xa2, xa3⟩ := tq
  replace oR := oR.kept BB (by omega)
  replace oxa := oxa.kept BB (by omega)
  replace oxf := oxf.kept BB (by omega)
  replace oxs := oxs.kept BB (by omega)
  have Bw9 : Below w.heap.size w w9 := Bw8.trans (BB.mono Bw8.size)
  clear BB
  have lpaw9 : w.heap.size < w9.heap.size := by omega
  have lRw9 : w5.heap.size < w9.heap.size := by omega
  have lxaw9 : w6.heap.size < w9.heap.size := by omega
  have hz0 := askD_size ba xsf xss
  have e1 : ((askOk ba xsf xss) != (askOk ba xsf xss)) = false := by simp
  go_wp2_with fail
  refine (eqBox_any _ _ (askD ba xsf xss) (askD ba xsf xss) (w9.alloc (.cells #[.int .i64 (askD ba xsf xss).X, .int .i64 (askD ba xsf xss).Y, .int .i64 (askD ba xsf xss).Whole, .slice aI (askD ba xsf xss).Rows.length cI] 25)) ((oI.rdII.kept (Nat.le_refl _) (by repeat' (first | with_reducible exact Below.refl _ _ | with_reducible assumption | with_reducible apply Below.alloc | with_reducible apply Below.setCell | with_reducible apply Below.drew | exact Nat.le_refl _ | omega | (simp only [World.size_alloc, World.size_setCell]; omega))))) ((oR.rdII.kept (Nat.le_refl _) (by repeat' (first | with_reducible exact Below.refl _ _ | with_reducible assumption | with_reducible apply Below.alloc | with_reducible apply Below.setCell | with_reducible apply Below.drew | exact Nat.le_refl _ | omega | (simp only [World.size_alloc, World.size_setCell]; omega)))))).mono ?_
  rintro e w10 ⟨rfl, dw10⟩
  have BB : Below w9.heap.size w9 w10 := Below.trans (by repeat' (first | with_reducible exact Below.refl _ _ | with_reducible assumption | with_reducible apply Below.alloc | with_reducible apply Below.setCell | with_reducible apply Below.drew | exact Nat.le_refl _ | omega | (simp only [World.size_alloc, World.size_setCell]; omega))) (dw10.mono (by first | exact Nat.le_refl _ | omega | (simp only [World.size_alloc, World.size_setCell]; omega)))
  have sw10 : w9.heap.size ≤ w10.heap.size := BB.size
  have tw10 := dw10.size
  simp only [World.size_alloc] at tw10
  obtain ⟨I0, I1, I2, I3⟩ : w10.cell? ⟨w9.heap.size, 0, none⟩ = some (.int .i64 (askD ba xsf xss).X) ∧ w10.cell? ⟨w9.heap.size, 1, none⟩ = some (.int .i64 (askD ba xsf xss).Y) ∧ w10.cell? ⟨w9.heap.size, 2, none⟩ = some (.int .i64 (askD ba xsf xss).Whole) ∧ w10.cell? ⟨w9.heap.size, 3, none⟩ = some (.slice aI (askD ba xsf xss).Rows.length cI) := by
    obtain ⟨hc, _⟩ := bcell dw10
    refine ⟨?_, ?_, ?_, ?_⟩ <;> (rw [hc _ _ (by simp only [World.size_alloc]; omega)]; simp)
  replace hw0 : w.heap.size ≤ w10.heap.size := by omega
  have tq := cells4_kept BB (by omega) pa0 pa1 pa2 pa3
  clear pa0 pa1 pa2 pa3
  obtain ⟨pa0, pa1, pa2, pa3⟩ := tq
  have tq := cells4_kept BB (by omega) R0 R1 R2 R3
  clear R0 R1 R2 R3
  obtain ⟨R0, R1, R2, R3⟩ := tq
  have tq := cells4_kept BB (by omega) xa0 xa1 xa2 xa3
  clear xa0 xa1 xa2 xa3
  obtain ⟨xa0, xa1, xa2, xa3⟩ := tq
  replace oR := oR.kept BB (by omega)
  replace oxa := oxa.kept BB (by omega)
  replace oxf := oxf.kept BB (by omega)
  replace oxs := oxs.kept BB (by omega)
  replace oI := oI.kept BB (by omega)
  have Bw10 : Below w.heap.size w w10 := Bw9.trans (BB.mono Bw9.size)
  clear BB
  have lpaw10 : w.heap.size < w10.heap.size := by omega
  have lRw10 : w5.heap.size < w10.heap.size := by omega
  have lxaw10 : w6.heap.size < w10.heap.size := by omega
  have lIw10 : w9.heap.size < w10.heap.size := by omega
  go_wp2_with fail
  go_region_held3 (fun w' => w'.cell? ⟨w6.heap.size, 0, none⟩ = some (.int .i64 ba.X) ∧ w'.cell? ⟨w6.heap.size, 1, none⟩ = some (.int .i64 ba.Y) ∧ w'.cell? ⟨w6.heap.size, 2, none⟩ = some (.int .i64 ba.Whole) ∧ w'.cell? ⟨w6.heap.size, 3, none⟩ = some (.slice axa ba.Rows.length cxa) ∧ w'.cell? ⟨w.heap.size, 0, none⟩ = some (.int .i64 ba.X) ∧ w'.cell? ⟨w.heap.size, 1, none⟩ = some (.int .i64 ba.Y) ∧ w'.cell? ⟨w.heap.size, 2, none⟩ = some (.int .i64 ba.Whole) ∧ w'.cell? ⟨w.heap.size, 3, none⟩ = some (va))
    (first | go_keep | exact ⟨xa0, xa1, xa2, xa3, pa0, pa1, pa2, pa3⟩)
    (first
      | (go_at_call 30
         (with_reducible refine (toBox_any va ba.X ba.Y ba.Whole ba.Rows w10.drew (ha.kept (Nat.le_refl _) Bw10.drew) hsa).mono ?_)
         rintro e w11 ⟨aya, cya, zya, rfl, oya, bw11⟩
         replace oya := oya.weaken (lo' := w10.heap.size) (Nat.le_refl _) (Nat.le_refl _)
         have BB : Below w10.heap.size w10 w11 := ((Below.refl w10.heap.size w10).drew).trans bw11
         have sw11 : w10.heap.size ≤ w11.heap.size := BB.size
         replace hw0 : w.heap.size ≤ w11.heap.size := by omega
         have tq := cells4_kept BB (by omega) pa0 pa1 pa2 pa3
         clear pa0 pa1 pa2 pa3
         obtain ⟨pa0, pa1, pa2, pa3⟩ := tq
         have tq := cells4_kept BB (by omega) R0 R1 R2 R3
         clear R0 R1 R2 R3
         obtain ⟨R0, R1, R2, R3⟩ := tq
         have tq := cells4_kept BB (by omega) xa0 xa1 xa2 xa3
         clear xa0 xa1 xa2 xa3
         obtain ⟨xa0, xa1, xa2, xa3⟩ := tq
         have tq := cells4_kept BB (by omega) I0 I1 I2 I3
         clear I0 I1 I2 I3
         obtain ⟨I0, I1, I2, I3⟩ := tq
         replace oR := oR.kept BB (by omega)
         replace oxa := oxa.kept BB (by omega)
         replace oxf := oxf.kept BB (by omega)
         replace oxs := oxs.kept BB (by omega)
         replace oI := oI.kept BB (by omega)
         have Bw11 : Below w.heap.size w w11 := Bw10.trans (BB.mono Bw10.size)
         clear BB
         have lpaw11 : w.heap.size < w11.heap.size := by omega
         have lRw11 : w5.heap.size < w11.heap.size := by omega
         have lxaw11 : w6.heap.size < w11.heap.size := by omega
         have lIw11 : w9.heap.size < w11.heap.size := by omega)
      | (go_at_call 18
         (with_reducible refine (eqBox_any _ _ ba ba w11 (oxa.rdII) (oya.rdII)).mono ?_)
         rintro e w12 ⟨rfl, dw12⟩
         have BB : Below w11.heap.size w11 w12 := dw12
         have sw12 : w11.heap.size ≤ w12.heap.size := BB.size
         replace hw0 : w.heap.size ≤ w12.heap.size := by omega
         have tq := cells4_kept BB (by omega) pa0 pa1 pa2 pa3
         clear pa0 pa1 pa2 pa3
         obtain ⟨pa0, pa1, pa2, pa3⟩ := tq
         have tq := cells4_kept BB (by omega) R0 R1 R2 R3
         clear R0 R1 R2 R3
         obtain ⟨R0, R1, R2, R3⟩ := tq
         have tq := cells4_kept BB (by omega) xa0 xa1 xa2 xa3
         clear xa0 xa1 xa2 xa3
         obtain ⟨xa0, xa1, xa2, xa3⟩ := tq
         have tq := cells4_kept BB (by omega) I0 I1 I2 I3
         clear I0 I1 I2 I3
         obtain ⟨I0, I1, I2, I3⟩ := tq
         replace oR := oR.kept BB (by omega)
         replace oxa := oxa.kept BB (by omega)
         replace oxf := oxf.kept BB (by omega)
         replace oxs := oxs.kept BB (by omega)
         replace oI := oI.kept BB (by omega)
         replace oya := oya.kept BB (by omega)
         have Bw12 : Below w.heap.size w w12 := Bw11.trans (BB.mono Bw11.size)
         clear BB
         have lpaw12 : w.heap.size < w12.heap.size := by omega
         have lRw12 : w5.heap.size < w12.heap.size := by omega
         have lxaw12 : w6.heap.size < w12.heap.size := by omega
         have lIw12 : w9.heap.size < w12.heap.size := by omega))
  go_wp2_with fail
  refine (toIntS_any _ xsf w12 (hf.kept (Nat.le_refl _) Bw12) hlf).mono ?_
  rintro e w13 ⟨ayf, cyf, rfl, oyf, bw13⟩
  have BB : Below w12.heap.size w12 w13 := bw13
  have sw13 : w12.heap.size ≤ w13.heap.size := BB.size
  replace hw0 : w.heap.size ≤ w13.heap.size := by omega
  have tq := cells4_kept BB (by omega) pa0 pa1 pa2 pa3
  clear pa0 pa1 pa2 pa3
  obtain ⟨pa0, pa1, pa2, pa3⟩ := tq
  have tq := cells4_kept BB (by omega) R0 R1 R2 R3
  clear R0 R1 R2 R3
  obtain ⟨R0, R1, R2, R3⟩ := tq
  have tq := cells4_kept BB (by omega) xa0 xa1 xa2 xa3
  clear xa0 xa1 xa2 xa3
  obtain ⟨xa0, xa1, xa2, xa3⟩ := tq
  have tq := cells4_kept BB (by omega) I0 I1 I2 I3
  clear I0 I1 I2 I3
  obtain ⟨I0, I1, I2, I3⟩ := tq
  replace oR := oR.kept BB (by omega)
  replace oxa := oxa.kept BB (by omega)
  replace oxf := oxf.kept BB (by omega)
  replace oxs := oxs.kept BB (by omega)
  replace oI := oI.kept BB (by omega)
  have Bw13 : Below w.heap.size w w13 := Bw12.trans (BB.mono Bw12.size)
  clear BB
  have lpaw13 : w.heap.size < w13.heap.size := by omega
  have lRw13 : w5.heap.size < w13.heap.size := by omega
  have lxaw13 : w6.heap.size < w13.heap.size := by omega
  have lIw13 : w9.heap.size < w13.heap.size := by omega
  go_wp2_with fail
  refine (eqIntS_any _ _ xsf xsf w13 (oxf.rdI) (oyf.rdI)).mono ?_
  rintro e w14 ⟨rfl, dw14⟩
  have dw14b := dw14.below w13.heap.size
  have BB : Below w13.heap.size w13 w14 := dw14b
  have sw14 : w13.heap.size ≤ w14.heap.size := BB.size
  replace hw0 : w.heap.size ≤ w14.heap.size := by omega
  have tq := cells4_kept BB (by omega) pa0 pa1 pa2 pa3
  clear pa0 pa1 pa2 pa3
  obtain ⟨pa0, pa1, pa2, pa3⟩ := tq
  have tq := cells4_kept BB (by omega) R0 R1 R2 R3
  clear R0 R1 R2 R3
  obtain ⟨R0, R1, R2, R3⟩ := tq
  have tq := cells4_kept BB (by omega) xa0 xa1 xa2 xa3
  clear xa0 xa1 xa2 xa3
  obtain ⟨xa0, xa1, xa2, xa3⟩ := tq
  have tq := cells4_kept BB (by omega) I0 I1 I2 I3
  clear I0 I1 I2 I3
  obtain ⟨I0, I1, I2, I3⟩ := tq
  replace oR := oR.kept BB (by omega)
  replace oxa := oxa.kept BB (by omega)
  replace oxf := oxf.kept BB (by omega)
  replace oxs := oxs.kept BB (by omega)
  replace oI := oI.kept BB (by omega)
  replace oyf := oyf.kept BB (by omega)
  have Bw14 : Below w.heap.size w w14 := Bw13.trans (BB.mono Bw13.size)
  clear BB
  have lpaw14 : w.heap.size < w14.heap.size := by omega
  have lRw14 : w5.heap.size < w14.heap.size := by omega
  have lxaw14 : w6.heap.size < w14.heap.size := by omega
  have lIw14 : w9.heap.size < w14.heap.size := by omega
  go_wp2_with fail
  refine (toIntS_any _ xss w14 (hs.kept (Nat.le_refl _) Bw14) hls).mono ?_
  rintro e w15 ⟨ays, cys, rfl, oys, bw15⟩
  have BB : Below w14.heap.size w14 w15 := bw15
  have sw15 : w14.heap.size ≤ w15.heap.size := BB.size
  replace hw0 : w.heap.size ≤ w15.heap.size := by omega
  have tq := cells4_kept BB (by omega) pa0 pa1 pa2 pa3
  clear pa0 pa1 pa2 pa3
  obtain ⟨pa0, pa1, pa2, pa3⟩ := tq
  have tq := cells4_kept BB (by omega) R0 R1 R2 R3
  clear R0 R1 R2 R3
  obtain ⟨R0, R1, R2, R3⟩ := tq
  have tq := cells4_kept BB (by omega) xa0 xa1 xa2 xa3
  clear xa0 xa1 xa2 xa3
  obtain ⟨xa0, xa1, xa2, xa3⟩ := tq
  have tq := cells4_kept BB (by omega) I0 I1 I2 I3
  clear I0 I1 I2 I3
  obtain ⟨I0, I1, I2, I3⟩ := tq
  replace oR := oR.kept BB (by omega)
  replace oxa := oxa.kept BB (by omega)
  replace oxf := oxf.kept BB (by omega)
  replace oxs := oxs.kept BB (by omega)
  replace oI := oI.kept BB (by omega)
  have Bw15 : Below w.heap.size w w15 := Bw14.trans (BB.mono Bw14.size)
  clear BB
  have lpaw15 : w.heap.size < w15.heap.size := by omega
  have lRw15 : w5.heap.size < w15.heap.size := by omega
  have lxaw15 : w6.heap.size < w15.heap.size := by omega
  have lIw15 : w9.heap.size < w15.heap.size := by omega
  go_wp2_with fail
  refine (eqIntS_any _ _ xss xss w15 (oxs.rdI) (oys.rdI)).mono ?_
  rintro e w16 ⟨rfl, dw16⟩
  have dw16b := dw16.below w15.heap.size
  have BB : Below w15.heap.size w15 w16 := dw16b
  have sw16 : w15.heap.size ≤ w16.heap.size := BB.size
  replace hw0 : w.heap.size ≤ w16.heap.size := by omega
  have tq := cells4_kept BB (by omega) pa0 pa1 pa2 pa3
  clear pa0 pa1 pa2 pa3
  obtain ⟨pa0, pa1, pa2, pa3⟩ := tq
  have tq := cells4_kept BB (by omega) R0 R1 R2 R3
  clear R0 R1 R2 R3
  obtain ⟨R0, R1, R2, R3⟩ := tq
  have tq := cells4_kept BB (by omega) xa0 xa1 xa2 xa3
  clear xa0 xa1 xa2 xa3
  obtain ⟨xa0, xa1, xa2, xa3⟩ := tq
  have tq := cells4_kept BB (by omega) I0 I1 I2 I3
  clear I0 I1 I2 I3
  obtain ⟨I0, I1, I2, I3⟩ := tq
  replace oR := oR.kept BB (by omega)
  replace oxa := oxa.kept BB (by omega)
  replace oxf := oxf.kept BB (by omega)
  replace oxs := oxs.kept BB (by omega)
  replace oI := oI.kept BB (by omega)
  replace oys := oys.kept BB (by omega)
  have Bw16 : Below w.heap.size w w16 := Bw15.trans (BB.mono Bw15.size)
  clear BB
  have lpaw16 : w.heap.size < w16.heap.size := by omega
  have lRw16 : w5.heap.size < w16.heap.size := by omega
  have lxaw16 : w6.heap.size < w16.heap.size := by omega
  have lIw16 : w9.heap.size < w16.heap.size := by omega
  go_wp2_with fail
  refine (markBox_any _ _ _ _ _ _ _ _ _ _ _ _ oxa (by omega) (by omega) (by omega) (by omega)).mono ?_
  rintro e w17 ⟨rfl, oxa, mw17⟩
  have tq := cells4_mid mw17 (by omega) (by omega) pa0 pa1 pa2 pa3
  clear pa0 pa1 pa2 pa3
  obtain ⟨pa0, pa1, pa2, pa3⟩ := tq
  have tq := cells4_mid mw17 (by omega) (by omega) R0 R1 R2 R3
  clear R0 R1 R2 R3
  obtain ⟨R0, R1, R2, R3⟩ := tq
  have tq := cells4_mid mw17 (by omega) (by omega) xa0 xa1 xa2 xa3
  clear xa0 xa1 xa2 xa3
  obtain ⟨xa0, xa1, xa2, xa3⟩ := tq
  have tq := cells4_mid mw17 (by omega) (by omega) I0 I1 I2 I3
  clear I0 I1 I2 I3
  obtain ⟨I0, I1, I2, I3⟩ := tq
  replace oR := oR.mid mw17 (by omega)
  replace oxf := oxf.mid mw17 (by omega)
  replace oxs := oxs.mid mw17 (by omega)
  replace oI := oI.mid mw17 (by omega)
  have sw17 : w16.heap.size ≤ w17.heap.size := mw17.size
  have Bw17 : Below w.heap.size w w17 := Bw16.trans (mw17.below (by omega) (by omega))
  replace hw0 : w.heap.size ≤ w17.heap.size := by omega
  clear mw17
  have lpaw17 : w.heap.size < w17.heap.size := by omega
  have lRw17 : w5.heap.size < w17.heap.size := by omega
  have lxaw17 : w6.heap.size < w17.heap.size := by omega
  have lIw17 : w9.heap.size < w17.heap.size := by omega
  go_wp2_with fail
  refine (markIntS_any _ _ _ _ _ _ _ oxf (by rw [ints_length]; omega) (by omega) (by omega)).mono ?_
  rintro e w18 ⟨rfl, oxf, gw18⟩
  simp only [ints_length] at oxf
  have mw18 : Mid (w6.heap.size + 1) (w7.heap.size) w17 w18 := Mid.of_grown gw18 (fun g hg => by have := oxf.lt g hg; omega)
  clear gw18
  have tq := cells4_mid mw18 (by omega) (by omega) pa0 pa1 pa2 pa3
  clear pa0 pa1 pa2 pa3
  obtain ⟨pa0, pa1, pa2, pa3⟩ := tq
  have tq := cells4_mid mw18 (by omega) (by omega) R0 R1 R2 R3
  clear R0 R1 R2 R3
  obtain ⟨R0, R1, R2, R3⟩ := tq
  have tq := cells4_mid mw18 (by omega) (by omega) xa0 xa1 xa2 xa3
  clear xa0 xa1 xa2 xa3
  obtain ⟨xa0, xa1, xa2, xa3⟩ := tq
  have tq := cells4_mid mw18 (by omega) (by omega) I0 I1 I2 I3
  clear I0 I1 I2 I3
  obtain ⟨I0, I1, I2, I3⟩ := tq
  replace oR := oR.mid mw18 (by omega)
  replace oxs := oxs.mid mw18 (by omega)
  replace oI := oI.mid mw18 (by omega)
  have sw18 : w17.heap.size ≤ w18.heap.size := mw18.size
  have Bw18 : Below w.heap.size w w18 := Bw17.trans (mw18.below (by omega) (by omega))
  replace hw0 : w.heap.size ≤ w18.heap.size := by omega
  clear mw18
  have lpaw18 : w.heap.size < w18.heap.size := by omega
  have lRw18 : w5.heap.size < w18.heap.size := by omega
  have lxaw18 : w6.heap.size < w18.heap.size := by omega
  have lIw18 : w9.heap.size < w18.heap.size := by omega
  go_wp2_with fail
  refine (markIntS_any _ _ _ _ _ _ _ oxs (by rw [ints_length]; omega) (by omega) (by omega)).mono ?_
  rintro e w19 ⟨rfl, oxs, gw19⟩
  simp only [ints_length] at oxs
  have mw19 : Mid (w7.heap.size) (w8.heap.size) w18 w19 := Mid.of_grown gw19 (fun g hg => by have := oxs.lt g hg; omega)
  clear gw19
  have tq := cells4_mid mw19 (by omega) (by omega) pa0 pa1 pa2 pa3
  clear pa0 pa1 pa2 pa3
  obtain ⟨pa0, pa1, pa2, pa3⟩ := tq
  have tq := cells4_mid mw19 (by omega) (by omega) R0 R1 R2 R3
  clear R0 R1 R2 R3
  obtain ⟨R0, R1, R2, R3⟩ := tq
  have tq := cells4_mid mw19 (by omega) (by omega) xa0 xa1 xa2 xa3
  clear xa0 xa1 xa2 xa3
  obtain ⟨xa0, xa1, xa2, xa3⟩ := tq
  have tq := cells4_mid mw19 (by omega) (by omega) I0 I1 I2 I3
  clear I0 I1 I2 I3
  obtain ⟨I0, I1, I2, I3⟩ := tq
  replace oR := oR.mid mw19 (by omega)
  replace oI := oI.mid mw19 (by omega)
  have sw19 : w18.heap.size ≤ w19.heap.size := mw19.size
  have Bw19 : Below w.heap.size w w19 := Bw18.trans (mw19.below (by omega) (by omega))
  replace hw0 : w.heap.size ≤ w19.heap.size := by omega
  clear mw19
  have lpaw19 : w.heap.size < w19.heap.size := by omega
  have lRw19 : w5.heap.size < w19.heap.size := by omega
  have lxaw19 : w6.heap.size < w19.heap.size := by omega
  have lIw19 : w9.heap.size < w19.heap.size := by omega
  go_wp2_with fail
  refine (eqBox_any _ _ (askD ba xsf xss) (askD ba xsf xss) w19 (oI.rdII) (oR.rdII)).mono ?_
  rintro e w20 ⟨rfl, dw20⟩
  have BB : Below w19.heap.size w19 w20 := dw20
  have sw20 : w19.heap.size ≤ w20.heap.size := BB.size
  replace hw0 : w.heap.size ≤ w20.heap.size := by omega
  have tq := cells4_kept BB (by omega) pa0 pa1 pa2 pa3
  clear pa0 pa1 pa2 pa3
  obtain ⟨pa0, pa1, pa2, pa3⟩ := tq
  have tq := cells4_kept BB (by omega) R0 R1 R2 R3
  clear R0 R1 R2 R3
  obtain ⟨R0, R1, R2, R3⟩ := tq
  have tq := cells4_kept BB (by omega) xa0 xa1 xa2 xa3
  clear xa0 xa1 xa2 xa3
  obtain ⟨xa0, xa1, xa2, xa3⟩ := tq
  have tq := cells4_kept BB (by omega) I0 I1 I2 I3
  clear I0 I1 I2 I3
  obtain ⟨I0, I1, I2, I3⟩ := tq
  replace oR := oR.kept BB (by omega)
  replace oI := oI.kept BB (by omega)
  have Bw20 : Below w.heap.size w w20 := Bw19.trans (BB.mono Bw19.size)
  clear BB
  have lpaw20 : w.heap.size < w20.heap.size := by omega
  have lRw20 : w5.heap.size < w20.heap.size := by omega
  have lxaw20 : w6.heap.size < w20.heap.size := by omega
  have lIw20 : w9.heap.size < w20.heap.size := by omega
  go_wp2_with fail
  refine (markBox_any _ _ _ _ _ _ _ _ _ _ _ _ oI (by omega) (by omega) (by omega) (by omega)).mono ?_
  rintro e w21 ⟨rfl, oI, mw21⟩
  have tq := cells4_mid mw21 (by omega) (by omega) pa0 pa1 pa2 pa3
  clear pa0 pa1 pa2 pa3
  obtain ⟨pa0, pa1, pa2, pa3⟩ := tq
  have tq := cells4_mid mw21 (by omega) (by omega) R0 R1 R2 R3
  clear R0 R1 R2 R3
  obtain ⟨R0, R1, R2, R3⟩ := tq
  have tq := cells4_mid mw21 (by omega) (by omega) xa0 xa1 xa2 xa3
  clear xa0 xa1 xa2 xa3
  obtain ⟨xa0, xa1, xa2, xa3⟩ := tq
  have tq := cells4_mid mw21 (by omega) (by omega) I0 I1 I2 I3
  clear I0 I1 I2 I3
  obtain ⟨I0, I1, I2, I3⟩ := tq
  replace oR := oR.mid mw21 (by omega)
  have sw21 : w20.heap.size ≤ w21.heap.size := mw21.size
  have Bw21 : Below w.heap.size w w21 := Bw20.trans (mw21.below (by omega) (by omega))
  replace hw0 : w.heap.size ≤ w21.heap.size := by omega
  clear mw21
  have lpaw21 : w.heap.size < w21.heap.size := by omega
  have lRw21 : w5.heap.size < w21.heap.size := by omega
  have lxaw21 : w6.heap.size < w21.heap.size := by omega
  have lIw21 : w9.heap.size < w21.heap.size := by omega
  go_wp2_with fail
  refine (heldBox_any _ _ _ _ _ _ _ (oI.rdII) (by omega) (by omega) (by omega)).mono ?_
  rintro e w22 ⟨rfl, bw22⟩
  have BB : Below w21.heap.size w21 w22 := bw22
  have sw22 : w21.heap.size ≤ w22.heap.size := BB.size
  replace hw0 : w.heap.size ≤ w22.heap.size := by omega
  have tq := cells4_kept BB (by omega) pa0 pa1 pa2 pa3
  clear pa0 pa1 pa2 pa3
  obtain ⟨pa0, pa1, pa2, pa3⟩ := tq
  have tq := cells4_kept BB (by omega) R0 R1 R2 R3
  clear R0 R1 R2 R3
  obtain ⟨R0, R1, R2, R3⟩ := tq
  have tq := cells4_kept BB (by omega) xa0 xa1 xa2 xa3
  clear xa0 xa1 xa2 xa3
  obtain ⟨xa0, xa1, xa2, xa3⟩ := tq
  have tq := cells4_kept BB (by omega) I0 I1 I2 I3
  clear I0 I1 I2 I3
  obtain ⟨I0, I1, I2, I3⟩ := tq
  replace oR := oR.kept BB (by omega)
  replace oI := oI.kept BB (by omega)
  have Bw22 : Below w.heap.size w w22 := Bw21.trans (BB.mono Bw21.size)
  clear BB
  have lpaw22 : w.heap.size < w22.heap.size := by omega
  have lRw22 : w5.heap.size < w22.heap.size := by omega
  have lxaw22 : w6.heap.size < w22.heap.size := by omega
  have lIw22 : w9.heap.size < w22.heap.size := by omega
  go_wp2_with fail
  refine (toBox_any va ba.X ba.Y ba.Whole ba.Rows w22 (ha.kept (Nat.le_refl _) Bw22) hsa).mono ?_
  rintro e w23 ⟨ata, cta, zta, rfl, ota, bw23⟩
  have BB : Below w22.heap.size w22 w23 := bw23
  have sw23 : w22.heap.size ≤ w23.heap.size := BB.size
  replace hw0 : w.heap.size ≤ w23.heap.size := by omega
  have tq := cells4_kept BB (by omega) pa0 pa1 pa2 pa3
  clear pa0 pa1 pa2 pa3
  obtain ⟨pa0, pa1, pa2, pa3⟩ := tq
  have tq := cells4_kept BB (by omega) R0 R1 R2 R3
  clear R0 R1 R2 R3
  obtain ⟨R0, R1, R2, R3⟩ := tq
  have tq := cells4_kept BB (by omega) xa0 xa1 xa2 xa3
  clear xa0 xa1 xa2 xa3
  obtain ⟨xa0, xa1, xa2, xa3⟩ := tq
  have tq := cells4_kept BB (by omega) I0 I1 I2 I3
  clear I0 I1 I2 I3
  obtain ⟨I0, I1, I2, I3⟩ := tq
  replace oR := oR.kept BB (by omega)
  replace oI := oI.kept BB (by omega)
  have Bw23 : Below w.heap.size w w23 := Bw22.trans (BB.mono Bw22.size)
  clear BB
  have lpaw23 : w.heap.size < w23.heap.size := by omega
  have lRw23 : w5.heap.size < w23.heap.size := by omega
  have lxaw23 : w6.heap.size < w23.heap.size := by omega
  have lIw23 : w9.heap.size < w23.heap.size := by omega
  go_wp2_with fail
  refine (toIntS_any _ xsf w23 (hf.kept (Nat.le_refl _) Bw23) hlf).mono ?_
  rintro e w24 ⟨atf, ctf, rfl, otf, bw24⟩
  have BB : Below w23.heap.size w23 w24 := bw24
  have sw24 : w23.heap.size ≤ w24.heap.size := BB.size
  replace hw0 : w.heap.size ≤ w24.heap.size := by omega
  have tq := cells4_kept BB (by omega) pa0 pa1 pa2 pa3
  clear pa0 pa1 pa2 pa3
  obtain ⟨pa0, pa1, pa2, pa3⟩ := tq
  have tq := cells4_kept BB (by omega) R0 R1 R2 R3
  clear R0 R1 R2 R3
  obtain ⟨R0, R1, R2, R3⟩ := tq
  have tq := cells4_kept BB (by omega) xa0 xa1 xa2 xa3
  clear xa0 xa1 xa2 xa3
  obtain ⟨xa0, xa1, xa2, xa3⟩ := tq
  have tq := cells4_kept BB (by omega) I0 I1 I2 I3
  clear I0 I1 I2 I3
  obtain ⟨I0, I1, I2, I3⟩ := tq
  replace oR := oR.kept BB (by omega)
  replace oI := oI.kept BB (by omega)
  replace ota := ota.kept BB (by omega)
  have Bw24 : Below w.heap.size w w24 := Bw23.trans (BB.mono Bw23.size)
  clear BB
  have lpaw24 : w.heap.size < w24.heap.size := by omega
  have lRw24 : w5.heap.size < w24.heap.size := by omega
  have lxaw24 : w6.heap.size < w24.heap.size := by omega
  have lIw24 : w9.heap.size < w24.heap.size := by omega
  go_wp2_with fail
  refine (toIntS_any _ xss w24 (hs.kept (Nat.le_refl _) Bw24) hls).mono ?_
  rintro e w25 ⟨ats, cts, rfl, ots, bw25⟩
  have BB : Below w24.heap.size w24 w25 := bw25
  have sw25 : w24.heap.size ≤ w25.heap.size := BB.size
  replace hw0 : w.heap.size ≤ w25.heap.size := by omega
  have tq := cells4_kept BB (by omega) pa0 pa1 pa2 pa3
  clear pa0 pa1 pa2 pa3
  obtain ⟨pa0, pa1, pa2, pa3⟩ := tq
  have tq := cells4_kept BB (by omega) R0 R1 R2 R3
  clear R0 R1 R2 R3
  obtain ⟨R0, R1, R2, R3⟩ := tq
  have tq := cells4_kept BB (by omega) xa0 xa1 xa2 xa3
  clear xa0 xa1 xa2 xa3
  obtain ⟨xa0, xa1, xa2, xa3⟩ := tq
  have tq := cells4_kept BB (by omega) I0 I1 I2 I3
  clear I0 I1 I2 I3
  obtain ⟨I0, I1, I2, I3⟩ := tq
  replace oR := oR.kept BB (by omega)
  replace oI := oI.kept BB (by omega)
  replace ota := ota.kept BB (by omega)
  replace otf := otf.kept BB (by omega)
  have Bw25 : Below w.heap.size w w25 := Bw24.trans (BB.mono Bw24.size)
  clear BB
  have lpaw25 : w.heap.size < w25.heap.size := by omega
  have lRw25 : w5.heap.size < w25.heap.size := by omega
  have lxaw25 : w6.heap.size < w25.heap.size := by omega
  have lIw25 : w9.heap.size < w25.heap.size := by omega
  go_wp2_with fail
  refine (implAskAgain_any _ ba _ xsf _ xss w25 (ota.rdII) (otf.rdI) (ots.rdI)).mono ?_
  rintro e w26 ⟨aJ, cJ, zJ, rfl, oJ, bw26⟩
  have BB : Below w25.heap.size w25 w26 := bw26
  have sw26 : w25.heap.size ≤ w26.heap.size := BB.size
  replace hw0 : w.heap.size ≤ w26.heap.size := by omega
  have tq := cells4_kept BB (by omega) pa0 pa1 pa2 pa3
  clear pa0 pa1 pa2 pa3
  obtain ⟨pa0, pa1, pa2, pa3⟩ := tq
  have tq := cells4_kept BB (by omega) R0 R1 R2 R3
  clear R0 R1 R2 R3
  obtain ⟨R0, R1, R2, R3⟩ := tq
  have tq := cells4_kept BB (by omega) xa0 xa1 xa2 xa3
  clear xa0 xa1 xa2 xa3
  obtain ⟨xa0, xa1, xa2, xa3⟩ := tq
  have tq := cells4_kept BB (by omega) I0 I1 I2 I3
  clear I0 I1 I2 I3
  obtain ⟨I0, I1, I2, I3⟩ := tq
  replace oR := oR.kept BB (by omega)
  replace oI := oI.kept BB (by omega)
  replace ota := ota.kept BB (by omega)
  replace otf := otf.kept BB (by omega)
  replace ots := ots.kept BB (by omega)
  have Bw26 : Below w.heap.size w w26 := Bw25.trans (BB.mono Bw25.size)
  clear BB
  have lpaw26 : w.heap.size < w26.heap.size := by omega
  have lRw26 : w5.heap.size < w26.heap.size := by omega
  have lxaw26 : w6.heap.size < w26.heap.size := by omega
  have lIw26 : w9.heap.size < w26.heap.size := by omega
  go_wp2_with fail
  refine (eqBox_any _ _ (askD ba xsf xss) (askD ba xsf xss) (w26.alloc (.cells #[.int .i64 (askD ba xsf xss).X, .int .i64 (askD ba xsf xss).Y, .int .i64 (askD ba xsf xss).Whole, .slice aJ (askD ba xsf xss).Rows.length cJ] 25)) ((oJ.rdII.kept (Nat.le_refl _) (by repeat' (first | with_reducible exact Below.refl _ _ | with_reducible assumption | with_reducible apply Below.alloc | with_reducible apply Below.setCell | with_reducible apply Below.drew | exact Nat.le_refl _ | omega | (simp only [World.size_alloc, World.size_setCell]; omega))))) ((oR.rdII.kept (Nat.le_refl _) (by repeat' (first | with_reducible exact Below.refl _ _ | with_reducible assumption | with_reducible apply Below.alloc | with_reducible apply Below.setCell | with_reducible apply Below.drew | exact Nat.le_refl _ | omega | (simp only [World.size_alloc, World.size_setCell]; omega)))))).mono ?_
  rintro e w27 ⟨rfl, dw27⟩
  have BB : Below w26.heap.size w26 w27 := Below.trans (by repeat' (first | with_reducible exact Below.refl _ _ | with_reducible assumption | with_reducible apply Below.alloc | with_reducible apply Below.setCell | with_reducible apply Below.drew | exact Nat.le_refl _ | omega | (simp only [World.size_alloc, World.size_setCell]; omega))) (dw27.mono (by first | exact Nat.le_refl _ | omega | (simp only [World.size_alloc, World.size_setCell]; omega)))
  have sw27 : w26.heap.size ≤ w27.heap.size := BB.size
  have tw27 := dw27.size
  simp only [World.size_alloc] at tw27
  obtain ⟨J0, J1, J2, J3⟩ : w27.cell? ⟨w26.heap.size, 0, none⟩ = some (.int .i64 (askD ba xsf xss).X) ∧ w27.cell? ⟨w26.heap.size, 1, none⟩ = some (.int .i64 (askD ba xsf xss).Y) ∧ w27.cell? ⟨w26.heap.size, 2, none⟩ = some (.int .i64 (askD ba xsf xss).Whole) ∧ w27.cell? ⟨w26.heap.size, 3, none⟩ = some (.slice aJ (askD ba xsf xss).Rows.length cJ) := by
    obtain ⟨hc, _⟩ := bcell dw27
    refine ⟨?_, ?_, ?_, ?_⟩ <;> (rw [hc _ _ (by simp only [World.size_alloc]; omega)]; simp)
  replace hw0 : w.heap.size ≤ w27.heap.size := by omega
  have tq := cells4_kept BB (by omega) pa0 pa1 pa2 pa3
  clear pa0 pa1 pa2 pa3
  obtain ⟨pa0, pa1, pa2, pa3⟩ := tq
  have tq := cells4_kept BB (by omega) R0 R1 R2 R3
  clear R0 R1 R2 R3
  obtain ⟨R0, R1, R2, R3⟩ := tq
  have tq := cells4_kept BB (by omega) xa0 xa1 xa2 xa3
  clear xa0 xa1 xa2 xa3
  obtain ⟨xa0, xa1, xa2, xa3⟩ := tq
  have tq := cells4_kept BB (by omega) I0 I1 I2 I3
  clear I0 I1 I2 I3
  obtain ⟨I0, I1, I2, I3⟩ := tq
  replace oR := oR.kept BB (by omega)
  replace oI := oI.kept BB (by omega)
  replace ota := ota.kept BB (by omega)
  replace otf := otf.kept BB (by omega)
  replace ots := ots.kept BB (by omega)
  replace oJ := oJ.kept BB (by omega)
  have Bw27 : Below w.heap.size w w27 := Bw26.trans (BB.mono Bw26.size)
  clear BB
  have lpaw27 : w.heap.size < w27.heap.size := by omega
  have lRw27 : w5.heap.size < w27.heap.size := by omega
  have lxaw27 : w6.heap.size < w27.heap.size := by omega
  have lIw27 : w9.heap.size < w27.heap.size := by omega
  have lJw27 : w26.heap.size < w27.heap.size := by omega
  go_wp2_with fail
  refine (heldBox_any _ _ _ _ _ _ _ (oI.rdII) (by omega) (by omega) (by omega)).mono ?_
  rintro e w28 ⟨rfl, bw28⟩
  have BB : Below w27.heap.size w27 w28 := bw28
  have sw28 : w27.heap.size ≤ w28.heap.size := BB.size
  replace hw0 : w.heap.size ≤ w28.heap.size := by omega
  have tq := cells4_kept BB (by omega) pa0 pa1 pa2 pa3
  clear pa0 pa1 pa2 pa3
  obtain ⟨pa0, pa1, pa2, pa3⟩ := tq
  have tq := cells4_kept BB (by omega) R0 R1 R2 R3
  clear R0 R1 R2 R3
  obtain ⟨R0, R1, R2, R3⟩ := tq
  have tq := cells4_kept BB (by omega) xa0 xa1 xa2 xa3
  clear xa0 xa1 xa2 xa3
  obtain ⟨xa0, xa1, xa2, xa3⟩ := tq
  have tq := cells4_kept BB (by omega) I0 I1 I2 I3
  clear I0 I1 I2 I3
  obtain ⟨I0, I1, I2, I3⟩ := tq
  have tq := cells4_kept BB (by omega) J0 J1 J2 J3
  clear J0 J1 J2 J3
  obtain ⟨J0, J1, J2, J3⟩ := tq
  replace oR := oR.kept BB (by omega)
  replace oI := oI.kept BB (by omega)
  replace ota := ota.kept BB (by omega)
  replace otf := otf.kept BB (by omega)
  replace ots := ots.kept BB (by omega)
  replace oJ := oJ.kept BB (by omega)
  have Bw28 : Below w.heap.size w w28 := Bw27.trans (BB.mono Bw27.size)
  clear BB
  have lpaw28 : w.heap.size < w28.heap.size := by omega
  have lRw28 : w5.heap.size < w28.heap.size := by omega
  have lxaw28 : w6.heap.size < w28.heap.size := by omega
  have lIw28 : w9.heap.size < w28.heap.size := by omega
  have lJw28 : w26.heap.size < w28.heap.size := by omega
  go_wp2
  go_ret
  exact ⟨rfl, Bw28⟩

/-! ### The row -/
set_option maxRecDepth 100000 in
theorem fnExactAskAgain_lifted (os : Os) (started : os.Started) (H : Type) (enc : TypeId × Value → H) :
    ReturnsInHanded {} Try.checked os 8 .any (Rows.fnExactAskAgainSpec.pre6 enc Try.prog Try.f8 Rows.fnExactAskAgainRow.domain false) (Rows.fnExactAskAgainSpec.post enc Try.prog Try.f8 false true false false) := by
  refine returnsInHanded_of_change (C := Try.checked) Try.own started (by kernel_rfl) Try.func8
    (ChangeSpec.witness6 (enc := enc) (C := Try.checked) false ⟨#[], #[.agg #[.int .i64 0, .int .i64 0, .int .i64 0, .slice none 0 0], .slice none 0 0, .slice none 0 0], []⟩ 8 (by kernel_rfl) (by kernel_rfl) (by kernel_rfl) (by kernel_rfl)) ?_
  intro W base args ds gs before hval0 hW hcnd _
  have hval : ∀ (j : Nat) t v, Try.f8.params[j]? = some t → args[j]? = some v → Value.okWide Try.prog W .any base t v := hval0
  have hW' := hW
  obtain ⟨p, q, hA0, hV, rfl, hfz, hnd⟩ := hW
  have hA : DataW.TrodAll enc Try.prog W 0 (fun _ => true) true Try.f8.params.toList args.toList ds p := hA0
  rw [Try.params8] at hA hval
  obtain ⟨v0, vs0, d0, ds0, p0, q0, hargs, rfl, rfl, h0, r0⟩ := trodAll_cons hA
  obtain ⟨v1, vs1, d1, ds1, p1, q1, rfl, rfl, rfl, h1, r1⟩ := trodAll_cons r0
  obtain ⟨v2, vs2, d2, ds2, p2, q2, rfl, rfl, rfl, h2, r2⟩ := trodAll_cons r1
  obtain ⟨rfl, rfl, rfl⟩ := trodAll_nil r2
  obtain rfl : args = #[v0, v1, v2] := by cases args; simp_all
  obtain ⟨bx0, vr0, rfl, hx0, wx0⟩ := box_of (hval 0 40 v0 rfl rfl) h0
  obtain ⟨xs1, hx1⟩ := rdI_of Try.underlying22 Try.underlying3 Try.cellsInt (hval 1 22 v1 rfl rfl) h1
  obtain ⟨xs2, hx2⟩ := rdI_of Try.underlying22 Try.underlying3 Try.cellsInt (hval 2 22 v2 rfl rfl) h2
  clear hA0 hval0
  refine (fnExactAskAgain_walk vr0 bx0 _ xs1 _ xs2 W hx0 hx1 hx2).mono fun e W' ⟨he, hb⟩ => ?_
  subst he
  exact ⟨_, rfl, law_post Try.laidOut (by kernel_rfl) rfl Try.underlying4 rfl (fun ds hd => by match ds, hd with | [e0, e1, e2], _ => rfl) hW' hb⟩

theorem fnExactAskAgain_holds : Rows.FnExactAskAgainSaid :=
  OpenClaim.holds_of_wide 8 Try.f8 rfl rfl rfl rfl rfl rfl rfl ⟨rfl, rfl, rfl, rfl, rfl⟩ rfl rfl rfl rfl rfl (by kernel_rfl) Try.func8 (by kernel_rfl)
    (of_decide_eq_true (by kernel_rfl)) (by unfold Func.isWrapper; first | (rw [if_pos (by decide +kernel)]; kernel_rfl) | (rw [if_neg (by decide +kernel)]; exact ⟨rfl, rfl⟩))
    (fun os started H enc _ => fnExactAskAgain_lifted os started H enc)

end Go.Proofs.Ytjedajfpohhojaa
