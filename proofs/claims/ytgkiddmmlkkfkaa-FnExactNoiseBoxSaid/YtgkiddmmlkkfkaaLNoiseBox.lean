/- NoiseBox: the program's answer is the reference's, for all arguments; nothing is shared. -/
import Derived.Test.YtgkiddmmlkkfkaaFnNoise
import Derived.Test.YtgkiddmmlkkfkaaRowB
import Derived.Test.YtgkiddmmlkkfkaaHarD
set_option linter.unusedSimpArgs false
set_option linter.unusedVariables false
namespace Go.Proofs.Ytgkiddmmlkkfkaa
open Go.ChangeShapes Go.WideShapes Go.ChangeAt Go.RowKit
open Go.ChangeMaps (open_string shut_string)

set_option maxHeartbeats 3000000 in
theorem fnExactNoiseBox_walk (x : Int) (y : Int) (z : Int) (w : World) :
    Calls Try.prog 11 #[.int .i64 x, .int .i64 y, .int .i64 z] w fun e w' => e = .returned (.bool true) ∧ Below w.heap.size w w' := by
  have hw0 : w.heap.size ≤ w.heap.size := Nat.le_refl _
  go_enter Try.func11, Try.ntmps11
  go_wp2_with fail
  refine (specNoiseBox_any x y z w ).mono ?_
  rintro e w1 ⟨aR, cR, zR, rfl, oR, bw1⟩
  have BB : Below w.heap.size w w1 := bw1
  have sw1 : w.heap.size ≤ w1.heap.size := BB.size
  replace hw0 : w.heap.size ≤ w1.heap.size := by omega
  have Bw1 : Below w.heap.size w w1 := BB
  clear BB
  go_wp2_with fail
  refine (implNoiseBox_any x y z (w1.alloc (.cells #[.int .i64 (noiseD x y z).X, .int .i64 (noiseD x y z).Y, .int .i64 (noiseD x y z).Whole, .slice aR (noiseD x y z).Rows.length cR] 51)) ).mono ?_
  rintro e w2 ⟨aI, cI, zI, rfl, oI, bw2⟩
  simp only [World.size_alloc] at oI
  have BB : Below w1.heap.size w1 w2 := Below.trans (by repeat' (first | with_reducible exact Below.refl _ _ | with_reducible assumption | with_reducible apply Below.alloc | with_reducible apply Below.setCell | with_reducible apply Below.drew | exact Nat.le_refl _ | omega | (simp only [World.size_alloc, World.size_setCell]; omega))) (bw2.mono (by first | exact Nat.le_refl _ | omega | (simp only [World.size_alloc, World.size_setCell]; omega)))
  have sw2 : w1.heap.size ≤ w2.heap.size := BB.size
  have tw2 := bw2.size
  simp only [World.size_alloc] at tw2
  obtain ⟨R0, R1, R2, R3⟩ : w2.cell? ⟨w1.heap.size, 0, none⟩ = some (.int .i64 (noiseD x y z).X) ∧ w2.cell? ⟨w1.heap.size, 1, none⟩ = some (.int .i64 (noiseD x y z).Y) ∧ w2.cell? ⟨w1.heap.size, 2, none⟩ = some (.int .i64 (noiseD x y z).Whole) ∧ w2.cell? ⟨w1.heap.size, 3, none⟩ = some (.slice aR (noiseD x y z).Rows.length cR) := by
    obtain ⟨hc, _⟩ := bcell bw2
    refine ⟨?_, ?_, ?_, ?_⟩ <;> (rw [hc _ _ (by simp only [World.size_alloc]; omega)]; simp)
  replace hw0 : w.heap.size ≤ w2.heap.size := by omega
  replace oR := oR.kept BB (by omega)
  have Bw2 : Below w.heap.size w w2 := Bw1.trans (BB.mono Bw1.size)
  clear BB
  have lRw2 : w1.heap.size < w2.heap.size := by omega
  have hz0 := noiseD_size x y z
  have e1 : ((noiseOk x y z) != (noiseOk x y z)) = false := by simp
  go_wp2_with fail
  refine (eqBox_any _ _ (noiseD x y z) (noiseD x y z) (w2.alloc (.cells #[.int .i64 (noiseD x y z).X, .int .i64 (noiseD x y z).Y, .int .i64 (noiseD x y z).Whole, .slice aI (noiseD x y z).Rows.length cI] 51)) ((oI.rdII.kept (Nat.le_refl _) (by repeat' (first | with_reducible exact Below.refl _ _ | with_reducible assumption | with_reducible apply Below.alloc | with_reducible apply Below.setCell | with_reducible apply Below.drew | exact Nat.le_refl _ | omega | (simp only [World.size_alloc, World.size_setCell]; omega))))) ((oR.rdII.kept (Nat.le_refl _) (by repeat' (first | with_reducible exact Below.refl _ _ | with_reducible assumption | with_reducible apply Below.alloc | with_reducible apply Below.setCell | with_reducible apply Below.drew | exact Nat.le_refl _ | omega | (simp only [World.size_alloc, World.size_setCell]; omega)))))).mono ?_
  rintro e w3 ⟨rfl, dw3⟩
  have BB : Below w2.heap.size w2 w3 := Below.trans (by repeat' (first | with_reducible exact Below.refl _ _ | with_reducible assumption | with_reducible apply Below.alloc | with_reducible apply Below.setCell | with_reducible apply Below.drew | exact Nat.le_refl _ | omega | (simp only [World.size_alloc, World.size_setCell]; omega))) (dw3.mono (by first | exact Nat.le_refl _ | omega | (simp only [World.size_alloc, World.size_setCell]; omega)))
  have sw3 : w2.heap.size ≤ w3.heap.size := BB.size
  have tw3 := dw3.size
  simp only [World.size_alloc] at tw3
  obtain ⟨I0, I1, I2, I3⟩ : w3.cell? ⟨w2.heap.size, 0, none⟩ = some (.int .i64 (noiseD x y z).X) ∧ w3.cell? ⟨w2.heap.size, 1, none⟩ = some (.int .i64 (noiseD x y z).Y) ∧ w3.cell? ⟨w2.heap.size, 2, none⟩ = some (.int .i64 (noiseD x y z).Whole) ∧ w3.cell? ⟨w2.heap.size, 3, none⟩ = some (.slice aI (noiseD x y z).Rows.length cI) := by
    obtain ⟨hc, _⟩ := bcell dw3
    refine ⟨?_, ?_, ?_, ?_⟩ <;> (rw [hc _ _ (by simp only [World.size_alloc]; omega)]; simp)
  replace hw0 : w.heap.size ≤ w3.heap.size := by omega
  have tq := cells4_kept BB (by omega) R0 R1 R2 R3
  clear R0 R1 R2 R3
  obtain ⟨R0, R1, R2, R3⟩ := tq
  replace oR := oR.kept BB (by omega)
  replace oI := oI.kept BB (by omega)
  have Bw3 : Below w.heap.size w w3 := Bw2.trans (BB.mono Bw2.size)
  clear BB
  have lRw3 : w1.heap.size < w3.heap.size := by omega
  have lIw3 : w2.heap.size < w3.heap.size := by omega
  go_wp2_with fail
  refine (markBox_any _ _ _ _ _ _ _ _ _ _ _ _ oI (by omega) (by omega) (by omega) (by omega)).mono ?_
  rintro e w4 ⟨rfl, oI, mw4⟩
  have tq := cells4_mid mw4 (by omega) (by omega) R0 R1 R2 R3
  clear R0 R1 R2 R3
  obtain ⟨R0, R1, R2, R3⟩ := tq
  have tq := cells4_mid mw4 (by omega) (by omega) I0 I1 I2 I3
  clear I0 I1 I2 I3
  obtain ⟨I0, I1, I2, I3⟩ := tq
  replace oR := oR.mid mw4 (by omega)
  have sw4 : w3.heap.size ≤ w4.heap.size := mw4.size
  have Bw4 : Below w.heap.size w w4 := Bw3.trans (mw4.below (by omega) (by omega))
  replace hw0 : w.heap.size ≤ w4.heap.size := by omega
  clear mw4
  have lRw4 : w1.heap.size < w4.heap.size := by omega
  have lIw4 : w2.heap.size < w4.heap.size := by omega
  go_wp2_with fail
  refine (heldBox_any _ _ _ _ _ _ _ (oI.rdII) (by omega) (by omega) (by omega)).mono ?_
  rintro e w5 ⟨rfl, bw5⟩
  have BB : Below w4.heap.size w4 w5 := bw5
  have sw5 : w4.heap.size ≤ w5.heap.size := BB.size
  replace hw0 : w.heap.size ≤ w5.heap.size := by omega
  have tq := cells4_kept BB (by omega) R0 R1 R2 R3
  clear R0 R1 R2 R3
  obtain ⟨R0, R1, R2, R3⟩ := tq
  have tq := cells4_kept BB (by omega) I0 I1 I2 I3
  clear I0 I1 I2 I3
  obtain ⟨I0, I1, I2, I3⟩ := tq
  replace oR := oR.kept BB (by omega)
  replace oI := oI.kept BB (by omega)
  have Bw5 : Below w.heap.size w w5 := Bw4.trans (BB.mono Bw4.size)
  clear BB
  have lRw5 : w1.heap.size < w5.heap.size := by omega
  have lIw5 : w2.heap.size < w5.heap.size := by omega
  go_wp2_with fail
  refine (implNoiseBox_any x y z w5 ).mono ?_
  rintro e w6 ⟨aJ, cJ, zJ, rfl, oJ, bw6⟩
  have BB : Below w5.heap.size w5 w6 := bw6
  have sw6 : w5.heap.size ≤ w6.heap.size := BB.size
  replace hw0 : w.heap.size ≤ w6.heap.size := by omega
  have tq := cells4_kept BB (by omega) R0 R1 R2 R3
  clear R0 R1 R2 R3
  obtain ⟨R0, R1, R2, R3⟩ := tq
  have tq := cells4_kept BB (by omega) I0 I1 I2 I3
  clear I0 I1 I2 I3
  obtain ⟨I0, I1, I2, I3⟩ := tq
  replace oR := oR.kept BB (by omega)
  replace oI := oI.kept BB (by omega)
  have Bw6 : Below w.heap.size w w6 := Bw5.trans (BB.mono Bw5.size)
  clear BB
  have lRw6 : w1.heap.size < w6.heap.size := by omega
  have lIw6 : w2.heap.size < w6.heap.size := by omega
  go_wp2_with fail
  refine (eqBox_any _ _ (noiseD x y z) (noiseD x y z) (w6.alloc (.cells #[.int .i64 (noiseD x y z).X, .int .i64 (noiseD x y z).Y, .int .i64 (noiseD x y z).Whole, .slice aJ (noiseD x y z).Rows.length cJ] 51)) ((oJ.rdII.kept (Nat.le_refl _) (by repeat' (first | with_reducible exact Below.refl _ _ | with_reducible assumption | with_reducible apply Below.alloc | with_reducible apply Below.setCell | with_reducible apply Below.drew | exact Nat.le_refl _ | omega | (simp only [World.size_alloc, World.size_setCell]; omega))))) ((oR.rdII.kept (Nat.le_refl _) (by repeat' (first | with_reducible exact Below.refl _ _ | with_reducible assumption | with_reducible apply Below.alloc | with_reducible apply Below.setCell | with_reducible apply Below.drew | exact Nat.le_refl _ | omega | (simp only [World.size_alloc, World.size_setCell]; omega)))))).mono ?_
  rintro e w7 ⟨rfl, dw7⟩
  have BB : Below w6.heap.size w6 w7 := Below.trans (by repeat' (first | with_reducible exact Below.refl _ _ | with_reducible assumption | with_reducible apply Below.alloc | with_reducible apply Below.setCell | with_reducible apply Below.drew | exact Nat.le_refl _ | omega | (simp only [World.size_alloc, World.size_setCell]; omega))) (dw7.mono (by first | exact Nat.le_refl _ | omega | (simp only [World.size_alloc, World.size_setCell]; omega)))
  have sw7 : w6.heap.size ≤ w7.heap.size := BB.size
  have tw7 := dw7.size
  simp only [World.size_alloc] at tw7
  obtain ⟨J0, J1, J2, J3⟩ : w7.cell? ⟨w6.heap.size, 0, none⟩ = some (.int .i64 (noiseD x y z).X) ∧ w7.cell? ⟨w6.heap.size, 1, none⟩ = some (.int .i64 (noiseD x y z).Y) ∧ w7.cell? ⟨w6.heap.size, 2, none⟩ = some (.int .i64 (noiseD x y z).Whole) ∧ w7.cell? ⟨w6.heap.size, 3, none⟩ = some (.slice aJ (noiseD x y z).Rows.length cJ) := by
    obtain ⟨hc, _⟩ := bcell dw7
    refine ⟨?_, ?_, ?_, ?_⟩ <;> (rw [hc _ _ (by simp only [World.size_alloc]; omega)]; simp)
  replace hw0 : w.heap.size ≤ w7.heap.size := by omega
  have tq := cells4_kept BB (by omega) R0 R1 R2 R3
  clear R0 R1 R2 R3
  obtain ⟨R0, R1, R2, R3⟩ := tq
  have tq := cells4_kept BB (by omega) I0 I1 I2 I3
  clear I0 I1 I2 I3
  obtain ⟨I0, I1, I2, I3⟩ := tq
  replace oR := oR.kept BB (by omega)
  replace oI := oI.kept BB (by omega)
  replace oJ := oJ.kept BB (by omega)
  have Bw7 : Below w.heap.size w w7 := Bw6.trans (BB.mono Bw6.size)
  clear BB
  have lRw7 : w1.heap.size < w7.heap.size := by omega
  have lIw7 : w2.heap.size < w7.heap.size := by omega
  have lJw7 : w6.heap.size < w7.heap.size := by omega
  go_wp2_with fail
  refine (heldBox_any _ _ _ _ _ _ _ (oI.rdII) (by omega) (by omega) (by omega)).mono ?_
  rintro e w8 ⟨rfl, bw8⟩
  have BB : Below w7.heap.size w7 w8 := bw8
  have sw8 : w7.heap.size ≤ w8.heap.size := BB.size
  replace hw0 : w.heap.size ≤ w8.heap.size := by omega
  have tq := cells4_kept BB (by omega) R0 R1 R2 R3
  clear R0 R1 R2 R3
  obtain ⟨R0, R1, R2, R3⟩ := tq
  have tq := cells4_kept BB (by omega) I0 I1 I2 I3
  clear I0 I1 I2 I3
  obtain ⟨I0, I1, I2, I3⟩ := tq
  have tq := cells4_kept BB (by omega) J0 J1 J2 J3
  clear J0 J1 J2 J3
  obtain ⟨J0, J1, J2, J3⟩ := tq
  replace oR := oR.kept BB (by omega)
  replace oI := oI.kept BB (by omega)
  replace oJ := oJ.kept BB (by omega)
  have Bw8 : Below w.heap.size w w8 := Bw7.trans (BB.mono Bw7.size)
  clear BB
  have lRw8 : w1.heap.size < w8.heap.size := by omega
  have lIw8 : w2.heap.size < w8.heap.size := by omega
  have lJw8 : w6.heap.size < w8.heap.size := by omega
  go_wp2
  go_ret
  exact ⟨rfl, Bw8⟩

/-! ### The row -/
set_option maxRecDepth 100000 in
theorem fnExactNoiseBox_lifted (os : Os) (started : os.Started) (H : Type) (enc : TypeId × Value → H) :
    ReturnsInHanded {} Try.checked os 11 .any (Rows.fnExactNoiseBoxSpec.pre6 enc Try.prog Try.f11 Rows.fnExactNoiseBoxRow.domain false) (Rows.fnExactNoiseBoxSpec.post enc Try.prog Try.f11 false true false false) := by
  refine returnsInHanded_of_change (C := Try.checked) Try.own started (by kernel_rfl) Try.func11
    (ChangeSpec.witness6 (enc := enc) (C := Try.checked) false ⟨#[], #[.int .i64 0, .int .i64 0, .int .i64 0], []⟩ 8 (by kernel_rfl) (by kernel_rfl) (by kernel_rfl) (by kernel_rfl)) ?_
  intro W base args ds gs before hval0 hW hcnd _
  have hval : ∀ (j : Nat) t v, Try.f11.params[j]? = some t → args[j]? = some v → Value.okWide Try.prog W .any base t v := hval0
  have hW' := hW
  obtain ⟨p, q, hA0, hV, rfl, hfz, hnd⟩ := hW
  have hA : DataW.TrodAll enc Try.prog W 0 (fun _ => true) true Try.f11.params.toList args.toList ds p := hA0
  rw [Try.params11] at hA hval
  obtain ⟨v0, vs0, d0, ds0, p0, q0, hargs, rfl, rfl, h0, r0⟩ := trodAll_cons hA
  obtain ⟨v1, vs1, d1, ds1, p1, q1, rfl, rfl, rfl, h1, r1⟩ := trodAll_cons r0
  obtain ⟨v2, vs2, d2, ds2, p2, q2, rfl, rfl, rfl, h2, r2⟩ := trodAll_cons r1
  obtain ⟨rfl, rfl, rfl⟩ := trodAll_nil r2
  obtain rfl : args = #[v0, v1, v2] := by cases args; simp_all
  obtain ⟨x0, rfl, rfl, rfl, wx0⟩ := open_int Try.underlying3 (hval 0 3 v0 rfl rfl) h0
  obtain ⟨x1, rfl, rfl, rfl, wx1⟩ := open_int Try.underlying3 (hval 1 3 v1 rfl rfl) h1
  obtain ⟨x2, rfl, rfl, rfl, wx2⟩ := open_int Try.underlying3 (hval 2 3 v2 rfl rfl) h2
  clear hA0 hval0
  refine (fnExactNoiseBox_walk x0 x1 x2 W).mono fun e W' ⟨he, hb⟩ => ?_
  subst he
  exact ⟨_, rfl, law_post Try.laidOut (by kernel_rfl) rfl Try.underlying4 rfl (fun ds hd => by match ds, hd with | [e0, e1, e2], _ => rfl) hW' hb⟩

theorem fnExactNoiseBox_holds : Rows.FnExactNoiseBoxSaid :=
  OpenClaim.holds_of_wide 11 Try.f11 rfl rfl rfl rfl rfl rfl rfl ⟨rfl, rfl, rfl, rfl, rfl⟩ rfl rfl rfl rfl rfl (by kernel_rfl) Try.func11 (by kernel_rfl)
    (of_decide_eq_true (by kernel_rfl)) (by unfold Func.isWrapper; first | (rw [if_pos (by decide +kernel)]; kernel_rfl) | (rw [if_neg (by decide +kernel)]; exact ⟨rfl, rfl⟩))
    (fun os started H enc _ => fnExactNoiseBox_lifted os started H enc)

end Go.Proofs.Ytgkiddmmlkkfkaa
