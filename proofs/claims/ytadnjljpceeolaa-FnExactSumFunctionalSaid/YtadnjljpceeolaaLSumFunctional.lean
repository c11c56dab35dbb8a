/- SumFunctional: the program's answer is the reference's, for all arguments; nothing is shared. -/
import Derived.Test.YtadnjljpceeolaaFnSumF
import Derived.Test.YtadnjljpceeolaaHarE
import Derived.Test.YtadnjljpceeolaaRowB
import Derived.Test.YtadnjljpceeolaaHarD
set_option linter.unusedSimpArgs false
set_option linter.unusedVariables false
namespace Go.Proofs.Ytadnjljpceeolaa
open Go.ChangeShapes Go.WideShapes Go.ChangeAt Go.RowKit
open Go.ChangeMaps (open_string shut_string)

set_option maxHeartbeats 3000000 in
theorem fnExactSumFunctional_walk (x : Int) (y : Int) (fa fb : Int) (sa sb : Int) (m : Int) (w : World) :
    Calls Try.prog 9 #[.int .i64 x, .int .i64 y, .agg #[.int .i64 fa, .int .i64 fb], .agg #[.int .i64 sa, .int .i64 sb], .int .i64 m] w fun e w' => e = .returned (.bool true) ∧ Below w.heap.size w w' := by
  have hw0 : w.heap.size ≤ w.heap.size := Nat.le_refl _
  go_enter Try.func9, Try.ntmps9
  go_wp2_with fail
  obtain ⟨w1, hw1⟩ : ∃ W : World, W = ((w.alloc (.cells #[.int .i64 fa, .int .i64 fb] 67)).alloc (.cells #[.int .i64 sa, .int .i64 sb] 67)) := ⟨_, rfl⟩
  rw [← hw1]
  have bw1 : Below ((w.alloc (.cells #[.int .i64 fa, .int .i64 fb] 67)).alloc (.cells #[.int .i64 sa, .int .i64 sb] 67)).heap.size ((w.alloc (.cells #[.int .i64 fa, .int .i64 fb] 67)).alloc (.cells #[.int .i64 sa, .int .i64 sb] 67)) w1 := by rw [hw1]; exact Below.refl _ _
  clear hw1
  have BB : Below w.heap.size w w1 := Below.trans (by repeat' (first | with_reducible exact Below.refl _ _ | with_reducible assumption | with_reducible apply Below.alloc | with_reducible apply Below.setCell | with_reducible apply Below.drew | exact Nat.le_refl _ | omega | (simp only [World.size_alloc, World.size_setCell]; omega))) (bw1.mono (by first | exact Nat.le_refl _ | omega | (simp only [World.size_alloc, World.size_setCell]; omega)))
  have sw1 : w.heap.size ≤ w1.heap.size := BB.size
  have tw1 := bw1.size
  simp only [World.size_alloc] at tw1
  obtain ⟨pf0, pf1⟩ : w1.cell? ⟨w.heap.size, 0, none⟩ = some (.int .i64 fa) ∧ w1.cell? ⟨w.heap.size, 1, none⟩ = some (.int .i64 fb) := by
    obtain ⟨hc, _⟩ := bcell bw1
    refine ⟨?_, ?_⟩ <;> (rw [hc _ _ (by simp only [World.size_alloc]; omega)]; first | (simp; done) | exact (by repeat' (first | with_reducible assumption | (refine cell_top ?_ rfl; first | with_reducible rfl | (simp only [World.size_alloc, World.size_setCell]; done)) | (refine cell_under ?_ ?_; (first | omega | (simp only [World.size_alloc, World.size_setCell]; omega))) | refine cell_drew ?_)))
  obtain ⟨ps0, ps1⟩ : w1.cell? ⟨w.heap.size + 1, 0, none⟩ = some (.int .i64 sa) ∧ w1.cell? ⟨w.heap.size + 1, 1, none⟩ = some (.int .i64 sb) := by
    obtain ⟨hc, _⟩ := bcell bw1
    refine ⟨?_, ?_⟩ <;> (rw [hc _ _ (by simp only [World.size_alloc]; omega)]; first | (simp; done) | exact (by repeat' (first | with_reducible assumption | (refine cell_top ?_ rfl; first | with_reducible rfl | (simp only [World.size_alloc, World.size_setCell]; done)) | (refine cell_under ?_ ?_; (first | omega | (simp only [World.size_alloc, World.size_setCell]; omega))) | refine cell_drew ?_)))
  replace hw0 : w.heap.size ≤ w1.heap.size := by omega
  have Bw1 : Below w.heap.size w w1 := BB
  clear BB
  have lpfw1 : w.heap.size < w1.heap.size := by omega
  have lpsw1 : w.heap.size + 1 < w1.heap.size := by omega
  go_wp2_with fail
  go_region_held3 (fun w' => w'.cell? ⟨w.heap.size, 0, none⟩ = some (.int .i64 fa) ∧ w'.cell? ⟨w.heap.size, 1, none⟩ = some (.int .i64 fb) ∧ w'.cell? ⟨w.heap.size + 1, 0, none⟩ = some (.int .i64 sa) ∧ w'.cell? ⟨w.heap.size + 1, 1, none⟩ = some (.int .i64 sb))
    (first | go_keep | exact ⟨pf0, pf1, ps0, ps1⟩)
    (first
      | (go_at_call 69
         (with_reducible refine (toIntA2_any fa fb w1.drew).mono ?_)
         rintro e w2 ⟨rfl, bw2⟩
         have BB : Below w1.heap.size w1 w2 := ((Below.refl w1.heap.size w1).drew).trans bw2
         have sw2 : w1.heap.size ≤ w2.heap.size := BB.size
         replace hw0 : w.heap.size ≤ w2.heap.size := by omega
         have tq := cells2_kept BB (by omega) pf0 pf1
         clear pf0 pf1
         obtain ⟨pf0, pf1⟩ := tq
         have tq := cells2_kept BB (by omega) ps0 ps1
         clear ps0 ps1
         obtain ⟨ps0, ps1⟩ := tq
         have Bw2 : Below w.heap.size w w2 := Bw1.trans (BB.mono Bw1.size)
         clear BB
         have lpfw2 : w.heap.size < w2.heap.size := by omega
         have lpsw2 : w.heap.size + 1 < w2.heap.size := by omega)
      | (go_at_call 69
         (with_reducible refine (toIntA2_any sa sb w2).mono ?_)
         rintro e w3 ⟨rfl, bw3⟩
         have BB : Below w2.heap.size w2 w3 := bw3
         have sw3 : w2.heap.size ≤ w3.heap.size := BB.size
         replace hw0 : w.heap.size ≤ w3.heap.size := by omega
         have tq := cells2_kept BB (by omega) pf0 pf1
         clear pf0 pf1
         obtain ⟨pf0, pf1⟩ := tq
         have tq := cells2_kept BB (by omega) ps0 ps1
         clear ps0 ps1
         obtain ⟨ps0, ps1⟩ := tq
         have Bw3 : Below w.heap.size w w3 := Bw2.trans (BB.mono Bw2.size)
         clear BB
         have lpfw3 : w.heap.size < w3.heap.size := by omega
         have lpsw3 : w.heap.size + 1 < w3.heap.size := by omega)
      | (go_at_call 64
         (with_reducible refine (specSumFunctional_any x y fa fb sa sb m w3 ).mono ?_)
         rintro e w4 ⟨aR, cR, zR, rfl, oR, bw4⟩
         have BB : Below w3.heap.size w3 w4 := bw4
         have sw4 : w3.heap.size ≤ w4.heap.size := BB.size
         replace hw0 : w.heap.size ≤ w4.heap.size := by omega
         have tq := cells2_kept BB (by omega) pf0 pf1
         clear pf0 pf1
         obtain ⟨pf0, pf1⟩ := tq
         have tq := cells2_kept BB (by omega) ps0 ps1
         clear ps0 ps1
         obtain ⟨ps0, ps1⟩ := tq
         have Bw4 : Below w.heap.size w w4 := Bw3.trans (BB.mono Bw3.size)
         clear BB
         have lpfw4 : w.heap.size < w4.heap.size := by omega
         have lpsw4 : w.heap.size + 1 < w4.heap.size := by omega))
  go_wp2_with fail
  go_region_held3 (fun w' => w'.cell? ⟨w.heap.size, 0, none⟩ = some (.int .i64 fa) ∧ w'.cell? ⟨w.heap.size, 1, none⟩ = some (.int .i64 fb) ∧ w'.cell? ⟨w.heap.size + 1, 0, none⟩ = some (.int .i64 sa) ∧ w'.cell? ⟨w.heap.size + 1, 1, none⟩ = some (.int .i64 sb))
    (first | go_keep | exact ⟨pf0, pf1, ps0, ps1⟩)
    (first
      | (go_at_call 69
         (with_reducible refine (toIntA2_any fa fb w4.drew).mono ?_)
         rintro e w5 ⟨rfl, bw5⟩
         have BB : Below w4.heap.size w4 w5 := ((Below.refl w4.heap.size w4).drew).trans bw5
         have sw5 : w4.heap.size ≤ w5.heap.size := BB.size
         replace hw0 : w.heap.size ≤ w5.heap.size := by omega
         have tq := cells2_kept BB (by omega) pf0 pf1
         clear pf0 pf1
         obtain ⟨pf0, pf1⟩ := tq
         have tq := cells2_kept BB (by omega) ps0 ps1
         clear ps0 ps1
         obtain ⟨ps0, ps1⟩ := tq
         replace oR := oR.kept BB (by omega)
         have Bw5 : Below w.heap.size w w5 := Bw4.trans (BB.mono Bw4.size)
         clear BB
         have lpfw5 : w.heap.size < w5.heap.size := by omega
         have lpsw5 : w.heap.size + 1 < w5.heap.size := by omega)
      | (go_at_call 69
         (with_reducible refine (toIntA2_any sa sb w5).mono ?_)
         rintro e w6 ⟨rfl, bw6⟩
         have BB : Below w5.heap.size w5 w6 := bw6
         have sw6 : w5.heap.size ≤ w6.heap.size := BB.size
         replace hw0 : w.heap.size ≤ w6.heap.size := by omega
         have tq := cells2_kept BB (by omega) pf0 pf1
         clear pf0 pf1
         obtain ⟨pf0, pf1⟩ := tq
         have tq := cells2_kept BB (by omega) ps0 ps1
         clear ps0 ps1
         obtain ⟨ps0, ps1⟩ := tq
         replace oR := oR.kept BB (by omega)
         have Bw6 : Below w.heap.size w w6 := Bw5.trans (BB.mono Bw5.size)
         clear BB
         have lpfw6 : w.heap.size < w6.heap.size := by omega
         have lpsw6 : w.heap.size + 1 < w6.heap.size := by omega)
      | (go_at_call 63
         (with_reducible refine (implSumFunctional_any x y fa fb sa sb m w6 ).mono ?_)
         rintro e w7 ⟨aI, cI, zI, rfl, oI, bw7⟩
         have BB : Below w6.heap.size w6 w7 := bw7
         have sw7 : w6.heap.size ≤ w7.heap.size := BB.size
         replace hw0 : w.heap.size ≤ w7.heap.size := by omega
         have tq := cells2_kept BB (by omega) pf0 pf1
         clear pf0 pf1
         obtain ⟨pf0, pf1⟩ := tq
         have tq := cells2_kept BB (by omega) ps0 ps1
         clear ps0 ps1
         obtain ⟨ps0, ps1⟩ := tq
         replace oR := oR.kept BB (by omega)
         have Bw7 : Below w.heap.size w w7 := Bw6.trans (BB.mono Bw6.size)
         clear BB
         have lpfw7 : w.heap.size < w7.heap.size := by omega
         have lpsw7 : w.heap.size + 1 < w7.heap.size := by omega))
  have hz0 := sumFD_size x y fa fb sa sb m
  have e1 : ((sumFOk x y fa fb sa sb m) != (sumFOk x y fa fb sa sb m)) = false := by simp
  go_wp2_with fail
  refine (eqIntSS_any _ _ (sumFD x y fa fb sa sb m) (sumFD x y fa fb sa sb m) w7 (oI.rdII) (oR.rdII)).mono ?_
  rintro e w8 ⟨rfl, dw8⟩
  have dw8b := dw8.below w7.heap.size
  have BB : Below w7.heap.size w7 w8 := dw8b
  have sw8 : w7.heap.size ≤ w8.heap.size := BB.size
  replace hw0 : w.heap.size ≤ w8.heap.size := by omega
  have tq := cells2_kept BB (by omega) pf0 pf1
  clear pf0 pf1
  obtain ⟨pf0, pf1⟩ := tq
  have tq := cells2_kept BB (by omega) ps0 ps1
  clear ps0 ps1
  obtain ⟨ps0, ps1⟩ := tq
  replace oR := oR.kept BB (by omega)
  replace oI := oI.kept BB (by omega)
  have Bw8 : Below w.heap.size w w8 := Bw7.trans (BB.mono Bw7.size)
  clear BB
  have lpfw8 : w.heap.size < w8.heap.size := by omega
  have lpsw8 : w.heap.size + 1 < w8.heap.size := by omega
  go_wp2_with fail
  refine (markIntSS_any _ _ _ _ _ _ _ _ _ oI (by omega) (by omega) (by omega)).mono ?_
  rintro e w9 ⟨rfl, oI, mw9⟩
  have tq := cells2_mid mw9 (by omega) (by omega) pf0 pf1
  clear pf0 pf1
  obtain ⟨pf0, pf1⟩ := tq
  have tq := cells2_mid mw9 (by omega) (by omega) ps0 ps1
  clear ps0 ps1
  obtain ⟨ps0, ps1⟩ := tq
  replace oR := oR.mid mw9 (by omega)
  have sw9 : w8.heap.size ≤ w9.heap.size := mw9.size
  have Bw9 : Below w.heap.size w w9 := Bw8.trans (mw9.below (by omega) (by omega))
  replace hw0 : w.heap.size ≤ w9.heap.size := by omega
  clear mw9
  have lpfw9 : w.heap.size < w9.heap.size := by omega
  have lpsw9 : w.heap.size + 1 < w9.heap.size := by omega
  go_wp2_with fail
  refine (heldIntSS_any _ _ _ _ (oI.rdII) (by omega) (by omega) (by omega)).mono ?_
  rintro e e1 ⟨rfl, rfl⟩
  go_wp2_with fail
  go_region_held3 (fun w' => w'.cell? ⟨w.heap.size, 0, none⟩ = some (.int .i64 fa) ∧ w'.cell? ⟨w.heap.size, 1, none⟩ = some (.int .i64 fb) ∧ w'.cell? ⟨w.heap.size + 1, 0, none⟩ = some (.int .i64 sa) ∧ w'.cell? ⟨w.heap.size + 1, 1, none⟩ = some (.int .i64 sb))
    (first | go_keep | exact ⟨pf0, pf1, ps0, ps1⟩)
    (first
      | (go_at_call 69
         (with_reducible refine (toIntA2_any fa fb w9.drew).mono ?_)
         rintro e w10 ⟨rfl, bw10⟩
         have BB : Below w9.heap.size w9 w10 := ((Below.refl w9.heap.size w9).drew).trans bw10
         have sw10 : w9.heap.size ≤ w10.heap.size := BB.size
         replace hw0 : w.heap.size ≤ w10.heap.size := by omega
         have tq := cells2_kept BB (by omega) pf0 pf1
         clear pf0 pf1
         obtain ⟨pf0, pf1⟩ := tq
         have tq := cells2_kept BB (by omega) ps0 ps1
         clear ps0 ps1
         obtain ⟨ps0, ps1⟩ := tq
         replace oR := oR.kept BB (by omega)
         replace oI := oI.kept BB (by omega)
         have Bw10 : Below w.heap.size w w10 := Bw9.trans (BB.mono Bw9.size)
         clear BB
         have lpfw10 : w.heap.size < w10.heap.size := by omega
         have lpsw10 : w.heap.size + 1 < w10.heap.size := by omega)
      | (go_at_call 69
         (with_reducible refine (toIntA2_any sa sb w10).mono ?_)
         rintro e w11 ⟨rfl, bw11⟩
         have BB : Below w10.heap.size w10 w11 := bw11
         have sw11 : w10.heap.size ≤ w11.heap.size := BB.size
         replace hw0 : w.heap.size ≤ w11.heap.size := by omega
         have tq := cells2_kept BB (by omega) pf0 pf1
         clear pf0 pf1
         obtain ⟨pf0, pf1⟩ := tq
         have tq := cells2_kept BB (by omega) ps0 ps1
         clear ps0 ps1
         obtain ⟨ps0, ps1⟩ := tq
         replace oR := oR.kept BB (by omega)
         replace oI := oI.kept BB (by omega)
         have Bw11 : Below w.heap.size w w11 := Bw10.trans (BB.mono Bw10.size)
         clear BB
         have lpfw11 : w.heap.size < w11.heap.size := by omega
         have lpsw11 : w.heap.size + 1 < w11.heap.size := by omega)
      | (go_at_call 63
         (with_reducible refine (implSumFunctional_any x y fa fb sa sb m w11 ).mono ?_)
         rintro e w12 ⟨aJ, cJ, zJ, rfl, oJ, bw12⟩
         have BB : Below w11.heap.size w11 w12 := bw12
         have sw12 : w11.heap.size ≤ w12.heap.size := BB.size
         replace hw0 : w.heap.size ≤ w12.heap.size := by omega
         have tq := cells2_kept BB (by omega) pf0 pf1
         clear pf0 pf1
         obtain ⟨pf0, pf1⟩ := tq
         have tq := cells2_kept BB (by omega) ps0 ps1
         clear ps0 ps1
         obtain ⟨ps0, ps1⟩ := tq
         replace oR := oR.kept BB (by omega)
         replace oI := oI.kept BB (by omega)
         have Bw12 : Below w.heap.size w w12 := Bw11.trans (BB.mono Bw11.size)
         clear BB
         have lpfw12 : w.heap.size < w12.heap.size := by omega
         have lpsw12 : w.heap.size + 1 < w12.heap.size := by omega))
  go_wp2_with fail
  refine (eqIntSS_any _ _ (sumFD x y fa fb sa sb m) (sumFD x y fa fb sa sb m) w12 (oJ.rdII) (oR.rdII)).mono ?_
  rintro e w13 ⟨rfl, dw13⟩
  have dw13b := dw13.below w12.heap.size
  have BB : Below w12.heap.size w12 w13 := dw13b
  have sw13 : w12.heap.size ≤ w13.heap.size := BB.size
  replace hw0 : w.heap.size ≤ w13.heap.size := by omega
  have tq := cells2_kept BB (by omega) pf0 pf1
  clear pf0 pf1
  obtain ⟨pf0, pf1⟩ := tq
  have tq := cells2_kept BB (by omega) ps0 ps1
  clear ps0 ps1
  obtain ⟨ps0, ps1⟩ := tq
  replace oR := oR.kept BB (by omega)
  replace oI := oI.kept BB (by omega)
  replace oJ := oJ.kept BB (by omega)
  have Bw13 : Below w.heap.size w w13 := Bw12.trans (BB.mono Bw12.size)
  clear BB
  have lpfw13 : w.heap.size < w13.heap.size := by omega
  have lpsw13 : w.heap.size + 1 < w13.heap.size := by omega
  go_wp2_with fail
  refine (heldIntSS_any _ _ _ _ (oI.rdII) (by omega) (by omega) (by omega)).mono ?_
  rintro e e1 ⟨rfl, rfl⟩
  go_wp2
  go_ret
  exact ⟨rfl, Bw13⟩

/-! ### The row -/
set_option maxRecDepth 100000 in
theorem fnExactSumFunctional_lifted (os : Os) (started : os.Started) (H : Type) (enc : TypeId × Value → H) :
    ReturnsInHanded {} Try.checked os 9 .any (Rows.fnExactSumFunctionalSpec.pre6 enc Try.prog Try.f9 Rows.fnExactSumFunctionalRow.domain false) (Rows.fnExactSumFunctionalSpec.post enc Try.prog Try.f9 false true false false) := by
  refine returnsInHanded_of_change (C := Try.checked) Try.own started (by kernel_rfl) Try.func9
    (ChangeSpec.witness6 (enc := enc) (C := Try.checked) false ⟨#[], #[.int .i64 0, .int .i64 0, .agg #[.int .i64 0, .int .i64 0], .agg #[.int .i64 0, .int .i64 0], .int .i64 0], []⟩ 8 (by kernel_rfl) (by kernel_rfl) (by kernel_rfl) (by kernel_rfl)) ?_
  intro W base args ds gs before hval0 hW hcnd _
  have hval : ∀ (j : Nat) t v, Try.f9.params[j]? = some t → args[j]? = some v → Value.okWide Try.prog W .any base t v := hval0
  have hW' := hW
  obtain ⟨p, q, hA0, hV, rfl, hfz, hnd⟩ := hW
  have hA : DataW.TrodAll enc Try.prog W 0 (fun _ => true) true Try.f9.params.toList args.toList ds p := hA0
  rw [Try.params9] at hA hval
  obtain ⟨v0, vs0, d0, ds0, p0, q0, hargs, rfl, rfl, h0, r0⟩ := trodAll_cons hA
  obtain ⟨v1, vs1, d1, ds1, p1, q1, rfl, rfl, rfl, h1, r1⟩ := trodAll_cons r0
  obtain ⟨v2, vs2, d2, ds2, p2, q2, rfl, rfl, rfl, h2, r2⟩ := trodAll_cons r1
  obtain ⟨v3, vs3, d3, ds3, p3, q3, rfl, rfl, rfl, h3, r3⟩ := trodAll_cons r2
  obtain ⟨v4, vs4, d4, ds4, p4, q4, rfl, rfl, rfl, h4, r4⟩ := trodAll_cons r3
  obtain ⟨rfl, rfl, rfl⟩ := trodAll_nil r4
  obtain rfl : args = #[v0, v1, v2, v3, v4] := by cases args; simp_all
  obtain ⟨x0, rfl, rfl, rfl, wx0⟩ := open_int Try.underlying3 (hval 0 3 v0 rfl rfl) h0
  obtain ⟨x1, rfl, rfl, rfl, wx1⟩ := open_int Try.underlying3 (hval 1 3 v1 rfl rfl) h1
  obtain ⟨xa2, xb2, rfl, wxa2, wxb2⟩ := arr2_of (hval 2 67 v2 rfl rfl) h2
  obtain ⟨xa3, xb3, rfl, wxa3, wxb3⟩ := arr2_of (hval 3 67 v3 rfl rfl) h3
  obtain ⟨x4, rfl, rfl, rfl, wx4⟩ := open_int Try.underlying3 (hval 4 3 v4 rfl rfl) h4
  clear hA0 hval0
  refine (fnExactSumFunctional_walk x0 x1 xa2 xb2 xa3 xb3 x4 W).mono fun e W' ⟨he, hb⟩ => ?_
  subst he
  exact ⟨_, rfl, law_post Try.laidOut (by kernel_rfl) rfl Try.underlying4 rfl (fun ds hd => by match ds, hd with | [e0, e1, e2, e3, e4], _ => rfl) hW' hb⟩

theorem fnExactSumFunctional_holds : Rows.FnExactSumFunctionalSaid :=
  OpenClaim.holds_of_wide 9 Try.f9 rfl rfl rfl rfl rfl rfl rfl ⟨rfl, rfl, rfl, rfl, rfl⟩ rfl rfl rfl rfl rfl (by kernel_rfl) Try.func9 (by kernel_rfl)
    (of_decide_eq_true (by kernel_rfl)) (by unfold Func.isWrapper; first | (rw [if_pos (by decide +kernel)]; kernel_rfl) | (rw [if_neg (by decide +kernel)]; exact ⟨rfl, rfl⟩))
    (fun os started H enc _ => fnExactSumFunctional_lifted os started H enc)

end Go.Proofs.Ytadnjljpceeolaa
