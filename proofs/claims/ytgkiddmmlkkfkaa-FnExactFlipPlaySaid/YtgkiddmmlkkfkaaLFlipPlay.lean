/- FlipPlay: the program's answer is the reference's, for all arguments; nothing is shared. -/
import Derived.Test.YtgkiddmmlkkfkaaFnFlipI
import Derived.Test.YtgkiddmmlkkfkaaRowB
import Derived.Test.YtgkiddmmlkkfkaaHarD
set_option linter.unusedSimpArgs false
set_option linter.unusedVariables false
namespace Go.Proofs.Ytgkiddmmlkkfkaa
open Go.ChangeShapes Go.WideShapes Go.ChangeAt Go.RowKit
open Go.ChangeMaps (open_string shut_string)

set_option maxHeartbeats 3000000 in
theorem fnExactFlipPlay_walk (x : Int) (y : Int) (vp : Value) (xsp : List Int) (vf : Value) (xsf : List Int) (w : World) (hp : RdI w vp xsp) (hf : RdI w vf xsf) :
    Calls Try.prog 7 #[.int .i64 x, .int .i64 y, vp, vf] w fun e w' => e = .returned (.bool true) ∧ Below w.heap.size w w' := by
  have hw0 : w.heap.size ≤ w.heap.size := Nat.le_refl _
  have hmp : xsp.length ≤ maxLen := by obtain ⟨_, _, _, _, _, hm, _⟩ := hp; exact hm
  obtain ⟨qp, kp, hvp⟩ : ∃ q k, vp = .slice q xsp.length k := by obtain ⟨q, _, _, k, hv, _⟩ := hp; exact ⟨q, k, hv⟩
  subst hvp
  unfold maxLen at hmp
  have hmf : xsf.length ≤ maxLen := by obtain ⟨_, _, _, _, _, hm, _⟩ := hf; exact hm
  obtain ⟨qf, kf, hvf⟩ : ∃ q k, vf = .slice q xsf.length k := by obtain ⟨q, _, _, k, hv, _⟩ := hf; exact ⟨q, k, hv⟩
  subst hvf
  unfold maxLen at hmf
  by_cases hlp : (1048576 : Int) < xsp.length
  · go_enter Try.func7, Try.ntmps7
    go_wp2
    go_ret
    exact ⟨rfl, (by repeat' (first | with_reducible exact Below.refl _ _ | with_reducible assumption | with_reducible apply Below.alloc | with_reducible apply Below.setCell | with_reducible apply Below.drew | exact Nat.le_refl _ | omega | (simp only [World.size_alloc, World.size_setCell]; omega)))⟩
  replace hlp : xsp.length ≤ 1048576 := by omega
  by_cases hlf : (1048576 : Int) < xsf.length
  · go_enter Try.func7, Try.ntmps7
    go_wp2
    go_ret
    exact ⟨rfl, (by repeat' (first | with_reducible exact Below.refl _ _ | with_reducible assumption | with_reducible apply Below.alloc | with_reducible apply Below.setCell | with_reducible apply Below.drew | exact Nat.le_refl _ | omega | (simp only [World.size_alloc, World.size_setCell]; omega)))⟩
  replace hlf : xsf.length ≤ 1048576 := by omega
  go_enter Try.func7, Try.ntmps7
  go_wp2_with fail
  refine (toIntS_any _ xsp w (hp.kept (Nat.le_refl _) (by repeat' (first | with_reducible exact Below.refl _ _ | with_reducible assumption | with_reducible apply Below.alloc | with_reducible apply Below.setCell | with_reducible apply Below.drew | exact Nat.le_refl _ | omega | (simp only [World.size_alloc, World.size_setCell]; omega)))) hlp).mono ?_
  rintro e w1 ⟨aup, cup, rfl, oup, bw1⟩
  have BB : Below w.heap.size w w1 := bw1
  have sw1 : w.heap.size ≤ w1.heap.size := BB.size
  replace hw0 : w.heap.size ≤ w1.heap.size := by omega
  have Bw1 : Below w.heap.size w w1 := BB
  clear BB
  go_wp2_with fail
  refine (toIntS_any _ xsf w1 (hf.kept (Nat.le_refl _) Bw1) hlf).mono ?_
  rintro e w2 ⟨auf, cuf, rfl, ouf, bw2⟩
  have BB : Below w1.heap.size w1 w2 := bw2
  have sw2 : w1.heap.size ≤ w2.heap.size := BB.size
  replace hw0 : w.heap.size ≤ w2.heap.size := by omega
  replace oup := oup.kept BB (by omega)
  have Bw2 : Below w.heap.size w w2 := Bw1.trans (BB.mono Bw1.size)
  clear BB
  go_wp2_with fail
  refine (specFlipPlay_any x y _ xsp _ xsf w2 (oup.rdI) (ouf.rdI)).mono ?_
  rintro e w3 ⟨aR, cR, rfl, oR, bw3⟩
  have BB : Below w2.heap.size w2 w3 := bw3
  have sw3 : w2.heap.size ≤ w3.heap.size := BB.size
  replace hw0 : w.heap.size ≤ w3.heap.size := by omega
  replace oup := oup.kept BB (by omega)
  replace ouf := ouf.kept BB (by omega)
  have Bw3 : Below w.heap.size w w3 := Bw2.trans (BB.mono Bw2.size)
  clear BB
  go_wp2_with fail
  refine (toIntS_any _ xsp w3 (hp.kept (Nat.le_refl _) Bw3) hlp).mono ?_
  rintro e w4 ⟨axp, cxp, rfl, oxp, bw4⟩
  have BB : Below w3.heap.size w3 w4 := bw4
  have sw4 : w3.heap.size ≤ w4.heap.size := BB.size
  replace hw0 : w.heap.size ≤ w4.heap.size := by omega
  replace oR := oR.kept BB (by omega)
  have Bw4 : Below w.heap.size w w4 := Bw3.trans (BB.mono Bw3.size)
  clear BB
  go_wp2_with fail
  refine (toIntS_any _ xsf w4 (hf.kept (Nat.le_refl _) Bw4) hlf).mono ?_
  rintro e w5 ⟨axf, cxf, rfl, oxf, bw5⟩
  have BB : Below w4.heap.size w4 w5 := bw5
  have sw5 : w4.heap.size ≤ w5.heap.size := BB.size
  replace hw0 : w.heap.size ≤ w5.heap.size := by omega
  replace oR := oR.kept BB (by omega)
  replace oxp := oxp.kept BB (by omega)
  have Bw5 : Below w.heap.size w w5 := Bw4.trans (BB.mono Bw4.size)
  clear BB
  go_wp2_with fail
  refine (implFlipPlay_any x y _ xsp _ xsf w5 (oxp.rdI) (oxf.rdI) oxp.capn).mono ?_
  rintro e w6 ⟨aI, cI, rfl, oI, bw6⟩
  have BB : Below w5.heap.size w5 w6 := bw6
  have sw6 : w5.heap.size ≤ w6.heap.size := BB.size
  replace hw0 : w.heap.size ≤ w6.heap.size := by omega
  replace oR := oR.kept BB (by omega)
  replace oxp := oxp.kept BB (by omega)
  replace oxf := oxf.kept BB (by omega)
  have Bw6 : Below w.heap.size w w6 := Bw5.trans (BB.mono Bw5.size)
  clear BB
  have hz0 := flipD_size x y xsp xsf
  have e1 : ((flipOk x y xsp xsf) != (flipOk x y xsp xsf)) = false := by simp
  go_wp2_with fail
  refine (eqIntS_any _ _ (flipD x y xsp xsf) (flipD x y xsp xsf) w6 (oI.rdI) (oR.rdI)).mono ?_
  rintro e w7 ⟨rfl, dw7⟩
  have dw7b := dw7.below w6.heap.size
  have BB : Below w6.heap.size w6 w7 := dw7b
  have sw7 : w6.heap.size ≤ w7.heap.size := BB.size
  replace hw0 : w.heap.size ≤ w7.heap.size := by omega
  replace oR := oR.kept BB (by omega)
  replace oxp := oxp.kept BB (by omega)
  replace oxf := oxf.kept BB (by omega)
  replace oI := oI.kept BB (by omega)
  have Bw7 : Below w.heap.size w w7 := Bw6.trans (BB.mono Bw6.size)
  clear BB
  go_wp2_with fail
  refine (toIntS_any _ xsp w7 (hp.kept (Nat.le_refl _) Bw7) hlp).mono ?_
  rintro e w8 ⟨ayp, cyp, rfl, oyp, bw8⟩
  have BB : Below w7.heap.size w7 w8 := bw8
  have sw8 : w7.heap.size ≤ w8.heap.size := BB.size
  replace hw0 : w.heap.size ≤ w8.heap.size := by omega
  replace oR := oR.kept BB (by omega)
  replace oxp := oxp.kept BB (by omega)
  replace oxf := oxf.kept BB (by omega)
  replace oI := oI.kept BB (by omega)
  have Bw8 : Below w.heap.size w w8 := Bw7.trans (BB.mono Bw7.size)
  clear BB
  go_wp2_with fail
  refine (eqIntS_any _ _ xsp xsp w8 (oxp.rdI) (oyp.rdI)).mono ?_
  rintro e w9 ⟨rfl, dw9⟩
  have dw9b := dw9.below w8.heap.size
  have BB : Below w8.heap.size w8 w9 := dw9b
  have sw9 : w8.heap.size ≤ w9.heap.size := BB.size
  replace hw0 : w.heap.size ≤ w9.heap.size := by omega
  replace oR := oR.kept BB (by omega)
  replace oxp := oxp.kept BB (by omega)
  replace oxf := oxf.kept BB (by omega)
  replace oI := oI.kept BB (by omega)
  replace oyp := oyp.kept BB (by omega)
  have Bw9 : Below w.heap.size w w9 := Bw8.trans (BB.mono Bw8.size)
  clear BB
  go_wp2_with fail
  refine (toIntS_any _ xsf w9 (hf.kept (Nat.le_refl _) Bw9) hlf).mono ?_
  rintro e w10 ⟨ayf, cyf, rfl, oyf, bw10⟩
  have BB : Below w9.heap.size w9 w10 := bw10
  have sw10 : w9.heap.size ≤ w10.heap.size := BB.size
  replace hw0 : w.heap.size ≤ w10.heap.size := by omega
  replace oR := oR.kept BB (by omega)
  replace oxp := oxp.kept BB (by omega)
  replace oxf := oxf.kept BB (by omega)
  replace oI := oI.kept BB (by omega)
  have Bw10 : Below w.heap.size w w10 := Bw9.trans (BB.mono Bw9.size)
  clear BB
  go_wp2_with fail
  refine (eqIntS_any _ _ xsf xsf w10 (oxf.rdI) (oyf.rdI)).mono ?_
  rintro e w11 ⟨rfl, dw11⟩
  have dw11b := dw11.below w10.heap.size
  have BB : Below w10.heap.size w10 w11 := dw11b
  have sw11 : w10.heap.size ≤ w11.heap.size := BB.size
  replace hw0 : w.heap.size ≤ w11.heap.size := by omega
  replace oR := oR.kept BB (by omega)
  replace oxp := oxp.kept BB (by omega)
  replace oxf := oxf.kept BB (by omega)
  replace oI := oI.kept BB (by omega)
  replace oyf := oyf.kept BB (by omega)
  have Bw11 : Below w.heap.size w w11 := Bw10.trans (BB.mono Bw10.size)
  clear BB
  go_wp2_with fail
  refine (markIntS_any _ _ _ _ _ _ _ oxp (by rw [ints_length]; omega) (by omega) (by omega)).mono ?_
  rintro e w12 ⟨rfl, oxp, gw12⟩
  simp only [ints_length] at oxp
  have mw12 : Mid w3.heap.size w4.heap.size w11 w12 := Mid.of_grown gw12 (fun g hg => by have := oxp.lt g hg; omega)
  clear gw12
  replace oR := oR.mid mw12 (by omega)
  replace oxf := oxf.mid mw12 (by omega)
  replace oI := oI.mid mw12 (by omega)
  have sw12 : w11.heap.size ≤ w12.heap.size := mw12.size
  have Bw12 : Below w.heap.size w w12 := Bw11.trans (mw12.below (by omega) (by omega))
  replace hw0 : w.heap.size ≤ w12.heap.size := by omega
  clear mw12
  go_wp2_with fail
  refine (markIntS_any _ _ _ _ _ _ _ oxf (by rw [ints_length]; omega) (by omega) (by omega)).mono ?_
  rintro e w13 ⟨rfl, oxf, gw13⟩
  simp only [ints_length] at oxf
  have mw13 : Mid w4.heap.size w5.heap.size w12 w13 := Mid.of_grown gw13 (fun g hg => by have := oxf.lt g hg; omega)
  clear gw13
  replace oR := oR.mid mw13 (by omega)
  replace oI := oI.mid mw13 (by omega)
  have sw13 : w12.heap.size ≤ w13.heap.size := mw13.size
  have Bw13 : Below w.heap.size w w13 := Bw12.trans (mw13.below (by omega) (by omega))
  replace hw0 : w.heap.size ≤ w13.heap.size := by omega
  clear mw13
  go_wp2_with fail
  refine (eqIntS_any _ _ (flipD x y xsp xsf) (flipD x y xsp xsf) w13 (oI.rdI) (oR.rdI)).mono ?_
  rintro e w14 ⟨rfl, dw14⟩
  have dw14b := dw14.below w13.heap.size
  have BB : Below w13.heap.size w13 w14 := dw14b
  have sw14 : w13.heap.size ≤ w14.heap.size := BB.size
  replace hw0 : w.heap.size ≤ w14.heap.size := by omega
  replace oR := oR.kept BB (by omega)
  replace oI := oI.kept BB (by omega)
  have Bw14 : Below w.heap.size w w14 := Bw13.trans (BB.mono Bw13.size)
  clear BB
  go_wp2_with fail
  refine (markIntS_any _ _ _ _ _ _ _ oI (by rw [ints_length]; omega) (by omega) (by omega)).mono ?_
  rintro e w15 ⟨rfl, oI, gw15⟩
  simp only [ints_length] at oI
  have mw15 : Mid w5.heap.size w6.heap.size w14 w15 := Mid.of_grown gw15 (fun g hg => by have := oI.lt g hg; omega)
  clear gw15
  replace oR := oR.mid mw15 (by omega)
  have sw15 : w14.heap.size ≤ w15.heap.size := mw15.size
  have Bw15 : Below w.heap.size w w15 := Bw14.trans (mw15.below (by omega) (by omega))
  replace hw0 : w.heap.size ≤ w15.heap.size := by omega
  clear mw15
  go_wp2_with fail
  refine (heldIntS_any _ _ _ _ (oI.rdI) (by omega) (by omega) (by omega)).mono ?_
  rintro e e1 ⟨rfl, rfl⟩
  go_wp2_with fail
  refine (toIntS_any _ xsp w15 (hp.kept (Nat.le_refl _) Bw15) hlp).mono ?_
  rintro e w16 ⟨atp, ctp, rfl, otp, bw16⟩
  have BB : Below w15.heap.size w15 w16 := bw16
  have sw16 : w15.heap.size ≤ w16.heap.size := BB.size
  replace hw0 : w.heap.size ≤ w16.heap.size := by omega
  replace oR := oR.kept BB (by omega)
  replace oI := oI.kept BB (by omega)
  have Bw16 : Below w.heap.size w w16 := Bw15.trans (BB.mono Bw15.size)
  clear BB
  go_wp2_with fail
  refine (toIntS_any _ xsf w16 (hf.kept (Nat.le_refl _) Bw16) hlf).mono ?_
  rintro e w17 ⟨atf, ctf, rfl, otf, bw17⟩
  have BB : Below w16.heap.size w16 w17 := bw17
  have sw17 : w16.heap.size ≤ w17.heap.size := BB.size
  replace hw0 : w.heap.size ≤ w17.heap.size := by omega
  replace oR := oR.kept BB (by omega)
  replace oI := oI.kept BB (by omega)
  replace otp := otp.kept BB (by omega)
  have Bw17 : Below w.heap.size w w17 := Bw16.trans (BB.mono Bw16.size)
  clear BB
  go_wp2_with fail
  refine (implFlipPlay_any x y _ xsp _ xsf w17 (otp.rdI) (otf.rdI) otp.capn).mono ?_
  rintro e w18 ⟨aJ, cJ, rfl, oJ, bw18⟩
  have BB : Below w17.heap.size w17 w18 := bw18
  have sw18 : w17.heap.size ≤ w18.heap.size := BB.size
  replace hw0 : w.heap.size ≤ w18.heap.size := by omega
  replace oR := oR.kept BB (by omega)
  replace oI := oI.kept BB (by omega)
  replace otp := otp.kept BB (by omega)
  replace otf := otf.kept BB (by omega)
  have Bw18 : Below w.heap.size w w18 := Bw17.trans (BB.mono Bw17.size)
  clear BB
  go_wp2_with fail
  refine (eqIntS_any _ _ (flipD x y xsp xsf) (flipD x y xsp xsf) w18 (oJ.rdI) (oR.rdI)).mono ?_
  rintro e w19 ⟨rfl, dw19⟩
  have dw19b := dw19.below w18.heap.size
  have BB : Below w18.heap.size w18 w19 := dw19b
  have sw19 : w18.heap.size ≤ w19.heap.size := BB.size
  replace hw0 : w.heap.size ≤ w19.heap.size := by omega
  replace oR := oR.kept BB (by omega)
  replace oI := oI.kept BB (by omega)
  replace otp := otp.kept BB (by omega)
  replace otf := otf.kept BB (by omega)
  replace oJ := oJ.kept BB (by omega)
  have Bw19 : Below w.heap.size w w19 := Bw18.trans (BB.mono Bw18.size)
  clear BB
  go_wp2_with fail
  refine (heldIntS_any _ _ _ _ (oI.rdI) (by omega) (by omega) (by omega)).mono ?_
  rintro e e1 ⟨rfl, rfl⟩
  go_wp2
  go_ret
  exact ⟨rfl, Bw19⟩

/-! ### The row -/
set_option maxRecDepth 100000 in
theorem fnExactFlipPlay_lifted (os : Os) (started : os.Started) (H : Type) (enc : TypeId × Value → H) :
    ReturnsInHanded {} Try.checked os 7 .any (Rows.fnExactFlipPlaySpec.pre6 enc Try.prog Try.f7 Rows.fnExactFlipPlayRow.domain false) (Rows.fnExactFlipPlaySpec.post enc Try.prog Try.f7 false true false false) := by
  refine returnsInHanded_of_change (C := Try.checked) Try.own started (by kernel_rfl) Try.func7
    (ChangeSpec.witness6 (enc := enc) (C := Try.checked) false ⟨#[], #[.int .i64 0, .int .i64 0, .slice none 0 0, .slice none 0 0], []⟩ 8 (by kernel_rfl) (by kernel_rfl) (by kernel_rfl) (by kernel_rfl)) ?_
  intro W base args ds gs before hval0 hW hcnd _
  have hval : ∀ (j : Nat) t v, Try.f7.params[j]? = some t → args[j]? = some v → Value.okWide Try.prog W .any base t v := hval0
  have hW' := hW
  obtain ⟨p, q, hA0, hV, rfl, hfz, hnd⟩ := hW
  have hA : DataW.TrodAll enc Try.prog W 0 (fun _ => true) true Try.f7.params.toList args.toList ds p := hA0
  rw [Try.params7] at hA hval
  obtain ⟨v0, vs0, d0, ds0, p0, q0, hargs, rfl, rfl, h0, r0⟩ := trodAll_cons hA
  obtain ⟨v1, vs1, d1, ds1, p1, q1, rfl, rfl, rfl, h1, r1⟩ := trodAll_cons r0
  obtain ⟨v2, vs2, d2, ds2, p2, q2, rfl, rfl, rfl, h2, r2⟩ := trodAll_cons r1
  obtain ⟨v3, vs3, d3, ds3, p3, q3, rfl, rfl, rfl, h3, r3⟩ := trodAll_cons r2
  obtain ⟨rfl, rfl, rfl⟩ := trodAll_nil r3
  obtain rfl : args = #[v0, v1, v2, v3] := by cases args; simp_all
  obtain ⟨x0, rfl, rfl, rfl, wx0⟩ := open_int Try.underlying3 (hval 0 3 v0 rfl rfl) h0
  obtain ⟨x1, rfl, rfl, rfl, wx1⟩ := open_int Try.underlying3 (hval 1 3 v1 rfl rfl) h1
  obtain ⟨xs2, hx2⟩ := rdI_of Try.underlying27 Try.underlying3 Try.cellsInt (hval 2 27 v2 rfl rfl) h2
  obtain ⟨xs3, hx3⟩ := rdI_of Try.underlying27 Try.underlying3 Try.cellsInt (hval 3 27 v3 rfl rfl) h3
  clear hA0 hval0
  refine (fnExactFlipPlay_walk x0 x1 _ xs2 _ xs3 W hx2 hx3).mono fun e W' ⟨he, hb⟩ => ?_
  subst he
  exact ⟨_, rfl, law_post Try.laidOut (by kernel_rfl) rfl Try.underlying4 rfl (fun ds hd => by match ds, hd with | [e0, e1, e2, e3], _ => rfl) hW' hb⟩

theorem fnExactFlipPlay_holds : Rows.FnExactFlipPlaySaid :=
  OpenClaim.holds_of_wide 7 Try.f7 rfl rfl rfl rfl rfl rfl rfl ⟨rfl, rfl, rfl, rfl, rfl⟩ rfl rfl rfl rfl rfl (by kernel_rfl) Try.func7 (by kernel_rfl)
    (of_decide_eq_true (by kernel_rfl)) (by unfold Func.isWrapper; first | (rw [if_pos (by decide +kernel)]; kernel_rfl) | (rw [if_neg (by decide +kernel)]; exact ⟨rfl, rfl⟩))
    (fun os started H enc _ => fnExactFlipPlay_lifted os started H enc)

end Go.Proofs.Ytgkiddmmlkkfkaa
