/- PlaysOf: the program's answer is the reference's, for all arguments; nothing is shared. -/
import Derived.Test.YtgkiddmmlkkfkaaFnPlaysOf
import Derived.Test.YtgkiddmmlkkfkaaRowB
import Derived.Test.YtgkiddmmlkkfkaaHarD
set_option linter.unusedSimpArgs false
set_option linter.unusedVariables false
namespace Go.Proofs.Ytgkiddmmlkkfkaa
open Go.ChangeShapes Go.WideShapes Go.ChangeAt Go.RowKit
open Go.ChangeMaps (open_string shut_string)

set_option maxHeartbeats 3000000 in
theorem fnExactPlaysOf_walk (x : Int) (y : Int) (w : World) :
    Calls Try.prog 8 #[.int .i64 x, .int .i64 y] w fun e w' => e = .returned (.bool true) ∧ Below w.heap.size w w' := by
  have hw0 : w.heap.size ≤ w.heap.size := Nat.le_refl _
  go_enter Try.func8, Try.ntmps8
  go_wp2_with fail
  refine (specPlaysOf_any x y w ).mono ?_
  rintro e w1 ⟨aR, cR, zR, rfl, oR, bw1⟩
  have BB : Below w.heap.size w w1 := bw1
  have sw1 : w.heap.size ≤ w1.heap.size := BB.size
  replace hw0 : w.heap.size ≤ w1.heap.size := by omega
  have Bw1 : Below w.heap.size w w1 := BB
  clear BB
  go_wp2_with fail
  refine (implPlaysOf_any x y w1 ).mono ?_
  rintro e w2 ⟨aI, cI, zI, rfl, oI, bw2⟩
  have BB : Below w1.heap.size w1 w2 := bw2
  have sw2 : w1.heap.size ≤ w2.heap.size := BB.size
  replace hw0 : w.heap.size ≤ w2.heap.size := by omega
  replace oR := oR.kept BB (by omega)
  have Bw2 : Below w.heap.size w w2 := Bw1.trans (BB.mono Bw1.size)
  clear BB
  have hz0 := playsOfD_size x y
  have e1 : ((sizesB x y) != (sizesB x y)) = false := by simp
  go_wp2_with fail
  refine (eqIntSS_any _ _ (playsOfD x y) (playsOfD x y) w2 (oI.rdII) (oR.rdII)).mono ?_
  rintro e w3 ⟨rfl, dw3⟩
  have dw3b := dw3.below w2.heap.size
  have BB : Below w2.heap.size w2 w3 := dw3b
  have sw3 : w2.heap.size ≤ w3.heap.size := BB.size
  replace hw0 : w.heap.size ≤ w3.heap.size := by omega
  replace oR := oR.kept BB (by omega)
  replace oI := oI.kept BB (by omega)
  have Bw3 : Below w.heap.size w w3 := Bw2.trans (BB.mono Bw2.size)
  clear BB
  go_wp2_with fail
  refine (markIntSS_any _ _ _ _ _ _ _ _ _ oI (by omega) (by omega) (by omega)).mono ?_
  rintro e w4 ⟨rfl, oI, mw4⟩
  replace oR := oR.mid mw4 (by omega)
  have sw4 : w3.heap.size ≤ w4.heap.size := mw4.size
  have Bw4 : Below w.heap.size w w4 := Bw3.trans (mw4.below (by omega) (by omega))
  replace hw0 : w.heap.size ≤ w4.heap.size := by omega
  clear mw4
  go_wp2_with fail
  refine (heldIntSS_any _ _ _ _ (oI.rdII) (by omega) (by omega) (by omega)).mono ?_
  rintro e e1 ⟨rfl, rfl⟩
  go_wp2_with fail
  refine (implPlaysOf_any x y w4 ).mono ?_
  rintro e w5 ⟨aJ, cJ, zJ, rfl, oJ, bw5⟩
  have BB : Below w4.heap.size w4 w5 := bw5
  have sw5 : w4.heap.size ≤ w5.heap.size := BB.size
  replace hw0 : w.heap.size ≤ w5.heap.size := by omega
  replace oR := oR.kept BB (by omega)
  replace oI := oI.kept BB (by omega)
  have Bw5 : Below w.heap.size w w5 := Bw4.trans (BB.mono Bw4.size)
  clear BB
  go_wp2_with fail
  refine (eqIntSS_any _ _ (playsOfD x y) (playsOfD x y) w5 (oJ.rdII) (oR.rdII)).mono ?_
  rintro e w6 ⟨rfl, dw6⟩
  have dw6b := dw6.below w5.heap.size
  have BB : Below w5.heap.size w5 w6 := dw6b
  have sw6 : w5.heap.size ≤ w6.heap.size := BB.size
  replace hw0 : w.heap.size ≤ w6.heap.size := by omega
  replace oR := oR.kept BB (by omega)
  replace oI := oI.kept BB (by omega)
  replace oJ := oJ.kept BB (by omega)
  have Bw6 : Below w.heap.size w w6 := Bw5.trans (BB.mono Bw5.size)
  clear BB
  go_wp2_with fail
  refine (heldIntSS_any _ _ _ _ (oI.rdII) (by omega) (by omega) (by omega)).mono ?_
  rintro e e1 ⟨rfl, rfl⟩
  go_wp2
  go_ret
  exact ⟨rfl, Bw6⟩

/-! ### The row -/
set_option maxRecDepth 100000 in
theorem fnExactPlaysOf_lifted (os : Os) (started : os.Started) (H : Type) (enc : TypeId × Value → H) :
    ReturnsInHanded {} Try.checked os 8 .any (Rows.fnExactPlaysOfSpec.pre6 enc Try.prog Try.f8 Rows.fnExactPlaysOfRow.domain false) (Rows.fnExactPlaysOfSpec.post enc Try.prog Try.f8 false true false false) := by
  refine returnsInHanded_of_change (C := Try.checked) Try.own started (by kernel_rfl) Try.func8
    (ChangeSpec.witness6 (enc := enc) (C := Try.checked) false ⟨#[], #[.int .i64 0, .int .i64 0], []⟩ 8 (by kernel_rfl) (by kernel_rfl) (by kernel_rfl) (by kernel_rfl)) ?_
  intro W base args ds gs before hval0 hW hcnd _
  have hval : ∀ (j : Nat) t v, Try.f8.params[j]? = some t → args[j]? = some v → Value.okWide Try.prog W .any base t v := hval0
  have hW' := hW
  obtain ⟨p, q, hA0, hV, rfl, hfz, hnd⟩ := hW
  have hA : DataW.TrodAll enc Try.prog W 0 (fun _ => true) true Try.f8.params.toList args.toList ds p := hA0
  rw [Try.params8] at hA hval
  obtain ⟨v0, vs0, d0, ds0, p0, q0, hargs, rfl, rfl, h0, r0⟩ := trodAll_cons hA
  obtain ⟨v1, vs1, d1, ds1, p1, q1, rfl, rfl, rfl, h1, r1⟩ := trodAll_cons r0
  obtain ⟨rfl, rfl, rfl⟩ := trodAll_nil r1
  obtain rfl : args = #[v0, v1] := by cases args; simp_all
  obtain ⟨x0, rfl, rfl, rfl, wx0⟩ := open_int Try.underlying3 (hval 0 3 v0 rfl rfl) h0
  obtain ⟨x1, rfl, rfl, rfl, wx1⟩ := open_int Try.underlying3 (hval 1 3 v1 rfl rfl) h1
  clear hA0 hval0
  refine (fnExactPlaysOf_walk x0 x1 W).mono fun e W' ⟨he, hb⟩ => ?_
  subst he
  exact ⟨_, rfl, law_post Try.laidOut (by kernel_rfl) rfl Try.underlying4 rfl (fun ds hd => by match ds, hd with | [e0, e1], _ => rfl) hW' hb⟩

theorem fnExactPlaysOf_holds : Rows.FnExactPlaysOfSaid :=
  OpenClaim.holds_of_wide 8 Try.f8 rfl rfl rfl rfl rfl rfl rfl ⟨rfl, rfl, rfl, rfl, rfl⟩ rfl rfl rfl rfl rfl (by kernel_rfl) Try.func8 (by kernel_rfl)
    (of_decide_eq_true (by kernel_rfl)) (by unfold Func.isWrapper; first | (rw [if_pos (by decide +kernel)]; kernel_rfl) | (rw [if_neg (by decide +kernel)]; exact ⟨rfl, rfl⟩))
    (fun os started H enc _ => fnExactPlaysOf_lifted os started H enc)

end Go.Proofs.Ytgkiddmmlkkfkaa
