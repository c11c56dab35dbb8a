/- PlayWorth: the program's answer is the reference's, for all arguments; nothing is shared. -/
import Derived.Test.YtjedajfpohhojaaFnPlayWorth
import Derived.Test.YtjedajfpohhojaaRowB
import Derived.Test.YtjedajfpohhojaaHarD
set_option linter.unusedSimpArgs false
set_option linter.unusedVariables false
namespace Go.Proofs.Ytjedajfpohhojaa
open Go.ChangeShapes Go.WideShapes Go.ChangeAt Go.RowKit
open Go.ChangeMaps (open_string shut_string)

set_option maxHeartbeats 3000000 in
theorem fnExactPlayWorth_walk (x : Int) (y : Int) (vf : Value) (rsf : List (List Int)) (vp : Value) (xsp : List Int) (w : World) (hf : RdII w vf rsf) (hp : RdI w vp xsp) :
    Calls Try.prog 4 #[.int .i64 x, .int .i64 y, vf, vp] w fun e w' => e = .returned (.bool true) ∧ Below w.heap.size w w' := by
  have hw0 : w.heap.size ≤ w.heap.size := Nat.le_refl _
  have hmp : xsp.length ≤ maxLen := by obtain ⟨_, _, _, _, _, hm, _⟩ := hp; exact hm
  obtain ⟨qp, kp, hvp⟩ : ∃ q k, vp = .slice q xsp.length k := by obtain ⟨q, _, _, k, hv, _⟩ := hp; exact ⟨q, k, hv⟩
  subst hvp
  unfold maxLen at hmp
  by_cases hlp : (1048576 : Int) < xsp.length
  · go_enter Try.func4, Try.ntmps4
    go_wp2
    go_ret
    exact ⟨rfl, (by repeat' (first | with_reducible exact Below.refl _ _ | with_reducible assumption | with_reducible apply Below.alloc | with_reducible apply Below.setCell | with_reducible apply Below.drew | exact Nat.le_refl _ | omega | (simp only [World.size_alloc, World.size_setCell]; omega)))⟩
  replace hlp : xsp.length ≤ 1048576 := by omega
  go_enter Try.func4, Try.ntmps4
  go_wp2_with fail
  refine (szIntSS_any _ rsf 1048576 w (hf.kept (Nat.le_refl _) (by repeat' (first | with_reducible exact Below.refl _ _ | with_reducible assumption | with_reducible apply Below.alloc | with_reducible apply Below.setCell | with_reducible apply Below.drew | exact Nat.le_refl _ | omega | (simp only [World.size_alloc, World.size_setCell]; omega)))) (by omega) (by omega)).mono ?_
  rintro e e1 ⟨⟨lf, rfl, hsf⟩, rfl⟩
  by_cases hnf : lf < 0
  · go_wp2
    go_ret
    exact ⟨rfl, (by repeat' (first | with_reducible exact Below.refl _ _ | with_reducible assumption | with_reducible apply Below.alloc | with_reducible apply Below.setCell | with_reducible apply Below.drew | exact Nat.le_refl _ | omega | (simp only [World.size_alloc, World.size_setCell]; omega)))⟩
  obtain ⟨hsf, hqf⟩ : rsf.length + sumLen rsf ≤ 1048576 ∧ lf ≤ 1048576 := by unfold SzLeft at hsf; omega
  go_wp2_with fail
  refine (toIntSS_any _ rsf w (hf.kept (Nat.le_refl _) (by repeat' (first | with_reducible exact Below.refl _ _ | with_reducible assumption | with_reducible apply Below.alloc | with_reducible apply Below.setCell | with_reducible apply Below.drew | exact Nat.le_refl _ | omega | (simp only [World.size_alloc, World.size_setCell]; omega)))) hsf).mono ?_
  rintro e w1 ⟨auf, cuf, zuf, rfl, ouf, bw1⟩
  have BB : Below w.heap.size w w1 := bw1
  have sw1 : w.heap.size ≤ w1.heap.size := BB.size
  replace hw0 : w.heap.size ≤ w1.heap.size := by omega
  have Bw1 : Below w.heap.size w w1 := BB
  clear BB
  go_wp2_with fail
  refine (toIntS_any _ xsp w1 (hp.kept (Nat.le_refl _) Bw1) hlp).mono ?_
  rintro e w2 ⟨aup, cup, rfl, oup, bw2⟩
  have BB : Below w1.heap.size w1 w2 := bw2
  have sw2 : w1.heap.size ≤ w2.heap.size := BB.size
  replace hw0 : w.heap.size ≤ w2.heap.size := by omega
  replace ouf := ouf.kept BB (by omega)
  have Bw2 : Below w.heap.size w w2 := Bw1.trans (BB.mono Bw1.size)
  clear BB
  go_wp2_with fail
  refine (specPlayWorth_any x y _ rsf _ xsp w2 (ouf.rdII) (oup.rdI)).mono ?_
  rintro e w3 ⟨rfl, bw3⟩
  have BB : Below w2.heap.size w2 w3 := bw3
  have sw3 : w2.heap.size ≤ w3.heap.size := BB.size
  replace hw0 : w.heap.size ≤ w3.heap.size := by omega
  replace ouf := ouf.kept BB (by omega)
  replace oup := oup.kept BB (by omega)
  have Bw3 : Below w.heap.size w w3 := Bw2.trans (BB.mono Bw2.size)
  clear BB
  go_wp2_with fail
  refine (toIntSS_any _ rsf w3 (hf.kept (Nat.le_refl _) Bw3) hsf).mono ?_
  rintro e w4 ⟨axf, cxf, zxf, rfl, oxf, bw4⟩
  have BB : Below w3.heap.size w3 w4 := bw4
  have sw4 : w3.heap.size ≤ w4.heap.size := BB.size
  replace hw0 : w.heap.size ≤ w4.heap.size := by omega
  have Bw4 : Below w.heap.size w w4 := Bw3.trans (BB.mono Bw3.size)
  clear BB
  go_wp2_with fail
  refine (toIntS_any _ xsp w4 (hp.kept (Nat.le_refl _) Bw4) hlp).mono ?_
  rintro e w5 ⟨axp, cxp, rfl, oxp, bw5⟩
  have BB : Below w4.heap.size w4 w5 := bw5
  have sw5 : w4.heap.size ≤ w5.heap.size := BB.size
  replace hw0 : w.heap.size ≤ w5.heap.size := by omega
  replace oxf := oxf.kept BB (by omega)
  have Bw5 : Below w.heap.size w w5 := Bw4.trans (BB.mono Bw4.size)
  clear BB
  go_wp2_with fail
  refine (implPlayWorth_any x y _ rsf _ xsp w5 (oxf.rdII) (oxp.rdI)).mono ?_
  rintro e w6 ⟨rfl, bw6⟩
  have BB : Below w5.heap.size w5 w6 := bw6
  have sw6 : w5.heap.size ≤ w6.heap.size := BB.size
  replace hw0 : w.heap.size ≤ w6.heap.size := by omega
  replace oxf := oxf.kept BB (by omega)
  replace oxp := oxp.kept BB (by omega)
  have Bw6 : Below w.heap.size w w6 := Bw5.trans (BB.mono Bw5.size)
  clear BB
  have e0 : ((playWorthD x y rsf xsp) != (playWorthD x y rsf xsp)) = false := by simp
  have e1 : ((playWorthOk x y rsf xsp) != (playWorthOk x y rsf xsp)) = false := by simp
  go_wp2_with fail
  refine (toIntSS_any _ rsf w6 (hf.kept (Nat.le_refl _) Bw6) hsf).mono ?_
  rintro e w7 ⟨ayf, cyf, zyf, rfl, oyf, bw7⟩
  have BB : Below w6.heap.size w6 w7 := bw7
  have sw7 : w6.heap.size ≤ w7.heap.size := BB.size
  replace hw0 : w.heap.size ≤ w7.heap.size := by omega
  replace oxf := oxf.kept BB (by omega)
  replace oxp := oxp.kept BB (by omega)
  have Bw7 : Below w.heap.size w w7 := Bw6.trans (BB.mono Bw6.size)
  clear BB
  go_wp2_with fail
  refine (eqIntSS_any _ _ rsf rsf w7 (oxf.rdII) (oyf.rdII)).mono ?_
  rintro e w8 ⟨rfl, dw8⟩
  have dw8b := dw8.below w7.heap.size
  have BB : Below w7.heap.size w7 w8 := dw8b
  have sw8 : w7.heap.size ≤ w8.heap.size := BB.size
  replace hw0 : w.heap.size ≤ w8.heap.size := by omega
  replace oxf := oxf.kept BB (by omega)
  replace oxp := oxp.kept BB (by omega)
  replace oyf := oyf.kept BB (by omega)
  have Bw8 : Below w.heap.size w w8 := Bw7.trans (BB.mono Bw7.size)
  clear BB
  go_wp2_with fail
  refine (toIntS_any _ xsp w8 (hp.kept (Nat.le_refl _) Bw8) hlp).mono ?_
  rintro e w9 ⟨ayp, cyp, rfl, oyp, bw9⟩
  have BB : Below w8.heap.size w8 w9 := bw9
  have sw9 : w8.heap.size ≤ w9.heap.size := BB.size
  replace hw0 : w.heap.size ≤ w9.heap.size := by omega
  replace oxf := oxf.kept BB (by omega)
  replace oxp := oxp.kept BB (by omega)
  have Bw9 : Below w.heap.size w w9 := Bw8.trans (BB.mono Bw8.size)
  clear BB
  go_wp2_with fail
  refine (eqIntS_any _ _ xsp xsp w9 (oxp.rdI) (oyp.rdI)).mono ?_
  rintro e w10 ⟨rfl, dw10⟩
  have dw10b := dw10.below w9.heap.size
  have BB : Below w9.heap.size w9 w10 := dw10b
  have sw10 : w9.heap.size ≤ w10.heap.size := BB.size
  replace hw0 : w.heap.size ≤ w10.heap.size := by omega
  replace oxf := oxf.kept BB (by omega)
  replace oxp := oxp.kept BB (by omega)
  replace oyp := oyp.kept BB (by omega)
  have Bw10 : Below w.heap.size w w10 := Bw9.trans (BB.mono Bw9.size)
  clear BB
  go_wp2
  go_ret
  exact ⟨rfl, Bw10⟩

/-! ### The row -/
set_option maxRecDepth 100000 in
theorem fnExactPlayWorth_lifted (os : Os) (started : os.Started) (H : Type) (enc : TypeId × Value → H) :
    ReturnsInHanded {} Try.checked os 4 .any (Rows.fnExactPlayWorthSpec.pre6 enc Try.prog Try.f4 Rows.fnExactPlayWorthRow.domain false) (Rows.fnExactPlayWorthSpec.post enc Try.prog Try.f4 false true false false) := by
  refine returnsInHanded_of_change (C := Try.checked) Try.own started (by kernel_rfl) Try.func4
    (ChangeSpec.witness6 (enc := enc) (C := Try.checked) false ⟨#[], #[.int .i64 0, .int .i64 0, .slice none 0 0, .slice none 0 0], []⟩ 8 (by kernel_rfl) (by kernel_rfl) (by kernel_rfl) (by kernel_rfl)) ?_
  intro W base args ds gs before hval0 hW hcnd _
  have hval : ∀ (j : Nat) t v, Try.f4.params[j]? = some t → args[j]? = some v → Value.okWide Try.prog W .any base t v := hval0
  have hW' := hW
  obtain ⟨p, q, hA0, hV, rfl, hfz, hnd⟩ := hW
  have hA : DataW.TrodAll enc Try.prog W 0 (fun _ => true) true Try.f4.params.toList args.toList ds p := hA0
  rw [Try.params4] at hA hval
  obtain ⟨v0, vs0, d0, ds0, p0, q0, hargs, rfl, rfl, h0, r0⟩ := trodAll_cons hA
  obtain ⟨v1, vs1, d1, ds1, p1, q1, rfl, rfl, rfl, h1, r1⟩ := trodAll_cons r0
  obtain ⟨v2, vs2, d2, ds2, p2, q2, rfl, rfl, rfl, h2, r2⟩ := trodAll_cons r1
  obtain ⟨v3, vs3, d3, ds3, p3, q3, rfl, rfl, rfl, h3, r3⟩ := trodAll_cons r2
  obtain ⟨rfl, rfl, rfl⟩ := trodAll_nil r3
  obtain rfl : args = #[v0, v1, v2, v3] := by cases args; simp_all
  obtain ⟨x0, rfl, rfl, rfl, wx0⟩ := open_int Try.underlying3 (hval 0 3 v0 rfl rfl) h0
  obtain ⟨x1, rfl, rfl, rfl, wx1⟩ := open_int Try.underlying3 (hval 1 3 v1 rfl rfl) h1
  obtain ⟨xs2, hx2⟩ := rdII_of Try.underlying23 Try.underlying22 Try.underlying3 Try.cellsInts Try.cellsInt (hval 2 23 v2 rfl rfl) h2
  obtain ⟨xs3, hx3⟩ := rdI_of Try.underlying22 Try.underlying3 Try.cellsInt (hval 3 22 v3 rfl rfl) h3
  clear hA0 hval0
  refine (fnExactPlayWorth_walk x0 x1 _ xs2 _ xs3 W hx2 hx3).mono fun e W' ⟨he, hb⟩ => ?_
  subst he
  exact ⟨_, rfl, law_post Try.laidOut (by kernel_rfl) rfl Try.underlying4 rfl (fun ds hd => by match ds, hd with | [e0, e1, e2, e3], _ => rfl) hW' hb⟩

theorem fnExactPlayWorth_holds : Rows.FnExactPlayWorthSaid :=
  OpenClaim.holds_of_wide 4 Try.f4 rfl rfl rfl rfl rfl rfl rfl ⟨rfl, rfl, rfl, rfl, rfl⟩ rfl rfl rfl rfl rfl (by kernel_rfl) Try.func4 (by kernel_rfl)
    (of_decide_eq_true (by kernel_rfl)) (by unfold Func.isWrapper; first | (rw [if_pos (by decide +kernel)]; kernel_rfl) | (rw [if_neg (by decide +kernel)]; exact ⟨rfl, rfl⟩))
    (fun os started H enc _ => fnExactPlayWorth_lifted os started H enc)

end Go.Proofs.Ytjedajfpohhojaa
