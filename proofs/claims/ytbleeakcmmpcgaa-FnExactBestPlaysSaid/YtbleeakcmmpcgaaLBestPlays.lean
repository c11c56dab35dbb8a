/- BestPlays: the program's answer is the reference's, for all arguments; nothing is shared. -/
import Derived.Test.YtbleeakcmmpcgaaFnBest
import Derived.Test.YtbleeakcmmpcgaaRowB
import Derived.Test.YtbleeakcmmpcgaaHarD
set_option linter.unusedSimpArgs false
set_option linter.unusedVariables false
namespace Go.Proofs.Ytbleeakcmmpcgaa
open Go.ChangeShapes Go.WideShapes Go.ChangeAt Go.RowKit
open Go.ChangeMaps (open_string shut_string)

set_option maxHeartbeats 3000000 in
theorem fnExactBestPlays_walk (x : Int) (y : Int) (vf : Value) (rsf : List (List Int)) (w : World) (hf : RdII w vf rsf) :
    Calls Try.prog 4 #[.int .i64 x, .int .i64 y, vf] w fun e w' => e = .returned (.bool true) ∧ Below w.heap.size w w' := by
  have hw0 : w.heap.size ≤ w.heap.size := Nat.le_refl _
  go_enter Try.func4, Try.ntmps4
  go_wp2_with fail
  refine (szIntSS_any _ rsf 1048576 w (hf.kept (Nat.le_refl _) (by repeat' (first | with_reducible exact Below.refl _ _ | with_reducible assumption | with_reducible apply Below.alloc | with_reducible apply Below.setCell | with_reducible apply Below.drew | exact Nat.le_refl _ | omega | (simp only [World.size_alloc, World.size_setCell]; omega)))) (by omega) (by omega)).mono ?_
  rintro e e1 ⟨⟨lf, rfl, hsf⟩, rfl⟩
  by_cases hnf : lf < 0
  · go_wp2
    go_ret
    exact ⟨rfl, (by repeat' (first | with_reducible exact Below.refl _ _ | with_reducible assumption | with_reducible apply Below.alloc | with_reducible apply Below.setCell | with_reducible apply Below.drew | exact Nat.le_refl _ | omega | (simp only [World.size_alloc, World.size_setCell]; omega)))⟩
  obtain ⟨hsf, hqf⟩ : rsf.length + sumLen rsf ≤ 1048576 ∧ lf ≤ 1048576 := by unfold SzLeft at hsf; omega
  go_wp2_with fail
  refine (toIntSS_any _ rsf w (hf.kept (Nat.le_refl _) (by repeat' (first | with_reducible exact Below.refl _ _ | with_reducible assumption | with_reducible apply Below.alloc | with_reducible apply Below.setCell | with_reducible apply Below.drew | exact Nat.le_refl _ | omega | (simp only [World.size_alloc, World.size_setCell]; omega)))) hsf).mono ?_
  rintro e w1 ⟨auf, cuf, zuf, rfl, ouf, bw1⟩
  have BB : Below w.heap.size w w1 := bw1
  have sw1 : w.heap.size ≤ w1.heap.size := BB.size
  replace hw0 : w.heap.size ≤ w1.heap.size := by omega
  have Bw1 : Below w.heap.size w w1 := BB
  clear BB
  go_wp2_with fail
  refine (specBestPlays_any x y _ rsf w1 (ouf.rdII)).mono ?_
  rintro e w2 ⟨aR, cR, zR, rfl, oR, bw2⟩
  have BB : Below w1.heap.size w1 w2 := bw2
  have sw2 : w1.heap.size ≤ w2.heap.size := BB.size
  replace hw0 : w.heap.size ≤ w2.heap.size := by omega
  replace ouf := ouf.kept BB (by omega)
  have Bw2 : Below w.heap.size w w2 := Bw1.trans (BB.mono Bw1.size)
  clear BB
  go_wp2_with fail
  refine (toIntSS_any _ rsf w2 (hf.kept (Nat.le_refl _) Bw2) hsf).mono ?_
  rintro e w3 ⟨axf, cxf, zxf, rfl, oxf, bw3⟩
  have BB : Below w2.heap.size w2 w3 := bw3
  have sw3 : w2.heap.size ≤ w3.heap.size := BB.size
  replace hw0 : w.heap.size ≤ w3.heap.size := by omega
  replace oR := oR.kept BB (by omega)
  have Bw3 : Below w.heap.size w w3 := Bw2.trans (BB.mono Bw2.size)
  clear BB
  go_wp2_with fail
  refine (implBestPlays_any x y _ rsf w3 (oxf.rdII)).mono ?_
  rintro e w4 ⟨aI, cI, zI, rfl, oI, bw4⟩
  have BB : Below w3.heap.size w3 w4 := bw4
  have sw4 : w3.heap.size ≤ w4.heap.size := BB.size
  replace hw0 : w.heap.size ≤ w4.heap.size := by omega
  replace oR := oR.kept BB (by omega)
  replace oxf := oxf.kept BB (by omega)
  have Bw4 : Below w.heap.size w w4 := Bw3.trans (BB.mono Bw3.size)
  clear BB
  have hz0 := bestD_size x y rsf
  have e1 : ((funcB x y rsf) != (funcB x y rsf)) = false := by simp
  go_wp2_with fail
  refine (eqIntSS_any _ _ (bestD x y rsf) (bestD x y rsf) w4 (oI.rdII) (oR.rdII)).mono ?_
  rintro e w5 ⟨rfl, dw5⟩
  have dw5b := dw5.below w4.heap.size
  have BB : Below w4.heap.size w4 w5 := dw5b
  have sw5 : w4.heap.size ≤ w5.heap.size := BB.size
  replace hw0 : w.heap.size ≤ w5.heap.size := by omega
  replace oR := oR.kept BB (by omega)
  replace oxf := oxf.kept BB (by omega)
  replace oI := oI.kept BB (by omega)
  have Bw5 : Below w.heap.size w w5 := Bw4.trans (BB.mono Bw4.size)
  clear BB
  go_wp2_with fail
  refine (toIntSS_any _ rsf w5 (hf.kept (Nat.le_refl _) Bw5) hsf).mono ?_
  rintro e w6 ⟨ayf, cyf, zyf, rfl, oyf, bw6⟩
  have BB : Below w5.heap.size w5 w6 := bw6
  have sw6 : w5.heap.size ≤ w6.heap.size := BB.size
  replace hw0 : w.heap.size ≤ w6.heap.size := by omega
  replace oR := oR.kept BB (by omega)
  replace oxf := oxf.kept BB (by omega)
  replace oI := oI.kept BB (by omega)
  have Bw6 : Below w.heap.size w w6 := Bw5.trans (BB.mono Bw5.size)
  clear BB
  go_wp2_with fail
  refine (eqIntSS_any _ _ rsf rsf w6 (oxf.rdII) (oyf.rdII)).mono ?_
  rintro e w7 ⟨rfl, dw7⟩
  have dw7b := dw7.below w6.heap.size
  have BB : Below w6.heap.size w6 w7 := dw7b
  have sw7 : w6.heap.size ≤ w7.heap.size := BB.size
  replace hw0 : w.heap.size ≤ w7.heap.size := by omega
  replace oR := oR.kept BB (by omega)
  replace oxf := oxf.kept BB (by omega)
  replace oI := oI.kept BB (by omega)
  replace oyf := oyf.kept BB (by omega)
  have Bw7 : Below w.heap.size w w7 := Bw6.trans (BB.mono Bw6.size)
  clear BB
  go_wp2_with fail
  refine (markIntSS_any _ _ _ _ _ _ _ _ _ oxf (by omega) (by omega) (by omega)).mono ?_
  rintro e w8 ⟨rfl, oxf, mw8⟩
  replace oR := oR.mid mw8 (by omega)
  replace oI := oI.mid mw8 (by omega)
  have sw8 : w7.heap.size ≤ w8.heap.size := mw8.size
  have Bw8 : Below w.heap.size w w8 := Bw7.trans (mw8.below (by omega) (by omega))
  replace hw0 : w.heap.size ≤ w8.heap.size := by omega
  clear mw8
  go_wp2_with fail
  refine (eqIntSS_any _ _ (bestD x y rsf) (bestD x y rsf) w8 (oI.rdII) (oR.rdII)).mono ?_
  rintro e w9 ⟨rfl, dw9⟩
  have dw9b := dw9.below w8.heap.size
  have BB : Below w8.heap.size w8 w9 := dw9b
  have sw9 : w8.heap.size ≤ w9.heap.size := BB.size
  replace hw0 : w.heap.size ≤ w9.heap.size := by omega
  replace oR := oR.kept BB (by omega)
  replace oI := oI.kept BB (by omega)
  have Bw9 : Below w.heap.size w w9 := Bw8.trans (BB.mono Bw8.size)
  clear BB
  go_wp2_with fail
  refine (markIntSS_any _ _ _ _ _ _ _ _ _ oI (by omega) (by omega) (by omega)).mono ?_
  rintro e w10 ⟨rfl, oI, mw10⟩
  replace oR := oR.mid mw10 (by omega)
  have sw10 : w9.heap.size ≤ w10.heap.size := mw10.size
  have Bw10 : Below w.heap.size w w10 := Bw9.trans (mw10.below (by omega) (by omega))
  replace hw0 : w.heap.size ≤ w10.heap.size := by omega
  clear mw10
  go_wp2_with fail
  refine (heldIntSS_any _ _ _ _ (oI.rdII) (by omega) (by omega) (by omega)).mono ?_
  rintro e e1 ⟨rfl, rfl⟩
  go_wp2_with fail
  refine (toIntSS_any _ rsf w10 (hf.kept (Nat.le_refl _) Bw10) hsf).mono ?_
  rintro e w11 ⟨atf, ctf, ztf, rfl, otf, bw11⟩
  have BB : Below w10.heap.size w10 w11 := bw11
  have sw11 : w10.heap.size ≤ w11.heap.size := BB.size
  replace hw0 : w.heap.size ≤ w11.heap.size := by omega
  replace oR := oR.kept BB (by omega)
  replace oI := oI.kept BB (by omega)
  have Bw11 : Below w.heap.size w w11 := Bw10.trans (BB.mono Bw10.size)
  clear BB
  go_wp2_with fail
  refine (implBestPlays_any x y _ rsf w11 (otf.rdII)).mono ?_
  rintro e w12 ⟨aJ, cJ, zJ, rfl, oJ, bw12⟩
  have BB : Below w11.heap.size w11 w12 := bw12
  have sw12 : w11.heap.size ≤ w12.heap.size := BB.size
  replace hw0 : w.heap.size ≤ w12.heap.size := by omega
  replace oR := oR.kept BB (by omega)
  replace oI := oI.kept BB (by omega)
  replace otf := otf.kept BB (by omega)
  have Bw12 : Below w.heap.size w w12 := Bw11.trans (BB.mono Bw11.size)
  clear BB
  go_wp2_with fail
  refine (eqIntSS_any _ _ (bestD x y rsf) (bestD x y rsf) w12 (oJ.rdII) (oR.rdII)).mono ?_
  rintro e w13 ⟨rfl, dw13⟩
  have dw13b := dw13.below w12.heap.size
  have BB : Below w12.heap.size w12 w13 := dw13b
  have sw13 : w12.heap.size ≤ w13.heap.size := BB.size
  replace hw0 : w.heap.size ≤ w13.heap.size := by omega
  replace oR := oR.kept BB (by omega)
  replace oI := oI.kept BB (by omega)
  replace otf := otf.kept BB (by omega)
  replace oJ := oJ.kept BB (by omega)
  have Bw13 : Below w.heap.size w w13 := Bw12.trans (BB.mono Bw12.size)
  clear BB
  go_wp2_with fail
  refine (heldIntSS_any _ _ _ _ (oI.rdII) (by omega) (by omega) (by omega)).mono ?_
  rintro e e1 ⟨rfl, rfl⟩
  go_wp2
  go_ret
  exact ⟨rfl, Bw13⟩

/-! ### The row -/
set_option maxRecDepth 100000 in
theorem fnExactBestPlays_lifted (os : Os) (started : os.Started) (H : Type) (enc : TypeId × Value → H) :
    ReturnsInHanded {} Try.checked os 4 .any (Rows.fnExactBestPlaysSpec.pre6 enc Try.prog Try.f4 Rows.fnExactBestPlaysRow.domain false) (Rows.fnExactBestPlaysSpec.post enc Try.prog Try.f4 false true false false) := by
  refine returnsInHanded_of_change (C := Try.checked) Try.own started (by kernel_rfl) Try.func4
    (ChangeSpec.witness6 (enc := enc) (C := Try.checked) false ⟨#[], #[.int .i64 0, .int .i64 0, .slice none 0 0], []⟩ 8 (by kernel_rfl) (by kernel_rfl) (by kernel_rfl) (by kernel_rfl)) ?_
  intro W base args ds gs before hval0 hW hcnd _
  have hval : ∀ (j : Nat) t v, Try.f4.params[j]? = some t → args[j]? = some v → Value.okWide Try.prog W .any base t v := hval0
  have hW' := hW
  obtain ⟨p, q, hA0, hV, rfl, hfz, hnd⟩ := hW
  have hA : DataW.TrodAll enc Try.prog W 0 (fun _ => true) true Try.f4.params.toList args.toList ds p := hA0
  rw [Try.params4] at hA hval
  obtain ⟨v0, vs0, d0, ds0, p0, q0, hargs, rfl, rfl, h0, r0⟩ := trodAll_cons hA
  obtain ⟨v1, vs1, d1, ds1, p1, q1, rfl, rfl, rfl, h1, r1⟩ := trodAll_cons r0
  obtain ⟨v2, vs2, d2, ds2, p2, q2, rfl, rfl, rfl, h2, r2⟩ := trodAll_cons r1
  obtain ⟨rfl, rfl, rfl⟩ := trodAll_nil r2
  obtain rfl : args = #[v0, v1, v2] := by cases args; simp_all
  obtain ⟨x0, rfl, rfl, rfl, wx0⟩ := open_int Try.underlying3 (hval 0 3 v0 rfl rfl) h0
  obtain ⟨x1, rfl, rfl, rfl, wx1⟩ := open_int Try.underlying3 (hval 1 3 v1 rfl rfl) h1
  obtain ⟨xs2, hx2⟩ := rdII_of Try.underlying22 Try.underlying31 Try.underlying3 Try.cellsInts Try.cellsInt (hval 2 22 v2 rfl rfl) h2
  clear hA0 hval0
  refine (fnExactBestPlays_walk x0 x1 _ xs2 W hx2).mono fun e W' ⟨he, hb⟩ => ?_
  subst he
  exact ⟨_, rfl, law_post Try.laidOut (by kernel_rfl) rfl Try.underlying4 rfl (fun ds hd => by match ds, hd with | [e0, e1, e2], _ => rfl) hW' hb⟩

theorem fnExactBestPlays_holds : Rows.FnExactBestPlaysSaid :=
  OpenClaim.holds_of_wide 4 Try.f4 rfl rfl rfl rfl rfl rfl rfl ⟨rfl, rfl, rfl, rfl, rfl⟩ rfl rfl rfl rfl rfl (by kernel_rfl) Try.func4 (by kernel_rfl)
    (of_decide_eq_true (by kernel_rfl)) (by unfold Func.isWrapper; first | (rw [if_pos (by decide +kernel)]; kernel_rfl) | (rw [if_neg (by decide +kernel)]; exact ⟨rfl, rfl⟩))
    (fun os started H enc _ => fnExactBestPlays_lifted os started H enc)

end Go.Proofs.Ytbleeakcmmpcgaa
