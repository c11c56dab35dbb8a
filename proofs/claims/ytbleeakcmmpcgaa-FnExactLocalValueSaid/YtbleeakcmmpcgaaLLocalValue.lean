/- LocalValue: the program's answer is the reference's, for all arguments; nothing is shared. -/
import Derived.Test.YtbleeakcmmpcgaaFnLocal
import Derived.Test.YtbleeakcmmpcgaaRowB
import Derived.Test.YtbleeakcmmpcgaaHarD
set_option linter.unusedSimpArgs false
set_option linter.unusedVariables false
namespace Go.Proofs.Ytbleeakcmmpcgaa
open Go.ChangeShapes Go.WideShapes Go.ChangeAt Go.RowKit
open Go.ChangeMaps (open_string shut_string)

set_option maxHeartbeats 3000000 in
theorem fnExactLocalValue_walk (x : Int) (y : Int) (vf : Value) (rsf : List (List Int)) (w : World) (hf : RdII w vf rsf) :
    Calls Try.prog 3 #[.int .i64 x, .int .i64 y, vf] w fun e w' => e = .returned (.bool true) ∧ Below w.heap.size w w' := by
  have hw0 : w.heap.size ≤ w.heap.size := Nat.le_refl _
  go_enter Try.func3, Try.ntmps3
  go_wp2_with fail
  refine (szIntSS_any _ rsf 1048576 w (hf.kept (Nat.le_refl _) (by repeat' (first | with_reducible exact Below.refl _ _ | with_reducible assumption | with_reducible apply Below.alloc | with_reducible apply Below.setCell | with_reducible apply Below.drew | exact Nat.le_refl _ | omega | (simp only [World.size_alloc, World.size_setCell]; omega)))) (by omega) (by omega)).mono ?_
  rintro e e1 ⟨⟨lf, rfl, hsf⟩, rfl⟩
  by_cases hnf : lf < 0
  · go_wp2
    go_ret
    exact ⟨rfl, (by repeat' (first | with_reducible exact Below.refl _ _ | with_reducible assumption | with_reducible apply Below.alloc | with_reducible apply Below.setCell | with_reducible apply Below.drew | exact Nat.le_refl _ | omega | (simp only [World.size_alloc, World.size_setCell]; omega)))⟩
  obtain ⟨hsf, hqf⟩ : rsf.length + sumLen rsf ≤ 1048576 ∧ lf ≤ 1048576 := by unfold SzLeft at hsf; omega
  go_wp2_with fail
  refine (toIntSS_any _ rsf w (hf.kept (Nat.le_refl _) (by repeat' (first | with_reducible exact Below.refl _ _ | with_reducible assumption | with_reducible apply Below.alloc | with_reducible apply Below.setCell | with_reducible apply Below.drew | exact Nat.le_refl _ | omega | (simp only [World.size_alloc, World.size_setCell]; omega)))) hsf).mono ?_
  rintro e w1 ⟨auf, cuf, zuf, rfl, ouf, bw1⟩
  have BB : Below w.heap.size w w1 := bw1
  have sw1 : w.heap.size ≤ w1.heap.size := BB.size
  replace hw0 : w.heap.size ≤ w1.heap.size := by omega
  have Bw1 : Below w.heap.size w w1 := BB
  clear BB
  go_wp2_with fail
  refine (specLocalValue_any x y _ rsf w1 (ouf.rdII)).mono ?_
  rintro e w2 ⟨rfl, bw2⟩
  have BB : Below w1.heap.size w1 w2 := bw2
  have sw2 : w1.heap.size ≤ w2.heap.size := BB.size
  replace hw0 : w.heap.size ≤ w2.heap.size := by omega
  replace ouf := ouf.kept BB (by omega)
  have Bw2 : Below w.heap.size w w2 := Bw1.trans (BB.mono Bw1.size)
  clear BB
  go_wp2_with fail
  refine (toIntSS_any _ rsf w2 (hf.kept (Nat.le_refl _) Bw2) hsf).mono ?_
  rintro e w3 ⟨axf, cxf, zxf, rfl, oxf, bw3⟩
  have BB : Below w2.heap.size w2 w3 := bw3
  have sw3 : w2.heap.size ≤ w3.heap.size := BB.size
  replace hw0 : w.heap.size ≤ w3.heap.size := by omega
  have Bw3 : Below w.heap.size w w3 := Bw2.trans (BB.mono Bw2.size)
  clear BB
  go_wp2_with fail
  refine (implLocalValue_any x y _ rsf w3 (oxf.rdII)).mono ?_
  rintro e w4 ⟨rfl, bw4⟩
  have BB : Below w3.heap.size w3 w4 := bw4
  have sw4 : w3.heap.size ≤ w4.heap.size := BB.size
  replace hw0 : w.heap.size ≤ w4.heap.size := by omega
  replace oxf := oxf.kept BB (by omega)
  have Bw4 : Below w.heap.size w w4 := Bw3.trans (BB.mono Bw3.size)
  clear BB
  have e0 : ((localD x y rsf) != (localD x y rsf)) = false := by simp
  have e1 : ((funcB x y rsf) != (funcB x y rsf)) = false := by simp
  go_wp2_with fail
  refine (toIntSS_any _ rsf w4 (hf.kept (Nat.le_refl _) Bw4) hsf).mono ?_
  rintro e w5 ⟨ayf, cyf, zyf, rfl, oyf, bw5⟩
  have BB : Below w4.heap.size w4 w5 := bw5
  have sw5 : w4.heap.size ≤ w5.heap.size := BB.size
  replace hw0 : w.heap.size ≤ w5.heap.size := by omega
  replace oxf := oxf.kept BB (by omega)
  have Bw5 : Below w.heap.size w w5 := Bw4.trans (BB.mono Bw4.size)
  clear BB
  go_wp2_with fail
  refine (eqIntSS_any _ _ rsf rsf w5 (oxf.rdII) (oyf.rdII)).mono ?_
  rintro e w6 ⟨rfl, dw6⟩
  have dw6b := dw6.below w5.heap.size
  have BB : Below w5.heap.size w5 w6 := dw6b
  have sw6 : w5.heap.size ≤ w6.heap.size := BB.size
  replace hw0 : w.heap.size ≤ w6.heap.size := by omega
  replace oxf := oxf.kept BB (by omega)
  replace oyf := oyf.kept BB (by omega)
  have Bw6 : Below w.heap.size w w6 := Bw5.trans (BB.mono Bw5.size)
  clear BB
  go_wp2
  go_ret
  exact ⟨rfl, Bw6⟩

/-! ### The row -/
set_option maxRecDepth 100000 in
theorem fnExactLocalValue_lifted (os : Os) (started : os.Started) (H : Type) (enc : TypeId × Value → H) :
    ReturnsInHanded {} Try.checked os 3 .any (Rows.fnExactLocalValueSpec.pre6 enc Try.prog Try.f3 Rows.fnExactLocalValueRow.domain false) (Rows.fnExactLocalValueSpec.post enc Try.prog Try.f3 false true false false) := by
  refine returnsInHanded_of_change (C := Try.checked) Try.own started (by kernel_rfl) Try.func3
    (ChangeSpec.witness6 (enc := enc) (C := Try.checked) false ⟨#[], #[.int .i64 0, .int .i64 0, .slice none 0 0], []⟩ 8 (by kernel_rfl) (by kernel_rfl) (by kernel_rfl) (by kernel_rfl)) ?_
  intro W base args ds gs before hval0 hW hcnd _
  have hval : ∀ (j : Nat) t v, Try.f3.params[j]? = some t → args[j]? = some v → Value.okWide Try.prog W .any base t v := hval0
  have hW' := hW
  obtain ⟨p, q, hA0, hV, rfl, hfz, hnd⟩ := hW
  have hA : DataW.TrodAll enc Try.prog W 0 (fun _ => true) true Try.f3.params.toList args.toList ds p := hA0
  rw [Try.params3] at hA hval
  obtain ⟨v0, vs0, d0, ds0, p0, q0, hargs, rfl, rfl, h0, r0⟩ := trodAll_cons hA
  obtain ⟨v1, vs1, d1, ds1, p1, q1, rfl, rfl, rfl, h1, r1⟩ := trodAll_cons r0
  obtain ⟨v2, vs2, d2, ds2, p2, q2, rfl, rfl, rfl, h2, r2⟩ := trodAll_cons r1
  obtain ⟨rfl, rfl, rfl⟩ := trodAll_nil r2
  obtain rfl : args = #[v0, v1, v2] := by cases args; simp_all
  obtain ⟨x0, rfl, rfl, rfl, wx0⟩ := open_int Try.underlying3 (hval 0 3 v0 rfl rfl) h0
  obtain ⟨x1, rfl, rfl, rfl, wx1⟩ := open_int Try.underlying3 (hval 1 3 v1 rfl rfl) h1
  obtain ⟨xs2, hx2⟩ := rdII_of Try.underlying22 Try.underlying31 Try.underlying3 Try.cellsInts Try.cellsInt (hval 2 22 v2 rfl rfl) h2
  clear hA0 hval0
  refine (fnExactLocalValue_walk x0 x1 _ xs2 W hx2).mono fun e W' ⟨he, hb⟩ => ?_
  subst he
  exact ⟨_, rfl, law_post Try.laidOut (by kernel_rfl) rfl Try.underlying4 rfl (fun ds hd => by match ds, hd with | [e0, e1, e2], _ => rfl) hW' hb⟩

theorem fnExactLocalValue_holds : Rows.FnExactLocalValueSaid :=
  OpenClaim.holds_of_wide 3 Try.f3 rfl rfl rfl rfl rfl rfl rfl ⟨rfl, rfl, rfl, rfl, rfl⟩ rfl rfl rfl rfl rfl (by kernel_rfl) Try.func3 (by kernel_rfl)
    (of_decide_eq_true (by kernel_rfl)) (by unfold Func.isWrapper; first | (rw [if_pos (by decide +kernel)]; kernel_rfl) | (rw [if_neg (by decide +kernel)]; exact ⟨rfl, rfl⟩))
    (fun os started H enc _ => fnExactLocalValue_lifted os started H enc)

end Go.Proofs.Ytbleeakcmmpcgaa
