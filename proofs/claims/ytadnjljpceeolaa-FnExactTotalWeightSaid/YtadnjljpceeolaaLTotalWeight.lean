/- TotalWeight: the program's answer is the reference's, for all arguments; nothing is shared. -/
import Derived.Test.YtadnjljpceeolaaFnGame
import Derived.Test.YtadnjljpceeolaaRowB
import Derived.Test.YtadnjljpceeolaaHarD
set_option linter.unusedSimpArgs false
set_option linter.unusedVariables false
namespace Go.Proofs.Ytadnjljpceeolaa
open Go.ChangeShapes Go.WideShapes Go.ChangeAt Go.RowKit
open Go.ChangeMaps (open_string shut_string)

set_option maxHeartbeats 3000000 in
theorem fnExactTotalWeight_walk (ug vg : Value) (gg : GameD) (w : World) (hug : RdI w ug gg.Weights) (hg : RdII w vg gg.Wins) :
    Calls Try.prog 3 #[.agg #[.int .i64 gg.X, .int .i64 gg.Y, ug, vg]] w fun e w' => e = .returned (.bool true) ∧ Below w.heap.size w w' := by
  have hw0 : w.heap.size ≤ w.heap.size := Nat.le_refl _
  go_enter Try.func3, Try.ntmps3
  go_wp2_with fail
  refine (szGame_any ug vg gg 1048576 (w.alloc (.cells #[.int .i64 gg.X, .int .i64 gg.Y, ug, vg] 25)) (hug.kept (Nat.le_refl _) (by repeat' (first | with_reducible exact Below.refl _ _ | with_reducible assumption | with_reducible apply Below.alloc | with_reducible apply Below.setCell | with_reducible apply Below.drew | exact Nat.le_refl _ | omega | (simp only [World.size_alloc, World.size_setCell]; omega)))) (hg.kept (Nat.le_refl _) (by repeat' (first | with_reducible exact Below.refl _ _ | with_reducible assumption | with_reducible apply Below.alloc | with_reducible apply Below.setCell | with_reducible apply Below.drew | exact Nat.le_refl _ | omega | (simp only [World.size_alloc, World.size_setCell]; omega)))) (by omega) (by omega)).mono ?_
  rintro e w1 ⟨⟨lg, rfl, hsg⟩, bw1⟩
  have BB : Below w.heap.size w w1 := Below.trans (by repeat' (first | with_reducible exact Below.refl _ _ | with_reducible assumption | with_reducible apply Below.alloc | with_reducible apply Below.setCell | with_reducible apply Below.drew | exact Nat.le_refl _ | omega | (simp only [World.size_alloc, World.size_setCell]; omega))) (bw1.mono (by first | exact Nat.le_refl _ | omega | (simp only [World.size_alloc, World.size_setCell]; omega)))
  have sw1 : w.heap.size ≤ w1.heap.size := BB.size
  have tw1 := bw1.size
  simp only [World.size_alloc] at tw1
  obtain ⟨pg0, pg1, pg2, pg3⟩ : w1.cell? ⟨w.heap.size, 0, none⟩ = some (.int .i64 gg.X) ∧ w1.cell? ⟨w.heap.size, 1, none⟩ = some (.int .i64 gg.Y) ∧ w1.cell? ⟨w.heap.size, 2, none⟩ = some (ug) ∧ w1.cell? ⟨w.heap.size, 3, none⟩ = some (vg) := by
    obtain ⟨hc, _⟩ := bcell bw1
    refine ⟨?_, ?_, ?_, ?_⟩ <;> (rw [hc _ _ (by simp only [World.size_alloc]; omega)]; simp)
  replace hw0 : w.heap.size ≤ w1.heap.size := by omega
  have Bw1 : Below w.heap.size w w1 := BB
  clear BB
  have lpgw1 : w.heap.size < w1.heap.size := by omega
  by_cases hng : lg < 0
  · go_wp2
    go_ret
    exact ⟨rfl, Bw1⟩
  obtain ⟨hsg, hqg⟩ : SmallGame gg ∧ lg ≤ 1048576 := by unfold SzLeft at hsg; unfold SmallGame; omega
  go_wp2_with fail
  refine (toGame_any ug vg gg w1 (hug.kept (Nat.le_refl _) Bw1) (hg.kept (Nat.le_refl _) Bw1) hsg).mono ?_
  rintro e w2 ⟨aug, cug, dug, fug, zug, rfl, pug, oug, bw2⟩
  have BB : Below w1.heap.size w1 w2 := bw2
  have sw2 : w1.heap.size ≤ w2.heap.size := BB.size
  replace hw0 : w.heap.size ≤ w2.heap.size := by omega
  have tq := cells4_kept BB (by omega) pg0 pg1 pg2 pg3
  clear pg0 pg1 pg2 pg3
  obtain ⟨pg0, pg1, pg2, pg3⟩ := tq
  have Bw2 : Below w.heap.size w w2 := Bw1.trans (BB.mono Bw1.size)
  clear BB
  have lpgw2 : w.heap.size < w2.heap.size := by omega
  go_wp2_with fail
  refine (specTotalWeight_any _ _ gg w2 (pug.rdI) (oug.rdII)).mono ?_
  rintro e w3 ⟨rfl, bw3⟩
  have BB : Below w2.heap.size w2 w3 := bw3
  have sw3 : w2.heap.size ≤ w3.heap.size := BB.size
  replace hw0 : w.heap.size ≤ w3.heap.size := by omega
  have tq := cells4_kept BB (by omega) pg0 pg1 pg2 pg3
  clear pg0 pg1 pg2 pg3
  obtain ⟨pg0, pg1, pg2, pg3⟩ := tq
  replace pug := pug.kept BB (by omega)
  replace oug := oug.kept BB (by omega)
  have Bw3 : Below w.heap.size w w3 := Bw2.trans (BB.mono Bw2.size)
  clear BB
  have lpgw3 : w.heap.size < w3.heap.size := by omega
  go_wp2_with fail
  refine (toGame_any ug vg gg w3 (hug.kept (Nat.le_refl _) Bw3) (hg.kept (Nat.le_refl _) Bw3) hsg).mono ?_
  rintro e w4 ⟨axg, cxg, dxg, fxg, zxg, rfl, pxg, oxg, bw4⟩
  have BB : Below w3.heap.size w3 w4 := bw4
  have sw4 : w3.heap.size ≤ w4.heap.size := BB.size
  replace hw0 : w.heap.size ≤ w4.heap.size := by omega
  have tq := cells4_kept BB (by omega) pg0 pg1 pg2 pg3
  clear pg0 pg1 pg2 pg3
  obtain ⟨pg0, pg1, pg2, pg3⟩ := tq
  have Bw4 : Below w.heap.size w w4 := Bw3.trans (BB.mono Bw3.size)
  clear BB
  have lpgw4 : w.heap.size < w4.heap.size := by omega
  go_wp2_with fail
  refine (implTotalWeight_any _ _ gg (w4.alloc (.cells #[.int .i64 gg.X, .int .i64 gg.Y, .slice axg gg.Weights.length cxg, .slice dxg gg.Wins.length fxg] 29)) ((pxg.rdI.kept (Nat.le_refl _) (by repeat' (first | with_reducible exact Below.refl _ _ | with_reducible assumption | with_reducible apply Below.alloc | with_reducible apply Below.setCell | with_reducible apply Below.drew | exact Nat.le_refl _ | omega | (simp only [World.size_alloc, World.size_setCell]; omega))))) ((oxg.rdII.kept (Nat.le_refl _) (by repeat' (first | with_reducible exact Below.refl _ _ | with_reducible assumption | with_reducible apply Below.alloc | with_reducible apply Below.setCell | with_reducible apply Below.drew | exact Nat.le_refl _ | omega | (simp only [World.size_alloc, World.size_setCell]; omega)))))).mono ?_
  rintro e w5 ⟨rfl, bw5⟩
  have BB : Below w4.heap.size w4 w5 := Below.trans (by repeat' (first | with_reducible exact Below.refl _ _ | with_reducible assumption | with_reducible apply Below.alloc | with_reducible apply Below.setCell | with_reducible apply Below.drew | exact Nat.le_refl _ | omega | (simp only [World.size_alloc, World.size_setCell]; omega))) (bw5.mono (by first | exact Nat.le_refl _ | omega | (simp only [World.size_alloc, World.size_setCell]; omega)))
  have sw5 : w4.heap.size ≤ w5.heap.size := BB.size
  have tw5 := bw5.size
  simp only [World.size_alloc] at tw5
  obtain ⟨xg0, xg1, xg2, xg3⟩ : w5.cell? ⟨w4.heap.size, 0, none⟩ = some (.int .i64 gg.X) ∧ w5.cell? ⟨w4.heap.size, 1, none⟩ = some (.int .i64 gg.Y) ∧ w5.cell? ⟨w4.heap.size, 2, none⟩ = some (.slice axg gg.Weights.length cxg) ∧ w5.cell? ⟨w4.heap.size, 3, none⟩ = some (.slice dxg gg.Wins.length fxg) := by
    obtain ⟨hc, _⟩ := bcell bw5
    refine ⟨?_, ?_, ?_, ?_⟩ <;> (rw [hc _ _ (by simp only [World.size_alloc]; omega)]; simp)
  replace hw0 : w.heap.size ≤ w5.heap.size := by omega
  have tq := cells4_kept BB (by omega) pg0 pg1 pg2 pg3
  clear pg0 pg1 pg2 pg3
  obtain ⟨pg0, pg1, pg2, pg3⟩ := tq
  replace pxg := pxg.kept BB (by omega)
  replace oxg := oxg.kept BB (by omega)
  have Bw5 : Below w.heap.size w w5 := Bw4.trans (BB.mono Bw4.size)
  clear BB
  have lpgw5 : w.heap.size < w5.heap.size := by omega
  have lxgw5 : w4.heap.size < w5.heap.size := by omega
  have e0 : ((totalD gg) != (totalD gg)) = false := by simp
  have e1 : ((gameB gg) != (gameB gg)) = false := by simp
  go_wp2_with fail
  go_region_held3 (fun w' => w'.cell? ⟨w4.heap.size, 0, none⟩ = some (.int .i64 gg.X) ∧ w'.cell? ⟨w4.heap.size, 1, none⟩ = some (.int .i64 gg.Y) ∧ w'.cell? ⟨w4.heap.size, 2, none⟩ = some (.slice axg gg.Weights.length cxg) ∧ w'.cell? ⟨w4.heap.size, 3, none⟩ = some (.slice dxg gg.Wins.length fxg) ∧ w'.cell? ⟨w.heap.size, 0, none⟩ = some (.int .i64 gg.X) ∧ w'.cell? ⟨w.heap.size, 1, none⟩ = some (.int .i64 gg.Y) ∧ w'.cell? ⟨w.heap.size, 2, none⟩ = some (ug) ∧ w'.cell? ⟨w.heap.size, 3, none⟩ = some (vg))
    (first | go_keep | exact ⟨xg0, xg1, xg2, xg3, pg0, pg1, pg2, pg3⟩)
    (first
      | (go_at_call 13
         (with_reducible refine (toGame_any ug vg gg w5.drew (hug.kept (Nat.le_refl _) Bw5.drew) (hg.kept (Nat.le_refl _) Bw5.drew) hsg).mono ?_)
         rintro e w6 ⟨ayg, cyg, dyg, fyg, zyg, rfl, pyg, oyg, bw6⟩
         replace pyg := pyg.weaken (lo' := w5.heap.size) (Nat.le_refl _) (Nat.le_refl _)
         replace oyg := oyg.weaken (lo' := w5.heap.size) (Nat.le_refl _) (Nat.le_refl _)
         have BB : Below w5.heap.size w5 w6 := ((Below.refl w5.heap.size w5).drew).trans bw6
         have sw6 : w5.heap.size ≤ w6.heap.size := BB.size
         replace hw0 : w.heap.size ≤ w6.heap.size := by omega
         have tq := cells4_kept BB (by omega) pg0 pg1 pg2 pg3
         clear pg0 pg1 pg2 pg3
         obtain ⟨pg0, pg1, pg2, pg3⟩ := tq
         have tq := cells4_kept BB (by omega) xg0 xg1 xg2 xg3
         clear xg0 xg1 xg2 xg3
         obtain ⟨xg0, xg1, xg2, xg3⟩ := tq
         replace pxg := pxg.kept BB (by omega)
         replace oxg := oxg.kept BB (by omega)
         have Bw6 : Below w.heap.size w w6 := Bw5.trans (BB.mono Bw5.size)
         clear BB
         have lpgw6 : w.heap.size < w6.heap.size := by omega
         have lxgw6 : w4.heap.size < w6.heap.size := by omega)
      | (go_at_call 15
         (with_reducible refine (eqGame_any _ _ _ _ gg gg w6 (pxg.rdI) (oxg.rdII) (pyg.rdI) (oyg.rdII)).mono ?_)
         rintro e w7 ⟨rfl, dw7⟩
         have BB : Below w6.heap.size w6 w7 := dw7
         have sw7 : w6.heap.size ≤ w7.heap.size := BB.size
         replace hw0 : w.heap.size ≤ w7.heap.size := by omega
         have tq := cells4_kept BB (by omega) pg0 pg1 pg2 pg3
         clear pg0 pg1 pg2 pg3
         obtain ⟨pg0, pg1, pg2, pg3⟩ := tq
         have tq := cells4_kept BB (by omega) xg0 xg1 xg2 xg3
         clear xg0 xg1 xg2 xg3
         obtain ⟨xg0, xg1, xg2, xg3⟩ := tq
         replace pxg := pxg.kept BB (by omega)
         replace oxg := oxg.kept BB (by omega)
         replace pyg := pyg.kept BB (by omega)
         replace oyg := oyg.kept BB (by omega)
         have Bw7 : Below w.heap.size w w7 := Bw6.trans (BB.mono Bw6.size)
         clear BB
         have lpgw7 : w.heap.size < w7.heap.size := by omega
         have lxgw7 : w4.heap.size < w7.heap.size := by omega))
  go_wp2
  go_ret
  exact ⟨rfl, Bw7⟩

/-! ### The row -/
set_option maxRecDepth 100000 in
theorem fnExactTotalWeight_lifted (os : Os) (started : os.Started) (H : Type) (enc : TypeId × Value → H) :
    ReturnsInHanded {} Try.checked os 3 .any (Rows.fnExactTotalWeightSpec.pre6 enc Try.prog Try.f3 Rows.fnExactTotalWeightRow.domain false) (Rows.fnExactTotalWeightSpec.post enc Try.prog Try.f3 false true false false) := by
  refine returnsInHanded_of_change (C := Try.checked) Try.own started (by kernel_rfl) Try.func3
    (ChangeSpec.witness6 (enc := enc) (C := Try.checked) false ⟨#[], #[.agg #[.int .i64 0, .int .i64 0, .slice none 0 0, .slice none 0 0]], []⟩ 8 (by kernel_rfl) (by kernel_rfl) (by kernel_rfl) (by kernel_rfl)) ?_
  intro W base args ds gs before hval0 hW hcnd _
  have hval : ∀ (j : Nat) t v, Try.f3.params[j]? = some t → args[j]? = some v → Value.okWide Try.prog W .any base t v := hval0
  have hW' := hW
  obtain ⟨p, q, hA0, hV, rfl, hfz, hnd⟩ := hW
  have hA : DataW.TrodAll enc Try.prog W 0 (fun _ => true) true Try.f3.params.toList args.toList ds p := hA0
  rw [Try.params3] at hA hval
  obtain ⟨v0, vs0, d0, ds0, p0, q0, hargs, rfl, rfl, h0, r0⟩ := trodAll_cons hA
  obtain ⟨rfl, rfl, rfl⟩ := trodAll_nil r0
  obtain rfl : args = #[v0] := by cases args; simp_all
  obtain ⟨gm0, vw0, vr0, rfl, hw0, hx0, wx0⟩ := game_of (hval 0 25 v0 rfl rfl) h0
  clear hA0 hval0
  refine (fnExactTotalWeight_walk vw0 vr0 gm0 W hw0 hx0).mono fun e W' ⟨he, hb⟩ => ?_
  subst he
  exact ⟨_, rfl, law_post Try.laidOut (by kernel_rfl) rfl Try.underlying4 rfl (fun ds hd => by match ds, hd with | [e0], _ => rfl) hW' hb⟩

theorem fnExactTotalWeight_holds : Rows.FnExactTotalWeightSaid :=
  OpenClaim.holds_of_wide 3 Try.f3 rfl rfl rfl rfl rfl rfl rfl ⟨rfl, rfl, rfl, rfl, rfl⟩ rfl rfl rfl rfl rfl (by kernel_rfl) Try.func3 (by kernel_rfl)
    (of_decide_eq_true (by kernel_rfl)) (by unfold Func.isWrapper; first | (rw [if_pos (by decide +kernel)]; kernel_rfl) | (rw [if_neg (by decide +kernel)]; exact ⟨rfl, rfl⟩))
    (fun os started H enc _ => fnExactTotalWeight_lifted os started H enc)

end Go.Proofs.Ytadnjljpceeolaa
