/- IsLocal: the program's answer is the reference's, for all arguments; nothing is shared. -/
import Derived.Test.YtadnjljpceeolaaLobu
import Derived.Test.YtadnjljpceeolaaLobv
set_option linter.unusedSimpArgs false
set_option linter.unusedVariables false
namespace Go.Proofs.Ytadnjljpceeolaa
open Go.ChangeShapes Go.WideShapes Go.ChangeAt Go.RowKit
open Go.ChangeMaps (open_string shut_string)

set_option maxHeartbeats 3000000 in
theorem fnExactIsLocal_walk (vb : Value) (bb : BoxD) (w : World) (hb : RdII w vb bb.Rows) :
    Calls Try.prog 6 #[.agg #[.int .i64 bb.X, .int .i64 bb.Y, .int .i64 bb.Whole, vb]] w fun e w' => e = .returned (.bool true) ∧ Below w.heap.size w w' := by
  have hw0 : w.heap.size ≤ w.heap.size := Nat.le_refl _
  go_enter Try.func6, Try.ntmps6
  go_wp2_with fail
  refine (szBox_any vb bb.X bb.Y bb.Whole bb.Rows 1048576 (w.alloc (.cells #[.int .i64 bb.X, .int .i64 bb.Y, .int .i64 bb.Whole, vb] 41)) (hb.kept (Nat.le_refl _) (by repeat' (first | with_reducible exact Below.refl _ _ | with_reducible assumption | with_reducible apply Below.alloc | with_reducible apply Below.setCell | with_reducible apply Below.drew | exact Nat.le_refl _ | omega | (simp only [World.size_alloc, World.size_setCell]; omega)))) (by omega) (by omega)).mono ?_
  rintro e w1 ⟨⟨lb, rfl, hsb⟩, bw1⟩
  have BB : Below w.heap.size w w1 := Below.trans (by repeat' (first | with_reducible exact Below.refl _ _ | with_reducible assumption | with_reducible apply Below.alloc | with_reducible apply Below.setCell | with_reducible apply Below.drew | exact Nat.le_refl _ | omega | (simp only [World.size_alloc, World.size_setCell]; omega))) (bw1.mono (by first | exact Nat.le_refl _ | omega | (simp only [World.size_alloc, World.size_setCell]; omega)))
  have sw1 : w.heap.size ≤ w1.heap.size := BB.size
  have tw1 := bw1.size
  simp only [World.size_alloc] at tw1
  obtain ⟨pb0, pb1, pb2, pb3⟩ : w1.cell? ⟨w.heap.size, 0, none⟩ = some (.int .i64 bb.X) ∧ w1.cell? ⟨w.heap.size, 1, none⟩ = some (.int .i64 bb.Y) ∧ w1.cell? ⟨w.heap.size, 2, none⟩ = some (.int .i64 bb.Whole) ∧ w1.cell? ⟨w.heap.size, 3, none⟩ = some (vb) := by
    obtain ⟨hc, _⟩ := bcell bw1
    refine ⟨?_, ?_, ?_, ?_⟩ <;> (rw [hc _ _ (by simp only [World.size_alloc]; omega)]; first | (simp; done) | exact (by repeat' (first | with_reducible assumption | (refine cell_top ?_ rfl; first | with_reducible rfl | (simp only [World.size_alloc, World.size_setCell]; done)) | (refine cell_under ?_ ?_; (first | omega | (simp only [World.size_alloc, World.size_setCell]; omega))) | refine cell_drew ?_)))
  replace hw0 : w.heap.size ≤ w1.heap.size := by omega
  have Bw1 : Below w.heap.size w w1 := BB
  clear BB
  have lpbw1 : w.heap.size < w1.heap.size := by omega
  by_cases hnb : lb < 0
  · go_wp2
    go_ret
    exact ⟨rfl, Bw1⟩
  obtain ⟨hsb, hqb⟩ : bb.Rows.length + sumLen bb.Rows ≤ 1048576 ∧ lb ≤ 1048576 := by unfold SzLeft at hsb; omega
  go_wp2_with fail
  refine (toBox_any vb bb.X bb.Y bb.Whole bb.Rows w1 (hb.kept (Nat.le_refl _) Bw1) hsb).mono ?_
  rintro e w2 ⟨aub, cub, zub, rfl, oub, bw2⟩
  have BB : Below w1.heap.size w1 w2 := bw2
  have sw2 : w1.heap.size ≤ w2.heap.size := BB.size
  replace hw0 : w.heap.size ≤ w2.heap.size := by omega
  have tq := cells4_kept BB (by omega) pb0 pb1 pb2 pb3
  clear pb0 pb1 pb2 pb3
  obtain ⟨pb0, pb1, pb2, pb3⟩ := tq
  have Bw2 : Below w.heap.size w w2 := Bw1.trans (BB.mono Bw1.size)
  clear BB
  have lpbw2 : w.heap.size < w2.heap.size := by omega
  go_wp2_with fail
  refine (specIsLocal_any _ bb w2 (oub.rdII)).mono ?_
  rintro e w3 ⟨rfl, bw3⟩
  have BB : Below w2.heap.size w2 w3 := bw3
  have sw3 : w2.heap.size ≤ w3.heap.size := BB.size
  replace hw0 : w.heap.size ≤ w3.heap.size := by omega
  have tq := cells4_kept BB (by omega) pb0 pb1 pb2 pb3
  clear pb0 pb1 pb2 pb3
  obtain ⟨pb0, pb1, pb2, pb3⟩ := tq
  replace oub := oub.kept BB (by omega)
  have Bw3 : Below w.heap.size w w3 := Bw2.trans (BB.mono Bw2.size)
  clear BB
  have lpbw3 : w.heap.size < w3.heap.size := by omega
  go_wp2_with fail
  refine (toBox_any vb bb.X bb.Y bb.Whole bb.Rows w3 (hb.kept (Nat.le_refl _) Bw3) hsb).mono ?_
  rintro e w4 ⟨axb, cxb, zxb, rfl, oxb, bw4⟩
  have BB : Below w3.heap.size w3 w4 := bw4
  have sw4 : w3.heap.size ≤ w4.heap.size := BB.size
  replace hw0 : w.heap.size ≤ w4.heap.size := by omega
  have tq := cells4_kept BB (by omega) pb0 pb1 pb2 pb3
  clear pb0 pb1 pb2 pb3
  obtain ⟨pb0, pb1, pb2, pb3⟩ := tq
  have Bw4 : Below w.heap.size w w4 := Bw3.trans (BB.mono Bw3.size)
  clear BB
  have lpbw4 : w.heap.size < w4.heap.size := by omega
  go_wp2_with fail
  refine (implIsLocal_any _ bb (w4.alloc (.cells #[.int .i64 bb.X, .int .i64 bb.Y, .int .i64 bb.Whole, .slice axb bb.Rows.length cxb] 44)) ((oxb.rdII.kept (Nat.le_refl _) (by repeat' (first | with_reducible exact Below.refl _ _ | with_reducible assumption | with_reducible apply Below.alloc | with_reducible apply Below.setCell | with_reducible apply Below.drew | exact Nat.le_refl _ | omega | (simp only [World.size_alloc, World.size_setCell]; omega)))))).mono ?_
  rintro e w5 ⟨rfl, bw5⟩
  have BB : Below w4.heap.size w4 w5 := Below.trans (by repeat' (first | with_reducible exact Below.refl _ _ | with_reducible assumption | with_reducible apply Below.alloc | with_reducible apply Below.setCell | with_reducible apply Below.drew | exact Nat.le_refl _ | omega | (simp only [World.size_alloc, World.size_setCell]; omega))) (bw5.mono (by first | exact Nat.le_refl _ | omega | (simp only [World.size_alloc, World.size_setCell]; omega)))
  have sw5 : w4.heap.size ≤ w5.heap.size := BB.size
  have tw5 := bw5.size
  simp only [World.size_alloc] at tw5
  obtain ⟨xb0, xb1, xb2, xb3⟩ : w5.cell? ⟨w4.heap.size, 0, none⟩ = some (.int .i64 bb.X) ∧ w5.cell? ⟨w4.heap.size, 1, none⟩ = some (.int .i64 bb.Y) ∧ w5.cell? ⟨w4.heap.size, 2, none⟩ = some (.int .i64 bb.Whole) ∧ w5.cell? ⟨w4.heap.size, 3, none⟩ = some (.slice axb bb.Rows.length cxb) := by
    obtain ⟨hc, _⟩ := bcell bw5
    refine ⟨?_, ?_, ?_, ?_⟩ <;> (rw [hc _ _ (by simp only [World.size_alloc]; omega)]; first | (simp; done) | exact (by repeat' (first | with_reducible assumption | (refine cell_top ?_ rfl; first | with_reducible rfl | (simp only [World.size_alloc, World.size_setCell]; done)) | (refine cell_under ?_ ?_; (first | omega | (simp only [World.size_alloc, World.size_setCell]; omega))) | refine cell_drew ?_)))
  replace hw0 : w.heap.size ≤ w5.heap.size := by omega
  have tq := cells4_kept BB (by omega) pb0 pb1 pb2 pb3
  clear pb0 pb1 pb2 pb3
  obtain ⟨pb0, pb1, pb2, pb3⟩ := tq
  replace oxb := oxb.kept BB (by omega)
  have Bw5 : Below w.heap.size w w5 := Bw4.trans (BB.mono Bw4.size)
  clear BB
  have lpbw5 : w.heap.size < w5.heap.size := by omega
  have lxbw5 : w4.heap.size < w5.heap.size := by omega
  have e0 : ((localOk bb) != (localOk bb)) = false := by simp
  have e1 : ((boxB bb) != (boxB bb)) = false := by simp
  go_wp2_with fail
  go_region_held3 (fun w' => w'.cell? ⟨w4.heap.size, 0, none⟩ = some (.int .i64 bb.X) ∧ w'.cell? ⟨w4.heap.size, 1, none⟩ = some (.int .i64 bb.Y) ∧ w'.cell? ⟨w4.heap.size, 2, none⟩ = some (.int .i64 bb.Whole) ∧ w'.cell? ⟨w4.heap.size, 3, none⟩ = some (.slice axb bb.Rows.length cxb) ∧ w'.cell? ⟨w.heap.size, 0, none⟩ = some (.int .i64 bb.X) ∧ w'.cell? ⟨w.heap.size, 1, none⟩ = some (.int .i64 bb.Y) ∧ w'.cell? ⟨w.heap.size, 2, none⟩ = some (.int .i64 bb.Whole) ∧ w'.cell? ⟨w.heap.size, 3, none⟩ = some (vb))
    (first | go_keep | exact ⟨xb0, xb1, xb2, xb3, pb0, pb1, pb2, pb3⟩)
    (first
      | (go_at_call 25
         (with_reducible refine (toBox_any vb bb.X bb.Y bb.Whole bb.Rows w5.drew (hb.kept (Nat.le_refl _) Bw5.drew) hsb).mono ?_)
         rintro e w6 ⟨ayb, cyb, zyb, rfl, oyb, bw6⟩
         replace oyb := oyb.weaken (lo' := w5.heap.size) (Nat.le_refl _) (Nat.le_refl _)
         have BB : Below w5.heap.size w5 w6 := ((Below.refl w5.heap.size w5).drew).trans bw6
         have sw6 : w5.heap.size ≤ w6.heap.size := BB.size
         replace hw0 : w.heap.size ≤ w6.heap.size := by omega
         have tq := cells4_kept BB (by omega) pb0 pb1 pb2 pb3
         clear pb0 pb1 pb2 pb3
         obtain ⟨pb0, pb1, pb2, pb3⟩ := tq
         have tq := cells4_kept BB (by omega) xb0 xb1 xb2 xb3
         clear xb0 xb1 xb2 xb3
         obtain ⟨xb0, xb1, xb2, xb3⟩ := tq
         replace oxb := oxb.kept BB (by omega)
         have Bw6 : Below w.heap.size w w6 := Bw5.trans (BB.mono Bw5.size)
         clear BB
         have lpbw6 : w.heap.size < w6.heap.size := by omega
         have lxbw6 : w4.heap.size < w6.heap.size := by omega)
      | (go_at_call 27
         (with_reducible refine (eqBox_any _ _ bb bb w6 (oxb.rdII) (oyb.rdII)).mono ?_)
         rintro e w7 ⟨rfl, dw7⟩
         have BB : Below w6.heap.size w6 w7 := dw7
         have sw7 : w6.heap.size ≤ w7.heap.size := BB.size
         replace hw0 : w.heap.size ≤ w7.heap.size := by omega
         have tq := cells4_kept BB (by omega) pb0 pb1 pb2 pb3
         clear pb0 pb1 pb2 pb3
         obtain ⟨pb0, pb1, pb2, pb3⟩ := tq
         have tq := cells4_kept BB (by omega) xb0 xb1 xb2 xb3
         clear xb0 xb1 xb2 xb3
         obtain ⟨xb0, xb1, xb2, xb3⟩ := tq
         replace oxb := oxb.kept BB (by omega)
         replace oyb := oyb.kept BB (by omega)
         have Bw7 : Below w.heap.size w w7 := Bw6.trans (BB.mono Bw6.size)
         clear BB
         have lpbw7 : w.heap.size < w7.heap.size := by omega
         have lxbw7 : w4.heap.size < w7.heap.size := by omega))
  go_wp2
  go_ret
  exact ⟨rfl, Bw7⟩

/-! ### The row -/
set_option maxRecDepth 100000 in
theorem fnExactIsLocal_lifted (os : Os) (started : os.Started) (H : Type) (enc : TypeId × Value → H) :
    ReturnsInHanded {} Try.checked os 6 .any (Rows.fnExactIsLocalSpec.pre6 enc Try.prog Try.f6 Rows.fnExactIsLocalRow.domain false) (Rows.fnExactIsLocalSpec.post enc Try.prog Try.f6 false true false false) := by
  refine returnsInHanded_of_change (C := Try.checked) Try.own started (by kernel_rfl) Try.func6
    (ChangeSpec.witness6 (enc := enc) (C := Try.checked) false ⟨#[], #[.agg #[.int .i64 0, .int .i64 0, .int .i64 0, .slice none 0 0]], []⟩ 8 (by kernel_rfl) (by kernel_rfl) (by kernel_rfl) (by kernel_rfl)) ?_
  intro W base args ds gs before hval0 hW hcnd _
  have hval : ∀ (j : Nat) t v, Try.f6.params[j]? = some t → args[j]? = some v → Value.okWide Try.prog W .any base t v := hval0
  have hW' := hW
  obtain ⟨p, q, hA0, hV, rfl, hfz, hnd⟩ := hW
  have hA : DataW.TrodAll enc Try.prog W 0 (fun _ => true) true Try.f6.params.toList args.toList ds p := hA0
  rw [Try.params6] at hA hval
  obtain ⟨v0, vs0, d0, ds0, p0, q0, hargs, rfl, rfl, h0, r0⟩ := trodAll_cons hA
  obtain ⟨rfl, rfl, rfl⟩ := trodAll_nil r0
  obtain rfl : args = #[v0] := by cases args; simp_all
  obtain ⟨bx0, vr0, rfl, hx0, wx0⟩ := box_of (hval 0 41 v0 rfl rfl) h0
  clear hA0 hval0
  refine (fnExactIsLocal_walk vr0 bx0 W hx0).mono fun e W' ⟨he, hb⟩ => ?_
  subst he
  exact ⟨_, rfl, law_post Try.laidOut (by kernel_rfl) rfl Try.underlying4 rfl (fun ds hd => by match ds, hd with | [e0], _ => rfl) hW' hb⟩

theorem fnExactIsLocal_holds : Rows.FnExactIsLocalSaid :=
  OpenClaim.holds_of_wide 6 Try.f6 rfl rfl rfl rfl rfl rfl rfl ⟨rfl, rfl, rfl, rfl, rfl⟩ rfl rfl rfl rfl rfl (by kernel_rfl) Try.func6 (by kernel_rfl)
    (of_decide_eq_true (by kernel_rfl)) (by unfold Func.isWrapper; first | (rw [if_pos (by decide +kernel)]; kernel_rfl) | (rw [if_neg (by decide +kernel)]; exact ⟨rfl, rfl⟩))
    (fun os started H enc _ => fnExactIsLocal_lifted os started H enc)

end Go.Proofs.Ytadnjljpceeolaa
