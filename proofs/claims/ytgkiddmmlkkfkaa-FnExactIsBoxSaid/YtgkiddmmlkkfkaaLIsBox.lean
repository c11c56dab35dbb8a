/- IsBox: the program's answer is the reference's, for all arguments. -/
import Derived.Test.YtgkiddmmlkkfkaaFnBoxI
import Derived.Test.YtgkiddmmlkkfkaaRowB
import Derived.Deep.RegionHeld3
set_option linter.unusedSimpArgs false
set_option linter.unusedVariables false
namespace Go.Proofs.Ytgkiddmmlkkfkaa
open Go.ChangeShapes Go.WideShapes Go.ChangeAt Go.RowKit
open Go.ChangeMaps (open_string shut_string)

structure BoxAt (w : World) (g : Nat) (x y z : Int) (v : Value) : Prop where
  c0 : w.cell? ⟨g, 0, none⟩ = some (.int .i64 x)
  c1 : w.cell? ⟨g, 1, none⟩ = some (.int .i64 y)
  c2 : w.cell? ⟨g, 2, none⟩ = some (.int .i64 z)
  c3 : w.cell? ⟨g, 3, none⟩ = some v
theorem BoxAt.kept {w w' : World} {g : Nat} {x y z : Int} {v : Value} (h : BoxAt w g x y z v) {B : Nat} (hb : Below B w w') (hB : g < B) : BoxAt w' g x y z v := by
  obtain ⟨hc, _⟩ := bcell hb
  exact ⟨by rw [hc _ _ hB]; exact h.c0, by rw [hc _ _ hB]; exact h.c1, by rw [hc _ _ hB]; exact h.c2, by rw [hc _ _ hB]; exact h.c3⟩

theorem specIsBox_any (vr : Value) (b : BoxD) (w : World) (h : RdII w vr b.Rows) :
    Calls Try.prog 35 #[.agg #[.int .i64 b.X, .int .i64 b.Y, .int .i64 b.Whole, vr]] w fun e w' => e = .returned (.bool (boxB b)) ∧ Below w.heap.size w w' := by
  go_enter Try.func35, Try.ntmps35
  go_wp2_with fail
  refine (l2Box_any vr b _ (h.kept (Nat.le_refl _) (by repeat' (first | with_reducible exact Below.refl _ _ | with_reducible assumption | with_reducible apply Below.alloc | with_reducible apply Below.setCell | with_reducible apply Below.drew | exact Nat.le_refl _ | omega | (simp only [World.size_alloc, World.size_setCell]; omega))))).mono ?_
  rintro e w1 ⟨rfl, hb⟩
  have hB : Below w.heap.size w w1 := Below.trans (by repeat' (first | with_reducible exact Below.refl _ _ | with_reducible assumption | with_reducible apply Below.alloc | with_reducible apply Below.setCell | with_reducible apply Below.drew | exact Nat.le_refl _ | omega | (simp only [World.size_alloc, World.size_setCell]; omega))) (hb.mono (by first | exact Nat.le_refl _ | omega | (simp only [World.size_alloc, World.size_setCell]; omega)))
  go_wp2
  go_ret
  exact ⟨rfl, hB⟩

set_option maxHeartbeats 1000000 in
theorem fnExactIsBox_walk (vr : Value) (b : BoxD) (w : World) (h : RdII w vr b.Rows) :
    Calls Try.prog 10 #[.agg #[.int .i64 b.X, .int .i64 b.Y, .int .i64 b.Whole, vr]] w fun e w' => e = .returned (.bool true) ∧ Below w.heap.size w w' := by
  go_enter Try.func10, Try.ntmps10
  go_wp2_with fail
  refine (szBox_any vr b.X b.Y b.Whole b.Rows 1048576 _ (h.kept (Nat.le_refl _) (by repeat' (first | with_reducible exact Below.refl _ _ | with_reducible assumption | with_reducible apply Below.alloc | with_reducible apply Below.setCell | with_reducible apply Below.drew | exact Nat.le_refl _ | omega | (simp only [World.size_alloc, World.size_setCell]; omega)))) (by omega) (by omega)).mono ?_
  rintro e w1 ⟨⟨r, rfl, hr⟩, b1⟩
  have B1 : Below w.heap.size w w1 := Below.trans (by repeat' (first | with_reducible exact Below.refl _ _ | with_reducible assumption | with_reducible apply Below.alloc | with_reducible apply Below.setCell | with_reducible apply Below.drew | exact Nat.le_refl _ | omega | (simp only [World.size_alloc, World.size_setCell]; omega))) (b1.mono (by first | exact Nat.le_refl _ | omega | (simp only [World.size_alloc, World.size_setCell]; omega)))
  have s1 := b1.size
  simp only [World.size_alloc] at s1
  obtain ⟨p0, p1, p2, p3⟩ : w1.cell? ⟨w.heap.size, 0, none⟩ = some (.int .i64 b.X) ∧ w1.cell? ⟨w.heap.size, 1, none⟩ = some (.int .i64 b.Y) ∧ w1.cell? ⟨w.heap.size, 2, none⟩ = some (.int .i64 b.Whole) ∧ w1.cell? ⟨w.heap.size, 3, none⟩ = some vr := by
    obtain ⟨hc, _⟩ := bcell b1
    refine ⟨?_, ?_, ?_, ?_⟩ <;> (rw [hc _ _ (by simp only [World.size_alloc]; omega)]; simp)
  clear b1
  by_cases hneg : r < 0
  · go_wp2
    go_ret
    exact ⟨rfl, B1⟩
  · have hsz : b.Rows.length + sumLen b.Rows ≤ 1048576 := by unfold SzLeft at hr; omega
    go_wp2_with fail
    refine (toBox_any vr b.X b.Y b.Whole b.Rows _ (h.kept (Nat.le_refl _) B1) hsz).mono ?_
    rintro e w2 ⟨ua, uc, us, rfl, o2, b2⟩
    have B2 := B1.trans (b2.mono B1.size)
    go_wp2_with fail
    refine (specIsBox_any _ b _ o2.rdII).mono ?_
    rintro e w3 ⟨rfl, b3⟩
    have b13 := b2.trans (b3.mono b2.size)
    have B3 := B1.trans (b13.mono B1.size)
    obtain ⟨p0, p1, p2, p3⟩ := (BoxAt.mk p0 p1 p2 p3).kept b13 (by omega)
    have s3 := b13.size
    clear b2 b3 b13
    go_wp2_with fail
    refine (toBox_any vr b.X b.Y b.Whole b.Rows _ (h.kept (Nat.le_refl _) B3) hsz).mono ?_
    rintro e w4 ⟨xa, xc, xs, rfl, o4, b4⟩
    have B4 := B3.trans (b4.mono B3.size)
    have s4 := b4.size
    obtain ⟨p0, p1, p2, p3⟩ := (BoxAt.mk p0 p1 p2 p3).kept b4 (by omega)
    clear b4
    go_wp2_with fail
    have r4 := o4.rdII.kept (Nat.le_refl _) ((Below.refl w4.heap.size w4).alloc (Nat.le_refl _) (.cells #[.int .i64 b.X, .int .i64 b.Y, .int .i64 b.Whole, .slice xa b.Rows.length xc] 51))
    refine (implIsBox_any _ b _ r4).mono ?_
    rintro e w5 ⟨rfl, b5⟩
    have B5 : Below w.heap.size w w5 := B4.trans (Below.trans (by repeat' (first | with_reducible exact Below.refl _ _ | with_reducible assumption | with_reducible apply Below.alloc | with_reducible apply Below.setCell | with_reducible apply Below.drew | exact Nat.le_refl _ | omega | (simp only [World.size_alloc, World.size_setCell]; omega))) (b5.mono (by first | exact Nat.le_refl _ | omega | (simp only [World.size_alloc, World.size_setCell]; omega))))
    obtain ⟨q0, q1, q2, q3⟩ : BoxAt w5 w4.heap.size b.X b.Y b.Whole (.slice xa b.Rows.length xc) := by
      obtain ⟨hc, _⟩ := bcell b5
      refine ⟨?_, ?_, ?_, ?_⟩ <;> (rw [hc _ _ (by simp only [World.size_alloc]; omega)]; simp)
    obtain ⟨p0, p1, p2, p3⟩ := (BoxAt.mk p0 p1 p2 p3).kept (w' := w5) (B := w4.heap.size) (Below.trans (by repeat' (first | with_reducible exact Below.refl _ _ | with_reducible assumption | with_reducible apply Below.alloc | with_reducible apply Below.setCell | with_reducible apply Below.drew | exact Nat.le_refl _ | omega | (simp only [World.size_alloc, World.size_setCell]; omega))) (b5.mono (by first | exact Nat.le_refl _ | omega | (simp only [World.size_alloc, World.size_setCell]; omega)))) (by omega)
    have r5 := r4.kept (Nat.le_refl _) b5
    have h5 := h.kept (Nat.le_refl _) B5
    have s5 := b5.size
    simp only [World.size_alloc] at s5
    clear b5
    generalize boxB b = rb
    have g1 : (rb != rb) = false := by simp
    go_wp2_with fail
    go_region_held3 (fun w' => w'.cell? ⟨w4.heap.size, 0, none⟩ = some (.int .i64 b.X) ∧ w'.cell? ⟨w4.heap.size, 1, none⟩ = some (.int .i64 b.Y) ∧ w'.cell? ⟨w4.heap.size, 2, none⟩ = some (.int .i64 b.Whole) ∧ w'.cell? ⟨w4.heap.size, 3, none⟩ = some (.slice xa b.Rows.length xc) ∧
      w'.cell? ⟨w.heap.size, 0, none⟩ = some (.int .i64 b.X) ∧ w'.cell? ⟨w.heap.size, 1, none⟩ = some (.int .i64 b.Y) ∧ w'.cell? ⟨w.heap.size, 2, none⟩ = some (.int .i64 b.Whole) ∧ w'.cell? ⟨w.heap.size, 3, none⟩ = some vr)
      (first | go_keep | exact ⟨q0, q1, q2, q3, p0, p1, p2, p3⟩)
      (first
        | (go_at_call 36; refine (toBox_any vr b.X b.Y b.Whole b.Rows _ (h5.kept (Nat.le_refl _) (Below.refl _ _).drew) hsz).mono ?_; rintro e w6 ⟨ya, yc, ys, rfl, o6, b6⟩
           have B6 := B5.drew.trans (b6.mono (show w.heap.size ≤ w5.drew.heap.size from B5.size))
           have r6 := (r5.kept (Nat.le_refl _) (Below.refl _ _).drew).kept (Nat.le_refl _) b6
           obtain ⟨p0, p1, p2, p3⟩ := (BoxAt.mk (w := w5.drew) p0 p1 p2 p3).kept b6 (by show w.heap.size < w5.heap.size; omega)
           obtain ⟨q0, q1, q2, q3⟩ := (BoxAt.mk (w := w5.drew) q0 q1 q2 q3).kept b6 (by show w4.heap.size < w5.heap.size; omega))
        | (go_at_call 38; refine (eqBox_any _ _ b b _ r6 o6.rdII).mono ?_; rintro e w7 ⟨rfl, b7⟩
           have B7 := B6.trans (b7.mono B6.size)
           have hdec : decide (b = b) = true := by simp
           obtain ⟨p0, p1, p2, p3⟩ := (BoxAt.mk p0 p1 p2 p3).kept b7 (by have := b6.size; have : w5.drew.heap.size = w5.heap.size := rfl; omega)
           obtain ⟨q0, q1, q2, q3⟩ := (BoxAt.mk q0 q1 q2 q3).kept b7 (by have := b6.size; have : w5.drew.heap.size = w5.heap.size := rfl; omega)))
    go_wp2
    go_ret
    exact ⟨rfl, B7⟩

/-! ### The row -/
set_option maxRecDepth 100000 in
theorem fnExactIsBox_lifted (os : Os) (started : os.Started) (H : Type) (enc : TypeId × Value → H) :
    ReturnsInHanded {} Try.checked os 10 .any (Rows.fnExactIsBoxSpec.pre6 enc Try.prog Try.f10 Rows.fnExactIsBoxRow.domain false) (Rows.fnExactIsBoxSpec.post enc Try.prog Try.f10 false true false false) := by
  refine returnsInHanded_of_change (C := Try.checked) Try.own started (by kernel_rfl) Try.func10
    (ChangeSpec.witness6 (enc := enc) (C := Try.checked) false ⟨#[], #[.agg #[.int .i64 0, .int .i64 0, .int .i64 0, .slice none 0 0]], []⟩ 8 (by kernel_rfl) (by kernel_rfl) (by kernel_rfl) (by kernel_rfl)) ?_
  intro W base args ds gs before hval0 hW hcnd _
  have hval : ∀ (j : Nat) t v, Try.f10.params[j]? = some t → args[j]? = some v → Value.okWide Try.prog W .any base t v := hval0
  have hW' := hW
  obtain ⟨p, q, hA0, hV, rfl, hfz, hnd⟩ := hW
  have hA : DataW.TrodAll enc Try.prog W 0 (fun _ => true) true Try.f10.params.toList args.toList ds p := hA0
  rw [Try.params10] at hA hval
  obtain ⟨v0, vs0, d0, ds0, p0, q0, hargs, rfl, rfl, h0, r0⟩ := trodAll_cons hA
  obtain ⟨rfl, rfl, rfl⟩ := trodAll_nil r0
  obtain rfl : args = #[v0] := by cases args; simp_all
  obtain ⟨bx0, vr0, rfl, hx0, wx0⟩ := box_of (hval 0 48 v0 rfl rfl) h0
  clear hA0 hval0
  refine (fnExactIsBox_walk vr0 bx0 W hx0).mono fun e W' ⟨he, hb⟩ => ?_
  subst he
  exact ⟨_, rfl, law_post Try.laidOut (by kernel_rfl) rfl Try.underlying4 rfl (fun ds hd => by match ds, hd with | [e0], _ => rfl) hW' hb⟩

theorem fnExactIsBox_holds : Rows.FnExactIsBoxSaid :=
  OpenClaim.holds_of_wide 10 Try.f10 rfl rfl rfl rfl rfl rfl rfl ⟨rfl, rfl, rfl, rfl, rfl⟩ rfl rfl rfl rfl rfl (by kernel_rfl) Try.func10 (by kernel_rfl)
    (of_decide_eq_true (by kernel_rfl)) (by unfold Func.isWrapper; first | (rw [if_pos (by decide +kernel)]; kernel_rfl) | (rw [if_neg (by decide +kernel)]; exact ⟨rfl, rfl⟩))
    (fun os started H enc _ => fnExactIsBox_lifted os started H enc)

end Go.Proofs.Ytgkiddmmlkkfkaa
