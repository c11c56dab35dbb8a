/- What the reference draws for SumOf and SumFunctional, and the law's cut of its bytes. What the reference draws for SumOf. -/
import Derived.Test.YtnmnmnpeoiblhaaSubt
import Derived.Test.YtnmnmnpeoiblhaaSuah
set_option linter.unusedSimpArgs false
set_option linter.unusedVariables false
namespace Go.Proofs.Ytnmnmnpeoiblhaa
open Go.RowKit Go.WideShapes

set_option maxRecDepth 20000 in
set_option maxHeartbeats 3200000 in
theorem drawSumFunctional_any (v : Value) (n : Nat) (w : World) (h : RdB w v n) : Calls Try.prog 36 #[v] w fun e w' =>
    ∃ x y f0 f1 s0 s1 m : Int, e = .returned (.tuple #[.int .i64 x, .int .i64 y, .agg #[.int .i64 f0, .int .i64 f1], .agg #[.int .i64 s0, .int .i64 s1], .int .i64 m]) ∧ Below w.heap.size w w' := by
  obtain ⟨va, vcap, rfl⟩ : ∃ a c, v = .slice a n c := by obtain ⟨a, _, _, c, hv, _⟩ := h; exact ⟨a, c, hv⟩
  obtain ⟨w0, hw0⟩ : ∃ w0, w0 = (w.alloc (.cells #[.int .i64 0, .int .i64 0] 47)).alloc (.cells #[.int .i64 0, .int .i64 0] 47) := ⟨_, rfl⟩
  have B0 : Below w.heap.size w w0 := by rw [hw0]; exact (by repeat' (first | with_reducible exact Below.refl _ _ | with_reducible assumption | with_reducible apply Below.alloc | with_reducible apply Below.setCell | with_reducible apply Below.drew | exact Nat.le_refl _ | omega | (simp only [World.size_alloc, World.size_setCell]; omega)))
  have z0 : w0.heap.size = w.heap.size + 1 + 1 := by rw [hw0]; simp
  have P0 : PairAt w0 w.heap.size (.int .i64 0) (.int .i64 0) := by rw [hw0]; exact (by repeat' (first | with_reducible assumption | (refine PairAt.top ?_; first | with_reducible rfl | (simp only [World.size_alloc]; done)) | (refine PairAt.under ?_ ?_; (first | omega | (simp only [World.size_alloc]; omega)))))
  have P1 : PairAt w0 (w.heap.size + 1) (.int .i64 0) (.int .i64 0) := by rw [hw0]; exact PairAt.top (by simp)
  obtain ⟨w1, hw1⟩ : ∃ w1, w1 = w0.alloc (.cells #[.slice va n vcap, .int .i64 0, .int .u64 0] 67) := ⟨_, rfl⟩
  have hc1 : CurB w0.heap.size (.slice va n vcap) n 0 w1 := by rw [hw1]; exact ⟨Cur.start w0 (.slice va n vcap), (h.kept B0).cur _⟩
  have b1 : Below w0.heap.size w0 w1 := by rw [hw1]; exact below_alloc _ _
  replace P0 := P0.kept b1
  replace P1 := P1.kept b1
  have C1 := sizes_any w0.heap.size (.slice va n vcap) n 0 w1 hc1 (by decide)
  have z1 : w1.heap.size = w.heap.size + 1 + 1 + 1 := by rw [hw1, World.size_alloc, z0]
  rw [z0] at C1
  rw [hw1, hw0] at C1
  have BW : Below w.heap.size w w1 := belowOn B0 b1
  go_enter Try.func36, Try.ntmps36
  go_wp2_with fail
  refine C1.mono ?_
  rintro e w2 ⟨x, y, rfl, hxy, hc2, hm2⟩
  rw [← hw0, ← hw1] at hm2
  have C2 := four3_any (w.heap.size + 1 + 1) (.slice va n vcap) n (0 + 8) x y w2 hc2 (by decide)
  have z2 := hm2.size
  clear C1 hw0 hw1 hxy
  go_wp2_with fail
  refine C2.mono ?_
  rintro e w3 ⟨f0, f1, s0, s1, m, rfl, hc3, hm3⟩
  have m3 := hm2.trans hm3
  replace P0 := P0.mid m3 (Or.inl (by omega))
  replace P1 := P1.mid m3 (Or.inl (by omega))
  have z3 := hm3.size
  have B3 : Below w.heap.size w w3 := BW.trans (m3.below (by omega) (by omega))
  obtain ⟨w4, hw4⟩ : ∃ w4, w4 = (w3.alloc (.cells #[.int .i64 f0, .int .i64 f1] 47)).alloc (.cells #[.int .i64 s0, .int .i64 s1] 47) := ⟨_, rfl⟩
  have b4 : Below w3.heap.size w3 w4 := by rw [hw4]; exact (by repeat' (first | with_reducible exact Below.refl _ _ | with_reducible assumption | with_reducible apply Below.alloc | with_reducible apply Below.setCell | with_reducible apply Below.drew | exact Nat.le_refl _ | omega | (simp only [World.size_alloc, World.size_setCell]; omega)))
  have P3 : PairAt w4 w3.heap.size (.int .i64 f0) (.int .i64 f1) := by rw [hw4]; exact PairAt.under (by simp) (PairAt.top rfl)
  have P4 : PairAt w4 (w3.heap.size + 1) (.int .i64 s0) (.int .i64 s1) := by rw [hw4]; exact PairAt.top (by simp)
  replace P0 := P0.kept b4
  replace P1 := P1.kept b4
  obtain ⟨p0, p1, pf⟩ := P0.cells
  obtain ⟨q0, q1, qf⟩ := P1.cells
  obtain ⟨r0, r1, rf⟩ := P3.cells
  obtain ⟨t0, t1, tf⟩ := P4.cells
  have B4 := belowOn B3 b4
  clear C2 hc3 hm3 hc2 hm2 m3 hc1 b1 B0 BW B3 b4
  have BE := below4 (B := w.heap.size) (w := w4) w.heap.size (Nat.le_refl _) (.int .i64 f0) (.int .i64 f1) (.int .i64 s0) (.int .i64 s1)
  have P3a := (P3.far (k := w.heap.size) (o := 0) (u := .int .i64 f0) (by omega)).far (k := w.heap.size) (o := 1) (u := .int .i64 f1) (by omega)
  have P4a := (P4.far (k := w.heap.size) (o := 0) (u := .int .i64 f0) (by omega)).far (k := w.heap.size) (o := 1) (u := .int .i64 f1) (by omega)
  have P1a := (P1.far (k := w.heap.size) (o := 0) (u := .int .i64 f0) (by omega)).far (k := w.heap.size) (o := 1) (u := .int .i64 f1) (by omega)
  have P3b := (P3a.far (k := w.heap.size + 1) (o := 0) (u := .int .i64 s0) (by omega)).far (k := w.heap.size + 1) (o := 1) (u := .int .i64 s1) (by omega)
  have P4b := (P4a.far (k := w.heap.size + 1) (o := 0) (u := .int .i64 s0) (by omega)).far (k := w.heap.size + 1) (o := 1) (u := .int .i64 s1) (by omega)
  obtain ⟨k0, k1, kf⟩ := P1a.cells
  have HV1 := Lib.hid (And.intro P3a.cells.1 (And.intro P3a.cells.2.1 (And.intro P4a.cells.1 P4a.cells.2.1)))
  have HV2 := Lib.hid (And.intro P3b.cells.1 (And.intro P3b.cells.2.1 (And.intro P4b.cells.1 P4b.cells.2.1)))
  clear P0 P1 P3 P4 P1a P3a P4a P3b P4b
  go_wp2
  rw [← hw4]
  clear hw4
  refine wp_region_held_drew (S := fun W => W.cell? ⟨w3.heap.size, 0, none⟩ = some (.int .i64 f0) ∧ W.cell? ⟨w3.heap.size, 1, none⟩ = some (.int .i64 f1) ∧ W.cell? ⟨w3.heap.size + 1, 0, none⟩ = some (.int .i64 s0) ∧ W.cell? ⟨w3.heap.size + 1, 1, none⟩ = some (.int .i64 s1)) (by first | rfl | kernel_rfl) ⟨r0, r1, t0, t1⟩ (fun hHeld => ?_)
  refine wpAnyH_take (i := 0) (v := ?_) rfl (by kernel_rfl) (by kernel_rfl) (by kernel_rfl) (fun _ _ _ h => h) (Or.inl ⟨by rfl, ?_⟩) (by assumption) ?_
  rotate_left
  · (intro w hSw; (try dsimp only at hSw); go_simp; try with_reducible rfl)
  try simp only [Act.put, List.getElem_toArray, List.getElem_cons_zero, List.getElem_cons_succ, List.setIfInBounds_toArray, List.set_cons_zero, List.set_cons_succ]
  refine wpAnyH_take (i := 1) (v := ?_) rfl (by kernel_rfl) (by kernel_rfl) (by kernel_rfl) (fun _ _ _ h => h) (Or.inl ⟨by rfl, ?_⟩) (by assumption) ?_
  rotate_left
  · (intro w hSw; (try dsimp only at hSw); go_simp; try with_reducible rfl)
  try simp only [Act.put, List.getElem_toArray, List.getElem_cons_zero, List.getElem_cons_succ, List.setIfInBounds_toArray, List.set_cons_zero, List.set_cons_succ]
  refine wpAnyH_take (i := 2) (v := ?_) rfl (by kernel_rfl) (by kernel_rfl) (by kernel_rfl) (fun _ _ _ h => h) (Or.inl ⟨by rfl, ?_⟩) (by assumption) ?_
  rotate_left
  · (intro w hSw; (try dsimp only at hSw); go_simp; try with_reducible rfl)
  try simp only [Act.put, List.getElem_toArray, List.getElem_cons_zero, List.getElem_cons_succ, List.setIfInBounds_toArray, List.set_cons_zero, List.set_cons_succ]
  refine wpAnyH_take (i := 3) (v := ?_) rfl (by kernel_rfl) (by kernel_rfl) (by kernel_rfl) (fun _ _ _ h => h) (Or.inl ⟨by rfl, ?_⟩) (by assumption) ?_
  rotate_left
  · (intro w hSw; (try dsimp only at hSw); go_simp; try with_reducible rfl)
  try simp only [Act.put, List.getElem_toArray, List.getElem_cons_zero, List.getElem_cons_succ, List.setIfInBounds_toArray, List.set_cons_zero, List.set_cons_succ]
  refine wpAnyH_take (i := 4) (v := ?_) rfl (by kernel_rfl) (by kernel_rfl) (by kernel_rfl) (fun _ _ _ h => h) (Or.inl ⟨by rfl, ?_⟩) (by assumption) ?_
  rotate_left
  · (intro w hSw; (try dsimp only at hSw); go_simp; try with_reducible rfl)
  try simp only [Act.put, List.getElem_toArray, List.getElem_cons_zero, List.getElem_cons_succ, List.setIfInBounds_toArray, List.set_cons_zero, List.set_cons_succ]
  refine wpAnyH_take (i := 5) (v := ?_) rfl (by kernel_rfl) (by kernel_rfl) (by kernel_rfl) (fun _ _ _ h => h) (Or.inl ⟨by rfl, ?_⟩) (by assumption) ?_
  rotate_left
  · (intro w hSw; (try dsimp only at hSw); go_simp; try with_reducible rfl)
  try simp only [Act.put, List.getElem_toArray, List.getElem_cons_zero, List.getElem_cons_succ, List.setIfInBounds_toArray, List.set_cons_zero, List.set_cons_succ]
  refine wpAnyH_take (i := 6) (v := ?_) rfl (by kernel_rfl) (by kernel_rfl) (by kernel_rfl) (fun _ _ _ h => h) (Or.inl ⟨by rfl, ?_⟩) (by assumption) ?_
  rotate_left
  · (intro w hSw; (try dsimp only at hSw); go_simp; try with_reducible rfl)
  try simp only [Act.put, List.getElem_toArray, List.getElem_cons_zero, List.getElem_cons_succ, List.setIfInBounds_toArray, List.set_cons_zero, List.set_cons_succ]
  refine wpAnyH_ready (rs := [7]) (by kernel_rfl) (by simp) ?_
  refine AllReadyH.cons rfl (fun K hK => ?_) AllReadyH.nil
  go_simp
  refine hK.out _ _ ?_ (fun hHeld => ?_)
  · exact HV1.out
  clear hK K
  try simp only [Act.put, List.setIfInBounds_toArray, List.set_cons_zero, List.set_cons_succ]
  refine wpAnyH_ready (rs := [8]) (by kernel_rfl) (by simp) ?_
  refine AllReadyH.cons rfl (fun K hK => ?_) AllReadyH.nil
  go_simp
  refine hK.out _ _ ?_ (fun hHeld => ?_)
  · exact HV2.out
  clear hK K
  try simp only [Act.put, List.setIfInBounds_toArray, List.set_cons_zero, List.set_cons_succ]
  refine wpAnyH_take (i := 9) (v := ?_) rfl (by kernel_rfl) (by kernel_rfl) (by kernel_rfl) (fun _ _ _ h => h) (Or.inl ⟨by rfl, ?_⟩) (by assumption) ?_
  rotate_left
  · (intro w hSw; (try dsimp only at hSw); go_simp; try with_reducible rfl)
  try simp only [Act.put, List.getElem_toArray, List.getElem_cons_zero, List.getElem_cons_succ, List.setIfInBounds_toArray, List.set_cons_zero, List.set_cons_succ]
  refine wpAnyH_done (by kernel_rfl) ?_ _
  clear hHeld
  go_wp2
  refine bodyPost_ret (v := .tuple #[.int .i64 x, .int .i64 y, .agg #[.int .i64 f0, .int .i64 f1], .agg #[.int .i64 s0, .int .i64 s1], .int .i64 m]) ?_ rfl ?_
  · simp [results, Try.results36, go_sem, p0, p1, q0, q1]
  · exact ⟨x, y, f0, f1, s0, s1, m, rfl, (B4.trans BE).drew⟩
end Go.Proofs.Ytnmnmnpeoiblhaa
set_option linter.unusedSimpArgs false
set_option linter.unusedVariables false
namespace Go.Proofs.Ytnmnmnpeoiblhaa
open Go.RowKit Go.WideShapes

theorem ZB.set {w : World} {r : Nat} (h : ZB w r) {k : Nat} (x : Value) (hk : k ≠ r) (o : Nat) : ZB (w.setCell ⟨k, o, none⟩ x) r := (Below.heap_setCell _ _ _ _ (by exact Ne.symm hk)).trans h
theorem PairAt.far4 {w : World} {g k : Nat} {x y : Value} (h : PairAt w g x y) (hk : k ≠ g) (a b c d : Value) : PairAt (set4W w k a b c d) g x y := (((h.far hk).far hk).far hk).far hk
theorem BoxAt.other {w w' : World} {g : Nat} {x y z : Int} {v : Value} (h : BoxAt w g x y z v) (hb : w'.heap[g]? = w.heap[g]?) : BoxAt w' g x y z v := by
  have hc : ∀ j, w'.cell? ⟨g, j, none⟩ = w.cell? ⟨g, j, none⟩ := fun j => World.cell?_of_block (w := w) (a := ⟨g, j, none⟩) hb
  exact ⟨by rw [hc]; exact h.e0, by rw [hc]; exact h.e1, by rw [hc]; exact h.e2, by rw [hc]; exact h.e3⟩
theorem set2_other {w : World} {r k : Nat} (hk : k ≠ r) (x y : Value) : ((w.setCell ⟨r, 0, none⟩ x).setCell ⟨r, 1, none⟩ y).heap[k]? = w.heap[k]? := by
  rw [Below.heap_setCell _ _ _ _ (by exact hk), Below.heap_setCell _ _ _ _ (by exact hk)]
theorem below8 {B : Nat} {w : World} (r r1 r2 : Nat) (h : B ≤ r) (h1 : B ≤ r1) (h2 : B ≤ r2) (x0 x1 x2 x3 y0 y1 z0 z1 : Value) :
    Below B w (((((set4W w r x0 x1 x2 x3).setCell ⟨r1, 0, none⟩ y0).setCell ⟨r1, 1, none⟩ y1).setCell ⟨r2, 0, none⟩ z0).setCell ⟨r2, 1, none⟩ z1) :=
  ((((set4W_below h x0 x1 x2 x3).setCell (by exact h1) _).setCell (by exact h1) _).setCell (by exact h2) _).setCell (by exact h2) _
theorem boxAt_block {w : World} {g : Nat} {x y z : Int} {v : Value} (h : w.heap[g]? = some (.cells #[.int .i64 x, .int .i64 y, .int .i64 z, v] 26 (0, 0))) : BoxAt w g x y z v := by
  refine ⟨?_, ?_, ?_, ?_⟩ <;> simp [World.cell?, h]
def SumOfDrawn (w : World) (e : Ending) (w' : World) : Prop := ∃ (b : BoxD) (a : Option Addr) (c : Nat) (f0 f1 s0 s1 m : Int),
  e = .returned (.tuple #[.agg #[.int .i64 b.X, .int .i64 b.Y, .int .i64 b.Whole, .slice a b.Rows.length c], .agg #[.int .i64 f0, .int .i64 f1], .agg #[.int .i64 s0, .int .i64 s1], .int .i64 m]) ∧ RdII w' (.slice a b.Rows.length c) b.Rows ∧ Below w.heap.size w w'
set_option maxRecDepth 20000 in
set_option maxHeartbeats 3200000 in
theorem drawSumOf_any (v : Value) (n : Nat) (w : World) (h : RdB w v n) : Calls Try.prog 29 #[v] w (SumOfDrawn w) := by
  obtain ⟨va, vcap, rfl⟩ : ∃ a c, v = .slice a n c := by obtain ⟨a, _, _, c, hv, _⟩ := h; exact ⟨a, c, hv⟩
  obtain ⟨w0, hw0⟩ : ∃ w0, w0 = ((w.alloc (.cells #[.int .i64 0, .int .i64 0, .int .i64 0, .slice none 0 0] 26)).alloc (.cells #[.int .i64 0, .int .i64 0] 47)).alloc (.cells #[.int .i64 0, .int .i64 0] 47) := ⟨_, rfl⟩
  have B0 : Below w.heap.size w w0 := by rw [hw0]; exact (by repeat' (first | with_reducible exact Below.refl _ _ | with_reducible assumption | with_reducible apply Below.alloc | with_reducible apply Below.setCell | with_reducible apply Below.drew | exact Nat.le_refl _ | omega | (simp only [World.size_alloc, World.size_setCell]; omega)))
  have z0 : w0.heap.size = w.heap.size + 1 + 1 + 1 := by rw [hw0]; simp
  have Z0 : ZB w0 w.heap.size := by rw [hw0]; exact ((ZB.made w).kept (below_alloc _ _) (by simp)).kept (below_alloc _ _) (by simp; omega)
  have P0 : PairAt w0 (w.heap.size + 1) (.int .i64 0) (.int .i64 0) := by rw [hw0]; exact PairAt.under (by simp) (PairAt.top (by simp))
  have P1 : PairAt w0 (w.heap.size + 1 + 1) (.int .i64 0) (.int .i64 0) := by rw [hw0]; exact PairAt.top (by simp)
  obtain ⟨w1, hw1⟩ : ∃ w1, w1 = w0.alloc (.cells #[.slice va n vcap, .int .i64 0, .int .u64 0] 67) := ⟨_, rfl⟩
  have hc1 : CurB w0.heap.size (.slice va n vcap) n 0 w1 := by rw [hw1]; exact ⟨Cur.start w0 (.slice va n vcap), (h.kept B0).cur _⟩
  have b1 : Below w0.heap.size w0 w1 := by rw [hw1]; exact below_alloc _ _
  replace P0 := P0.kept b1
  replace P1 := P1.kept b1
  replace Z0 := Z0.kept b1 (by omega)
  have C1 := local3_any w0.heap.size (.slice va n vcap) n 0 w1 hc1 (by decide)
  have z1 : w1.heap.size = w.heap.size + 1 + 1 + 1 + 1 := by rw [hw1, World.size_alloc, z0]
  rw [z0] at C1
  rw [hw1, hw0] at C1
  have BW : Below w.heap.size w w1 := belowOn B0 b1
  go_enter Try.func29, Try.ntmps29
  go_wp2_with fail
  refine C1.mono ?_
  rintro e w2 ⟨b2, a2, c2, s2, rfl, hd2⟩
  rw [← hw0, ← hw1] at hd2
  obtain ⟨ob, hc2, hm2⟩ := hd2
  replace Z0 : ZB w2 w.heap.size := (hm2.block w.heap.size Z0.lt (by omega)).trans Z0
  replace P0 := P0.mid hm2 (Or.inl (by omega))
  replace P1 := P1.mid hm2 (Or.inl (by omega))
  have z2 := hm2.size
  have B2 : Below w.heap.size w w2 := BW.trans (hm2.below (by omega) (by omega))
  obtain ⟨w3, hw3⟩ : ∃ w3, w3 = w2.alloc (.cells #[.int .i64 b2.X, .int .i64 b2.Y, .int .i64 b2.Whole, .slice a2 b2.Rows.length c2] 26) := ⟨_, rfl⟩
  have b3 : Below w2.heap.size w2 w3 := by rw [hw3]; exact below_alloc _ _
  have V3 : BoxAt w3 w2.heap.size b2.X b2.Y b2.Whole (.slice a2 b2.Rows.length c2) := by rw [hw3]; exact BoxAt.top rfl
  have hc3 := hc2.kept (Nat.le_refl _) b3
  have ob3 := ob.kept b3 (Nat.le_refl _)
  replace Z0 := Z0.kept b3 (by have := Z0.lt; omega)
  replace P0 := P0.kept b3
  replace P1 := P1.kept b3
  have z3 := b3.size
  have C2 := four3_any (w.heap.size + 1 + 1 + 1) (.slice va n vcap) n (0 + 4000) b2.X b2.Y w3 hc3 (by decide)
  rw [hw3] at C2
  have B3 := belowOn B2 b3
  clear C1 hw0 hw1 hc1 hc2 hm2 ob B0 BW B2 b1
  go_wp2_with fail
  refine C2.mono ?_
  rintro e w4 ⟨f0, f1, s0, s1, m, rfl, hc4, hm4⟩
  rw [← hw3] at hm4
  have V4 := V3.mid hm4 (Or.inr (by omega))
  have ob4 := ob3.mid hm4 (Or.inr (by rw [z1]; omega))
  replace Z0 : ZB w4 w.heap.size := (hm4.block w.heap.size Z0.lt (by omega)).trans Z0
  replace P0 := P0.mid hm4 (Or.inl (by omega))
  replace P1 := P1.mid hm4 (Or.inl (by omega))
  have z4 := hm4.size
  have B4 : Below w.heap.size w w4 := B3.trans (hm4.below (by omega) (by omega))
  have hv2 : w2.heap.size < w4.heap.size := V4.lt
  clear C2 hc4 hm4 hc3 hw3 V3 ob3 B3 b3
  obtain ⟨w5, hw5⟩ : ∃ w5, w5 = (w4.alloc (.cells #[.int .i64 f0, .int .i64 f1] 47)).alloc (.cells #[.int .i64 s0, .int .i64 s1] 47) := ⟨_, rfl⟩
  have b5 : Below w4.heap.size w4 w5 := by rw [hw5]; exact (by repeat' (first | with_reducible exact Below.refl _ _ | with_reducible assumption | with_reducible apply Below.alloc | with_reducible apply Below.setCell | with_reducible apply Below.drew | exact Nat.le_refl _ | omega | (simp only [World.size_alloc, World.size_setCell]; omega)))
  have P3 : PairAt w5 w4.heap.size (.int .i64 f0) (.int .i64 f1) := by rw [hw5]; exact PairAt.under (by simp) (PairAt.top rfl)
  have P4 : PairAt w5 (w4.heap.size + 1) (.int .i64 s0) (.int .i64 s1) := by rw [hw5]; exact PairAt.top (by simp)
  replace Z0 := Z0.kept b5 (by have := Z0.lt; omega)
  replace P0 := P0.kept b5
  replace P1 := P1.kept b5
  have V5 := V4.kept b5 hv2
  have R5 := (ob4.rdII).stay b5
  have ob5 := ob4.kept b5 (by omega)
  have B5 := belowOn B4 b5
  obtain ⟨e0, e1, e2, e3, ef⟩ := Z0.retAt
  obtain ⟨p0, p1, pf⟩ := P0.cells
  obtain ⟨q0, q1, qf⟩ := P1.cells
  have BE := below8 (B := w.heap.size) (w := w5) w.heap.size (w.heap.size + 1) (w.heap.size + 1 + 1) (Nat.le_refl _) (by omega) (by omega) (.int .i64 b2.X) (.int .i64 b2.Y) (.int .i64 b2.Whole) (.slice a2 b2.Rows.length c2) (.int .i64 f0) (.int .i64 f1) (.int .i64 s0) (.int .i64 s1)
  obtain ⟨W1, hW1⟩ : ∃ W1, W1 = (((w5.setCell ⟨w.heap.size, 0, none⟩ (.int .i64 b2.X)).setCell ⟨w.heap.size, 1, none⟩ (.int .i64 b2.Y)).setCell ⟨w.heap.size, 2, none⟩ (.int .i64 b2.Whole)).setCell ⟨w.heap.size, 3, none⟩ (.slice a2 b2.Rows.length c2) := ⟨_, rfl⟩
  obtain ⟨W2, hW2⟩ : ∃ W2, W2 = (W1.setCell ⟨w.heap.size + 1, 0, none⟩ (.int .i64 f0)).setCell ⟨w.heap.size + 1, 1, none⟩ (.int .i64 f1) := ⟨_, rfl⟩
  obtain ⟨W3, hW3⟩ : ∃ W3, W3 = (W2.setCell ⟨w.heap.size + 1 + 1, 0, none⟩ (.int .i64 s0)).setCell ⟨w.heap.size + 1 + 1, 1, none⟩ (.int .i64 s1) := ⟨_, rfl⟩
  have g1 : ∀ k, k ≠ w.heap.size → W1.heap[k]? = w5.heap[k]? := fun k hk => by rw [hW1]; exact set4W_other hk _ _ _ _
  have g2 : ∀ k, k ≠ w.heap.size → k ≠ w.heap.size + 1 → W2.heap[k]? = w5.heap[k]? := fun k hk hk1 => by rw [hW2, set2_other hk1]; exact g1 k hk
  have g3 : ∀ k, k ≠ w.heap.size → k ≠ w.heap.size + 1 → k ≠ w.heap.size + 1 + 1 → W3.heap[k]? = w5.heap[k]? := fun k hk hk1 hk2 => by rw [hW3, set2_other hk2]; exact g2 k hk hk1
  have K : ∀ W : World, (∀ k, k ≠ w.heap.size → k ≠ w.heap.size + 1 → k ≠ w.heap.size + 1 + 1 → W.heap[k]? = w5.heap[k]?) → BoxAt W w2.heap.size b2.X b2.Y b2.Whole (.slice a2 b2.Rows.length c2) ∧ PairAt W w4.heap.size (.int .i64 f0) (.int .i64 f1) ∧ PairAt W (w4.heap.size + 1) (.int .i64 s0) (.int .i64 s1) := fun W hW =>
    ⟨V5.other (hW _ (by omega) (by omega) (by omega)), (hW _ (by omega) (by omega) (by omega)).trans P3, (hW _ (by omega) (by omega) (by omega)).trans P4⟩
  have KK : ∀ W : World, (∀ k, k ≠ w.heap.size → k ≠ w.heap.size + 1 → k ≠ w.heap.size + 1 + 1 → W.heap[k]? = w5.heap[k]?) → (W.cell? ⟨w2.heap.size, 0, none⟩ = some (.int .i64 b2.X) ∧ W.cell? ⟨w2.heap.size, 1, none⟩ = some (.int .i64 b2.Y) ∧ W.cell? ⟨w2.heap.size, 2, none⟩ = some (.int .i64 b2.Whole) ∧ W.cell? ⟨w2.heap.size, 3, none⟩ = some (.slice a2 b2.Rows.length c2)) ∧ (W.cell? ⟨w4.heap.size, 0, none⟩ = some (.int .i64 f0) ∧ W.cell? ⟨w4.heap.size, 1, none⟩ = some (.int .i64 f1)) ∧ W.cell? ⟨w4.heap.size + 1, 0, none⟩ = some (.int .i64 s0) ∧ W.cell? ⟨w4.heap.size + 1, 1, none⟩ = some (.int .i64 s1) := fun W hW => by
    obtain ⟨h1, h2, h3⟩ := K W hW
    exact ⟨⟨h1.e0, h1.e1, h1.e2, h1.e3⟩, ⟨h2.cells.1, h2.cells.2.1⟩, h3.cells.1, h3.cells.2.1⟩
  have HV0 := KK w5 (fun _ _ _ _ => rfl)
  have HV1 := Lib.hid (KK W1.drew (fun k hk _ _ => g1 k hk))
  have HV2 := Lib.hid (KK W2.drew (fun k hk hk1 _ => g2 k hk hk1))
  have HV3 := Lib.hid (KK W3.drew g3)
  have P0a : PairAt W1 (w.heap.size + 1) (.int .i64 0) (.int .i64 0) := (g1 _ (by omega)).trans P0
  have P1a : PairAt W2 (w.heap.size + 1 + 1) (.int .i64 0) (.int .i64 0) := (g2 _ (by omega) (by omega)).trans P1
  have HX1 : W1.heap[w.heap.size]? = some (.cells #[.int .i64 b2.X, .int .i64 b2.Y, .int .i64 b2.Whole, .slice a2 b2.Rows.length c2] 26 (0, 0)) := by rw [hW1]; exact set4W_heap Z0 _ _ _ _
  have HX2 : W2.heap[w.heap.size]? = some (.cells #[.int .i64 b2.X, .int .i64 b2.Y, .int .i64 b2.Whole, .slice a2 b2.Rows.length c2] 26 (0, 0)) := by rw [hW2, set2_other (by omega)]; exact HX1
  have HX3 : W3.heap[w.heap.size]? = some (.cells #[.int .i64 b2.X, .int .i64 b2.Y, .int .i64 b2.Whole, .slice a2 b2.Rows.length c2] 26 (0, 0)) := by rw [hW3, set2_other (by omega)]; exact HX2
  have HY2 : PairAt W2 (w.heap.size + 1) (.int .i64 f0) (.int .i64 f1) := by rw [hW2]; exact PairAt.set P0a
  have HY3 : PairAt W3 (w.heap.size + 1) (.int .i64 f0) (.int .i64 f1) := by rw [hW3]; exact (set2_other (by omega) _ _).trans HY2
  have HZ3 : PairAt W3 (w.heap.size + 1 + 1) (.int .i64 s0) (.int .i64 s1) := by rw [hW3]; exact PairAt.set P1a
  have HEE := Lib.hid (And.intro (boxAt_block HX3) (And.intro HY3.cells HZ3.cells))
  clear HX1 HX2 HX3 HY2 HY3 HZ3
  have REND := Lib.hid (show RdII W3.drew (.slice a2 b2.Rows.length c2) b2.Rows from ((ob5.of_block (w' := W3) fun k h1 h2 => g3 k (by omega) (by omega) (by omega)).rdII).stay (below_drew _))
  have BEND := Lib.hid (show Below w.heap.size w W3.drew by rw [hW3, hW2, hW1]; exact (B5.trans BE).drew)
  have HX := Lib.hid P0a.cells
  have HY := Lib.hid P1a.cells
  clear K KK g1 g2 g3 P0 P1 P3 P4 V4 V5 R5 ob4 ob5 Z0 BE B4 B5 b5 P0a P1a
  subst hW3 hW2 hW1
  obtain ⟨⟨v0, v1, v2, v3⟩, ⟨r0, r1⟩, t0, t1⟩ := id HV0
  go_wp2
  rw [← hw5]
  clear hw5
  refine wp_region_held_drew (S := fun W => (W.cell? ⟨w2.heap.size, 0, none⟩ = some (.int .i64 b2.X) ∧ W.cell? ⟨w2.heap.size, 1, none⟩ = some (.int .i64 b2.Y) ∧ W.cell? ⟨w2.heap.size, 2, none⟩ = some (.int .i64 b2.Whole) ∧ W.cell? ⟨w2.heap.size, 3, none⟩ = some (.slice a2 b2.Rows.length c2)) ∧ (W.cell? ⟨w4.heap.size, 0, none⟩ = some (.int .i64 f0) ∧ W.cell? ⟨w4.heap.size, 1, none⟩ = some (.int .i64 f1)) ∧ W.cell? ⟨w4.heap.size + 1, 0, none⟩ = some (.int .i64 s0) ∧ W.cell? ⟨w4.heap.size + 1, 1, none⟩ = some (.int .i64 s1)) (by first | rfl | kernel_rfl) HV0 (fun hHeld => ?_)
  clear HV0
  refine wpAnyH_take (i := 0) (v := ?_) rfl (by kernel_rfl) (by kernel_rfl) (by kernel_rfl) (fun _ _ _ h => h) (Or.inl ⟨by rfl, ?_⟩) (by assumption) ?_
  rotate_left
  · (intro w hSw; (try dsimp only at hSw); go_simp; try with_reducible rfl)
  try simp only [Act.put, List.getElem_toArray, List.getElem_cons_zero, List.getElem_cons_succ, List.setIfInBounds_toArray, List.set_cons_zero, List.set_cons_succ]
  refine wpAnyH_take (i := 1) (v := ?_) rfl (by kernel_rfl) (by kernel_rfl) (by kernel_rfl) (fun _ _ _ h => h) (Or.inl ⟨by rfl, ?_⟩) (by assumption) ?_
  rotate_left
  · (intro w hSw; (try dsimp only at hSw); go_simp; try with_reducible rfl)
  try simp only [Act.put, List.getElem_toArray, List.getElem_cons_zero, List.getElem_cons_succ, List.setIfInBounds_toArray, List.set_cons_zero, List.set_cons_succ]
  refine wpAnyH_take (i := 2) (v := ?_) rfl (by kernel_rfl) (by kernel_rfl) (by kernel_rfl) (fun _ _ _ h => h) (Or.inl ⟨by rfl, ?_⟩) (by assumption) ?_
  rotate_left
  · (intro w hSw; (try dsimp only at hSw); go_simp; try with_reducible rfl)
  try simp only [Act.put, List.getElem_toArray, List.getElem_cons_zero, List.getElem_cons_succ, List.setIfInBounds_toArray, List.set_cons_zero, List.set_cons_succ]
  refine wpAnyH_take (i := 3) (v := ?_) rfl (by kernel_rfl) (by kernel_rfl) (by kernel_rfl) (fun _ _ _ h => h) (Or.inl ⟨by rfl, ?_⟩) (by assumption) ?_
  rotate_left
  · (intro w hSw; (try dsimp only at hSw); go_simp; try with_reducible rfl)
  try simp only [Act.put, List.getElem_toArray, List.getElem_cons_zero, List.getElem_cons_succ, List.setIfInBounds_toArray, List.set_cons_zero, List.set_cons_succ]
  clear v0 v1 v2 v3 r0 r1 t0 t1 p0 p1 pf q0 q1 qf z0 z1 z2 z3 z4 hv2
  refine wpAnyH_ready (rs := [4]) (by kernel_rfl) (by simp) ?_
  refine AllReadyH.cons rfl (fun K hK => ?_) AllReadyH.nil
  go_simp
  refine hK.out _ _ ?_ (fun hHeld => ?_)
  · with_reducible exact HV1.out
  clear hK K
  try simp only [Act.put, List.setIfInBounds_toArray, List.set_cons_zero, List.set_cons_succ]
  clear e0 e1 e2 e3 ef
  obtain ⟨x0, x1, xf⟩ := HX.out
  refine wpAnyH_ready (rs := [5]) (by kernel_rfl) (by simp) ?_
  refine AllReadyH.cons rfl (fun K hK => ?_) AllReadyH.nil
  go_simp
  refine hK.out _ _ ?_ (fun hHeld => ?_)
  · with_reducible exact HV2.out
  clear hK K
  try simp only [Act.put, List.setIfInBounds_toArray, List.set_cons_zero, List.set_cons_succ]
  clear x0 x1 xf
  obtain ⟨y0, y1, yf⟩ := HY.out
  refine wpAnyH_ready (rs := [6]) (by kernel_rfl) (by simp) ?_
  refine AllReadyH.cons rfl (fun K hK => ?_) AllReadyH.nil
  go_simp
  refine hK.out _ _ ?_ (fun hHeld => ?_)
  · with_reducible exact HV3.out
  clear hK K
  try simp only [Act.put, List.setIfInBounds_toArray, List.set_cons_zero, List.set_cons_succ]
  refine wpAnyH_take (i := 7) (v := ?_) rfl (by kernel_rfl) (by kernel_rfl) (by kernel_rfl) (fun _ _ _ h => h) (Or.inl ⟨by rfl, ?_⟩) (by assumption) ?_
  rotate_left
  · (intro w hSw; (try dsimp only at hSw); go_simp; try with_reducible rfl)
  try simp only [Act.put, List.getElem_toArray, List.getElem_cons_zero, List.getElem_cons_succ, List.setIfInBounds_toArray, List.set_cons_zero, List.set_cons_succ]
  refine wpAnyH_done (by kernel_rfl) ?_ _
  clear hHeld
  go_wp2
  refine bodyPost_ret (v := .tuple #[.agg #[.int .i64 b2.X, .int .i64 b2.Y, .int .i64 b2.Whole, .slice a2 b2.Rows.length c2], .agg #[.int .i64 f0, .int .i64 f1], .agg #[.int .i64 s0, .int .i64 s1], .int .i64 m]) ?_ rfl ?_
  · obtain ⟨⟨j0, j1, j2, j3⟩, ⟨j4, j5, _⟩, j6, j7, _⟩ := HEE.out
    clear HEE REND BEND HV1 HV2 HV3 HX HY
    simp [results, Try.results29, go_sem, j0, j1, j2, j3, j4, j5, j6, j7]
  · exact ⟨b2, a2, c2, f0, f1, s0, s1, m, rfl, REND.out, BEND.out⟩
end Go.Proofs.Ytnmnmnpeoiblhaa
