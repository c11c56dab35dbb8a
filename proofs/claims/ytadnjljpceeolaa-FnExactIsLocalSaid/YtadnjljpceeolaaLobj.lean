/- The triple worth: contracts of the program's sum and of both functions. -/
import Derived.Test.YtadnjljpceeolaaLobd
import Derived.Test.YtadnjljpceeolaaLobi
set_option linter.unusedSimpArgs false
set_option linter.unusedVariables false
namespace Go.Proofs.Ytadnjljpceeolaa
open Go.RowKit

theorem trip_call (w : World) (g : Nat) (v : Value) (b : BoxD) (hb : boxB b = true) (h : RdII w v b.Rows) (c : BoxAt w g b.X b.Y b.Whole v) (i j : Nat) (i' j' : Int) (ei : (i : Int) = i') (ej : (j : Int) = j') (hi : (i : Int) < b.X) (hj : (j : Int) < b.Y) :
    Calls Try.prog 170 #[.int .i64 i', .int .i64 j', .pointer (some ⟨g, 0, none⟩)] w fun e w' => e = .returned (.int .i64 (n11 b i j)) ∧ Below w.heap.size w w' := by
  subst ei ej
  obtain ⟨a0, a1, a2, a3⟩ := c
  have lg := World.block_lt_of_cell? _ _ a0
  go_enter Try.func170, Try.ntmps170
  go_wp2_with fail
  refine (at_lit v b hb i j 1 1 1 1 rfl rfl hi hj (by omega) (by omega) _ h).mono ?_
  rintro e w1 ⟨rfl, b1⟩
  go_wp2
  go_ret
  exact ⟨rfl, b1⟩
theorem trip_func (args : Array Value) (w : World) : (callFunc 170 args).run Try.prog w = .ok (.enter 170 args) w := by kernel_rfl
theorem n11_bd {b : BoxD} (hb : boxB b = true) (i j : Nat) (hi : (i : Int) < b.X) (hj : (j : Int) < b.Y) : 0 ≤ n11 b i j ∧ n11 b i j ≤ 1000 := by
  have h := numB_bound hb i j hi hj 1 1 (by omega) (by omega)
  have hw := (boxB_iff.1 hb).2.1
  have e : n11 b i j = numB b i j ((1 : Nat) : Int) ((1 : Nat) : Int) := rfl
  rw [e]
  omega
set_option maxRecDepth 100000 in
set_option maxHeartbeats 6400000 in
theorem triple3_any (v : Value) (b : BoxD) (hb : boxB b = true) (hX : b.X = 3) (hY : b.Y = 3) (w : World) (h : RdII w v b.Rows) :
    Calls Try.prog 145 #[.agg #[.int .i64 b.X, .int .i64 b.Y, .int .i64 b.Whole, v]] w fun e w' => e = .returned (.int .i64 (tripleV b)) ∧ Below w.heap.size w w' := by
  obtain ⟨hwh0, hwh1⟩ := (boxB_iff.1 hb).2.1
  have hl6 : (countsL b).length = 6 := by unfold countsL; rw [seqTo_len, hX, hY]; rfl
  have hg : ∀ k, k < 6 → (countsL b)[k]? = some (countAt b k) := by intro k hk; unfold countsL; rw [hX, hY]; exact seqTo_get _ _ _ hk
  obtain ⟨c0, hc0⟩ : ∃ c, c = oneB b 0 0 0 := ⟨_, rfl⟩
  obtain ⟨c3, hc3⟩ : ∃ c, c = oneB b 1 0 0 := ⟨_, rfl⟩
  obtain ⟨c4, hc4⟩ : ∃ c, c = oneB b 1 0 1 := ⟨_, rfl⟩
  have k0 := hg 0 (by omega)
  have k3 := hg 3 (by omega)
  have k4 := hg 4 (by omega)
  rw [countAt_x (by omega), ← hc0] at k0
  rw [countAt_y (k := 0) (by omega) (by rw [hX]; rfl), ← hc3] at k3
  rw [countAt_y (k := 1) (by omega) (by rw [hX]; rfl), ← hc4] at k4
  have q0 := oneB_bd hb 0 0 0 (by omega) (by omega)
  have q3 := oneB_bd hb 1 0 0 (by omega) (by omega)
  have q4 := oneB_bd hb 1 0 1 (by omega) (by omega)
  rw [← hc0] at q0
  rw [← hc3] at q3
  rw [← hc4] at q4
  obtain ⟨v00, hv00⟩ : ∃ c, n11 b 0 0 = c := ⟨_, rfl⟩
  have bv00 := n11_bd hb 0 0 (by omega) (by omega)
  rw [hv00] at bv00
  obtain ⟨v01, hv01⟩ : ∃ c, n11 b 0 1 = c := ⟨_, rfl⟩
  have bv01 := n11_bd hb 0 1 (by omega) (by omega)
  rw [hv01] at bv01
  obtain ⟨v02, hv02⟩ : ∃ c, n11 b 0 2 = c := ⟨_, rfl⟩
  have bv02 := n11_bd hb 0 2 (by omega) (by omega)
  rw [hv02] at bv02
  obtain ⟨v10, hv10⟩ : ∃ c, n11 b 1 0 = c := ⟨_, rfl⟩
  have bv10 := n11_bd hb 1 0 (by omega) (by omega)
  rw [hv10] at bv10
  obtain ⟨v11, hv11⟩ : ∃ c, n11 b 1 1 = c := ⟨_, rfl⟩
  have bv11 := n11_bd hb 1 1 (by omega) (by omega)
  rw [hv11] at bv11
  obtain ⟨v12, hv12⟩ : ∃ c, n11 b 1 2 = c := ⟨_, rfl⟩
  have bv12 := n11_bd hb 1 2 (by omega) (by omega)
  rw [hv12] at bv12
  obtain ⟨v20, hv20⟩ : ∃ c, n11 b 2 0 = c := ⟨_, rfl⟩
  have bv20 := n11_bd hb 2 0 (by omega) (by omega)
  rw [hv20] at bv20
  obtain ⟨v21, hv21⟩ : ∃ c, n11 b 2 1 = c := ⟨_, rfl⟩
  have bv21 := n11_bd hb 2 1 (by omega) (by omega)
  rw [hv21] at bv21
  have hw0 := wrap_in (v00 + v01) (by omega) (by omega)
  have hw1 := wrap_in (v00 + v01 + v02) (by omega) (by omega)
  have hw2 := wrap_in (v00 + v01 + v02 + v10) (by omega) (by omega)
  have hw3 := wrap_in (v00 + v01 + v02 + v10 + v11) (by omega) (by omega)
  have hw4 := wrap_in (v00 + v01 + v02 + v10 + v11 - v12) (by omega) (by omega)
  have hw5 := wrap_in (v00 + v01 + v02 + v10 + v11 - v12 + v20) (by omega) (by omega)
  have hw6 := wrap_in (v00 + v01 + v02 + v10 + v11 - v12 + v20 - v21) (by omega) (by omega)
  have hw7 := wrap_in (v00 + v01 + v02 + v10 + v11 - v12 + v20 - v21 - c0) (by omega) (by omega)
  have hw8 := wrap_in (2 * c3) (by omega) (by omega)
  have hw9 := wrap_in (v00 + v01 + v02 + v10 + v11 - v12 + v20 - v21 - c0 - 2 * c3) (by omega) (by omega)
  have hw10 := wrap_in (v00 + v01 + v02 + v10 + v11 - v12 + v20 - v21 - c0 - 2 * c3 - c4) (by omega) (by omega)
  have HV := Lib.hid (show tripleV b = v00 + v01 + v02 + v10 + v11 - v12 + v20 - v21 - c0 - 2 * c3 - c4 by unfold tripleV; rw [hv00, hv01, hv02, hv10, hv11, hv12, hv20, hv21, ← hc0, ← hc3, ← hc4])
  have HE := Lib.hid (And.intro hv00 (And.intro hv01 (And.intro hv02 (And.intro hv10 (And.intro hv11 (And.intro hv12 (And.intro hv20 hv21)))))))
  have hxx : (2 : Int) < b.X := by omega
  have hyy : (2 : Int) < b.Y := by omega
  have HXY := Lib.hid (And.intro hxx hyy)
  clear hc0 hc3 hc4 hg hX hY hxx hyy q0 q3 q4 bv00 bv01 bv02 bv10 bv11 bv12 bv20 bv21 hv00 hv01 hv02 hv10 hv11 hv12 hv20 hv21
  have hfun := trip_func
  go_enter Try.func145, Try.ntmps145
  go_wp2_with fail
  refine (counts_any v b hb _ (h.kept (Nat.le_refl _) (by repeat' (first | with_reducible exact Below.refl _ _ | with_reducible assumption | with_reducible apply Below.alloc | with_reducible apply Below.setCell | with_reducible apply Below.drew | exact Nat.le_refl _ | omega | (simp only [World.size_alloc, World.size_setCell]; omega))))).mono ?_
  rintro e w2 ⟨ac, cc, rfl, oc, b2⟩
  have B2 : Below w.heap.size w w2 := Below.trans (by repeat' (first | with_reducible exact Below.refl _ _ | with_reducible assumption | with_reducible apply Below.alloc | with_reducible apply Below.setCell | with_reducible apply Below.drew | exact Nat.le_refl _ | omega | (simp only [World.size_alloc, World.size_setCell]; omega))) (b2.mono (by first | exact Nat.le_refl _ | omega | (simp only [World.size_alloc, World.size_setCell]; omega)))
  have A2 : BoxAt w2 w.heap.size b.X b.Y b.Whole v := ⟨keepCell b2 (by repeat' (first | with_reducible assumption | (refine cell_top ?_ rfl; first | with_reducible rfl | (simp only [World.size_alloc, World.size_setCell]; done)) | (refine cell_under ?_ ?_; (first | omega | (simp only [World.size_alloc, World.size_setCell]; omega))) | refine cell_drew ?_)), keepCell b2 (by repeat' (first | with_reducible assumption | (refine cell_top ?_ rfl; first | with_reducible rfl | (simp only [World.size_alloc, World.size_setCell]; done)) | (refine cell_under ?_ ?_; (first | omega | (simp only [World.size_alloc, World.size_setCell]; omega))) | refine cell_drew ?_)), keepCell b2 (by repeat' (first | with_reducible assumption | (refine cell_top ?_ rfl; first | with_reducible rfl | (simp only [World.size_alloc, World.size_setCell]; done)) | (refine cell_under ?_ ?_; (first | omega | (simp only [World.size_alloc, World.size_setCell]; omega))) | refine cell_drew ?_)), keepCell b2 (by repeat' (first | with_reducible assumption | (refine cell_top ?_ rfl; first | with_reducible rfl | (simp only [World.size_alloc, World.size_setCell]; done)) | (refine cell_under ?_ ?_; (first | omega | (simp only [World.size_alloc, World.size_setCell]; omega))) | refine cell_drew ?_))⟩
  clear b2
  have hrc := oc.rdI
  rw [hl6] at hrc ⊢
  obtain ⟨a', gc, og, c', hv, _, hac, hcc⟩ := hrc
  injection hv with e1 e2 e3
  subst e1 e3
  obtain rfl := hac (by rw [hl6]; omega)
  have d0 := hcc 0 _ k0
  have d3 := hcc 3 _ k3
  have d4 := hcc 4 _ k4
  simp only [Nat.add_zero] at d0
  have KS := Lib.hid (fun (W : World) (h : Below w2.heap.size w2 W) => And.intro h (And.intro (keepCell h A2.e0) (And.intro (keepCell h A2.e1) (And.intro (keepCell h A2.e2) (And.intro (keepCell h A2.e3) (And.intro (keepCell h d0) (And.intro (keepCell h d3) (keepCell h d4))))))))
  have HA := Lib.hid A2
  clear A2 d0 d3 d4 hcc oc e2 hl6 k0 k3 k4 hac
  go_wp2
  go_region_held3 (fun W => Below w2.heap.size w2 W ∧ W.cell? ⟨w.heap.size, 0, none⟩ = some (.int .i64 b.X) ∧ W.cell? ⟨w.heap.size, 1, none⟩ = some (.int .i64 b.Y) ∧ W.cell? ⟨w.heap.size, 2, none⟩ = some (.int .i64 b.Whole) ∧ W.cell? ⟨w.heap.size, 3, none⟩ = some v ∧ W.cell? ⟨gc, og, none⟩ = some (.int .i64 c0) ∧ W.cell? ⟨gc, og + 3, none⟩ = some (.int .i64 c3) ∧ W.cell? ⟨gc, og + 4, none⟩ = some (.int .i64 c4))
    (first | exact KS.out _ (Below.refl _ _).drew | exact KS.out _ hBn)
    (first
      | (go_at_call 170; have hS := And.left (by assumption : Below w2.heap.size w2 _ ∧ _); (with_reducible refine (trip_call _ w.heap.size v b hb (h.kept (Nat.le_refl _) (B2.trans (hS.mono B2.size))) (HA.out.kept hS HA.out.lt) 0 0 0 0 rfl rfl (by have := HXY.out.1; omega) (by have := HXY.out.2; omega)).mono ?_); rintro e we ⟨rfl, bd⟩; have hBn := hS.trans (bd.mono hS.size); rw [HE.out.1])
      | (go_at_call 170; have hS := And.left (by assumption : Below w2.heap.size w2 _ ∧ _); (with_reducible refine (trip_call _ w.heap.size v b hb (h.kept (Nat.le_refl _) (B2.trans (hS.mono B2.size))) (HA.out.kept hS HA.out.lt) 0 1 0 1 rfl rfl (by have := HXY.out.1; omega) (by have := HXY.out.2; omega)).mono ?_); rintro e we ⟨rfl, bd⟩; have hBn := hS.trans (bd.mono hS.size); rw [HE.out.2.1])
      | (go_at_call 170; have hS := And.left (by assumption : Below w2.heap.size w2 _ ∧ _); (with_reducible refine (trip_call _ w.heap.size v b hb (h.kept (Nat.le_refl _) (B2.trans (hS.mono B2.size))) (HA.out.kept hS HA.out.lt) 0 2 0 2 rfl rfl (by have := HXY.out.1; omega) (by have := HXY.out.2; omega)).mono ?_); rintro e we ⟨rfl, bd⟩; have hBn := hS.trans (bd.mono hS.size); rw [HE.out.2.2.1])
      | (go_at_call 170; have hS := And.left (by assumption : Below w2.heap.size w2 _ ∧ _); (with_reducible refine (trip_call _ w.heap.size v b hb (h.kept (Nat.le_refl _) (B2.trans (hS.mono B2.size))) (HA.out.kept hS HA.out.lt) 1 0 1 0 rfl rfl (by have := HXY.out.1; omega) (by have := HXY.out.2; omega)).mono ?_); rintro e we ⟨rfl, bd⟩; have hBn := hS.trans (bd.mono hS.size); rw [HE.out.2.2.2.1])
      | (go_at_call 170; have hS := And.left (by assumption : Below w2.heap.size w2 _ ∧ _); (with_reducible refine (trip_call _ w.heap.size v b hb (h.kept (Nat.le_refl _) (B2.trans (hS.mono B2.size))) (HA.out.kept hS HA.out.lt) 1 1 1 1 rfl rfl (by have := HXY.out.1; omega) (by have := HXY.out.2; omega)).mono ?_); rintro e we ⟨rfl, bd⟩; have hBn := hS.trans (bd.mono hS.size); rw [HE.out.2.2.2.2.1])
      | (go_at_call 170; have hS := And.left (by assumption : Below w2.heap.size w2 _ ∧ _); (with_reducible refine (trip_call _ w.heap.size v b hb (h.kept (Nat.le_refl _) (B2.trans (hS.mono B2.size))) (HA.out.kept hS HA.out.lt) 1 2 1 2 rfl rfl (by have := HXY.out.1; omega) (by have := HXY.out.2; omega)).mono ?_); rintro e we ⟨rfl, bd⟩; have hBn := hS.trans (bd.mono hS.size); rw [HE.out.2.2.2.2.2.1])
      | (go_at_call 170; have hS := And.left (by assumption : Below w2.heap.size w2 _ ∧ _); (with_reducible refine (trip_call _ w.heap.size v b hb (h.kept (Nat.le_refl _) (B2.trans (hS.mono B2.size))) (HA.out.kept hS HA.out.lt) 2 0 2 0 rfl rfl (by have := HXY.out.1; omega) (by have := HXY.out.2; omega)).mono ?_); rintro e we ⟨rfl, bd⟩; have hBn := hS.trans (bd.mono hS.size); rw [HE.out.2.2.2.2.2.2.1])
      | (go_at_call 170; have hS := And.left (by assumption : Below w2.heap.size w2 _ ∧ _); (with_reducible refine (trip_call _ w.heap.size v b hb (h.kept (Nat.le_refl _) (B2.trans (hS.mono B2.size))) (HA.out.kept hS HA.out.lt) 2 1 2 1 rfl rfl (by have := HXY.out.1; omega) (by have := HXY.out.2; omega)).mono ?_); rintro e we ⟨rfl, bd⟩; have hBn := hS.trans (bd.mono hS.size); rw [HE.out.2.2.2.2.2.2.2]))
  go_wp2
  go_ret
  exact ⟨ret_int HV.out.symm, B2.trans (hBn.mono B2.size)⟩
theorem triple_any (v : Value) (b : BoxD) (hk : tripleOk b = true) (w : World) (h : RdII w v b.Rows) :
    Calls Try.prog 145 #[.agg #[.int .i64 b.X, .int .i64 b.Y, .int .i64 b.Whole, v]] w fun e w' => e = .returned (.int .i64 (tripleV b)) ∧ Below w.heap.size w w' :=
  triple3_any v b (tripleOk_iff.1 hk).1 (tripleOk_iff.1 hk).2.2.1 (tripleOk_iff.1 hk).2.2.2 w h
end Go.Proofs.Ytadnjljpceeolaa
