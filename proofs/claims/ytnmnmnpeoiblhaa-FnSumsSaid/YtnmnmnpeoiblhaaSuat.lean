/- SwapPlayers: contracts of the program's and the reference's function. -/
import Derived.Test.YtnmnmnpeoiblhaaSuas
import Derived.Test.YtnmnmnpeoiblhaaSuak
set_option linter.unusedSimpArgs false
set_option linter.unusedVariables false
namespace Go.Proofs.Ytnmnmnpeoiblhaa
open Go.RowKit

def swapN (b : BoxD) : Num := fun i j a c => numB b j i c a
def swapL (b : BoxD) : BoxD := ⟨b.Y, b.X, b.Whole, rowsTo (swapN b) b.X.toNat (b.Y.toNat * b.X.toNat)⟩
def swapD (b : BoxD) : BoxD := if boxB b then swapL b else zeroD
theorem swapD_size (b : BoxD) : (swapD b).Rows.length + sumLen (swapD b).Rows ≤ 4194304 := by
  unfold swapD swapL
  split
  · rename_i h
    obtain ⟨⟨⟨hx0, hx1⟩, hy0, hy1⟩, _⟩ := boxB_iff.1 h
    apply rows_size
    exact Nat.mul_le_mul (show b.Y.toNat ≤ 3 by omega) (show b.X.toNat ≤ 3 by omega)
  · simp [zeroD, sumLen]

set_option maxHeartbeats 400000 in
theorem swap_call (w : World) (g : Nat) (v : Value) (b : BoxD) (hb : boxB b = true) (h : RdII w v b.Rows)
    (c0 : w.cell? ⟨g, 0, none⟩ = some (.int .i64 b.X)) (c1 : w.cell? ⟨g, 1, none⟩ = some (.int .i64 b.Y)) (c2 : w.cell? ⟨g, 2, none⟩ = some (.int .i64 b.Whole)) (c3 : w.cell? ⟨g, 3, none⟩ = some v)
    (i j a c : Nat) (hi : (i : Int) < b.Y) (hj : (j : Int) < b.X) (ha : a < 2) (hc : c < 2) :
    Calls Try.prog 106 #[.int .i64 i, .int .i64 j, .int .i64 a, .int .i64 c, .pointer (some ⟨g, 0, none⟩)] w fun e w' => e = .returned (.int .i64 (swapN b i j a c)) ∧ Below w.heap.size w w' := by
  obtain ⟨av, ba, off, cap, rfl, hm, hav, hcell⟩ := h
  have hr : RdII w (.slice av b.Rows.length cap) b.Rows := ⟨av, ba, off, cap, rfl, hm, hav, hcell⟩
  unfold swapN
  clear hcell hav
  go_enter Try.func106, Try.ntmps106
  go_wp2_with fail
  refine (at_any _ b hb j i c a hj hi hc ha _ hr).mono ?_
  rintro e w1 ⟨rfl, b1⟩
  go_wp2
  go_ret
  exact ⟨rfl, b1⟩
theorem swap_func (args : Array Value) (w : World) : (callFunc 106 args).run Try.prog w = .ok (.enter 106 args) w := by kernel_rfl

set_option maxHeartbeats 800000 in
theorem swapped_any (v : Value) (b : BoxD) (hb : boxB b = true) (w : World) (h : RdII w v b.Rows) :
    Calls Try.prog 55 #[.agg #[.int .i64 b.X, .int .i64 b.Y, .int .i64 b.Whole, v]] w fun e w' => ∃ a c vs, e = .returned (.agg #[.int .i64 b.Y, .int .i64 b.X, .int .i64 b.Whole, .slice a (b.Y.toNat * b.X.toNat) c]) ∧
      OwnII 27 3 w.heap.size w'.heap.size w' (.slice a (b.Y.toNat * b.X.toNat) c) (swapL b).Rows vs ∧ Below w.heap.size w w' := by
  have hr : ∀ w', Below w.heap.size w w' → RdII w' v b.Rows := fun w' hb => h.kept (Nat.le_refl _) hb
  obtain ⟨av, ba, off, cap, rfl, _⟩ := h
  obtain ⟨hs, _⟩ := boxB_iff.1 hb
  go_enter Try.func55, Try.ntmps55
  go_wp2_with fail
  refine (newBoxZ_any b.Y b.X hs.2 hs.1 b.Whole 106 #[.pointer (some ⟨w.heap.size, 0, none⟩)] (swapN b) _ swap_func (fun wr hB i j a c hi hj ha hc => ?_)).mono ?_
  · obtain ⟨bc, _⟩ := bcell hB
    exact swap_call wr w.heap.size _ b hb (hr wr (Below.trans (by repeat' (first | with_reducible exact Below.refl _ _ | with_reducible assumption | with_reducible apply Below.alloc | with_reducible apply Below.setCell | with_reducible apply Below.drew | exact Nat.le_refl _ | omega | (simp only [World.size_alloc, World.size_setCell]; omega))) (hB.mono (by first | exact Nat.le_refl _ | omega | (simp only [World.size_alloc, World.size_setCell]; omega))))) (by rw [bc _ _ (by first | exact Nat.le_refl _ | omega | (simp only [World.size_alloc, World.size_setCell]; omega))]; simp) (by rw [bc _ _ (by first | exact Nat.le_refl _ | omega | (simp only [World.size_alloc, World.size_setCell]; omega))]; simp) (by rw [bc _ _ (by first | exact Nat.le_refl _ | omega | (simp only [World.size_alloc, World.size_setCell]; omega))]; simp) (by rw [bc _ _ (by first | exact Nat.le_refl _ | omega | (simp only [World.size_alloc, World.size_setCell]; omega))]; simp) i j a c hi hj ha hc
  rintro e w1 ⟨a, c, vs, rfl, o1, b1⟩
  have B1 : Below w.heap.size w w1 := Below.trans (by repeat' (first | with_reducible exact Below.refl _ _ | with_reducible assumption | with_reducible apply Below.alloc | with_reducible apply Below.setCell | with_reducible apply Below.drew | exact Nat.le_refl _ | omega | (simp only [World.size_alloc, World.size_setCell]; omega))) (b1.mono (by first | exact Nat.le_refl _ | omega | (simp only [World.size_alloc, World.size_setCell]; omega)))
  obtain ⟨hc, hf⟩ := bcell b1
  have hz := b1.size
  simp only [World.size_alloc] at hc hf hz o1
  clear b1
  have hend := (o1.set4 (g := w.heap.size + 1) (by omega) (.int .i64 b.Y) (.int .i64 b.X) (.int .i64 b.Whole) (.slice a (b.Y.toNat * b.X.toNat) c)).weaken (lo' := w.heap.size) (by omega) (Nat.le_refl _)
  have hB2 : Below w.heap.size w ((((w1.setCell ⟨w.heap.size + 1, 0, none⟩ (.int .i64 b.Y)).setCell ⟨w.heap.size + 1, 1, none⟩ (.int .i64 b.X)).setCell ⟨w.heap.size + 1, 2, none⟩ (.int .i64 b.Whole)).setCell ⟨w.heap.size + 1, 3, none⟩ (.slice a (b.Y.toNat * b.X.toNat) c)) := (by repeat' (first | with_reducible exact Below.refl _ _ | with_reducible assumption | with_reducible apply Below.alloc | with_reducible apply Below.setCell | with_reducible apply Below.drew | exact Nat.le_refl _ | omega | (simp only [World.size_alloc, World.size_setCell]; omega)))
  clear o1
  go_wp2
  refine bodyPost_ret (v := .agg #[.int .i64 b.Y, .int .i64 b.X, .int .i64 b.Whole, .slice a (b.Y.toNat * b.X.toNat) c]) ?_ rfl ?_
  · simp [results, Try.results55, go_sem, hc]
  · exact ⟨a, c, vs, rfl, by simp only [World.size_setCell]; exact hend, hB2⟩

set_option maxHeartbeats 800000 in
theorem implSwapPlayers_any (v : Value) (b : BoxD) (w : World) (h : RdII w v b.Rows) :
    Calls Try.prog 11 #[.agg #[.int .i64 b.X, .int .i64 b.Y, .int .i64 b.Whole, v]] w (BoxRes w (swapD b) (boxB b)) := by
  have hr : ∀ w', Below w.heap.size w w' → RdII w' v b.Rows := fun w' hb => h.kept (Nat.le_refl _) hb
  obtain ⟨av, ba, off, cap, rfl, _⟩ := h
  rcases Bool.eq_false_or_eq_true (boxB b) with hok | hok
  · have hD : swapD b = swapL b := by unfold swapD; rw [hok]; simp
    have hll : (swapL b).Rows.length = b.Y.toNat * b.X.toNat := by simp [swapL]
    rw [hD, hok]
    clear hD
    go_enter Try.func11, Try.ntmps11
    go_wp2_with fail
    refine (implIsBox_any _ b _ (hr _ (by repeat' (first | with_reducible exact Below.refl _ _ | with_reducible assumption | with_reducible apply Below.alloc | with_reducible apply Below.setCell | with_reducible apply Below.drew | exact Nat.le_refl _ | omega | (simp only [World.size_alloc, World.size_setCell]; omega))))).mono ?_
    rintro e w1 ⟨rfl, b1⟩
    rw [hok]
    have B1 : Below w.heap.size w w1 := Below.trans (by repeat' (first | with_reducible exact Below.refl _ _ | with_reducible assumption | with_reducible apply Below.alloc | with_reducible apply Below.setCell | with_reducible apply Below.drew | exact Nat.le_refl _ | omega | (simp only [World.size_alloc, World.size_setCell]; omega))) (b1.mono (by first | exact Nat.le_refl _ | omega | (simp only [World.size_alloc, World.size_setCell]; omega)))
    obtain ⟨hc, hf⟩ := bcell b1
    have hz := b1.size
    simp only [World.size_alloc] at hc hf hz
    clear b1
    go_wp2_with fail
    refine (swapped_any _ b hok _ (hr _ B1)).mono ?_
    rintro e w2 ⟨a, c, vs, rfl, o2, b2⟩
    have B2 := B1.trans (b2.mono B1.size)
    obtain ⟨hc2, hf2⟩ := bcell b2
    have hz2 := b2.size
    have hend := (o2.set4 (g := w.heap.size + 1) (by omega) (.int .i64 b.Y) (.int .i64 b.X) (.int .i64 b.Whole) (.slice a (b.Y.toNat * b.X.toNat) c)).weaken (lo' := w.heap.size) (by omega) (Nat.le_refl _)
    have hB3 : Below w.heap.size w ((((w2.setCell ⟨w.heap.size + 1, 0, none⟩ (.int .i64 b.Y)).setCell ⟨w.heap.size + 1, 1, none⟩ (.int .i64 b.X)).setCell ⟨w.heap.size + 1, 2, none⟩ (.int .i64 b.Whole)).setCell ⟨w.heap.size + 1, 3, none⟩ (.slice a (b.Y.toNat * b.X.toNat) c)) := (by repeat' (first | with_reducible exact Below.refl _ _ | with_reducible assumption | with_reducible apply Below.alloc | with_reducible apply Below.setCell | with_reducible apply Below.drew | exact Nat.le_refl _ | omega | (simp only [World.size_alloc, World.size_setCell]; omega)))
    have e0 : ∀ o, o < 4 → w2.cell? ⟨w.heap.size + 1, o, none⟩ = w1.cell? ⟨w.heap.size + 1, o, none⟩ := fun o _ => hc2 _ _ (by omega)
    have e1 : ∀ o, w2.frozen? ⟨w.heap.size + 1, o, none⟩ = false := fun o => by rw [hf2 _ _ (by omega), hf _ _ (by omega)]; simp
    have d0 : w2.cell? ⟨w.heap.size + 1, 0, none⟩ = some (.int .i64 0) := by rw [hc2 _ _ (by omega), hc _ _ (by omega)]; simp
    have d1 : w2.cell? ⟨w.heap.size + 1, 1, none⟩ = some (.int .i64 0) := by rw [hc2 _ _ (by omega), hc _ _ (by omega)]; simp
    have d2 : w2.cell? ⟨w.heap.size + 1, 2, none⟩ = some (.int .i64 0) := by rw [hc2 _ _ (by omega), hc _ _ (by omega)]; simp
    have d3 : w2.cell? ⟨w.heap.size + 1, 3, none⟩ = some (.slice none 0 0) := by rw [hc2 _ _ (by omega), hc _ _ (by omega)]; simp
    clear hc hf hc2 hf2 o2 e0 b2
    go_wp2
    refine bodyPost_ret (v := .tuple #[.agg #[.int .i64 b.Y, .int .i64 b.X, .int .i64 b.Whole, .slice a (b.Y.toNat * b.X.toNat) c], .bool true]) ?_ rfl ?_
    · simp [results, Try.results11, go_sem, d0, d1, d2, d3]
    · exact ⟨a, c, vs, by rw [hll]; rfl, by rw [hll]; simp only [World.size_setCell]; exact hend, hB3⟩
  · have hD : swapD b = zeroD := by unfold swapD; rw [hok]; simp
    rw [hD, hok]
    clear hD
    go_enter Try.func11, Try.ntmps11
    go_wp2_with fail
    refine (implIsBox_any _ b _ (hr _ (by repeat' (first | with_reducible exact Below.refl _ _ | with_reducible assumption | with_reducible apply Below.alloc | with_reducible apply Below.setCell | with_reducible apply Below.drew | exact Nat.le_refl _ | omega | (simp only [World.size_alloc, World.size_setCell]; omega))))).mono ?_
    rintro e w1 ⟨rfl, b1⟩
    rw [hok]
    have B1 : Below w.heap.size w w1 := Below.trans (by repeat' (first | with_reducible exact Below.refl _ _ | with_reducible assumption | with_reducible apply Below.alloc | with_reducible apply Below.setCell | with_reducible apply Below.drew | exact Nat.le_refl _ | omega | (simp only [World.size_alloc, World.size_setCell]; omega))) (b1.mono (by first | exact Nat.le_refl _ | omega | (simp only [World.size_alloc, World.size_setCell]; omega)))
    obtain ⟨hc, hf⟩ := bcell b1
    have hz := b1.size
    simp only [World.size_alloc] at hc hf hz
    clear b1
    have hB2 : Below w.heap.size w ((((w1.setCell ⟨w.heap.size + 1, 0, none⟩ (.int .i64 0)).setCell ⟨w.heap.size + 1, 1, none⟩ (.int .i64 0)).setCell ⟨w.heap.size + 1, 2, none⟩ (.int .i64 0)).setCell ⟨w.heap.size + 1, 3, none⟩ (.slice none 0 0)) := (by repeat' (first | with_reducible exact Below.refl _ _ | with_reducible assumption | with_reducible apply Below.alloc | with_reducible apply Below.setCell | with_reducible apply Below.drew | exact Nat.le_refl _ | omega | (simp only [World.size_alloc, World.size_setCell]; omega)))
    go_wp2
    refine bodyPost_ret (v := .tuple #[.agg #[.int .i64 0, .int .i64 0, .int .i64 0, .slice none 0 0], .bool false]) ?_ rfl ?_
    · simp [results, Try.results11, go_sem, hc]
    · exact BoxRes.zero hB2
theorem cell_at_new {W : World} {m : Nat} {u : Value} {T : Nat} (h : W.heap.size = m) : (W.alloc (.cells #[u] T)).cell? ⟨m, 0, none⟩ = some u := by subst h; simp
set_option maxHeartbeats 3200000 in
theorem specSwapPlayers_any (v : Value) (b : BoxD) (w : World) (h : RdII w v b.Rows) :
    Calls Try.prog 12 #[.agg #[.int .i64 b.X, .int .i64 b.Y, .int .i64 b.Whole, v]] w (BoxRes w (swapD b) (boxB b)) := by
  have hr : ∀ w', Below w.heap.size w w' → RdII w' v b.Rows := fun w' hb => h.kept (Nat.le_refl _) hb
  obtain ⟨av, ba, off, cap, rfl, _⟩ := h
  rcases Bool.eq_false_or_eq_true (boxB b) with hok | hok
  · have hD : swapD b = swapL b := by unfold swapD; rw [hok]; simp
    have hll : (swapL b).Rows.length = b.Y.toNat * b.X.toNat := by simp [swapL]
    obtain ⟨⟨⟨hx0, hx1⟩, hy0, hy1⟩, _⟩ := boxB_iff.1 hok
    have hXY : b.Y.toNat * b.X.toNat ≤ 9 := Nat.mul_le_mul (show b.Y.toNat ≤ 3 by omega) (show b.X.toNat ≤ 3 by omega)
    rw [hD, hok]
    clear hD
    go_enter Try.func12, Try.ntmps12
    go_wp2_with fail
    refine (l2Box_any _ b _ (hr _ (by repeat' (first | with_reducible exact Below.refl _ _ | with_reducible assumption | with_reducible apply Below.alloc | with_reducible apply Below.setCell | with_reducible apply Below.drew | exact Nat.le_refl _ | omega | (simp only [World.size_alloc, World.size_setCell]; omega))))).mono ?_
    rintro e w1 ⟨rfl, b1⟩
    rw [hok]
    have B1 : Below w.heap.size w w1 := Below.trans (by repeat' (first | with_reducible exact Below.refl _ _ | with_reducible assumption | with_reducible apply Below.alloc | with_reducible apply Below.setCell | with_reducible apply Below.drew | exact Nat.le_refl _ | omega | (simp only [World.size_alloc, World.size_setCell]; omega))) (b1.mono (by first | exact Nat.le_refl _ | omega | (simp only [World.size_alloc, World.size_setCell]; omega)))
    obtain ⟨hc, hf⟩ := bcell b1
    have hz := b1.size
    simp only [World.size_alloc] at hc hf hz
    have p0 : w1.cell? ⟨w.heap.size, 0, none⟩ = some (.int .i64 b.X) := by rw [hc _ _ (by omega)]; simp
    have p1 : w1.cell? ⟨w.heap.size, 1, none⟩ = some (.int .i64 b.Y) := by rw [hc _ _ (by omega)]; simp
    have p2 : w1.cell? ⟨w.heap.size, 2, none⟩ = some (.int .i64 b.Whole) := by rw [hc _ _ (by omega)]; simp
    have p3 : w1.cell? ⟨w.heap.size, 3, none⟩ = some (.slice av b.Rows.length cap) := by rw [hc _ _ (by omega)]; simp
    have hret1 : RetAt w1 (w.heap.size + 1) := ⟨by rw [hc _ _ (by omega)]; simp, by rw [hc _ _ (by omega)]; simp, by rw [hc _ _ (by omega)]; simp, by rw [hc _ _ (by omega)]; simp, fun o => by rw [hf _ _ (by omega)]; simp⟩
    clear hc hf b1
    have L0 : w.heap.size < w1.heap.size := by omega
    go_wp2
    obtain ⟨W3, hW3⟩ : ∃ W3, W3 = ((w1.alloc (.cells #[] 27)).alloc (.cells #[.int .i64 b.Y, .int .i64 b.X, .int .i64 b.Whole, .slice (some ⟨w1.heap.size, 0, none⟩) 0 0] 26)) := ⟨_, rfl⟩
    obtain ⟨hst, hB3, hs3⟩ := BoxRel.start2 w1 W3 b.Y b.X b.Whole hW3
    have HW := Lib.hid hW3
    clear hW3
    go_loopw [5] (fun s wr => ∃ i : Nat, (i : Int) ≤ b.Y ∧ s = .int .i64 i ∧ ∃ a c vs, BoxRel W3 w1.heap.size (w1.heap.size + 1) w1.heap.size wr b.Y b.X b.Whole (rowsTo (swapN b) b.X.toNat (i * b.X.toNat)) a c vs) (fun s _ => b.Y.toNat - (intOf s).toNat)
    case atStart => exact ⟨0, by omega, rfl, _, _, _, by rw [← HW.out]; simpa [rowsTo] using hst⟩
    case round =>
      clear hst
      obtain ⟨i, hi, rfl, a, c, vs, hR⟩ := hrel
      have hBw := hB3.trans hR.below
      have q0 := (hBw.cell (p := ⟨w.heap.size, 0, none⟩) L0).trans p0
      have q1 := (hBw.cell (p := ⟨w.heap.size, 1, none⟩) L0).trans p1
      by_cases hlt : (i : Int) < b.Y
      · go_wp2
        clear q0 q1
        go_loopw [6] (fun s wr => ∃ j : Nat, (j : Int) ≤ b.X ∧ s = .int .i64 j ∧ ∃ a c vs, BoxRel W3 w1.heap.size (w1.heap.size + 1) w1.heap.size wr b.Y b.X b.Whole (rowsTo (swapN b) b.X.toNat (i * b.X.toNat + j)) a c vs) (fun s _ => b.X.toNat - (intOf s).toNat)
        case atStart => exact ⟨0, by omega, rfl, _, _, _, hR⟩
        case round =>
          clear hR hBw
          obtain ⟨j, hj, rfl, a, c, vs, hR⟩ := hrel
          have hBw := hB3.trans hR.below
          have q0 := (hBw.cell (p := ⟨w.heap.size, 0, none⟩) L0).trans p0
          have q1 := (hBw.cell (p := ⟨w.heap.size, 1, none⟩) L0).trans p1
          have q2 := (hBw.cell (p := ⟨w.heap.size, 2, none⟩) L0).trans p2
          have q3 := (hBw.cell (p := ⟨w.heap.size, 3, none⟩) L0).trans p3
          by_cases hjt : (j : Int) < b.X
          · obtain ⟨n, p, q, r, s, hn, hnm, hn8, hrow, hnl, hp, hq, hr4, hs, _, f0, f1, f2, f3⟩ := boxB_at hok j i hjt hlt
            have hro : rowOf (swapN b) (i : Int) (j : Int) = [p, r, q, s] := by simp [rowOf, swapN, f0, f1, f2, f3]
            have hrr := rowsTo_succ (swapN b) b.X.toNat i j (by omega)
            rw [hro] at hrr
            have HR := Lib.hid hrr
            clear hrr hro f0 f1 f2 f3
            go_wp2_with fail
            refine (l2Row_any _ b j i n p q r s hn hnm hn8 hnl hrow w wr (hr w (Below.refl _ _)) (B1.trans (hBw.mono B1.size))).mono ?_
            rintro e wd ⟨b2, o2, c2, rfl, ⟨k0, k1, k2, k3⟩, bd⟩
            have hl2 := World.block_lt_of_cell? _ _ k0
            simp only [] at hl2
            have BD : Below w.heap.size w wd := (B1.trans (hBw.mono B1.size)).trans (bd.mono (by have := B1.size; have := hBw.size; omega))
            have r0 := (BD.cell (p := ⟨b2, o2, none⟩) hl2).trans k0
            have r1 := (BD.cell (p := ⟨b2, o2 + 1, none⟩) hl2).trans k1
            have r2 := (BD.cell (p := ⟨b2, o2 + 2, none⟩) hl2).trans k2
            have r3 := (BD.cell (p := ⟨b2, o2 + 3, none⟩) hl2).trans k3
            have hRd := hR.later bd
            have K := Lib.hid (And.intro k0 (And.intro k1 (And.intro k2 k3)))
            have hne : ¬ (w1.heap.size + 1 = b2) := by omega
            have HLw : w1.heap.size + 1 < wd.heap.size := hRd.lt
            clear hR bd k0 k1 k2 k3 q0 q1 q2 q3 hrow
            obtain ⟨⟨g0, g1, g2, g3⟩, gf⟩ := hRd.cells
            have hrow := OwnV.lit 3 wd.drew (ints [p, r, q, s]) (by simp [maxLen])
            have hrow2 : OwnV 3 wd.heap.size (wd.heap.size + 1) (wd.drew.alloc (.cells #[.int .i64 p, .int .i64 r, .int .i64 q, .int .i64 s] 3)) (.slice (some ⟨wd.heap.size, 0, none⟩) 4 4) (ints [p, r, q, s]) := by simpa [ints] using hrow
            have hlen := hRd.rows.len
            rw [rowsTo_length] at hlen g3
            have hn9 : vs.length ≤ 9 := by
              have h1 : i * b.X.toNat + j < (i + 1) * b.X.toNat := by rw [Nat.succ_mul]; omega
              have h2 : (i + 1) * b.X.toNat ≤ b.Y.toNat * b.X.toNat := Nat.mul_le_mul_right _ (by omega)
              omega
            have HL := Lib.hid hlen
            have HV := Lib.hid hRd
            have HO := Lib.hid hrow2
            have ht := hRd.rows.top
            rw [rowsTo_length] at ht
            clear hlen hrow hrow2 hRd g0 g1 g2
            have hlo : w1.heap.size ≤ wd.heap.size := by omega
            have BWd : Below w.heap.size w wd := BD
            have hl2d : b2 < wd.heap.size := by have := BD.size; omega
            have hx1 : w1.heap.size < wd.heap.size := by omega
            have BW3 : Below w.heap.size w W3 := B1.trans (hB3.mono B1.size)
            have hlw : w.heap.size ≤ w1.heap.size := B1.size
            have KS := Lib.hid (fun (W : World) (h : Below wd.heap.size wd W) => And.intro (keepAt h hl2d r0) (And.intro (keepAt h hl2d r1) (And.intro (keepAt h hl2d r2) (And.intro (keepAt h hl2d r3) (keepAt h HLw g3)))))
            have KT := Lib.hid (fun (W : World) (h : Below w.heap.size w W) => And.intro (keepAt h hl2 K.out.1) (And.intro (keepAt h hl2 K.out.2.1) (And.intro (keepAt h hl2 K.out.2.2.1) (keepAt h hl2 K.out.2.2.2))))
            have hwd : w.heap.size ≤ wd.heap.size := BWd.size
            go_wp2
            refine wp_region_cut_held (S := fun W => W.cell? ⟨b2, o2, none⟩ = some (.int .i64 p) ∧ W.cell? ⟨b2, o2 + 1, none⟩ = some (.int .i64 q) ∧ W.cell? ⟨b2, o2 + 2, none⟩ = some (.int .i64 r) ∧ W.cell? ⟨b2, o2 + 3, none⟩ = some (.int .i64 s) ∧ W.cell? ⟨w1.heap.size + 1, 3, none⟩ = some (.slice a (i * b.X.toNat + j) c)) 18 _ rfl (by kernel_rfl) (by kernel_rfl) (KS.out _ (Below.refl _ _).drew) (fun hHeld => ?_)
            simp only [List.take_succ_cons, List.take_zero]
            refine wpAnyH_take (i := 0) (v := ?_) rfl (by kernel_rfl) (by kernel_rfl) (by kernel_rfl) (fun _ _ _ h => h) (Or.inl ⟨by rfl, ?_⟩) (by assumption) ?_
            rotate_left
            · (intro w hSw; (try dsimp only at hSw); go_simp; try with_reducible rfl)
            try simp only [Act.put, List.setIfInBounds_toArray, List.set_cons_zero, List.set_cons_succ]
            refine wpAnyH_take (i := 1) (v := ?_) rfl (by kernel_rfl) (by kernel_rfl) (by kernel_rfl) (fun _ _ _ h => h) (Or.inl ⟨by rfl, ?_⟩) (by assumption) ?_
            rotate_left
            · (intro w hSw; (try dsimp only at hSw); go_simp; try with_reducible rfl)
            try simp only [Act.put, List.setIfInBounds_toArray, List.set_cons_zero, List.set_cons_succ]
            refine wpAnyH_take (i := 2) (v := ?_) rfl (by kernel_rfl) (by kernel_rfl) (by kernel_rfl) (fun _ _ _ h => h) (Or.inl ⟨by rfl, ?_⟩) (by assumption) ?_
            rotate_left
            · (intro w hSw; (try dsimp only at hSw); go_simp; try with_reducible rfl)
            try simp only [Act.put, List.setIfInBounds_toArray, List.set_cons_zero, List.set_cons_succ]
            refine wpAnyH_take (i := 3) (v := ?_) rfl (by kernel_rfl) (by kernel_rfl) (by kernel_rfl) (fun _ _ _ h => h) (Or.inl ⟨by rfl, ?_⟩) (by assumption) ?_
            rotate_left
            · (intro w hSw; (try dsimp only at hSw); go_simp; try with_reducible rfl)
            try simp only [Act.put, List.setIfInBounds_toArray, List.set_cons_zero, List.set_cons_succ]
            refine wpAnyH_take (i := 4) (v := ?_) rfl (by kernel_rfl) (by kernel_rfl) (by kernel_rfl) (fun _ _ _ h => h) (Or.inl ⟨by rfl, ?_⟩) (by assumption) ?_
            rotate_left
            · (intro w hSw; (try dsimp only at hSw); go_simp; try with_reducible rfl)
            try simp only [Act.put, List.setIfInBounds_toArray, List.set_cons_zero, List.set_cons_succ]
            refine wpAnyH_take (i := 5) (v := ?_) rfl (by kernel_rfl) (by kernel_rfl) (by kernel_rfl) (fun _ _ _ h => h) (Or.inl ⟨by rfl, ?_⟩) (by assumption) ?_
            rotate_left
            · (intro w hSw; (try dsimp only at hSw); go_simp; try with_reducible rfl)
            try simp only [Act.put, List.setIfInBounds_toArray, List.set_cons_zero, List.set_cons_succ]
            refine wpAnyH_take (i := 6) (v := ?_) rfl (by kernel_rfl) (by kernel_rfl) (by kernel_rfl) (fun _ _ _ h => h) (Or.inl ⟨by rfl, ?_⟩) (by assumption) ?_
            rotate_left
            · (intro w hSw; (try dsimp only at hSw); go_simp; try with_reducible rfl)
            try simp only [Act.put, List.setIfInBounds_toArray, List.set_cons_zero, List.set_cons_succ]
            refine wpAnyH_take (i := 7) (v := ?_) rfl (by kernel_rfl) (by kernel_rfl) (by kernel_rfl) (fun _ _ _ h => h) (Or.inl ⟨by rfl, ?_⟩) (by assumption) ?_
            rotate_left
            · (intro w hSw; (try dsimp only at hSw); go_simp; try with_reducible rfl)
            try simp only [Act.put, List.setIfInBounds_toArray, List.set_cons_zero, List.set_cons_succ]
            refine wpAnyH_take (i := 8) (v := ?_) rfl (by kernel_rfl) (by kernel_rfl) (by kernel_rfl) (fun _ _ _ h => h) (Or.inl ⟨by rfl, ?_⟩) (by assumption) ?_
            rotate_left
            · (intro w hSw; (try dsimp only at hSw); go_simp; try with_reducible rfl)
            try simp only [Act.put, List.setIfInBounds_toArray, List.set_cons_zero, List.set_cons_succ]
            refine wpAnyH_take (i := 9) (v := ?_) rfl (by kernel_rfl) (by kernel_rfl) (by kernel_rfl) (fun _ _ _ h => h) (Or.inl ⟨by rfl, ?_⟩) (by assumption) ?_
            rotate_left
            · (intro w hSw; (try dsimp only at hSw); go_simp; try with_reducible rfl)
            try simp only [Act.put, List.setIfInBounds_toArray, List.set_cons_zero, List.set_cons_succ]
            refine wpAnyH_take (i := 10) (v := ?_) rfl (by kernel_rfl) (by kernel_rfl) (by kernel_rfl) (fun _ _ _ h => h) (Or.inl ⟨by rfl, ?_⟩) (by assumption) ?_
            rotate_left
            · (intro w hSw; (try dsimp only at hSw); go_simp; try with_reducible rfl)
            try simp only [Act.put, List.setIfInBounds_toArray, List.set_cons_zero, List.set_cons_succ]
            refine wpAnyH_take (i := 11) (v := ?_) rfl (by kernel_rfl) (by kernel_rfl) (by kernel_rfl) (fun _ _ _ h => h) (Or.inl ⟨by rfl, ?_⟩) (by assumption) ?_
            rotate_left
            · (intro w hSw; (try dsimp only at hSw); go_simp; try with_reducible rfl)
            try simp only [Act.put, List.setIfInBounds_toArray, List.set_cons_zero, List.set_cons_succ]
            refine wpAnyH_take (i := 12) (v := ?_) rfl (by kernel_rfl) (by kernel_rfl) (by kernel_rfl) (fun _ _ _ h => h) (Or.inl ⟨by rfl, ?_⟩) (by assumption) ?_
            rotate_left
            · (intro w hSw; (try dsimp only at hSw); go_simp; try with_reducible rfl)
            try simp only [Act.put, List.setIfInBounds_toArray, List.set_cons_zero, List.set_cons_succ]
            refine wpAnyH_take (i := 13) (v := ?_) rfl (by kernel_rfl) (by kernel_rfl) (by kernel_rfl) (fun _ _ _ h => h) (Or.inl ⟨by rfl, ?_⟩) (by assumption) ?_
            rotate_left
            · (intro w hSw; (try dsimp only at hSw); go_simp; try with_reducible rfl)
            try simp only [Act.put, List.setIfInBounds_toArray, List.set_cons_zero, List.set_cons_succ]
            refine wpAnyH_ready (rs := [14]) (by kernel_rfl) (by simp) ?_
            refine AllReadyH.cons rfl (fun K hK => ?_) AllReadyH.nil
            go_simp
            refine hK.out _ _ ?_ (fun hHeld => ?_)
            · exact KS.out _ ((Below.refl _ _).drew.alloc (Nat.le_refl _) _)
            clear hK K
            try simp only [Act.put, List.setIfInBounds_toArray, List.set_cons_zero, List.set_cons_succ]
            refine wpAnyH_ready (rs := [15]) (by kernel_rfl) (by simp) ?_
            refine AllReadyH.cons rfl (fun K hK => ?_) AllReadyH.nil
            go_simp
            refine hK.out _ _ ?_ (fun hHeld => ?_)
            · exact KS.out _ (((Below.refl _ _).drew.alloc (Nat.le_refl _) _).alloc (by show wd.heap.size ≤ (wd.alloc _).heap.size; rw [World.size_alloc]; omega) _)
            clear hK K
            try simp only [Act.put, List.setIfInBounds_toArray, List.set_cons_zero, List.set_cons_succ]
            refine wpAnyH_ready (rs := [16]) (by kernel_rfl) (by simp) ?_
            refine AllReadyH.cons rfl (fun K hK => ?_) AllReadyH.nil
            refine step_append1 (u := .slice (some ⟨wd.heap.size, 0, none⟩) 4 4) (m := wd.heap.size + 1) (by rfl) _ _ 24 27 (by rfl) Try.underlying24 Try.infoInts rfl (ht.kept (B := wd.heap.size) (by repeat' (first | with_reducible exact Below.refl _ _ | with_reducible assumption | with_reducible apply Below.alloc | with_reducible apply Below.setCell | with_reducible apply Below.drew | exact Nat.le_refl _ | omega | (simp only [World.size_alloc, World.size_setCell]; omega))) (Nat.le_refl _)) (by rfl) (by rfl) (by repeat' (first | with_reducible assumption | (refine cell_top ?_ rfl; first | with_reducible rfl | (simp only [World.size_alloc, World.size_setCell]; done)) | (refine cell_under ?_ ?_; (first | omega | (simp only [World.size_alloc, World.size_setCell]; omega))) | refine cell_drew ?_)) rfl (by omega) (by omega) (by show w1.heap.size ≤ ((wd.drew.alloc _).alloc _).heap.size; simp only [World.size_alloc]; show w1.heap.size ≤ wd.heap.size + 1 + 1; omega) ?_
            intro a2 c2 w2 hT2 hg2
            obtain ⟨⟨hp1, f1, f2⟩, hBm⟩ := HV.out.push_lit [p, r, q, s] (by simp [maxLen]) rfl hT2 (by rw [rowsTo_length]; exact hg2) (by rw [HL.out]; simp)
            have hBn : Below w.heap.size w w2 := BW3.trans (hBm.mono hlw)
            rw [rowsTo_length] at f1
            refine hK.out _ _ ?_ (fun hHeld => ?_)
            · exact ⟨(KT.out _ hBn).1, (KT.out _ hBn).2.1, (KT.out _ hBn).2.2.1, (KT.out _ hBn).2.2.2, f1⟩
            clear hK K
            try simp only [Act.put, List.setIfInBounds_toArray, List.set_cons_zero, List.set_cons_succ]
            refine wpAnyH_take (i := 17) (v := ?_) rfl (by kernel_rfl) (by kernel_rfl) (by kernel_rfl) (fun _ _ _ h => h) (Or.inl ⟨by rfl, ?_⟩) (by assumption) ?_
            rotate_left
            · (intro w hSw; (try dsimp only at hSw); go_simp; try with_reducible rfl)
            try simp only [Act.put, List.setIfInBounds_toArray, List.set_cons_zero, List.set_cons_succ]
            refine wpAnyH_done (by kernel_rfl) ?_ _
            show wpList _ _ _ _ _ _
            rw [← HR.out] at hp1
            clear ht
            go_wp2
            go_roundw
            case rel => exact ⟨j + 1, by omega, by go_num, a2, c2, _, hp1⟩
            case measure => simp [intOf]; omega
          · obtain rfl : j = b.X.toNat := by omega
            go_wp2
            go_roundw
            case rel => exact ⟨i + 1, by omega, by go_num, a, c, vs, by rw [Nat.succ_mul]; exact hR⟩
            case measure => simp [intOf]; omega
      · obtain rfl : i = b.Y.toNat := by omega
        have hrt := hret1.kept hBw (by omega)
        obtain ⟨⟨g0, g1, g2, g3⟩, gf⟩ := hR.cells
        have hrows := hR.rows
        have B5 := B1.trans (hBw.mono B1.size)
        rw [rowsTo_length] at g3 hrows
        obtain ⟨e0, e1, e2, e3, ef⟩ := hrt
        have hend := (hrows.set4 (g := w.heap.size + 1) (by omega) (.int .i64 b.Y) (.int .i64 b.X) (.int .i64 b.Whole) (.slice a (b.Y.toNat * b.X.toNat) c)).weaken (lo' := w.heap.size) (by omega) (Nat.le_refl _)
        have hB5 : Below w.heap.size w ((((wr.setCell ⟨w.heap.size + 1, 0, none⟩ (.int .i64 b.Y)).setCell ⟨w.heap.size + 1, 1, none⟩ (.int .i64 b.X)).setCell ⟨w.heap.size + 1, 2, none⟩ (.int .i64 b.Whole)).setCell ⟨w.heap.size + 1, 3, none⟩ (.slice a (b.Y.toNat * b.X.toNat) c)) := (by repeat' (first | with_reducible exact Below.refl _ _ | with_reducible assumption | with_reducible apply Below.alloc | with_reducible apply Below.setCell | with_reducible apply Below.drew | exact Nat.le_refl _ | omega | (simp only [World.size_alloc, World.size_setCell]; omega)))
        clear hrows hR
        go_wp2
        refine bodyPost_ret (v := .tuple #[.agg #[.int .i64 b.Y, .int .i64 b.X, .int .i64 b.Whole, .slice a (b.Y.toNat * b.X.toNat) c], .bool true]) ?_ rfl ?_
        · simp [results, Try.results12, go_sem, e0, e1, e2, e3]
        · exact ⟨a, c, vs, by rw [hll]; rfl, by rw [hll]; simp only [World.size_setCell]; exact hend, hB5⟩
  · have hD : swapD b = zeroD := by unfold swapD; rw [hok]; simp
    rw [hD, hok]
    clear hD
    go_enter Try.func12, Try.ntmps12
    go_wp2_with fail
    refine (l2Box_any _ b _ (hr _ (by repeat' (first | with_reducible exact Below.refl _ _ | with_reducible assumption | with_reducible apply Below.alloc | with_reducible apply Below.setCell | with_reducible apply Below.drew | exact Nat.le_refl _ | omega | (simp only [World.size_alloc, World.size_setCell]; omega))))).mono ?_
    rintro e w1 ⟨rfl, b1⟩
    rw [hok]
    have B1 : Below w.heap.size w w1 := Below.trans (by repeat' (first | with_reducible exact Below.refl _ _ | with_reducible assumption | with_reducible apply Below.alloc | with_reducible apply Below.setCell | with_reducible apply Below.drew | exact Nat.le_refl _ | omega | (simp only [World.size_alloc, World.size_setCell]; omega))) (b1.mono (by first | exact Nat.le_refl _ | omega | (simp only [World.size_alloc, World.size_setCell]; omega)))
    obtain ⟨hc, hf⟩ := bcell b1
    have hz := b1.size
    simp only [World.size_alloc] at hc hf hz
    clear b1
    have hB2 : Below w.heap.size w ((((w1.setCell ⟨w.heap.size + 1, 0, none⟩ (.int .i64 0)).setCell ⟨w.heap.size + 1, 1, none⟩ (.int .i64 0)).setCell ⟨w.heap.size + 1, 2, none⟩ (.int .i64 0)).setCell ⟨w.heap.size + 1, 3, none⟩ (.slice none 0 0)) := (by repeat' (first | with_reducible exact Below.refl _ _ | with_reducible assumption | with_reducible apply Below.alloc | with_reducible apply Below.setCell | with_reducible apply Below.drew | exact Nat.le_refl _ | omega | (simp only [World.size_alloc, World.size_setCell]; omega)))
    go_wp2
    refine bodyPost_ret (v := .tuple #[.agg #[.int .i64 0, .int .i64 0, .int .i64 0, .slice none 0 0], .bool false]) ?_ rfl ?_
    · simp [results, Try.results12, go_sem, hc]
    · exact BoxRes.zero hB2
end Go.Proofs.Ytnmnmnpeoiblhaa
