/- The greatest triple worth: contracts of the reference's functions. -/
import Derived.Test.YtadnjljpceeolaaLobe
import Derived.Test.YtadnjljpceeolaaLobf
import Derived.Test.YtadnjljpceeolaaLobg
import Derived.Test.YtadnjljpceeolaaLobd
import Derived.Test.YtadnjljpceeolaaLoau
import Derived.Test.YtadnjljpceeolaaLoat
import Derived.Deep.RegionHeld3
import Derived.BigRegion
set_option linter.unusedSimpArgs false
set_option linter.unusedVariables false
namespace Go.Proofs.Ytadnjljpceeolaa
open Go.RowKit

set_option maxHeartbeats 800000 in
theorem l3Orders_any (w : World) :
    Calls Try.prog 141 #[] w fun e w' => ∃ g, e = .returned (.slice (some ⟨g, 0, none⟩) 6 6) ∧ RdII w' (.slice (some ⟨g, 0, none⟩) 6 6) ords ∧ Below w.heap.size w w' := by
  go_enter Try.func141, Try.ntmps141
  go_wp2
  go_ret
  refine ⟨_, rfl, ords_rd (g0 := w.heap.size) (g1 := w.heap.size + 1) (g2 := w.heap.size + 1 + 1) (g3 := w.heap.size + 1 + 1 + 1) (g4 := w.heap.size + 1 + 1 + 1 + 1) (g5 := w.heap.size + 1 + 1 + 1 + 1 + 1) (g := w.heap.size + 1 + 1 + 1 + 1 + 1 + 1) (cells3 (by repeat' (first | with_reducible assumption | (refine cell_top ?_ rfl; first | with_reducible rfl | (simp only [World.size_alloc, World.size_setCell]; done)) | (refine cell_under ?_ ?_; (first | omega | (simp only [World.size_alloc, World.size_setCell]; omega))) | refine cell_drew ?_)) (by repeat' (first | with_reducible assumption | (refine cell_top ?_ rfl; first | with_reducible rfl | (simp only [World.size_alloc, World.size_setCell]; done)) | (refine cell_under ?_ ?_; (first | omega | (simp only [World.size_alloc, World.size_setCell]; omega))) | refine cell_drew ?_)) (by repeat' (first | with_reducible assumption | (refine cell_top ?_ rfl; first | with_reducible rfl | (simp only [World.size_alloc, World.size_setCell]; done)) | (refine cell_under ?_ ?_; (first | omega | (simp only [World.size_alloc, World.size_setCell]; omega))) | refine cell_drew ?_))) (cells3 (by repeat' (first | with_reducible assumption | (refine cell_top ?_ rfl; first | with_reducible rfl | (simp only [World.size_alloc, World.size_setCell]; done)) | (refine cell_under ?_ ?_; (first | omega | (simp only [World.size_alloc, World.size_setCell]; omega))) | refine cell_drew ?_)) (by repeat' (first | with_reducible assumption | (refine cell_top ?_ rfl; first | with_reducible rfl | (simp only [World.size_alloc, World.size_setCell]; done)) | (refine cell_under ?_ ?_; (first | omega | (simp only [World.size_alloc, World.size_setCell]; omega))) | refine cell_drew ?_)) (by repeat' (first | with_reducible assumption | (refine cell_top ?_ rfl; first | with_reducible rfl | (simp only [World.size_alloc, World.size_setCell]; done)) | (refine cell_under ?_ ?_; (first | omega | (simp only [World.size_alloc, World.size_setCell]; omega))) | refine cell_drew ?_))) (cells3 (by repeat' (first | with_reducible assumption | (refine cell_top ?_ rfl; first | with_reducible rfl | (simp only [World.size_alloc, World.size_setCell]; done)) | (refine cell_under ?_ ?_; (first | omega | (simp only [World.size_alloc, World.size_setCell]; omega))) | refine cell_drew ?_)) (by repeat' (first | with_reducible assumption | (refine cell_top ?_ rfl; first | with_reducible rfl | (simp only [World.size_alloc, World.size_setCell]; done)) | (refine cell_under ?_ ?_; (first | omega | (simp only [World.size_alloc, World.size_setCell]; omega))) | refine cell_drew ?_)) (by repeat' (first | with_reducible assumption | (refine cell_top ?_ rfl; first | with_reducible rfl | (simp only [World.size_alloc, World.size_setCell]; done)) | (refine cell_under ?_ ?_; (first | omega | (simp only [World.size_alloc, World.size_setCell]; omega))) | refine cell_drew ?_))) (cells3 (by repeat' (first | with_reducible assumption | (refine cell_top ?_ rfl; first | with_reducible rfl | (simp only [World.size_alloc, World.size_setCell]; done)) | (refine cell_under ?_ ?_; (first | omega | (simp only [World.size_alloc, World.size_setCell]; omega))) | refine cell_drew ?_)) (by repeat' (first | with_reducible assumption | (refine cell_top ?_ rfl; first | with_reducible rfl | (simp only [World.size_alloc, World.size_setCell]; done)) | (refine cell_under ?_ ?_; (first | omega | (simp only [World.size_alloc, World.size_setCell]; omega))) | refine cell_drew ?_)) (by repeat' (first | with_reducible assumption | (refine cell_top ?_ rfl; first | with_reducible rfl | (simp only [World.size_alloc, World.size_setCell]; done)) | (refine cell_under ?_ ?_; (first | omega | (simp only [World.size_alloc, World.size_setCell]; omega))) | refine cell_drew ?_))) (cells3 (by repeat' (first | with_reducible assumption | (refine cell_top ?_ rfl; first | with_reducible rfl | (simp only [World.size_alloc, World.size_setCell]; done)) | (refine cell_under ?_ ?_; (first | omega | (simp only [World.size_alloc, World.size_setCell]; omega))) | refine cell_drew ?_)) (by repeat' (first | with_reducible assumption | (refine cell_top ?_ rfl; first | with_reducible rfl | (simp only [World.size_alloc, World.size_setCell]; done)) | (refine cell_under ?_ ?_; (first | omega | (simp only [World.size_alloc, World.size_setCell]; omega))) | refine cell_drew ?_)) (by repeat' (first | with_reducible assumption | (refine cell_top ?_ rfl; first | with_reducible rfl | (simp only [World.size_alloc, World.size_setCell]; done)) | (refine cell_under ?_ ?_; (first | omega | (simp only [World.size_alloc, World.size_setCell]; omega))) | refine cell_drew ?_))) (cells3 (by repeat' (first | with_reducible assumption | (refine cell_top ?_ rfl; first | with_reducible rfl | (simp only [World.size_alloc, World.size_setCell]; done)) | (refine cell_under ?_ ?_; (first | omega | (simp only [World.size_alloc, World.size_setCell]; omega))) | refine cell_drew ?_)) (by repeat' (first | with_reducible assumption | (refine cell_top ?_ rfl; first | with_reducible rfl | (simp only [World.size_alloc, World.size_setCell]; done)) | (refine cell_under ?_ ?_; (first | omega | (simp only [World.size_alloc, World.size_setCell]; omega))) | refine cell_drew ?_)) (by repeat' (first | with_reducible assumption | (refine cell_top ?_ rfl; first | with_reducible rfl | (simp only [World.size_alloc, World.size_setCell]; done)) | (refine cell_under ?_ ?_; (first | omega | (simp only [World.size_alloc, World.size_setCell]; omega))) | refine cell_drew ?_))) (by repeat' (first | with_reducible assumption | (refine cell_top ?_ rfl; first | with_reducible rfl | (simp only [World.size_alloc, World.size_setCell]; done)) | (refine cell_under ?_ ?_; (first | omega | (simp only [World.size_alloc, World.size_setCell]; omega))) | refine cell_drew ?_)) (by repeat' (first | with_reducible assumption | (refine cell_top ?_ rfl; first | with_reducible rfl | (simp only [World.size_alloc, World.size_setCell]; done)) | (refine cell_under ?_ ?_; (first | omega | (simp only [World.size_alloc, World.size_setCell]; omega))) | refine cell_drew ?_)) (by repeat' (first | with_reducible assumption | (refine cell_top ?_ rfl; first | with_reducible rfl | (simp only [World.size_alloc, World.size_setCell]; done)) | (refine cell_under ?_ ?_; (first | omega | (simp only [World.size_alloc, World.size_setCell]; omega))) | refine cell_drew ?_)) (by repeat' (first | with_reducible assumption | (refine cell_top ?_ rfl; first | with_reducible rfl | (simp only [World.size_alloc, World.size_setCell]; done)) | (refine cell_under ?_ ?_; (first | omega | (simp only [World.size_alloc, World.size_setCell]; omega))) | refine cell_drew ?_)) (by repeat' (first | with_reducible assumption | (refine cell_top ?_ rfl; first | with_reducible rfl | (simp only [World.size_alloc, World.size_setCell]; done)) | (refine cell_under ?_ ?_; (first | omega | (simp only [World.size_alloc, World.size_setCell]; omega))) | refine cell_drew ?_)) (by repeat' (first | with_reducible assumption | (refine cell_top ?_ rfl; first | with_reducible rfl | (simp only [World.size_alloc, World.size_setCell]; done)) | (refine cell_under ?_ ?_; (first | omega | (simp only [World.size_alloc, World.size_setCell]; omega))) | refine cell_drew ?_)), (by repeat' (first | with_reducible exact Below.refl _ _ | with_reducible assumption | with_reducible apply Below.alloc | with_reducible apply Below.setCell | with_reducible apply Below.drew | exact Nat.le_refl _ | omega | (simp only [World.size_alloc, World.size_setCell]; omega)))⟩
set_option maxRecDepth 100000 in
set_option maxHeartbeats 3200000 in
theorem l3Asked_any (v : Value) (b : BoxD) (v1 : Value) (fs : List Int) (v2 : Value) (ss : List Int) (hb : boxB b = true) (hag : againB b fs ss = true) (hfx : (fs.length : Int) = b.X) (hsy : (ss.length : Int) = b.Y) (w : World) (h : RdII w v b.Rows) (r1 : RdI w v1 fs) (r2 : RdI w v2 ss) :
    Calls Try.prog 144 #[.agg #[.int .i64 b.X, .int .i64 b.Y, .int .i64 b.Whole, v], v1, v2] w (BoxOnly w b.X b.Y b.Whole (againL b fs ss).Rows) := by
  obtain ⟨a1, b1, o1, k1, rfl, m1, e1, d1⟩ := r1
  obtain ⟨a2, b2, o2, k2, rfl, m2, e2, d2⟩ := r2
  unfold maxLen at m1 m2
  have D1 := Lib.hid d1
  have D2 := Lib.hid d2
  obtain ⟨hx, hy⟩ := (boxB_iff.1 hb).1
  obtain ⟨hx0, hx1⟩ := hx
  obtain ⟨hy0, hy1⟩ := hy
  obtain ⟨g1, g2, g3⟩ := and3_true hag
  obtain ⟨⟨hf0, hf1⟩, hs0, hs1⟩ := sizesB_iff.1 g1
  obtain rfl := e1 (by omega)
  obtain rfl := e2 (by omega)
  have hFS : fs.length * ss.length ≤ 9 := Nat.mul_le_mul (show fs.length ≤ 3 by omega) (show ss.length ≤ 3 by omega)
  have G2 := Lib.hid g2
  have G3 := Lib.hid g3
  have HXS := Lib.hid (And.intro hfx hsy)
  clear d1 d2 hag g1 g2 g3 e1 e2 hfx hsy
  go_enter Try.func144, Try.ntmps144
  go_wp2
  obtain ⟨W3, hW3⟩ : ∃ W3, W3 = ((((w.alloc (.cells #[.int .i64 b.X, .int .i64 b.Y, .int .i64 b.Whole, v] 44)).alloc (.cells #[.int .i64 0, .int .i64 0, .int .i64 0, .slice none 0 0] 44)).alloc (.cells #[] 22)).alloc (.cells #[.int .i64 b.X, .int .i64 b.Y, .int .i64 b.Whole, .slice (some ⟨w.heap.size + 1 + 1, 0, none⟩) 0 0] 44)) := ⟨_, rfl⟩
  obtain ⟨hst, hB3, hs3⟩ := BoxRel.start3 _ W3 (w.heap.size + 1 + 1) b.X b.Y b.Whole (by simp only [World.size_alloc]) hW3
  have R3 : RetAt W3 (w.heap.size + 1) := by rw [hW3]; exact (by repeat' (first | with_reducible assumption | (refine RetAt.top ?_; first | with_reducible rfl | (simp only [World.size_alloc, World.size_setCell]; done)) | refine RetAt.under ?_))
  have A3 : BoxAt W3 w.heap.size b.X b.Y b.Whole v := by rw [hW3]; exact ⟨(by repeat' (first | with_reducible assumption | (refine cell_top ?_ rfl; first | with_reducible rfl | (simp only [World.size_alloc, World.size_setCell]; done)) | (refine cell_under ?_ ?_; (first | omega | (simp only [World.size_alloc, World.size_setCell]; omega))) | refine cell_drew ?_)), (by repeat' (first | with_reducible assumption | (refine cell_top ?_ rfl; first | with_reducible rfl | (simp only [World.size_alloc, World.size_setCell]; done)) | (refine cell_under ?_ ?_; (first | omega | (simp only [World.size_alloc, World.size_setCell]; omega))) | refine cell_drew ?_)), (by repeat' (first | with_reducible assumption | (refine cell_top ?_ rfl; first | with_reducible rfl | (simp only [World.size_alloc, World.size_setCell]; done)) | (refine cell_under ?_ ?_; (first | omega | (simp only [World.size_alloc, World.size_setCell]; omega))) | refine cell_drew ?_)), (by repeat' (first | with_reducible assumption | (refine cell_top ?_ rfl; first | with_reducible rfl | (simp only [World.size_alloc, World.size_setCell]; done)) | (refine cell_under ?_ ?_; (first | omega | (simp only [World.size_alloc, World.size_setCell]; omega))) | refine cell_drew ?_))⟩
  have BW : Below w.heap.size w W3 := by rw [hW3]; exact (by repeat' (first | with_reducible exact Below.refl _ _ | with_reducible assumption | with_reducible apply Below.alloc | with_reducible apply Below.setCell | with_reducible apply Below.drew | exact Nat.le_refl _ | omega | (simp only [World.size_alloc, World.size_setCell]; omega)))
  have HW := Lib.hid hW3
  have hlw : w.heap.size ≤ w.heap.size + 1 + 1 := by omega
  clear hW3 hB3
  go_loopw [8] (fun s wr => ∃ i : Nat, i ≤ fs.length ∧ s = .int .i64 i ∧ ∃ a c vs, BoxRel W3 (w.heap.size + 1 + 1) ((w.heap.size + 1 + 1) + 1) (w.heap.size + 1 + 1) wr b.X b.Y b.Whole (rowsTo (againN b fs ss) ss.length (i * ss.length)) a c vs) (fun s _ => fs.length - (intOf s).toNat)
  case atStart => exact ⟨0, by omega, rfl, _, _, _, by rw [← HW.out]; simpa [rowsTo] using hst⟩
  case round =>
    clear hst
    obtain ⟨i, hi, rfl, a, c, vs, hR⟩ := hrel
    by_cases hlt : i < fs.length
    · have hlti : (i : Int) < (fs.length : Int) := by omega
      go_wp2
      go_loopw [9] (fun s wr => ∃ j : Nat, j ≤ ss.length ∧ s = .int .i64 j ∧ ∃ a c vs, BoxRel W3 (w.heap.size + 1 + 1) ((w.heap.size + 1 + 1) + 1) (w.heap.size + 1 + 1) wr b.X b.Y b.Whole (rowsTo (againN b fs ss) ss.length (i * ss.length + j)) a c vs) (fun s _ => ss.length - (intOf s).toNat)
      case atStart => exact ⟨0, by omega, rfl, _, _, _, hR⟩
      case round =>
        clear hR
        obtain ⟨j, hj, rfl, a, c, vs, hR⟩ := hrel
        by_cases hjt : j < ss.length
        · obtain ⟨f, hfi⟩ : ∃ f, fs[i]? = some f := ⟨_, List.getElem?_eq_getElem hlt⟩
          obtain ⟨s, hsj⟩ : ∃ s, ss[j]? = some s := ⟨_, List.getElem?_eq_getElem hjt⟩
          have hf01 := allIn_get G2.out hfi
          have hs01 := allIn_get G3.out hsj
          have cf := D1.out i f hfi
          have cs := D2.out j s hsj
          obtain ⟨F, rfl⟩ := Int.eq_ofNat_of_zero_le hf01.1
          obtain ⟨S, rfl⟩ := Int.eq_ofNat_of_zero_le hs01.1
          obtain ⟨n, p, q, r, s, hn, hnm, hn8, hrow, hnl, _, _, _, _, _, f0, f1, f2, f3⟩ := boxB_at hb F S (by omega) (by omega)
          have hro : rowOf (againN b fs ss) (i : Int) (j : Int) = [p, q, r, s] := by
            unfold rowOf againN
            simp only [Int.toNat_natCast, List.getD_eq_getElem?_getD, hfi, hsj, Option.getD_some, f0, f1, f2, f3]
          have hrr := rowsTo_succ (againN b fs ss) ss.length i j hjt
          rw [hro] at hrr
          have HR := Lib.hid hrr
          have lf := World.block_lt_of_cell? _ _ cf
          have ls := World.block_lt_of_cell? _ _ cs
          simp only [] at lf ls
          have KS := Lib.hid (fun (W : World) (h : Below (w.heap.size + 1 + 1) W3 W) => And.intro h (And.intro (keepAt h (by omega) A3.e0) (And.intro (keepAt h (by omega) A3.e1) (And.intro (keepAt h (by omega) A3.e2) (And.intro (keepAt h (by omega) A3.e3) (And.intro (keepAt (BW.trans (h.mono hlw)) lf cf) (keepAt (BW.trans (h.mono hlw)) ls cs)))))))
          have HN := Lib.hid hn
          have HNM := Lib.hid hnm
          have HRW := Lib.hid hrow
          have i0 : (0 : Int) ≤ (i : Int) := by omega
          have i1 : (i : Int) < (fs.length : Int) := by omega
          have j0 : (0 : Int) ≤ (j : Int) := by omega
          have j1 : (j : Int) < (ss.length : Int) := by omega
          have hlen := hR.rows.len
          rw [rowsTo_length] at hlen
          have hn9 : vs.length ≤ 9 := by
            have h1 : i * ss.length + j < (i + 1) * ss.length := by rw [Nat.succ_mul]; omega
            have h2 : (i + 1) * ss.length ≤ fs.length * ss.length := Nat.mul_le_mul_right _ (by omega)
            omega
          have HL := Lib.hid hlen
          have hlt1 : (w.heap.size + 1 + 1) + 1 < wr.heap.size := hR.lt
          have hlt0 : (w.heap.size + 1 + 1) < wr.heap.size := by omega
          obtain ⟨⟨g0, g1, g2, g3⟩, gf⟩ := hR.cells
          rw [rowsTo_length] at g3
          have BR := hR.below
          have K2 := Lib.hid (fun (W : World) (h : Below wr.heap.size wr W) => And.intro (KS.out _ (BR.trans (h.mono hR.b4))).2.1 (And.intro (KS.out _ (BR.trans (h.mono hR.b4))).2.2.1 (And.intro (KS.out _ (BR.trans (h.mono hR.b4))).2.2.2.1 (And.intro (KS.out _ (BR.trans (h.mono hR.b4))).2.2.2.2.1 (And.intro (KS.out _ (BR.trans (h.mono hR.b4))).2.2.2.2.2.1 (And.intro (KS.out _ (BR.trans (h.mono hR.b4))).2.2.2.2.2.2 (keepCell h g3)))))))
          clear hrr hro hfi hsj f0 f1 f2 f3 hn hnm hrow hlen cf cs hf01 hs01 g0 g1 g2
          go_wp2
          refine wp_region_cut_held (S := fun W => W.cell? ⟨w.heap.size, 0, none⟩ = some (.int .i64 b.X) ∧ W.cell? ⟨w.heap.size, 1, none⟩ = some (.int .i64 b.Y) ∧ W.cell? ⟨w.heap.size, 2, none⟩ = some (.int .i64 b.Whole) ∧ W.cell? ⟨w.heap.size, 3, none⟩ = some v ∧ W.cell? ⟨b1, o1 + i, none⟩ = some (.int .i64 F) ∧ W.cell? ⟨b2, o2 + j, none⟩ = some (.int .i64 S) ∧ W.cell? ⟨(w.heap.size + 1 + 1) + 1, 3, none⟩ = some (.slice a (i * ss.length + j) c)) 16 _ rfl (by kernel_rfl) (by kernel_rfl) (K2.out _ (Below.refl _ _).drew) (fun hHeld => ?_)
          simp only [List.take_succ_cons, List.take_zero]
          refine wpAnyH_take (i := 0) (v := ?_) rfl (by kernel_rfl) (by kernel_rfl) (by kernel_rfl) (fun _ _ _ h => h) (Or.inl ⟨by rfl, ?_⟩) (by assumption) ?_
          rotate_left
          · (intro w hSw; (try dsimp only at hSw); go_simp; try with_reducible rfl)
          try simp only [Act.put, List.setIfInBounds_toArray, List.set_cons_zero, List.set_cons_succ]
          refine wpAnyH_take (i := 1) (v := ?_) rfl (by kernel_rfl) (by kernel_rfl) (by kernel_rfl) (fun _ _ _ h => h) (Or.inl ⟨by rfl, ?_⟩) (by assumption) ?_
          rotate_left
          · (intro w hSw; (try dsimp only at hSw); go_simp; try with_reducible rfl)
          try simp only [Act.put, List.setIfInBounds_toArray, List.set_cons_zero, List.set_cons_succ]
          refine wpAnyH_take (i := 2) (v := ?_) rfl (by kernel_rfl) (by kernel_rfl) (by kernel_rfl) (fun _ _ _ h => h) (Or.inl ⟨by rfl, ?_⟩) (by assumption) ?_
          rotate_left
          · (intro w hSw; (try dsimp only at hSw); go_simp; try with_reducible rfl)
          try simp only [Act.put, List.setIfInBounds_toArray, List.set_cons_zero, List.set_cons_succ]
          refine wpAnyH_take (i := 3) (v := ?_) rfl (by kernel_rfl) (by kernel_rfl) (by kernel_rfl) (fun _ _ _ h => h) (Or.inl ⟨by rfl, ?_⟩) (by assumption) ?_
          rotate_left
          · (intro w hSw; (try dsimp only at hSw); go_simp; try with_reducible rfl)
          try simp only [Act.put, List.setIfInBounds_toArray, List.set_cons_zero, List.set_cons_succ]
          refine wpAnyH_take (i := 4) (v := ?_) rfl (by kernel_rfl) (by kernel_rfl) (by kernel_rfl) (fun _ _ _ h => h) (Or.inl ⟨by rfl, ?_⟩) (by assumption) ?_
          rotate_left
          · (intro w hSw; (try dsimp only at hSw); go_simp; try with_reducible rfl)
          try simp only [Act.put, List.setIfInBounds_toArray, List.set_cons_zero, List.set_cons_succ]
          refine wpAnyH_take (i := 5) (v := ?_) rfl (by kernel_rfl) (by kernel_rfl) (by kernel_rfl) (fun _ _ _ h => h) (Or.inl ⟨by rfl, ?_⟩) (by assumption) ?_
          rotate_left
          · (intro w hSw; (try dsimp only at hSw); go_simp; try with_reducible rfl)
          try simp only [Act.put, List.setIfInBounds_toArray, List.set_cons_zero, List.set_cons_succ]
          refine wpAnyH_take (i := 6) (v := ?_) rfl (by kernel_rfl) (by kernel_rfl) (by kernel_rfl) (fun _ _ _ h => h) (Or.inl ⟨by rfl, ?_⟩) (by assumption) ?_
          rotate_left
          · (intro w hSw; (try dsimp only at hSw); go_simp; try with_reducible rfl)
          try simp only [Act.put, List.setIfInBounds_toArray, List.set_cons_zero, List.set_cons_succ]
          refine wpAnyH_take (i := 7) (v := ?_) rfl (by kernel_rfl) (by kernel_rfl) (by kernel_rfl) (fun _ _ _ h => h) (Or.inl ⟨by rfl, ?_⟩) (by assumption) ?_
          rotate_left
          · (intro w hSw; (try dsimp only at hSw); go_simp; try with_reducible rfl)
          try simp only [Act.put, List.setIfInBounds_toArray, List.set_cons_zero, List.set_cons_succ]
          refine wpAnyH_take (i := 8) (v := ?_) rfl (by kernel_rfl) (by kernel_rfl) (by kernel_rfl) (fun _ _ _ h => h) (Or.inl ⟨by rfl, ?_⟩) (by assumption) ?_
          rotate_left
          · (intro w hSw; (try dsimp only at hSw); go_simp; try with_reducible rfl)
          try simp only [Act.put, List.setIfInBounds_toArray, List.set_cons_zero, List.set_cons_succ]
          refine wpAnyH_take (i := 9) (v := ?_) rfl (by kernel_rfl) (by kernel_rfl) (by kernel_rfl) (fun _ _ _ h => h) (Or.inl ⟨by rfl, ?_⟩) (by assumption) ?_
          rotate_left
          · (intro w hSw; (try dsimp only at hSw); go_simp; try with_reducible rfl)
          try simp only [Act.put, List.setIfInBounds_toArray, List.set_cons_zero, List.set_cons_succ]
          refine wpAnyH_take (i := 10) (v := ?_) rfl (by kernel_rfl) (by kernel_rfl) (by kernel_rfl) (fun _ _ _ h => h) (Or.inl ⟨by rfl, ?_⟩) (by assumption) ?_
          rotate_left
          · (intro w hSw; (try dsimp only at hSw); go_simp; try with_reducible rfl)
          try simp only [Act.put, List.setIfInBounds_toArray, List.set_cons_zero, List.set_cons_succ]
          refine wpAnyH_ready (rs := [11]) (by kernel_rfl) (by simp) ?_
          refine AllReadyH.cons rfl (fun K hK => ?_) AllReadyH.nil
          go_simp
          refine (l2Row_any v b F S n p q r s HN.out HNM.out hn8 hnl HRW.out w _ h (BW.trans (BR.drew.mono hlw))).mono ?_
          rintro e wd ⟨b5, o5, c5, rfl, K5, bd⟩
          have hbd : Below wr.heap.size wr wd := (Below.refl wr.heap.size wr).drew.trans bd
          have hzd : wr.heap.size ≤ wd.heap.size := bd.size
          go_wp2_with fail
          refine hK.out _ _ ?_ (fun hHeld => ?_)
          · exact K2.out _ hbd
          clear hK K
          try simp only [Act.put, List.setIfInBounds_toArray, List.set_cons_zero, List.set_cons_succ]
          refine wpAnyH_ready (rs := [12]) (by kernel_rfl) (by simp) ?_
          refine AllReadyH.cons rfl (fun K hK => ?_) AllReadyH.nil
          go_simp
          refine (l1Own_any _ [p, q, r, s] _ ((rdI4 K5).kept (Nat.le_refl _) (BW.trans ((BR.trans (hbd.mono hR.b4)).mono hlw))) (fun c hc => by simp at hc) (by simp)).mono ?_
          rintro e we ⟨ar, cr, rfl, oR, bR⟩
          have hbe : Below wr.heap.size wr we := hbd.trans (bR.mono hbd.size)
          have hze : wd.heap.size ≤ we.heap.size := bR.size
          go_wp2_with fail
          refine hK.out _ _ ?_ (fun hHeld => ?_)
          · exact K2.out _ hbe
          clear hK K
          try simp only [Act.put, List.setIfInBounds_toArray, List.set_cons_zero, List.set_cons_succ]
          refine wpAnyH_ready (rs := [13]) (by kernel_rfl) (by simp) ?_
          refine AllReadyH.cons rfl (fun K hK => ?_) AllReadyH.nil
          go_simp
          refine hK.out _ _ ?_ (fun hHeld => ?_)
          · exact K2.out _ (hbe.alloc hbe.size _)
          clear hK K
          try simp only [Act.put, List.setIfInBounds_toArray, List.set_cons_zero, List.set_cons_succ]
          refine wpAnyH_ready (rs := [14]) (by kernel_rfl) (by simp) ?_
          refine AllReadyH.cons rfl (fun K hK => ?_) AllReadyH.nil
          refine step_append1 (u := .slice ar 4 cr) (m := we.heap.size) (by rfl) _ _ 23 22 (by rfl) Try.underlying23 Try.infoInts rfl (vs := vs) (lo := (w.heap.size + 1 + 1)) (hi := wr.heap.size) (v := .slice a (i * ss.length + j) c) ((show OwnV 22 (w.heap.size + 1 + 1) wr.heap.size wr (.slice a (i * ss.length + j) c) vs by have := hR.rows.top; rw [rowsTo_length] at this; exact this).kept (hbe.alloc hbe.size _) (Nat.le_refl _)) (by rfl) (by rfl) (by repeat' (first | with_reducible assumption | (refine cell_top ?_ rfl; first | with_reducible rfl | (simp only [World.size_alloc, World.size_setCell]; done)) | (refine cell_under ?_ ?_; (first | omega | (simp only [World.size_alloc, World.size_setCell]; omega))) | refine cell_drew ?_)) rfl (by omega) (by omega) (by rw [World.size_alloc]; omega) ?_
          intro a2 c2 w2 hT2 hg2
          obtain ⟨⟨hp1, f1, f2⟩, hBn⟩ := hR.push_row hbe oR (by omega) hT2 (by rw [rowsTo_length]; exact hg2) (by rw [HL.out]; simp)
          rw [rowsTo_length] at f1
          have h7 := KS.out _ hBn
          refine hK.out _ _ ?_ (fun hHeld => ?_)
          · exact ⟨h7.2.1, h7.2.2.1, h7.2.2.2.1, h7.2.2.2.2.1, h7.2.2.2.2.2.1, h7.2.2.2.2.2.2, f1⟩
          clear hK K
          try simp only [Act.put, List.setIfInBounds_toArray, List.set_cons_zero, List.set_cons_succ]
          refine wpAnyH_take (i := 15) (v := ?_) rfl (by kernel_rfl) (by kernel_rfl) (by kernel_rfl) (fun _ _ _ h => h) (Or.inl ⟨by rfl, ?_⟩) (by assumption) ?_
          rotate_left
          · (intro w hSw; (try dsimp only at hSw); go_simp; try with_reducible rfl)
          try simp only [Act.put, List.setIfInBounds_toArray, List.set_cons_zero, List.set_cons_succ]
          refine wpAnyH_done (by kernel_rfl) ?_ _
          show wpList _ _ _ _ _ _
          rw [← HR.out] at hp1
          clear hR
          go_wp2
          go_roundw
          case rel => exact ⟨j + 1, by omega, by go_num, a2, c2, _, hp1⟩
          case measure => simp [intOf]; omega
        · obtain rfl : j = ss.length := by omega
          go_wp2
          go_roundw
          case rel => exact ⟨i + 1, by omega, by go_num, a, c, vs, by rw [Nat.succ_mul]; exact hR⟩
          case measure => simp [intOf]; omega
    · obtain rfl : i = fs.length := by omega
      have hrt := R3.kept hR.below (by omega)
      obtain ⟨⟨g0, g1, g2, g3⟩, gf⟩ := hR.cells
      have hrows := hR.rows
      have B5 := BW.trans (hR.below.mono hlw)
      rw [rowsTo_length] at g3 hrows
      obtain ⟨e0, e1, e2, e3, ef⟩ := hrt
      have hend := box_out (g := w.heap.size + 1) B5 (by omega) (by omega) hrows (.int .i64 b.X) (.int .i64 b.Y) (.int .i64 b.Whole) (.slice a (fs.length * ss.length) c)
      clear hrows hR
      go_wp2
      refine bodyPost_ret (v := .agg #[.int .i64 b.X, .int .i64 b.Y, .int .i64 b.Whole, .slice a (fs.length * ss.length) c]) ?_ rfl ?_
      · simp [results, Try.results144, go_sem, e0, e1, e2, e3]
      · obtain ⟨hfx, hsy⟩ := HXS.out
        have hl : b.X.toNat * b.Y.toNat = fs.length * ss.length := by rw [show b.X.toNat = fs.length by omega, show b.Y.toNat = ss.length by omega]
        exact ⟨a, c, vs, by rw [hl], by rw [hl]; exact hend.1, hend.2⟩
set_option maxHeartbeats 3200000 in
theorem l3Flipped_any (v : Value) (b : BoxD) (hb : boxB b = true) (hX : b.X = 3) (hY : b.Y = 3) (w : World) (h : RdII w v b.Rows) :
    Calls Try.prog 143 #[.agg #[.int .i64 b.X, .int .i64 b.Y, .int .i64 b.Whole, v]] w fun e w' => e = .returned (.int .i64 (mostF b)) ∧ Below w.heap.size w w' := by
  have HXY := Lib.hid (And.intro hX hY)
  clear hX hY
  go_enter Try.func143, Try.ntmps143
  go_wp2
  obtain ⟨w1, hw1⟩ : ∃ w1, w1 = w.alloc (.cells #[.int .i64 b.X, .int .i64 b.Y, .int .i64 b.Whole, v] 44) := ⟨_, rfl⟩
  have B1 : Below w.heap.size w w1 := by rw [hw1]; exact (by repeat' (first | with_reducible exact Below.refl _ _ | with_reducible assumption | with_reducible apply Below.alloc | with_reducible apply Below.setCell | with_reducible apply Below.drew | exact Nat.le_refl _ | omega | (simp only [World.size_alloc, World.size_setCell]; omega)))
  have A1 : BoxAt w1 w.heap.size b.X b.Y b.Whole v := by rw [hw1]; exact ⟨(by repeat' (first | with_reducible assumption | (refine cell_top ?_ rfl; first | with_reducible rfl | (simp only [World.size_alloc, World.size_setCell]; done)) | (refine cell_under ?_ ?_; (first | omega | (simp only [World.size_alloc, World.size_setCell]; omega))) | refine cell_drew ?_)), (by repeat' (first | with_reducible assumption | (refine cell_top ?_ rfl; first | with_reducible rfl | (simp only [World.size_alloc, World.size_setCell]; done)) | (refine cell_under ?_ ?_; (first | omega | (simp only [World.size_alloc, World.size_setCell]; omega))) | refine cell_drew ?_)), (by repeat' (first | with_reducible assumption | (refine cell_top ?_ rfl; first | with_reducible rfl | (simp only [World.size_alloc, World.size_setCell]; done)) | (refine cell_under ?_ ?_; (first | omega | (simp only [World.size_alloc, World.size_setCell]; omega))) | refine cell_drew ?_)), (by repeat' (first | with_reducible assumption | (refine cell_top ?_ rfl; first | with_reducible rfl | (simp only [World.size_alloc, World.size_setCell]; done)) | (refine cell_under ?_ ?_; (first | omega | (simp only [World.size_alloc, World.size_setCell]; omega))) | refine cell_drew ?_))⟩
  rw [← hw1]
  clear hw1
  go_loopw [4, 3] (fun s t wr => ∃ (n : Nat) (u : Int), n ≤ 64 ∧ s = .int .i64 n ∧ t = .int .i64 u ∧ u = bestUp (frF b) n ∧ Below w1.heap.size w1 wr) (fun s _ _ => 64 - (intOf s).toNat)
  case atStart => exact ⟨0, 0, by omega, rfl, rfl, rfl, Below.refl _ _⟩
  case round =>
    obtain ⟨n, u, hn, rfl, rfl, hu, hB⟩ := hrel
    have HU := Lib.hid hu
    clear hu
    by_cases hlt : n < 64
    · have hlti : (n : Int) < 64 := by omega
      obtain ⟨wo, rfl⟩ : ∃ wo : World, wo = wr := ⟨_, rfl⟩
      have hE := OwnV.empty 3 wo
      have hBe : Below wo.heap.size wo (wo.alloc (.cells #[] 3)) := (by repeat' (first | with_reducible exact Below.refl _ _ | with_reducible assumption | with_reducible apply Below.alloc | with_reducible apply Below.setCell | with_reducible apply Below.drew | exact Nat.le_refl _ | omega | (simp only [World.size_alloc, World.size_setCell]; omega)))
      go_wp2
      go_loopw [6, 5] (fun s t wz => ∃ j : Nat, j ≤ 6 ∧ s = .int .i64 j ∧ ∃ ar cr, t = .slice ar j cr ∧ OwnV 3 wo.heap.size wz.heap.size wz (.slice ar j cr) (ints (seqTo (fun i => ((n / 2 ^ i % 2 : Nat) : Int)) j)) ∧ Below wo.heap.size wo wz) (fun s _ _ => 6 - (intOf s).toNat)
      case atStart => exact ⟨0, by omega, rfl, _, _, rfl, by simpa [seqTo, ints] using hE, hBe⟩
      case round =>
        clear hE hBe
        obtain ⟨j, hj, rfl, ar, cr, rfl, hR, hBz⟩ := hrel
        by_cases hjt : j < 6
        · obtain ⟨r, hr1, hr2⟩ : ∃ r : Int, bits BinOp.and IntKind.i64 ((n : Int) / 2 ^ j) 1 = r ∧ r = ((n / 2 ^ j % 2 : Nat) : Int) :=
            ⟨_, bit_at n j (by omega) (by omega), rfl⟩
          have hx := seqTo_ints (fun i => ((n / 2 ^ i % 2 : Nat) : Int)) j r hr2.symm
          have hlen : (ints (seqTo (fun i => ((n / 2 ^ i % 2 : Nat) : Int)) j)).length = j := by rw [ints_length, seqTo_len]
          generalize hL : ints (seqTo (fun i => ((n / 2 ^ i % 2 : Nat) : Int)) j) = L at *
          have HN := Lib.hid hlen
          have HX := Lib.hid hx
          have hsz := hBz.size
          have hn6 : L.length ≤ 6 := by omega
          clear hL hlen hr2 hx
          go_wp2_with (at_builtin; refine append1_own rfl _ _ 22 3 rfl Try.underlying22 Try.infoInt rfl hR rfl rfl rfl (by omega) (by omega) hsz ?_)
          intro a2 c2 w2 hO2 hg2
          have hB2 : Below wo.heap.size wo w2 := hBz.grown hg2 hsz (fun g hg => (hR.lt g hg).1)
          rw [HX.out] at hO2
          clear hR
          go_wp2
          go_roundw
          case rel => exact ⟨j + 1, by omega, by go_num, a2, c2, by rw [HN.out], by rw [HN.out] at hO2; exact hO2, hB2⟩
          case measure => simp [intOf]; omega
        · obtain rfl : j = 6 := by omega
          have hBw := hB.trans (hBz.mono hB.size)
          obtain ⟨a0, a1, a2, a3⟩ := A1.kept hBw A1.lt
          have HF : RdI wr (.slice ar 6 cr) (flipsOf n) := by
            have := hR.rdI
            exact this
          have CF := l2Flip_any v b (.slice ar 6 cr) (flipsOf n) hb (by rw [HXY.out.1, HXY.out.2]; exact flipsOf_bits n) wr (h.kept (Nat.le_refl _) (B1.trans (hBw.mono B1.size))) HF
          have HC := Lib.hid CF
          have hfb := flip_box (b := b) (fl := flipsOf n) hb (by rw [HXY.out.1, HXY.out.2]; exact flipsOf_bits n)
          have HFB := Lib.hid hfb
          obtain ⟨z, hz⟩ : ∃ z, frF b n = z := ⟨_, rfl⟩
          have HZ := Lib.hid hz
          clear hR HF CF hfb hz hB
          go_wp2_with fail
          refine HC.out.mono ?_
          rintro e w2 ⟨a, c, vs, rfl, o2, b2⟩
          have hB2 := hBw.trans (b2.mono hBw.size)
          have CT := l3Triple3_any (.slice a (b.X.toNat * b.Y.toNat) c) (flipBL b (flipsOf n)) HFB.out HXY.out.1 HXY.out.2 w2 o2.rdII
          have HT := Lib.hid CT
          clear CT o2
          go_wp2_with fail
          refine HT.out.mono ?_
          rintro e w3 ⟨rfl, b3⟩
          rw [show tripleV (flipBL b (flipsOf n)) = z from HZ.out]
          have hBn := hB2.trans (b3.mono hB2.size)
          by_cases h0 : n = 0
          · subst h0
            rw [show ((0 : Nat) : Int) = (0 : Int) from rfl]
            go_wp2
            go_roundw
            case rel => exact ⟨1, z, by omega, rfl, rfl, bestUp_new HU.out HZ.out.symm (Or.inl rfl), hBn⟩
            case measure => simp [intOf]
          · have h0z : ((n : Int) == 0) = false := by simp; omega
            by_cases hgt : u < z
            · go_wp2
              go_roundw
              case rel => exact ⟨n + 1, z, by omega, by go_num, rfl, bestUp_new HU.out HZ.out.symm (Or.inr hgt), hBn⟩
              case measure => simp [intOf]; omega
            · go_wp2
              go_roundw
              case rel => exact ⟨n + 1, u, by omega, by go_num, rfl, bestUp_old HU.out HZ.out.symm h0 (by omega), hBn⟩
              case measure => simp [intOf]; omega
    · obtain rfl : n = 64 := by omega
      go_wp2
      go_ret
      exact ⟨ret_int HU.out, B1.trans (hB.mono B1.size)⟩
theorem l3Flipped_at (v : Value) (X Y W0 : Int) (a : BoxD) (ha : boxB a = true) (eX : a.X = X) (eY : a.Y = Y) (eW : a.Whole = W0) (hX : X = 3) (hY : Y = 3) (w : World) (h : RdII w v a.Rows) :
    Calls Try.prog 143 #[.agg #[.int .i64 X, .int .i64 Y, .int .i64 W0, v]] w fun e w' => e = .returned (.int .i64 (mostF a)) ∧ Below w.heap.size w w' := by
  subst eX eY eW
  exact l3Flipped_any v a ha hX hY w h
theorem l3Asked_at (v : Value) (X Y W0 : Int) (b : BoxD) (eX : b.X = X) (eY : b.Y = Y) (eW : b.Whole = W0) (v1 : Value) (fs : List Int) (v2 : Value) (ss : List Int) (hb : boxB b = true) (hag : againB b fs ss = true) (hfx : (fs.length : Int) = X) (hsy : (ss.length : Int) = Y) (w : World) (h : RdII w v b.Rows) (r1 : RdI w v1 fs) (r2 : RdI w v2 ss) :
    Calls Try.prog 144 #[.agg #[.int .i64 X, .int .i64 Y, .int .i64 W0, v], v1, v2] w (BoxOnly w X Y W0 (againL b fs ss).Rows) := by
  subst eX eY eW
  exact l3Asked_any v b v1 fs v2 ss hb hag hfx hsy w h r1 r2
theorem l1Most_max (n c : Int) (w : World) :
    Calls Try.prog 108 #[.int .i64 n, .int .i64 c] w fun e w' => e = .returned (.int .i64 (mostI n c)) ∧ w = w' := by
  have hm : (c < n ∧ mostI n c = n) ∨ (¬ c < n ∧ mostI n c = c) := by unfold mostI; split <;> omega
  rcases hm with ⟨h, e⟩ | ⟨h, e⟩
  · have HC := Lib.hid e
    clear e
    go_enter Try.func108, Try.ntmps108
    go_wp2
    go_ret
    exact ⟨ret_int HC.out.symm, rfl⟩
  · have HC := Lib.hid e
    clear e
    go_enter Try.func108, Try.ntmps108
    go_wp2
    go_ret
    exact ⟨ret_int HC.out.symm, rfl⟩
set_option maxRecDepth 100000 in
set_option maxHeartbeats 3200000 in
theorem l3Most_any (v : Value) (b : BoxD) (hb : boxB b = true) (hX : b.X = 3) (hY : b.Y = 3) (w : World) (h : RdII w v b.Rows) :
    Calls Try.prog 89 #[.agg #[.int .i64 b.X, .int .i64 b.Y, .int .i64 b.Whole, v]] w fun e w' => e = .returned (.int .i64 (mostT b)) ∧ Below w.heap.size w w' := by
  have CS := specSwapPlayers_any v b (w.alloc (.cells #[.int .i64 b.X, .int .i64 b.Y, .int .i64 b.Whole, v] 44)) (h.kept (Nat.le_refl _) (by repeat' (first | with_reducible exact Below.refl _ _ | with_reducible assumption | with_reducible apply Below.alloc | with_reducible apply Below.setCell | with_reducible apply Below.drew | exact Nat.le_refl _ | omega | (simp only [World.size_alloc, World.size_setCell]; omega))))
  rw [show swapD b = swapL b by unfold swapD; rw [if_pos hb], hb] at CS
  have HXY := Lib.hid (And.intro hX hY)
  have hsb := swapL_box hb
  clear hX hY
  go_enter Try.func89, Try.ntmps89
  go_wp2_with fail
  refine CS.mono ?_
  rintro e w1 ⟨ta, tc, tvs, rfl, ot, b1⟩
  have B1 : Below w.heap.size w w1 := Below.trans (by repeat' (first | with_reducible exact Below.refl _ _ | with_reducible assumption | with_reducible apply Below.alloc | with_reducible apply Below.setCell | with_reducible apply Below.drew | exact Nat.le_refl _ | omega | (simp only [World.size_alloc, World.size_setCell]; omega))) (b1.mono (by first | exact Nat.le_refl _ | omega | (simp only [World.size_alloc, World.size_setCell]; omega)))
  have A1 : BoxAt w1 w.heap.size b.X b.Y b.Whole v := ⟨keepCell b1 (by repeat' (first | with_reducible assumption | (refine cell_top ?_ rfl; first | with_reducible rfl | (simp only [World.size_alloc, World.size_setCell]; done)) | (refine cell_under ?_ ?_; (first | omega | (simp only [World.size_alloc, World.size_setCell]; omega))) | refine cell_drew ?_)), keepCell b1 (by repeat' (first | with_reducible assumption | (refine cell_top ?_ rfl; first | with_reducible rfl | (simp only [World.size_alloc, World.size_setCell]; done)) | (refine cell_under ?_ ?_; (first | omega | (simp only [World.size_alloc, World.size_setCell]; omega))) | refine cell_drew ?_)), keepCell b1 (by repeat' (first | with_reducible assumption | (refine cell_top ?_ rfl; first | with_reducible rfl | (simp only [World.size_alloc, World.size_setCell]; done)) | (refine cell_under ?_ ?_; (first | omega | (simp only [World.size_alloc, World.size_setCell]; omega))) | refine cell_drew ?_)), keepCell b1 (by repeat' (first | with_reducible assumption | (refine cell_top ?_ rfl; first | with_reducible rfl | (simp only [World.size_alloc, World.size_setCell]; done)) | (refine cell_under ?_ ?_; (first | omega | (simp only [World.size_alloc, World.size_setCell]; omega))) | refine cell_drew ?_))⟩
  have hz1 := b1.size
  simp only [World.size_alloc] at hz1
  have RT := ot.rdII
  clear b1 CS ot
  obtain ⟨tn, htn⟩ : ∃ tn, (swapL b).Rows.length = tn := ⟨_, rfl⟩
  rw [htn] at RT ⊢
  have hS3 : (swapL b).X = b.Y ∧ (swapL b).Y = b.X ∧ (swapL b).Whole = b.Whole := ⟨rfl, rfl, rfl⟩
  clear htn
  go_wp2_with fail
  refine (l3Orders_any _).mono ?_
  rintro e w2 ⟨g, rfl, RO, b2⟩
  have B2 : Below w1.heap.size w1 w2 := Below.trans (by repeat' (first | with_reducible exact Below.refl _ _ | with_reducible assumption | with_reducible apply Below.alloc | with_reducible apply Below.setCell | with_reducible apply Below.drew | exact Nat.le_refl _ | omega | (simp only [World.size_alloc, World.size_setCell]; omega))) (b2.mono (by first | exact Nat.le_refl _ | omega | (simp only [World.size_alloc, World.size_setCell]; omega)))
  have A2 := A1.kept B2 (by omega)
  have T2 : BoxAt w2 w1.heap.size b.Y b.X b.Whole (.slice ta tn tc) := ⟨keepCell b2 (by repeat' (first | with_reducible assumption | (refine cell_top ?_ rfl; first | with_reducible rfl | (simp only [World.size_alloc, World.size_setCell]; done)) | (refine cell_under ?_ ?_; (first | omega | (simp only [World.size_alloc, World.size_setCell]; omega))) | refine cell_drew ?_)), keepCell b2 (by repeat' (first | with_reducible assumption | (refine cell_top ?_ rfl; first | with_reducible rfl | (simp only [World.size_alloc, World.size_setCell]; done)) | (refine cell_under ?_ ?_; (first | omega | (simp only [World.size_alloc, World.size_setCell]; omega))) | refine cell_drew ?_)), keepCell b2 (by repeat' (first | with_reducible assumption | (refine cell_top ?_ rfl; first | with_reducible rfl | (simp only [World.size_alloc, World.size_setCell]; done)) | (refine cell_under ?_ ?_; (first | omega | (simp only [World.size_alloc, World.size_setCell]; omega))) | refine cell_drew ?_)), keepCell b2 (by repeat' (first | with_reducible assumption | (refine cell_top ?_ rfl; first | with_reducible rfl | (simp only [World.size_alloc, World.size_setCell]; done)) | (refine cell_under ?_ ?_; (first | omega | (simp only [World.size_alloc, World.size_setCell]; omega))) | refine cell_drew ?_))⟩
  have hz2 := b2.size
  simp only [World.size_alloc] at hz2
  clear b2 A1
  obtain ⟨a0, a1, a2, a3⟩ := id A2
  have CT := l3Triple3_any v b hb HXY.out.1 HXY.out.2 w2 (h.kept (Nat.le_refl _) (B1.trans (B2.mono B1.size)))
  go_wp2_with fail
  refine CT.mono ?_
  rintro e w3 ⟨rfl, b3⟩
  have A3 := A2.kept b3 A2.lt
  have T3 := T2.kept b3 T2.lt
  have RO3 := RO.kept (Nat.le_refl _) b3
  have B3 := B1.trans ((B2.trans (b3.mono B2.size)).mono B1.size)
  have RT3 := RT.kept (Nat.le_refl _) (B2.trans (b3.mono B2.size))
  have RB3 := h.kept (Nat.le_refl _) B3
  have HE := Lib.hid (spO_eq b)
  have BZ := b3
  clear CT a0 a1 a2 a3 A2 T2 RO RT b3
  have hz3 : w2.heap.size ≤ w3.heap.size := by have := RO3; exact BZ.size
  go_wp2
  go_loopw [7, 6] (fun s6 s5 wr => ∃ (i : Nat) (u : Int), i ≤ 6 ∧ s6 = .int .i64 i ∧ s5 = .int .i64 u ∧ u = spO b (swapL b) (tripleV b) i ∧ Below w3.heap.size w3 wr) (fun s6 _ _ => 6 - (intOf s6).toNat)
  case atStart => exact ⟨0, tripleV b, by omega, rfl, rfl, rfl, Below.refl _ _⟩
  case round =>
    obtain ⟨i, u, hi, rfl, rfl, hu, hB⟩ := hrel
    have HU := Lib.hid hu
    clear hu
    by_cases hlt : i < 6
    · have hlti : (i : Int) < 6 := by omega
      go_wp2
      go_loopw [8, 6] (fun s7 s5 wz => ∃ (k : Nat) (z : Int), k ≤ 6 ∧ s7 = .int .i64 k ∧ s5 = .int .i64 z ∧ z = spS b (swapL b) (ordAt i) u k ∧ Below w3.heap.size w3 wz) (fun s7 _ _ => 6 - (intOf s7).toNat)
      case atStart => exact ⟨0, u, by omega, rfl, rfl, rfl, hB⟩
      case round =>
        clear hB
        obtain ⟨k, z, hk, rfl, rfl, hz, hB⟩ := hrel
        have HZ := Lib.hid hz
        clear hz
        by_cases hkt : k < 6
        · have hltk : (k : Int) < 6 := by omega
          obtain ⟨ai, ci, cpi, rdi, lti⟩ := ords_path RO3 hlt
          obtain ⟨ak, ck, cpk, rdk, ltk⟩ := ords_path RO3 hkt
          have i0 : (0 : Int) ≤ (i : Int) := by omega
          have k0 : (0 : Int) ≤ (k : Int) := by omega
          have hzr := hB.size
          have BW := B3.trans (hB.mono B3.size)
          have hagb := ord_again hb HXY.out.1 HXY.out.2 hlt hkt
          have hags := ord_again hsb (b := swapL b) HXY.out.2 HXY.out.1 hlt hkt
          obtain ⟨hli, _⟩ := ordAt_ok i hlt
          obtain ⟨hlk, _⟩ := ordAt_ok k hkt
          have CA := Lib.hid (fun (W : World) (hW : Below wr.heap.size wr W) => l3Asked_any v b _ (ordAt i) _ (ordAt k) hb hagb (by rw [hli, HXY.out.1]; rfl) (by rw [hlk, HXY.out.2]; rfl) W (RB3.kept (Nat.le_refl _) (hB.trans (hW.mono hzr))) (rdi.kept (Nat.le_refl _) (hB.trans (hW.mono hzr))) (rdk.kept (Nat.le_refl _) (hB.trans (hW.mono hzr))))
          have CF := Lib.hid (fun (W : World) (vr : Value) (hr : RdII W vr (againL b (ordAt i) (ordAt k)).Rows) => l3Flipped_at vr b.X b.Y b.Whole (againL b (ordAt i) (ordAt k)) (again_box hb hagb) (by rw [(againL_X hlt hkt).1, HXY.out.1]) (by rw [(againL_X hlt hkt).2, HXY.out.2]) (againL_whole _ _ _) HXY.out.1 HXY.out.2 W hr)
          have DA := Lib.hid (fun (W : World) (hW : Below wr.heap.size wr W) => l3Asked_at (.slice ta tn tc) b.Y b.X b.Whole (swapL b) rfl rfl rfl _ (ordAt i) _ (ordAt k) hsb hags (by rw [hli, HXY.out.2]; rfl) (by rw [hlk, HXY.out.1]; rfl) W (RT3.kept (Nat.le_refl _) (hB.trans (hW.mono hzr))) (rdi.kept (Nat.le_refl _) (hB.trans (hW.mono hzr))) (rdk.kept (Nat.le_refl _) (hB.trans (hW.mono hzr))))
          have DF := Lib.hid (fun (W : World) (vr : Value) (hr : RdII W vr (againL (swapL b) (ordAt i) (ordAt k)).Rows) => l3Flipped_at vr b.Y b.X b.Whole (againL (swapL b) (ordAt i) (ordAt k)) (again_box hsb hags) (by rw [(againL_X hlt hkt).1, HXY.out.2]) (by rw [(againL_X hlt hkt).2, HXY.out.1]) (againL_whole _ _ _) HXY.out.2 HXY.out.1 W hr)
          have HK1 := Lib.hid (fun (W : World) (hW : Below wr.heap.size wr W) => And.intro hW (And.intro (keepAt (hB.trans (hW.mono hzr)) lti cpi) (And.intro (keepAt (hB.trans (hW.mono hzr)) ltk cpk) (And.intro (A3.kept (hB.trans (hW.mono hzr)) A3.lt).e0 (And.intro (A3.kept (hB.trans (hW.mono hzr)) A3.lt).e1 (And.intro (A3.kept (hB.trans (hW.mono hzr)) A3.lt).e2 (A3.kept (hB.trans (hW.mono hzr)) A3.lt).e3))))))
          have HK2 := Lib.hid (fun (W : World) (hW : Below wr.heap.size wr W) => And.intro hW (And.intro (keepAt (hB.trans (hW.mono hzr)) lti cpi) (And.intro (keepAt (hB.trans (hW.mono hzr)) ltk cpk) (And.intro (T3.kept (hB.trans (hW.mono hzr)) T3.lt).e0 (And.intro (T3.kept (hB.trans (hW.mono hzr)) T3.lt).e1 (And.intro (T3.kept (hB.trans (hW.mono hzr)) T3.lt).e2 (T3.kept (hB.trans (hW.mono hzr)) T3.lt).e3))))))
          obtain ⟨m1, hm1⟩ : ∃ m, mostF (againL b (ordAt i) (ordAt k)) = m := ⟨_, rfl⟩
          obtain ⟨m2, hm2⟩ : ∃ m, mostF (againL (swapL b) (ordAt i) (ordAt k)) = m := ⟨_, rfl⟩
          have HM := Lib.hid (And.intro hm1 hm2)
          have HZn := Lib.hid (show mostI (mostI z m1) m2 = spS b (swapL b) (ordAt i) u (k + 1) by rw [HZ.out, ← hm1, ← hm2]; rfl)
          clear hagb hags hm1 hm2 cpi cpk rdi rdk
          go_wp2_with fail
          go_region_held3 (fun W => Below wr.heap.size wr W ∧ W.cell? ⟨g, i, none⟩ = some (.slice ai 3 ci) ∧ W.cell? ⟨g, k, none⟩ = some (.slice ak 3 ck) ∧ W.cell? ⟨w.heap.size, 0, none⟩ = some (.int .i64 b.X) ∧ W.cell? ⟨w.heap.size, 1, none⟩ = some (.int .i64 b.Y) ∧ W.cell? ⟨w.heap.size, 2, none⟩ = some (.int .i64 b.Whole) ∧ W.cell? ⟨w.heap.size, 3, none⟩ = some v)
            (first | exact HK1.out _ (Below.refl _ _).drew | exact HK1.out _ hBn)
            (first
              | (go_at_call 144; have hS := And.left (by assumption : Below wr.heap.size wr _ ∧ _); (with_reducible refine (CA.out _ hS).mono ?_); rintro e wa ⟨qa, qc, qs, rfl, oa, ba⟩; have hBn := hS.trans (ba.mono hS.size))
              | (go_at_call 143; have hS := And.left (by assumption : Below wr.heap.size wr _ ∧ _); (with_reducible refine (CF.out _ _ oa.rdII).mono ?_); rintro e wf ⟨rfl, bf⟩; have hBn := hS.trans (bf.mono hS.size); rw [HM.out.1])
              | (go_at_call 108; have hS := And.left (by assumption : Below wr.heap.size wr _ ∧ _); (with_reducible refine (l1Most_max _ _ _).mono ?_); rintro e wm ⟨rfl, rfl⟩; have hBn := hS))
          have hB1 := hBn
          clear hBn CA CF HK1
          go_wp2_with fail
          go_region_held3 (fun W => Below wr.heap.size wr W ∧ W.cell? ⟨g, i, none⟩ = some (.slice ai 3 ci) ∧ W.cell? ⟨g, k, none⟩ = some (.slice ak 3 ck) ∧ W.cell? ⟨w1.heap.size, 0, none⟩ = some (.int .i64 b.Y) ∧ W.cell? ⟨w1.heap.size, 1, none⟩ = some (.int .i64 b.X) ∧ W.cell? ⟨w1.heap.size, 2, none⟩ = some (.int .i64 b.Whole) ∧ W.cell? ⟨w1.heap.size, 3, none⟩ = some (.slice ta tn tc))
            (first | exact HK2.out _ hB1.drew | exact HK2.out _ hBn)
            (first
              | (go_at_call 144; have hS := And.left (by assumption : Below wr.heap.size wr _ ∧ _); (with_reducible refine (DA.out _ hS).mono ?_); rintro e wa ⟨qa, qc, qs, rfl, oa, ba⟩; have hBn := hS.trans (ba.mono hS.size))
              | (go_at_call 143; have hS := And.left (by assumption : Below wr.heap.size wr _ ∧ _); (with_reducible refine (DF.out _ _ oa.rdII).mono ?_); rintro e wf ⟨rfl, bf⟩; have hBn := hS.trans (bf.mono hS.size); rw [HM.out.2])
              | (go_at_call 108; have hS := And.left (by assumption : Below wr.heap.size wr _ ∧ _); (with_reducible refine (l1Most_max _ _ _).mono ?_); rintro e wm ⟨rfl, rfl⟩; have hBn := hS))
          have hBe := hB.trans (hBn.mono hzr)
          go_wp2
          go_roundw
          case rel => exact ⟨k + 1, mostI (mostI z m1) m2, by omega, by go_num, rfl, HZn.out, hBe⟩
          case measure => simp [intOf]; omega
        · obtain rfl : k = 6 := by omega
          go_wp2
          go_roundw
          case rel => exact ⟨i + 1, z, by omega, by go_num, rfl, by rw [HZ.out, HU.out]; rfl, hB⟩
          case measure => simp [intOf]; omega
    · obtain rfl : i = 6 := by omega
      go_wp2
      go_ret
      exact ⟨ret_int (by rw [HU.out, HE.out]), B3.trans (hB.mono B3.size)⟩
end Go.Proofs.Ytadnjljpceeolaa
