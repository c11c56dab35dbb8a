/- AskAgain: contracts of the reference's function. -/
import Derived.Test.YtnmnmnpeoiblhaaSuar
import Derived.Test.YtnmnmnpeoiblhaaSuba
import Derived.Test.YtnmnmnpeoiblhaaSuas
import Derived.Test.YtnmnmnpeoiblhaaSuak
set_option linter.unusedSimpArgs false
set_option linter.unusedVariables false
namespace Go.Proofs.Ytnmnmnpeoiblhaa
open Go.RowKit

def askedB (xs : List Int) (n : Int) : Bool := inB xs.length 1 3 && chancesB xs (n - 1)
theorem l2Asked_any (v : Value) (xs : List Int) (n : Int) (w : World) (h : RdI w v xs) (hn : 1 ≤ n ∧ n ≤ 3) :
    Calls Try.prog 64 #[v, .int .i64 n] w fun e w' => e = .returned (.bool (askedB xs n)) ∧ w = w' := by
  have h' := h
  obtain ⟨a, b, off, cap, rfl, hm, _, _⟩ := h
  unfold maxLen at hm
  obtain ⟨hn0, hn1⟩ := hn
  rcases Bool.eq_false_or_eq_true (inB xs.length 1 3) with h1 | h1
  · go_enter Try.func64, Try.ntmps64
    go_wp2_with (first | (go_at_call 104; refine (l1In_any _ _ _ _).mono ?_; rintro e w' ⟨rfl, rfl⟩) | (go_at_call 110; refine (l2Chances_any _ xs _ _ h').mono ?_; rintro e w' ⟨rfl, rfl⟩))
    go_ret
    exact ⟨ret_bool (by unfold askedB; rw [h1]; rfl), rfl⟩
  · go_enter Try.func64, Try.ntmps64
    go_wp2_with (first | (go_at_call 104; refine (l1In_any _ _ _ _).mono ?_; rintro e w' ⟨rfl, rfl⟩))
    go_ret
    exact ⟨ret_bool (by unfold askedB; rw [h1]; rfl), rfl⟩
theorem askOk_eq (b : BoxD) (fs ss : List Int) : askOk b fs ss = (boxB b && (askedB fs b.X && askedB ss b.Y)) := by
  unfold askOk againB askedB chancesB sizesB
  cases inB (fs.length : Int) 1 3 <;> cases inB (ss.length : Int) 1 3 <;> cases allIn fs 0 (b.X - 1) <;> cases allIn ss 0 (b.Y - 1) <;> rfl
set_option maxRecDepth 100000 in
set_option maxHeartbeats 3200000 in
theorem specAskAgain_any (v : Value) (b : BoxD) (v1 : Value) (fs : List Int) (v2 : Value) (ss : List Int) (w : World) (h : RdII w v b.Rows) (r1 : RdI w v1 fs) (r2 : RdI w v2 ss) :
    Calls Try.prog 15 #[.agg #[.int .i64 b.X, .int .i64 b.Y, .int .i64 b.Whole, v], v1, v2] w (BoxRes w (askD b fs ss) (askOk b fs ss)) := by
  have hr1 := Lib.hid (fun w' (hb : Below w.heap.size w w') => r1.kept (Nat.le_refl _) hb)
  have hr2 := Lib.hid (fun w' (hb : Below w.heap.size w w') => r2.kept (Nat.le_refl _) hb)
  obtain ⟨a1, b1, o1, k1, rfl, m1, e1, d1⟩ := r1
  obtain ⟨a2, b2, o2, k2, rfl, m2, e2, d2⟩ := r2
  unfold maxLen at m1 m2
  have D1 := Lib.hid d1
  have D2 := Lib.hid d2
  clear d1 d2
  go_enter Try.func15, Try.ntmps15
  go_wp2_with fail
  refine (l2Box_any _ b _ (h.kept (Nat.le_refl _) (by repeat' (first | with_reducible exact Below.refl _ _ | with_reducible assumption | with_reducible apply Below.alloc | with_reducible apply Below.setCell | with_reducible apply Below.drew | exact Nat.le_refl _ | omega | (simp only [World.size_alloc, World.size_setCell]; omega))))).mono ?_
  rintro e w1 ⟨rfl, bb1⟩
  have B1 : Below w.heap.size w w1 := Below.trans (by repeat' (first | with_reducible exact Below.refl _ _ | with_reducible assumption | with_reducible apply Below.alloc | with_reducible apply Below.setCell | with_reducible apply Below.drew | exact Nat.le_refl _ | omega | (simp only [World.size_alloc, World.size_setCell]; omega))) (bb1.mono (by first | exact Nat.le_refl _ | omega | (simp only [World.size_alloc, World.size_setCell]; omega)))
  have A1 : BoxAt w1 w.heap.size b.X b.Y b.Whole v := ⟨keepCell bb1 (by repeat' (first | with_reducible assumption | (refine cell_top ?_ rfl; first | with_reducible rfl | (simp only [World.size_alloc, World.size_setCell]; done)) | (refine cell_under ?_ ?_; (first | omega | (simp only [World.size_alloc, World.size_setCell]; omega))) | refine cell_drew ?_)), keepCell bb1 (by repeat' (first | with_reducible assumption | (refine cell_top ?_ rfl; first | with_reducible rfl | (simp only [World.size_alloc, World.size_setCell]; done)) | (refine cell_under ?_ ?_; (first | omega | (simp only [World.size_alloc, World.size_setCell]; omega))) | refine cell_drew ?_)), keepCell bb1 (by repeat' (first | with_reducible assumption | (refine cell_top ?_ rfl; first | with_reducible rfl | (simp only [World.size_alloc, World.size_setCell]; done)) | (refine cell_under ?_ ?_; (first | omega | (simp only [World.size_alloc, World.size_setCell]; omega))) | refine cell_drew ?_)), keepCell bb1 (by repeat' (first | with_reducible assumption | (refine cell_top ?_ rfl; first | with_reducible rfl | (simp only [World.size_alloc, World.size_setCell]; done)) | (refine cell_under ?_ ?_; (first | omega | (simp only [World.size_alloc, World.size_setCell]; omega))) | refine cell_drew ?_))⟩
  have R1 : RetAt w1 (w.heap.size + 1) := RetAt.call bb1 (by repeat' (first | with_reducible assumption | (refine RetAt.top ?_; first | with_reducible rfl | (simp only [World.size_alloc, World.size_setCell]; done)) | refine RetAt.under ?_))
  have hz := bb1.size
  simp only [World.size_alloc] at hz
  clear bb1
  have hr1' := hr1.out _ B1
  have hr2' := hr2.out _ B1
  rcases Bool.eq_false_or_eq_true (boxB b) with hok | hok
  · rw [hok]
    obtain ⟨hx, hy⟩ := (boxB_iff.1 hok).1
    obtain ⟨hx0, hx1⟩ := hx
    obtain ⟨hy0, hy1⟩ := hy
    obtain ⟨p0, p1, p2, p3⟩ := A1
    rcases Bool.eq_false_or_eq_true (askedB fs b.X) with q1 | q1
    · rcases Bool.eq_false_or_eq_true (askedB ss b.Y) with q2 | q2
      · have hm : askOk b fs ss = true := by rw [askOk_eq, hok, q1, q2]; rfl
        have hD : askD b fs ss = againL b fs ss := by unfold askD; rw [hm]; simp
        have HD := Lib.hid hD
        have HM := Lib.hid hm
        have hag : againB b fs ss = true := by unfold askOk at hm; rw [hok] at hm; exact hm
        obtain ⟨g1, g2, g3⟩ := and3_true hag
        obtain ⟨⟨hf0, hf1⟩, hs0, hs1⟩ := sizesB_iff.1 g1
        obtain rfl := e1 (by omega)
        obtain rfl := e2 (by omega)
        have hFS : fs.length * ss.length ≤ 9 := Nat.mul_le_mul (show fs.length ≤ 3 by omega) (show ss.length ≤ 3 by omega)
        have G2 := Lib.hid g2
        have G3 := Lib.hid g3
        clear hD hm hag g1 g2 g3 e1 e2
        go_wp2_with (first | (go_at_call 64; (with_reducible refine (l2Asked_any _ fs _ _ hr1' ⟨hx0, hx1⟩).mono ?_); rintro e w' ⟨rfl, rfl⟩) | (go_at_call 64; (with_reducible refine (l2Asked_any _ ss _ _ hr2' ⟨hy0, hy1⟩).mono ?_); rintro e w' ⟨rfl, rfl⟩))
        obtain ⟨W3, hW3⟩ : ∃ W3, W3 = ((w1.alloc (.cells #[] 27)).alloc (.cells #[.int .i64 fs.length, .int .i64 ss.length, .int .i64 b.Whole, .slice (some ⟨w1.heap.size, 0, none⟩) 0 0] 26)) := ⟨_, rfl⟩
        obtain ⟨hst, hB3, hs3⟩ := BoxRel.start2 w1 W3 fs.length ss.length b.Whole hW3
        have HW := Lib.hid hW3
        have A3 : BoxAt W3 w.heap.size b.X b.Y b.Whole v := (BoxAt.mk p0 p1 p2 p3).kept hB3 (by omega)
        have R3 : RetAt W3 (w.heap.size + 1) := R1.call hB3
        have BW : Below w.heap.size w W3 := B1.trans (hB3.mono B1.size)
        have hlw : w.heap.size ≤ w1.heap.size := B1.size
        clear hW3 p0 p1 p2 p3 q1 q2
        go_loopw [9] (fun s wr => ∃ i : Nat, i ≤ fs.length ∧ s = .int .i64 i ∧ ∃ a c vs, BoxRel W3 w1.heap.size (w1.heap.size + 1) w1.heap.size wr fs.length ss.length b.Whole (rowsTo (againN b fs ss) ss.length (i * ss.length)) a c vs) (fun s _ => fs.length - (intOf s).toNat)
        case atStart => exact ⟨0, by omega, rfl, _, _, _, by rw [← HW.out]; simpa [rowsTo] using hst⟩
        case round =>
          clear hst
          obtain ⟨i, hi, rfl, a, c, vs, hR⟩ := hrel
          by_cases hlt : i < fs.length
          · go_wp2
            go_loopw [10] (fun s wr => ∃ j : Nat, j ≤ ss.length ∧ s = .int .i64 j ∧ ∃ a c vs, BoxRel W3 w1.heap.size (w1.heap.size + 1) w1.heap.size wr fs.length ss.length b.Whole (rowsTo (againN b fs ss) ss.length (i * ss.length + j)) a c vs) (fun s _ => ss.length - (intOf s).toNat)
            case atStart => exact ⟨0, by omega, rfl, _, _, _, hR⟩
            case round =>
              clear hR
              obtain ⟨j, hj, rfl, a, c, vs, hR⟩ := hrel
              by_cases hjt : j < ss.length
              · obtain ⟨f, hfi⟩ : ∃ f, fs[i]? = some f := ⟨_, List.getElem?_eq_getElem hlt⟩
                obtain ⟨s, hsj⟩ : ∃ s, ss[j]? = some s := ⟨_, List.getElem?_eq_getElem hjt⟩
                have hf01 := allIn_get G2.out hfi
                have hs01 := allIn_get G3.out hsj
                have cf := D1.out i f hfi
                have cs := D2.out j s hsj
                obtain ⟨F, rfl⟩ := Int.eq_ofNat_of_zero_le hf01.1
                obtain ⟨S, rfl⟩ := Int.eq_ofNat_of_zero_le hs01.1
                obtain ⟨n, p, q, r, s, hn, hnm, hn8, hrow, hnl, _, _, _, _, _, f0, f1, f2, f3⟩ := boxB_at hok F S (by omega) (by omega)
                have hro : rowOf (againN b fs ss) (i : Int) (j : Int) = [p, q, r, s] := by
                  unfold rowOf againN
                  simp only [Int.toNat_natCast, List.getD_eq_getElem?_getD, hfi, hsj, Option.getD_some, f0, f1, f2, f3]
                have hrr := rowsTo_succ (againN b fs ss) ss.length i j hjt
                rw [hro] at hrr
                have HR := Lib.hid hrr
                have lf := World.block_lt_of_cell? _ _ cf
                have ls := World.block_lt_of_cell? _ _ cs
                simp only [] at lf ls
                have KS := Lib.hid (fun (W : World) (h : Below w1.heap.size W3 W) => And.intro h (And.intro (keepAt h (by omega) A3.e0) (And.intro (keepAt h (by omega) A3.e1) (And.intro (keepAt h (by omega) A3.e2) (And.intro (keepAt h (by omega) A3.e3) (And.intro (keepAt (BW.trans (h.mono hlw)) lf cf) (keepAt (BW.trans (h.mono hlw)) ls cs)))))))
                have HN := Lib.hid hn
                have HNM := Lib.hid hnm
                have HRW := Lib.hid hrow
                have i0 : (0 : Int) ≤ (i : Int) := by omega
                have i1 : (i : Int) < (fs.length : Int) := by omega
                have j0 : (0 : Int) ≤ (j : Int) := by omega
                have j1 : (j : Int) < (ss.length : Int) := by omega
                have hlen := hR.rows.len
                rw [rowsTo_length] at hlen
                have hn9 : vs.length ≤ 9 := by
                  have h1 : i * ss.length + j < (i + 1) * ss.length := by rw [Nat.succ_mul]; omega
                  have h2 : (i + 1) * ss.length ≤ fs.length * ss.length := Nat.mul_le_mul_right _ (by omega)
                  omega
                have HL := Lib.hid hlen
                have hlt1 : w1.heap.size + 1 < wr.heap.size := hR.lt
                have hlt0 : w1.heap.size < wr.heap.size := by omega
                obtain ⟨⟨g0, g1, g2, g3⟩, gf⟩ := hR.cells
                rw [rowsTo_length] at g3
                have BR := hR.below
                have K2 := Lib.hid (fun (W : World) (h : Below wr.heap.size wr W) => And.intro (KS.out _ (BR.trans (h.mono hR.b4))).2.1 (And.intro (KS.out _ (BR.trans (h.mono hR.b4))).2.2.1 (And.intro (KS.out _ (BR.trans (h.mono hR.b4))).2.2.2.1 (And.intro (KS.out _ (BR.trans (h.mono hR.b4))).2.2.2.2.1 (And.intro (KS.out _ (BR.trans (h.mono hR.b4))).2.2.2.2.2.1 (And.intro (KS.out _ (BR.trans (h.mono hR.b4))).2.2.2.2.2.2 (keepCell h g3)))))))
                clear hrr hro hfi hsj f0 f1 f2 f3 hn hnm hrow hlen cf cs hf01 hs01 g0 g1 g2
                go_wp2
                refine wp_region_cut_held (S := fun W => W.cell? ⟨w.heap.size, 0, none⟩ = some (.int .i64 b.X) ∧ W.cell? ⟨w.heap.size, 1, none⟩ = some (.int .i64 b.Y) ∧ W.cell? ⟨w.heap.size, 2, none⟩ = some (.int .i64 b.Whole) ∧ W.cell? ⟨w.heap.size, 3, none⟩ = some v ∧ W.cell? ⟨b1, o1 + i, none⟩ = some (.int .i64 F) ∧ W.cell? ⟨b2, o2 + j, none⟩ = some (.int .i64 S) ∧ W.cell? ⟨w1.heap.size + 1, 3, none⟩ = some (.slice a (i * ss.length + j) c)) 16 _ rfl (by kernel_rfl) (by kernel_rfl) (K2.out _ (Below.refl _ _).drew) (fun hHeld => ?_)
                simp only [List.take_succ_cons, List.take_zero]
                refine wpAnyH_take (i := 0) (v := ?_) rfl (by kernel_rfl) (by kernel_rfl) (by kernel_rfl) (fun _ _ _ h => h) (Or.inl ⟨by rfl, ?_⟩) (by assumption) ?_
                rotate_left
                · (intro w hSw; (try dsimp only at hSw); go_simp; try with_reducible rfl)
                try simp only [Act.put, List.setIfInBounds_toArray, List.set_cons_zero, List.set_cons_succ]
                refine wpAnyH_take (i := 1) (v := ?_) rfl (by kernel_rfl) (by kernel_rfl) (by kernel_rfl) (fun _ _ _ h => h) (Or.inl ⟨by rfl, ?_⟩) (by assumption) ?_
                rotate_left
                · (intro w hSw; (try dsimp only at hSw); go_simp; try with_reducible rfl)
                try simp only [Act.put, List.setIfInBounds_toArray, List.set_cons_zero, List.set_cons_succ]
                refine wpAnyH_take (i := 2) (v := ?_) rfl (by kernel_rfl) (by kernel_rfl) (by kernel_rfl) (fun _ _ _ h => h) (Or.inl ⟨by rfl, ?_⟩) (by assumption) ?_
                rotate_left
                · (intro w hSw; (try dsimp only at hSw); go_simp; try with_reducible rfl)
                try simp only [Act.put, List.setIfInBounds_toArray, List.set_cons_zero, List.set_cons_succ]
                refine wpAnyH_take (i := 3) (v := ?_) rfl (by kernel_rfl) (by kernel_rfl) (by kernel_rfl) (fun _ _ _ h => h) (Or.inl ⟨by rfl, ?_⟩) (by assumption) ?_
                rotate_left
                · (intro w hSw; (try dsimp only at hSw); go_simp; try with_reducible rfl)
                try simp only [Act.put, List.setIfInBounds_toArray, List.set_cons_zero, List.set_cons_succ]
                refine wpAnyH_take (i := 4) (v := ?_) rfl (by kernel_rfl) (by kernel_rfl) (by kernel_rfl) (fun _ _ _ h => h) (Or.inl ⟨by rfl, ?_⟩) (by assumption) ?_
                rotate_left
                · (intro w hSw; (try dsimp only at hSw); go_simp; try with_reducible rfl)
                try simp only [Act.put, List.setIfInBounds_toArray, List.set_cons_zero, List.set_cons_succ]
                refine wpAnyH_take (i := 5) (v := ?_) rfl (by kernel_rfl) (by kernel_rfl) (by kernel_rfl) (fun _ _ _ h => h) (Or.inl ⟨by rfl, ?_⟩) (by assumption) ?_
                rotate_left
                · (intro w hSw; (try dsimp only at hSw); go_simp; try with_reducible rfl)
                try simp only [Act.put, List.setIfInBounds_toArray, List.set_cons_zero, List.set_cons_succ]
                refine wpAnyH_take (i := 6) (v := ?_) rfl (by kernel_rfl) (by kernel_rfl) (by kernel_rfl) (fun _ _ _ h => h) (Or.inl ⟨by rfl, ?_⟩) (by assumption) ?_
                rotate_left
                · (intro w hSw; (try dsimp only at hSw); go_simp; try with_reducible rfl)
                try simp only [Act.put, List.setIfInBounds_toArray, List.set_cons_zero, List.set_cons_succ]
                refine wpAnyH_take (i := 7) (v := ?_) rfl (by kernel_rfl) (by kernel_rfl) (by kernel_rfl) (fun _ _ _ h => h) (Or.inl ⟨by rfl, ?_⟩) (by assumption) ?_
                rotate_left
                · (intro w hSw; (try dsimp only at hSw); go_simp; try with_reducible rfl)
                try simp only [Act.put, List.setIfInBounds_toArray, List.set_cons_zero, List.set_cons_succ]
                refine wpAnyH_take (i := 8) (v := ?_) rfl (by kernel_rfl) (by kernel_rfl) (by kernel_rfl) (fun _ _ _ h => h) (Or.inl ⟨by rfl, ?_⟩) (by assumption) ?_
                rotate_left
                · (intro w hSw; (try dsimp only at hSw); go_simp; try with_reducible rfl)
                try simp only [Act.put, List.setIfInBounds_toArray, List.set_cons_zero, List.set_cons_succ]
                refine wpAnyH_take (i := 9) (v := ?_) rfl (by kernel_rfl) (by kernel_rfl) (by kernel_rfl) (fun _ _ _ h => h) (Or.inl ⟨by rfl, ?_⟩) (by assumption) ?_
                rotate_left
                · (intro w hSw; (try dsimp only at hSw); go_simp; try with_reducible rfl)
                try simp only [Act.put, List.setIfInBounds_toArray, List.set_cons_zero, List.set_cons_succ]
                refine wpAnyH_take (i := 10) (v := ?_) rfl (by kernel_rfl) (by kernel_rfl) (by kernel_rfl) (fun _ _ _ h => h) (Or.inl ⟨by rfl, ?_⟩) (by assumption) ?_
                rotate_left
                · (intro w hSw; (try dsimp only at hSw); go_simp; try with_reducible rfl)
                try simp only [Act.put, List.setIfInBounds_toArray, List.set_cons_zero, List.set_cons_succ]
                refine wpAnyH_ready (rs := [11]) (by kernel_rfl) (by simp) ?_
                refine AllReadyH.cons rfl (fun K hK => ?_) AllReadyH.nil
                go_simp
                refine (l2Row_any v b F S n p q r s HN.out HNM.out hn8 hnl HRW.out w _ h (BW.trans (BR.drew.mono hlw))).mono ?_
                rintro e wd ⟨b5, o5, c5, rfl, K5, bd⟩
                have hbd : Below wr.heap.size wr wd := (Below.refl wr.heap.size wr).drew.trans bd
                have hzd : wr.heap.size ≤ wd.heap.size := bd.size
                go_wp2_with fail
                refine hK.out _ _ ?_ (fun hHeld => ?_)
                · exact K2.out _ hbd
                clear hK K
                try simp only [Act.put, List.setIfInBounds_toArray, List.set_cons_zero, List.set_cons_succ]
                refine wpAnyH_ready (rs := [12]) (by kernel_rfl) (by simp) ?_
                refine AllReadyH.cons rfl (fun K hK => ?_) AllReadyH.nil
                go_simp
                refine (l1Own_any _ [p, q, r, s] _ ((rdI4 K5).kept (Nat.le_refl _) (BW.trans ((BR.trans (hbd.mono hR.b4)).mono hlw))) (fun c hc => by simp at hc) (by simp)).mono ?_
                rintro e we ⟨ar, cr, rfl, oR, bR⟩
                have hbe : Below wr.heap.size wr we := hbd.trans (bR.mono hbd.size)
                have hze : wd.heap.size ≤ we.heap.size := bR.size
                go_wp2_with fail
                refine hK.out _ _ ?_ (fun hHeld => ?_)
                · exact K2.out _ hbe
                clear hK K
                try simp only [Act.put, List.setIfInBounds_toArray, List.set_cons_zero, List.set_cons_succ]
                refine wpAnyH_ready (rs := [13]) (by kernel_rfl) (by simp) ?_
                refine AllReadyH.cons rfl (fun K hK => ?_) AllReadyH.nil
                go_simp
                refine hK.out _ _ ?_ (fun hHeld => ?_)
                · exact K2.out _ (hbe.alloc hbe.size _)
                clear hK K
                try simp only [Act.put, List.setIfInBounds_toArray, List.set_cons_zero, List.set_cons_succ]
                refine wpAnyH_ready (rs := [14]) (by kernel_rfl) (by simp) ?_
                refine AllReadyH.cons rfl (fun K hK => ?_) AllReadyH.nil
                refine step_append1 (u := .slice ar 4 cr) (m := we.heap.size) (by rfl) _ _ 24 27 (by rfl) Try.underlying24 Try.infoInts rfl (vs := vs) (lo := w1.heap.size) (hi := wr.heap.size) (v := .slice a (i * ss.length + j) c) ((show OwnV 27 w1.heap.size wr.heap.size wr (.slice a (i * ss.length + j) c) vs by have := hR.rows.top; rw [rowsTo_length] at this; exact this).kept (hbe.alloc hbe.size _) (Nat.le_refl _)) (by rfl) (by rfl) (by repeat' (first | with_reducible assumption | (refine cell_top ?_ rfl; first | with_reducible rfl | (simp only [World.size_alloc, World.size_setCell]; done)) | (refine cell_under ?_ ?_; (first | omega | (simp only [World.size_alloc, World.size_setCell]; omega))) | refine cell_drew ?_)) rfl (by omega) (by omega) (by rw [World.size_alloc]; omega) ?_
                intro a2 c2 w2 hT2 hg2
                obtain ⟨⟨hp1, f1, f2⟩, hBn⟩ := hR.push_row hbe oR (by omega) hT2 (by rw [rowsTo_length]; exact hg2) (by rw [HL.out]; simp)
                rw [rowsTo_length] at f1
                have h7 := KS.out _ hBn
                refine hK.out _ _ ?_ (fun hHeld => ?_)
                · exact ⟨h7.2.1, h7.2.2.1, h7.2.2.2.1, h7.2.2.2.2.1, h7.2.2.2.2.2.1, h7.2.2.2.2.2.2, f1⟩
                clear hK K
                try simp only [Act.put, List.setIfInBounds_toArray, List.set_cons_zero, List.set_cons_succ]
                refine wpAnyH_take (i := 15) (v := ?_) rfl (by kernel_rfl) (by kernel_rfl) (by kernel_rfl) (fun _ _ _ h => h) (Or.inl ⟨by rfl, ?_⟩) (by assumption) ?_
                rotate_left
                · (intro w hSw; (try dsimp only at hSw); go_simp; try with_reducible rfl)
                try simp only [Act.put, List.setIfInBounds_toArray, List.set_cons_zero, List.set_cons_succ]
                refine wpAnyH_done (by kernel_rfl) ?_ _
                show wpList _ _ _ _ _ _
                rw [← HR.out] at hp1
                clear hR
                go_wp2
                go_roundw
                case rel => exact ⟨j + 1, by omega, by go_num, a2, c2, _, hp1⟩
                case measure => simp [intOf]; omega
              · obtain rfl : j = ss.length := by omega
                go_wp2
                go_roundw
                case rel => exact ⟨i + 1, by omega, by go_num, a, c, vs, by rw [Nat.succ_mul]; exact hR⟩
                case measure => simp [intOf]; omega
          · obtain rfl : i = fs.length := by omega
            have hrt := R3.kept hR.below (by omega)
            obtain ⟨⟨g0, g1, g2, g3⟩, gf⟩ := hR.cells
            have hrows := hR.rows
            have B5 := BW.trans (hR.below.mono hlw)
            rw [rowsTo_length] at g3 hrows
            obtain ⟨e0, e1, e2, e3, ef⟩ := hrt
            have hend := box_out (g := w.heap.size + 1) B5 (by omega) (by omega) hrows (.int .i64 fs.length) (.int .i64 ss.length) (.int .i64 b.Whole) (.slice a (fs.length * ss.length) c)
            clear hrows hR
            go_wp2
            refine bodyPost_ret (v := .tuple #[.agg #[.int .i64 fs.length, .int .i64 ss.length, .int .i64 b.Whole, .slice a (fs.length * ss.length) c], .bool true]) ?_ rfl ?_
            · simp [results, Try.results15, go_sem, e0, e1, e2, e3]
            · rw [HD.out, HM.out]
              have hl : (againL b fs ss).Rows.length = fs.length * ss.length := boxOf_len _ _ _ _
              exact ⟨a, c, vs, by rw [hl]; rfl, by rw [hl]; exact hend.1, hend.2⟩
      · have hm : askOk b fs ss = false := by rw [askOk_eq, hok, q1, q2]; rfl
        have hD : askD b fs ss = zeroD := by unfold askD; rw [hm]; simp
        have HD := Lib.hid hD
        have HM := Lib.hid hm
        clear hD hm e1 e2
        obtain ⟨r0, r1, r2, r3, rf⟩ := R1
        go_wp2_with (first | (go_at_call 64; (with_reducible refine (l2Asked_any _ fs _ _ hr1' ⟨hx0, hx1⟩).mono ?_); rintro e w' ⟨rfl, rfl⟩) | (go_at_call 64; (with_reducible refine (l2Asked_any _ ss _ _ hr2' ⟨hy0, hy1⟩).mono ?_); rintro e w' ⟨rfl, rfl⟩))
        refine bodyPost_ret (v := .tuple #[.agg #[.int .i64 0, .int .i64 0, .int .i64 0, .slice none 0 0], .bool false]) ?_ rfl ?_
        · simp [results, Try.results15, go_sem, r0, r1, r2, r3]
        · rw [HD.out, HM.out]; exact BoxRes.zero (by repeat' (first | with_reducible exact Below.refl _ _ | with_reducible assumption | with_reducible apply Below.alloc | with_reducible apply Below.setCell | with_reducible apply Below.drew | exact Nat.le_refl _ | omega | (simp only [World.size_alloc, World.size_setCell]; omega)))
    · have hm : askOk b fs ss = false := by rw [askOk_eq, hok, q1]; rfl
      have hD : askD b fs ss = zeroD := by unfold askD; rw [hm]; simp
      have HD := Lib.hid hD
      have HM := Lib.hid hm
      clear hD hm e1 e2
      obtain ⟨r0, r1, r2, r3, rf⟩ := R1
      go_wp2_with (first | (go_at_call 64; (with_reducible refine (l2Asked_any _ fs _ _ hr1' ⟨hx0, hx1⟩).mono ?_); rintro e w' ⟨rfl, rfl⟩))
      refine bodyPost_ret (v := .tuple #[.agg #[.int .i64 0, .int .i64 0, .int .i64 0, .slice none 0 0], .bool false]) ?_ rfl ?_
      · simp [results, Try.results15, go_sem, r0, r1, r2, r3]
      · rw [HD.out, HM.out]; exact BoxRes.zero (by repeat' (first | with_reducible exact Below.refl _ _ | with_reducible assumption | with_reducible apply Below.alloc | with_reducible apply Below.setCell | with_reducible apply Below.drew | exact Nat.le_refl _ | omega | (simp only [World.size_alloc, World.size_setCell]; omega)))
  · have hm : askOk b fs ss = false := by unfold askOk; rw [hok]; rfl
    have hD : askD b fs ss = zeroD := by unfold askD; rw [hm]; simp
    rw [hok]
    have HD := Lib.hid hD
    have HM := Lib.hid hm
    clear hD hm e1 e2
    obtain ⟨r0, r1, r2, r3, rf⟩ := R1
    go_wp2
    refine bodyPost_ret (v := .tuple #[.agg #[.int .i64 0, .int .i64 0, .int .i64 0, .slice none 0 0], .bool false]) ?_ rfl ?_
    · simp [results, Try.results15, go_sem, r0, r1, r2, r3]
    · rw [HD.out, HM.out]; exact BoxRes.zero (by repeat' (first | with_reducible exact Below.refl _ _ | with_reducible assumption | with_reducible apply Below.alloc | with_reducible apply Below.setCell | with_reducible apply Below.drew | exact Nat.le_refl _ | omega | (simp only [World.size_alloc, World.size_setCell]; omega)))
end Go.Proofs.Ytnmnmnpeoiblhaa
