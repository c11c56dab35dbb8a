/- AnswerCounts: contracts of the program's and the reference's functions. The triple worth: contracts of the program's sum and of both functions. -/
import Derived.Test.YtnmnmnpeoiblhaaSuaw
import Derived.Test.YtnmnmnpeoiblhaaSuaj
import Derived.Test.YtnmnmnpeoiblhaaSuai
import Derived.Test.YtnmnmnpeoiblhaaSuag
set_option linter.unusedSimpArgs false
set_option linter.unusedVariables false
namespace Go.Proofs.Ytnmnmnpeoiblhaa
open Go.RowKit


theorem arr_kept {lo : Nat} {w0 W w2 : World} {q0 : Nat} {cs : Array Value} {T T' : Nat} {v : Value} {vs : List Value} (hq : w0.heap[q0]? = some (.cells cs T' (0, 0))) (hO : OwnV T lo w0.heap.size w0 v vs) (hb : Below w0.heap.size w0 W)
    (hg : W.grownBy w2 v.ownBlock) (hT : T ≠ T') : w2.heap[q0]? = some (.cells cs T' (0, 0)) := by
  have hl : q0 < w0.heap.size := by
    have h := Array.getElem?_eq_some_iff.1 hq
    exact h.1
  rw [hg.block q0 (Nat.lt_of_lt_of_le hl hb.size) (fun e => ?_), hb.block q0 hl]
  · exact hq
  · obtain ⟨cur, hc⟩ := hO.block e.symm
    rw [hq] at hc
    injection hc with hc
    injection hc with _ h2
    exact hT h2.symm

def countsOk (b : BoxD) : Bool := boxB b && quietB b
def countsD (b : BoxD) : List Int := if countsOk b then countsL b else []
theorem countsD_size (b : BoxD) : (countsD b).length ≤ 9 := by
  unfold countsD
  split
  · rename_i h
    unfold countsOk at h
    rw [Bool.and_eq_true] at h
    obtain ⟨⟨hx0, hx1⟩, hy0, hy1⟩ := (boxB_iff.1 h.1).1
    simp [countsL, seqTo_len]; omega
  · simp

set_option maxRecDepth 100000 in
set_option maxHeartbeats 3200000 in
theorem counts_any (vb : Value) (b : BoxD) (hb : boxB b = true) (w : World) (h : RdII w vb b.Rows) :
    Calls Try.prog 130 #[.agg #[.int .i64 b.X, .int .i64 b.Y, .int .i64 b.Whole, vb]] w fun e w' => ∃ a c, e = .returned (.slice a (countsL b).length c) ∧ OwnV 3 w.heap.size w'.heap.size w' (.slice a (countsL b).length c) (ints (countsL b)) ∧ Below w.heap.size w w' := by
  obtain ⟨⟨hx0, hx1⟩, hy0, hy1⟩ := (boxB_iff.1 hb).1
  obtain ⟨hwh0, hwh1⟩ := (boxB_iff.1 hb).2.1
  have HM := Lib.hid hb
  clear hb
  go_enter Try.func130, Try.ntmps130
  go_wp2_with fail
  refine (questions_any vb b _).mono ?_
  rintro e wq ⟨rfl, bq⟩
  have B0 : Below w.heap.size w wq := Below.trans (by repeat' (first | with_reducible exact Below.refl _ _ | with_reducible assumption | with_reducible apply Below.alloc | with_reducible apply Below.setCell | with_reducible apply Below.drew | exact Nat.le_refl _ | omega | (simp only [World.size_alloc, World.size_setCell]; omega))) (bq.mono (by first | exact Nat.le_refl _ | omega | (simp only [World.size_alloc, World.size_setCell]; omega)))
  have A0 : BoxAt wq w.heap.size b.X b.Y b.Whole vb := ⟨keepCell bq (by repeat' (first | with_reducible assumption | (refine cell_top ?_ rfl; first | with_reducible rfl | (simp only [World.size_alloc, World.size_setCell]; done)) | (refine cell_under ?_ ?_; (first | omega | (simp only [World.size_alloc, World.size_setCell]; omega))) | refine cell_drew ?_)), keepCell bq (by repeat' (first | with_reducible assumption | (refine cell_top ?_ rfl; first | with_reducible rfl | (simp only [World.size_alloc, World.size_setCell]; done)) | (refine cell_under ?_ ?_; (first | omega | (simp only [World.size_alloc, World.size_setCell]; omega))) | refine cell_drew ?_)), keepCell bq (by repeat' (first | with_reducible assumption | (refine cell_top ?_ rfl; first | with_reducible rfl | (simp only [World.size_alloc, World.size_setCell]; done)) | (refine cell_under ?_ ?_; (first | omega | (simp only [World.size_alloc, World.size_setCell]; omega))) | refine cell_drew ?_)), keepCell bq (by repeat' (first | with_reducible assumption | (refine cell_top ?_ rfl; first | with_reducible rfl | (simp only [World.size_alloc, World.size_setCell]; done)) | (refine cell_under ?_ ?_; (first | omega | (simp only [World.size_alloc, World.size_setCell]; omega))) | refine cell_drew ?_))⟩
  have hE := OwnV.empty 3 (w.alloc (.cells #[.int .i64 b.X, .int .i64 b.Y, .int .i64 b.Whole, vb] 26))
  have hz := bq.size
  simp only [World.size_alloc] at hz
  have hO1 := (hE.kept bq (by simp only [World.size_alloc]; omega)).weaken (lo' := w.heap.size + 1) (hi' := wq.heap.size) (by simp only [World.size_alloc]; omega) (by simp only [World.size_alloc]; omega)
  clear bq hE
  simp only [World.size_alloc] at hO1
  go_wp2
  obtain ⟨w1, hw1⟩ : ∃ w1, w1 = wq.alloc (.cells #[.int .i64 b.X, .int .i64 b.Y] 47) := ⟨_, rfl⟩
  have hba : Below wq.heap.size wq w1 := by rw [hw1]; exact (Below.refl _ _).alloc (Nat.le_refl _) _
  obtain ⟨q0, hq0⟩ : ∃ q0, q0 = wq.heap.size := ⟨_, rfl⟩
  have hQ0 : w1.heap[q0]? = some (.cells #[.int .i64 b.X, .int .i64 b.Y] 47 (0, 0)) := by rw [hw1, hq0]; exact heap_alloc_new _ _
  have A1 : BoxAt w1 w.heap.size b.X b.Y b.Whole vb := A0.kept hba A0.lt
  have B1 : Below w.heap.size w w1 := B0.trans (hba.mono B0.size)
  obtain ⟨lo, hlo⟩ : ∃ lo, lo = w.heap.size + 1 := ⟨_, rfl⟩
  have hO0 : OwnV 3 lo w1.heap.size w1 (.slice (some ⟨w.heap.size + 1, 0, none⟩) 0 0) (ints (seqTo (countAt b) 0)) := by rw [hlo]; exact (hO1.kept hba (Nat.le_refl _)).weaken (Nat.le_refl _) hba.size
  rw [← hw1, ← hq0]
  have hl1 : w.heap.size < lo := by omega
  have hl2 : lo ≤ w1.heap.size := by have := hba.size; omega
  have hB0 : Below lo w1 w1 := Below.refl _ _
  clear hw1 hba A0 B0 hO1 hlo hz hq0
  have KS := Lib.hid (fun (W : World) (h : Below lo w1 W) => And.intro h (And.intro (keepAt h hl1 A1.e0) (And.intro (keepAt h hl1 A1.e1) (And.intro (keepAt h hl1 A1.e2) (keepAt h hl1 A1.e3)))))
  go_loopw [10, 3] (fun s5 s4 wr => ∃ pl N : Nat, pl ≤ 2 ∧ s5 = .int .i64 pl ∧ ((pl = 0 → N = 0) ∧ (pl = 1 → N = b.X.toNat) ∧ (pl = 2 → N = b.X.toNat + b.Y.toNat)) ∧ ∃ a4 c4, s4 = .slice a4 N c4 ∧ OwnV 3 lo wr.heap.size wr (.slice a4 N c4) (ints (seqTo (countAt b) N)) ∧ Below lo w1 wr ∧ wr.heap[q0]? = some (.cells #[.int .i64 b.X, .int .i64 b.Y] 47 (0, 0))) (fun s5 _ _ => 2 - (intOf s5).toNat)
  case atStart => exact ⟨0, 0, by omega, rfl, ⟨fun _ => rfl, fun h => by omega, fun h => by omega⟩, _, _, rfl, hO0, hB0, hQ0⟩
  case round =>
    obtain ⟨pl, N, hpl, rfl, ⟨hN0, hN1, hN2⟩, a4, c4, rfl, hO, hB, hQ⟩ := hrel
    have d0 : wr.cell? ⟨q0, 0, none⟩ = some (.int .i64 b.X) := by simp [World.cell?, hQ]
    have d1 : wr.cell? ⟨q0, 1, none⟩ = some (.int .i64 b.Y) := by simp [World.cell?, hQ]
    have lq := World.block_lt_of_cell? _ _ d0
    have HQ := Lib.hid hQ
    clear hQ
    have : pl = 0 ∨ pl = 1 ∨ pl = 2 := by omega
    rcases this with rfl | rfl | rfl
    · rw [show ((0 : Nat) : Int) = (0 : Int) from rfl]
      obtain rfl := hN0 rfl
      go_wp2
      clear d0 d1
      go_loopw [16, 3] (fun s5 s4 wr => ∃ k N : Nat, (k : Int) ≤ b.X ∧ s5 = .int .i64 k ∧ k = N ∧ ∃ a4 c4, s4 = .slice a4 N c4 ∧ OwnV 3 lo wr.heap.size wr (.slice a4 N c4) (ints (seqTo (countAt b) N)) ∧ Below lo w1 wr ∧ wr.heap[q0]? = some (.cells #[.int .i64 b.X, .int .i64 b.Y] 47 (0, 0))) (fun s5 _ _ => b.X.toNat - (intOf s5).toNat)
      case atStart => exact ⟨0, _, by omega, rfl, by omega, _, _, rfl, hO, hB, HQ.out⟩
      case round =>
        clear hO hB HQ hN0 hN1 hN2 lq
        obtain ⟨k, N, hk, rfl, hN, a4, c4, rfl, hO, hB, hQ⟩ := hrel
        have HQ := Lib.hid hQ
        clear hQ
        by_cases hkt : (k : Int) < b.X
        · have hY0 : ((0 : Nat) : Int) < b.Y := by omega
          have hat : countAt b N = oneB b 0 k 0 := by rw [← hN, countAt_x hkt]
          obtain ⟨o0, o1⟩ := oneB_bd HM.out 0 k 0 hkt hY0
          have hv : countAt b N = oneB b 0 k 0 := hat
          have HS := Lib.hid (seqTo_ints (countAt b) N _ hv)
          have hlen : (ints (seqTo (countAt b) N)).length = N := by simp [seqTo_len]
          have HNL := Lib.hid hlen
          have HNN := Lib.hid hN
          have hN6 : N ≤ 6 := by omega
          have hz1 := hB.size
          generalize hgl : ints (seqTo (countAt b) N) = L at *
          clear hgl hat hv hlen hN
          obtain ⟨e0, e1, e2, e3⟩ := A1.kept hB hl1
          go_wp2_with fail
          refine (ones0_lit vb b HM.out k 0 0 rfl hkt hY0 _ (h.kept (Nat.le_refl _) (B1.trans (hB.mono (by omega))))).mono ?_
          rintro e we ⟨rfl, bd⟩
          have hB2 := hB.trans (bd.mono (by omega))
          have hO2 := hO.kept bd (Nat.le_refl _)
          have hze := bd.size
          have hV := bd.alloc bd.size (.cells #[.int .i64 (oneB b 0 k 0)] 3)
          clear e0 e1 e2 e3 hB
          go_wp2_with (at_builtin; refine append1_own rfl _ _ 27 3 rfl Try.underlying27 Try.infoInt rfl hO2 rfl rfl rfl (by rw [HNL.out]; omega) (by omega) (by omega) ?_)
          intro a2 c2 w2 hO3 hg2
          have hQ2 : w2.heap[q0]? = some (.cells #[.int .i64 b.X, .int .i64 b.Y] 47 (0, 0)) := arr_kept HQ.out hO bd hg2 (by decide)
          have hBn : Below lo w1 w2 := hB2.grown hg2 (by omega) (fun g hg => (hO2.lt g hg).1)
          clear hO2 hO
          have hO2 := hO3
          clear hO3
          rw [HS.out, HNL.out] at hO2
          go_wp2
          go_roundw
          case rel => exact ⟨k + 1, N + 1, by omega, by go_num, by have := HNN.out; omega, a2, c2, by rw [HNL.out], hO2, hBn, hQ2⟩
          case measure => simp [intOf]; omega
        · go_wp2
          go_roundw
          case rel => exact ⟨1, N, by omega, rfl, ⟨fun h => by omega, fun h => by omega, fun h => by omega⟩, _, _, rfl, hO, hB, HQ.out⟩
          case measure => simp [intOf]
    · rw [show ((1 : Nat) : Int) = (1 : Int) from rfl]
      obtain rfl := hN1 rfl
      go_wp2
      clear d0 d1
      go_loopw [16, 3] (fun s5 s4 wr => ∃ k N : Nat, (k : Int) ≤ b.Y ∧ s5 = .int .i64 k ∧ b.X.toNat + k = N ∧ ∃ a4 c4, s4 = .slice a4 N c4 ∧ OwnV 3 lo wr.heap.size wr (.slice a4 N c4) (ints (seqTo (countAt b) N)) ∧ Below lo w1 wr ∧ wr.heap[q0]? = some (.cells #[.int .i64 b.X, .int .i64 b.Y] 47 (0, 0))) (fun s5 _ _ => b.Y.toNat - (intOf s5).toNat)
      case atStart => exact ⟨0, _, by omega, rfl, by omega, _, _, rfl, hO, hB, HQ.out⟩
      case round =>
        clear hO hB HQ hN0 hN1 hN2 lq
        obtain ⟨k, N, hk, rfl, hN, a4, c4, rfl, hO, hB, hQ⟩ := hrel
        have HQ := Lib.hid hQ
        clear hQ
        by_cases hkt : (k : Int) < b.Y
        · have hX0 : ((0 : Nat) : Int) < b.X := by omega
          have hat : countAt b N = oneB b 1 0 k := countAt_y (k := k) (by omega) hN
          obtain ⟨o0, o1⟩ := oneB_bd HM.out 1 0 k hX0 hkt
          have hv : countAt b N = oneB b 1 0 k := hat
          have HS := Lib.hid (seqTo_ints (countAt b) N _ hv)
          have hlen : (ints (seqTo (countAt b) N)).length = N := by simp [seqTo_len]
          have HNL := Lib.hid hlen
          have HNN := Lib.hid hN
          have hN6 : N ≤ 6 := by omega
          have hz1 := hB.size
          generalize hgl : ints (seqTo (countAt b) N) = L at *
          clear hgl hat hv hlen hN
          obtain ⟨e0, e1, e2, e3⟩ := A1.kept hB hl1
          go_wp2_with fail
          refine (ones1_lit vb b HM.out 0 k 0 rfl hX0 hkt _ (h.kept (Nat.le_refl _) (B1.trans (hB.mono (by omega))))).mono ?_
          rintro e we ⟨rfl, bd⟩
          have hB2 := hB.trans (bd.mono (by omega))
          have hO2 := hO.kept bd (Nat.le_refl _)
          have hze := bd.size
          have hV := bd.alloc bd.size (.cells #[.int .i64 (oneB b 1 0 k)] 3)
          clear e0 e1 e2 e3 hB
          go_wp2_with (at_builtin; refine append1_own rfl _ _ 27 3 rfl Try.underlying27 Try.infoInt rfl hO2 rfl rfl rfl (by rw [HNL.out]; omega) (by omega) (by omega) ?_)
          intro a2 c2 w2 hO3 hg2
          have hQ2 : w2.heap[q0]? = some (.cells #[.int .i64 b.X, .int .i64 b.Y] 47 (0, 0)) := arr_kept HQ.out hO bd hg2 (by decide)
          have hBn : Below lo w1 w2 := hB2.grown hg2 (by omega) (fun g hg => (hO2.lt g hg).1)
          clear hO2 hO
          have hO2 := hO3
          clear hO3
          rw [HS.out, HNL.out] at hO2
          go_wp2
          go_roundw
          case rel => exact ⟨k + 1, N + 1, by omega, by go_num, by have := HNN.out; omega, a2, c2, by rw [HNL.out], hO2, hBn, hQ2⟩
          case measure => simp [intOf]; omega
        · go_wp2
          go_roundw
          case rel => exact ⟨2, N, by omega, rfl, ⟨fun h => by omega, fun h => by omega, fun h => by omega⟩, _, _, rfl, hO, hB, HQ.out⟩
          case measure => simp [intOf]
    · obtain rfl := hN2 rfl
      clear d0 d1 HQ lq hN0 hN1 hN2
      go_wp2
      go_ret
      exact ⟨a4, c4, by simp [countsL, seqTo_len], by simpa [countsL, seqTo_len] using hO.weaken (Nat.le_of_lt hl1) (Nat.le_refl _), B1.trans (hB.mono (Nat.le_of_lt hl1))⟩
end Go.Proofs.Ytnmnmnpeoiblhaa
set_option linter.unusedSimpArgs false
set_option linter.unusedVariables false
namespace Go.Proofs.Ytnmnmnpeoiblhaa
open Go.RowKit

theorem trip_call (w : World) (g : Nat) (v : Value) (b : BoxD) (hb : boxB b = true) (h : RdII w v b.Rows) (c : BoxAt w g b.X b.Y b.Whole v) (i j : Nat) (i' j' : Int) (ei : (i : Int) = i') (ej : (j : Int) = j') (hi : (i : Int) < b.X) (hj : (j : Int) < b.Y) :
    Calls Try.prog 129 #[.int .i64 i', .int .i64 j', .pointer (some ⟨g, 0, none⟩)] w fun e w' => e = .returned (.int .i64 (n11 b i j)) ∧ Below w.heap.size w w' := by
  subst ei ej
  obtain ⟨a0, a1, a2, a3⟩ := c
  have lg := World.block_lt_of_cell? _ _ a0
  go_enter Try.func129, Try.ntmps129
  go_wp2_with fail
  refine (at_lit v b hb i j 1 1 1 1 rfl rfl hi hj (by omega) (by omega) _ h).mono ?_
  rintro e w1 ⟨rfl, b1⟩
  go_wp2
  go_ret
  exact ⟨rfl, b1⟩
theorem trip_func (args : Array Value) (w : World) : (callFunc 129 args).run Try.prog w = .ok (.enter 129 args) w := by kernel_rfl
theorem n11_bd {b : BoxD} (hb : boxB b = true) (i j : Nat) (hi : (i : Int) < b.X) (hj : (j : Int) < b.Y) : 0 ≤ n11 b i j ∧ n11 b i j ≤ 1000 := by
  have h := numB_bound hb i j hi hj 1 1 (by omega) (by omega)
  have hw := (boxB_iff.1 hb).2.1
  have e : n11 b i j = numB b i j ((1 : Nat) : Int) ((1 : Nat) : Int) := rfl
  rw [e]
  omega
set_option maxRecDepth 100000 in
set_option maxHeartbeats 6400000 in
theorem triple3_any (v : Value) (b : BoxD) (hb : boxB b = true) (hX : b.X = 3) (hY : b.Y = 3) (w : World) (h : RdII w v b.Rows) :
    Calls Try.prog 127 #[.agg #[.int .i64 b.X, .int .i64 b.Y, .int .i64 b.Whole, v]] w fun e w' => e = .returned (.int .i64 (tripleV b)) ∧ Below w.heap.size w w' := by
  obtain ⟨hwh0, hwh1⟩ := (boxB_iff.1 hb).2.1
  have hl6 : (countsL b).length = 6 := by unfold countsL; rw [seqTo_len, hX, hY]; rfl
  have hg : ∀ k, k < 6 → (countsL b)[k]? = some (countAt b k) := by intro k hk; unfold countsL; rw [hX, hY]; exact seqTo_get _ _ _ hk
  obtain ⟨c0, hc0⟩ : ∃ c, c = oneB b 0 0 0 := ⟨_, rfl⟩
  obtain ⟨c3, hc3⟩ : ∃ c, c = oneB b 1 0 0 := ⟨_, rfl⟩
  obtain ⟨c4, hc4⟩ : ∃ c, c = oneB b 1 0 1 := ⟨_, rfl⟩
  have k0 := hg 0 (by omega)
  have k3 := hg 3 (by omega)
  have k4 := hg 4 (by omega)
  rw [countAt_x (by omega), ← hc0] at k0
  rw [countAt_y (k := 0) (by omega) (by rw [hX]; rfl), ← hc3] at k3
  rw [countAt_y (k := 1) (by omega) (by rw [hX]; rfl), ← hc4] at k4
  have q0 := oneB_bd hb 0 0 0 (by omega) (by omega)
  have q3 := oneB_bd hb 1 0 0 (by omega) (by omega)
  have q4 := oneB_bd hb 1 0 1 (by omega) (by omega)
  rw [← hc0] at q0
  rw [← hc3] at q3
  rw [← hc4] at q4
  obtain ⟨v00, hv00⟩ : ∃ c, n11 b 0 0 = c := ⟨_, rfl⟩
  have bv00 := n11_bd hb 0 0 (by omega) (by omega)
  rw [hv00] at bv00
  obtain ⟨v01, hv01⟩ : ∃ c, n11 b 0 1 = c := ⟨_, rfl⟩
  have bv01 := n11_bd hb 0 1 (by omega) (by omega)
  rw [hv01] at bv01
  obtain ⟨v02, hv02⟩ : ∃ c, n11 b 0 2 = c := ⟨_, rfl⟩
  have bv02 := n11_bd hb 0 2 (by omega) (by omega)
  rw [hv02] at bv02
  obtain ⟨v10, hv10⟩ : ∃ c, n11 b 1 0 = c := ⟨_, rfl⟩
  have bv10 := n11_bd hb 1 0 (by omega) (by omega)
  rw [hv10] at bv10
  obtain ⟨v11, hv11⟩ : ∃ c, n11 b 1 1 = c := ⟨_, rfl⟩
  have bv11 := n11_bd hb 1 1 (by omega) (by omega)
  rw [hv11] at bv11
  obtain ⟨v12, hv12⟩ : ∃ c, n11 b 1 2 = c := ⟨_, rfl⟩
  have bv12 := n11_bd hb 1 2 (by omega) (by omega)
  rw [hv12] at bv12
  obtain ⟨v20, hv20⟩ : ∃ c, n11 b 2 0 = c := ⟨_, rfl⟩
  have bv20 := n11_bd hb 2 0 (by omega) (by omega)
  rw [hv20] at bv20
  obtain ⟨v21, hv21⟩ : ∃ c, n11 b 2 1 = c := ⟨_, rfl⟩
  have bv21 := n11_bd hb 2 1 (by omega) (by omega)
  rw [hv21] at bv21
  have hw0 := wrap_in (v00 + v01) (by omega) (by omega)
  have hw1 := wrap_in (v00 + v01 + v02) (by omega) (by omega)
  have hw2 := wrap_in (v00 + v01 + v02 + v10) (by omega) (by omega)
  have hw3 := wrap_in (v00 + v01 + v02 + v10 + v11) (by omega) (by omega)
  have hw4 := wrap_in (v00 + v01 + v02 + v10 + v11 - v12) (by omega) (by omega)
  have hw5 := wrap_in (v00 + v01 + v02 + v10 + v11 - v12 + v20) (by omega) (by omega)
  have hw6 := wrap_in (v00 + v01 + v02 + v10 + v11 - v12 + v20 - v21) (by omega) (by omega)
  have hw7 := wrap_in (v00 + v01 + v02 + v10 + v11 - v12 + v20 - v21 - c0) (by omega) (by omega)
  have hw8 := wrap_in (2 * c3) (by omega) (by omega)
  have hw9 := wrap_in (v00 + v01 + v02 + v10 + v11 - v12 + v20 - v21 - c0 - 2 * c3) (by omega) (by omega)
  have hw10 := wrap_in (v00 + v01 + v02 + v10 + v11 - v12 + v20 - v21 - c0 - 2 * c3 - c4) (by omega) (by omega)
  have HV := Lib.hid (show tripleV b = v00 + v01 + v02 + v10 + v11 - v12 + v20 - v21 - c0 - 2 * c3 - c4 by unfold tripleV; rw [hv00, hv01, hv02, hv10, hv11, hv12, hv20, hv21, ← hc0, ← hc3, ← hc4])
  have HE := Lib.hid (And.intro hv00 (And.intro hv01 (And.intro hv02 (And.intro hv10 (And.intro hv11 (And.intro hv12 (And.intro hv20 hv21)))))))
  have hxx : (2 : Int) < b.X := by omega
  have hyy : (2 : Int) < b.Y := by omega
  have HXY := Lib.hid (And.intro hxx hyy)
  clear hc0 hc3 hc4 hg hX hY hxx hyy q0 q3 q4 bv00 bv01 bv02 bv10 bv11 bv12 bv20 bv21 hv00 hv01 hv02 hv10 hv11 hv12 hv20 hv21
  have hfun := trip_func
  go_enter Try.func127, Try.ntmps127
  go_wp2_with fail
  refine (counts_any v b hb _ (h.kept (Nat.le_refl _) (by repeat' (first | with_reducible exact Below.refl _ _ | with_reducible assumption | with_reducible apply Below.alloc | with_reducible apply Below.setCell | with_reducible apply Below.drew | exact Nat.le_refl _ | omega | (simp only [World.size_alloc, World.size_setCell]; omega))))).mono ?_
  rintro e w2 ⟨ac, cc, rfl, oc, b2⟩
  have B2 : Below w.heap.size w w2 := Below.trans (by repeat' (first | with_reducible exact Below.refl _ _ | with_reducible assumption | with_reducible apply Below.alloc | with_reducible apply Below.setCell | with_reducible apply Below.drew | exact Nat.le_refl _ | omega | (simp only [World.size_alloc, World.size_setCell]; omega))) (b2.mono (by first | exact Nat.le_refl _ | omega | (simp only [World.size_alloc, World.size_setCell]; omega)))
  have A2 : BoxAt w2 w.heap.size b.X b.Y b.Whole v := ⟨keepCell b2 (by repeat' (first | with_reducible assumption | (refine cell_top ?_ rfl; first | with_reducible rfl | (simp only [World.size_alloc, World.size_setCell]; done)) | (refine cell_under ?_ ?_; (first | omega | (simp only [World.size_alloc, World.size_setCell]; omega))) | refine cell_drew ?_)), keepCell b2 (by repeat' (first | with_reducible assumption | (refine cell_top ?_ rfl; first | with_reducible rfl | (simp only [World.size_alloc, World.size_setCell]; done)) | (refine cell_under ?_ ?_; (first | omega | (simp only [World.size_alloc, World.size_setCell]; omega))) | refine cell_drew ?_)), keepCell b2 (by repeat' (first | with_reducible assumption | (refine cell_top ?_ rfl; first | with_reducible rfl | (simp only [World.size_alloc, World.size_setCell]; done)) | (refine cell_under ?_ ?_; (first | omega | (simp only [World.size_alloc, World.size_setCell]; omega))) | refine cell_drew ?_)), keepCell b2 (by repeat' (first | with_reducible assumption | (refine cell_top ?_ rfl; first | with_reducible rfl | (simp only [World.size_alloc, World.size_setCell]; done)) | (refine cell_under ?_ ?_; (first | omega | (simp only [World.size_alloc, World.size_setCell]; omega))) | refine cell_drew ?_))⟩
  clear b2
  have hrc := oc.rdI
  rw [hl6] at hrc ⊢
  obtain ⟨a', gc, og, c', hv, _, hac, hcc⟩ := hrc
  injection hv with e1 e2 e3
  subst e1 e3
  obtain rfl := hac (by rw [hl6]; omega)
  have d0 := hcc 0 _ k0
  have d3 := hcc 3 _ k3
  have d4 := hcc 4 _ k4
  simp only [Nat.add_zero] at d0
  have KS := Lib.hid (fun (W : World) (h : Below w2.heap.size w2 W) => And.intro h (And.intro (keepCell h A2.e0) (And.intro (keepCell h A2.e1) (And.intro (keepCell h A2.e2) (And.intro (keepCell h A2.e3) (And.intro (keepCell h d0) (And.intro (keepCell h d3) (keepCell h d4))))))))
  have HA := Lib.hid A2
  clear A2 d0 d3 d4 hcc oc e2 hl6 k0 k3 k4 hac
  go_wp2
  go_region_held3 (fun W => Below w2.heap.size w2 W ∧ W.cell? ⟨w.heap.size, 0, none⟩ = some (.int .i64 b.X) ∧ W.cell? ⟨w.heap.size, 1, none⟩ = some (.int .i64 b.Y) ∧ W.cell? ⟨w.heap.size, 2, none⟩ = some (.int .i64 b.Whole) ∧ W.cell? ⟨w.heap.size, 3, none⟩ = some v ∧ W.cell? ⟨gc, og, none⟩ = some (.int .i64 c0) ∧ W.cell? ⟨gc, og + 3, none⟩ = some (.int .i64 c3) ∧ W.cell? ⟨gc, og + 4, none⟩ = some (.int .i64 c4))
    (first | exact KS.out _ (Below.refl _ _).drew | exact KS.out _ hBn)
    (first
      | (go_at_call 129; have hS := And.left (by assumption : Below w2.heap.size w2 _ ∧ _); (with_reducible refine (trip_call _ w.heap.size v b hb (h.kept (Nat.le_refl _) (B2.trans (hS.mono B2.size))) (HA.out.kept hS HA.out.lt) 0 0 0 0 rfl rfl (by have := HXY.out.1; omega) (by have := HXY.out.2; omega)).mono ?_); rintro e we ⟨rfl, bd⟩; have hBn := hS.trans (bd.mono hS.size); rw [HE.out.1])
      | (go_at_call 129; have hS := And.left (by assumption : Below w2.heap.size w2 _ ∧ _); (with_reducible refine (trip_call _ w.heap.size v b hb (h.kept (Nat.le_refl _) (B2.trans (hS.mono B2.size))) (HA.out.kept hS HA.out.lt) 0 1 0 1 rfl rfl (by have := HXY.out.1; omega) (by have := HXY.out.2; omega)).mono ?_); rintro e we ⟨rfl, bd⟩; have hBn := hS.trans (bd.mono hS.size); rw [HE.out.2.1])
      | (go_at_call 129; have hS := And.left (by assumption : Below w2.heap.size w2 _ ∧ _); (with_reducible refine (trip_call _ w.heap.size v b hb (h.kept (Nat.le_refl _) (B2.trans (hS.mono B2.size))) (HA.out.kept hS HA.out.lt) 0 2 0 2 rfl rfl (by have := HXY.out.1; omega) (by have := HXY.out.2; omega)).mono ?_); rintro e we ⟨rfl, bd⟩; have hBn := hS.trans (bd.mono hS.size); rw [HE.out.2.2.1])
      | (go_at_call 129; have hS := And.left (by assumption : Below w2.heap.size w2 _ ∧ _); (with_reducible refine (trip_call _ w.heap.size v b hb (h.kept (Nat.le_refl _) (B2.trans (hS.mono B2.size))) (HA.out.kept hS HA.out.lt) 1 0 1 0 rfl rfl (by have := HXY.out.1; omega) (by have := HXY.out.2; omega)).mono ?_); rintro e we ⟨rfl, bd⟩; have hBn := hS.trans (bd.mono hS.size); rw [HE.out.2.2.2.1])
      | (go_at_call 129; have hS := And.left (by assumption : Below w2.heap.size w2 _ ∧ _); (with_reducible refine (trip_call _ w.heap.size v b hb (h.kept (Nat.le_refl _) (B2.trans (hS.mono B2.size))) (HA.out.kept hS HA.out.lt) 1 1 1 1 rfl rfl (by have := HXY.out.1; omega) (by have := HXY.out.2; omega)).mono ?_); rintro e we ⟨rfl, bd⟩; have hBn := hS.trans (bd.mono hS.size); rw [HE.out.2.2.2.2.1])
      | (go_at_call 129; have hS := And.left (by assumption : Below w2.heap.size w2 _ ∧ _); (with_reducible refine (trip_call _ w.heap.size v b hb (h.kept (Nat.le_refl _) (B2.trans (hS.mono B2.size))) (HA.out.kept hS HA.out.lt) 1 2 1 2 rfl rfl (by have := HXY.out.1; omega) (by have := HXY.out.2; omega)).mono ?_); rintro e we ⟨rfl, bd⟩; have hBn := hS.trans (bd.mono hS.size); rw [HE.out.2.2.2.2.2.1])
      | (go_at_call 129; have hS := And.left (by assumption : Below w2.heap.size w2 _ ∧ _); (with_reducible refine (trip_call _ w.heap.size v b hb (h.kept (Nat.le_refl _) (B2.trans (hS.mono B2.size))) (HA.out.kept hS HA.out.lt) 2 0 2 0 rfl rfl (by have := HXY.out.1; omega) (by have := HXY.out.2; omega)).mono ?_); rintro e we ⟨rfl, bd⟩; have hBn := hS.trans (bd.mono hS.size); rw [HE.out.2.2.2.2.2.2.1])
      | (go_at_call 129; have hS := And.left (by assumption : Below w2.heap.size w2 _ ∧ _); (with_reducible refine (trip_call _ w.heap.size v b hb (h.kept (Nat.le_refl _) (B2.trans (hS.mono B2.size))) (HA.out.kept hS HA.out.lt) 2 1 2 1 rfl rfl (by have := HXY.out.1; omega) (by have := HXY.out.2; omega)).mono ?_); rintro e we ⟨rfl, bd⟩; have hBn := hS.trans (bd.mono hS.size); rw [HE.out.2.2.2.2.2.2.2]))
  go_wp2
  go_ret
  exact ⟨ret_int HV.out.symm, B2.trans (hBn.mono B2.size)⟩
theorem triple_any (v : Value) (b : BoxD) (hk : tripleOk b = true) (w : World) (h : RdII w v b.Rows) :
    Calls Try.prog 127 #[.agg #[.int .i64 b.X, .int .i64 b.Y, .int .i64 b.Whole, v]] w fun e w' => e = .returned (.int .i64 (tripleV b)) ∧ Below w.heap.size w w' :=
  triple3_any v b (tripleOk_iff.1 hk).1 (tripleOk_iff.1 hk).2.2.1 (tripleOk_iff.1 hk).2.2.2 w h
end Go.Proofs.Ytnmnmnpeoiblhaa
