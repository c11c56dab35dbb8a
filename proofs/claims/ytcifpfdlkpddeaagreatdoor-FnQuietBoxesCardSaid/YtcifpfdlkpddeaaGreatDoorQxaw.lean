/- AnswerCounts: contracts of the program's and the reference's functions. -/
import Derived.Test.YtcifpfdlkpddeaaGreatDoorQxau
import Derived.Test.YtcifpfdlkpddeaaGreatDoorQxav
import Derived.Test.YtcifpfdlkpddeaaGreatDoorQxah
set_option linter.unusedSimpArgs false
set_option linter.unusedVariables false
namespace Go.Proofs.YtcifpfdlkpddeaaGreatDoor
open Go.RowKit


theorem arr_kept {lo : Nat} {w0 W w2 : World} {q0 : Nat} {cs : Array Value} {T T' : Nat} {v : Value} {vs : List Value} (hq : w0.heap[q0]? = some (.cells cs T' (0, 0))) (hO : OwnV T lo w0.heap.size w0 v vs) (hb : Below w0.heap.size w0 W)
    (hg : W.grownBy w2 v.ownBlock) (hT : T ≠ T') : w2.heap[q0]? = some (.cells cs T' (0, 0)) := by
  have hl : q0 < w0.heap.size := by
    have h := Array.getElem?_eq_some_iff.1 hq
    exact h.1
  rw [hg.block q0 (Nat.lt_of_lt_of_le hl hb.size) (fun e => ?_), hb.block q0 hl]
  · exact hq
  · obtain ⟨cur, hc⟩ := hO.block e.symm
    rw [hq] at hc
    injection hc with hc
    injection hc with _ h2
    exact hT h2.symm

def countsOk (b : BoxD) : Bool := boxB b && quietB b
def countsD (b : BoxD) : List Int := if countsOk b then countsL b else []
theorem countsD_size (b : BoxD) : (countsD b).length ≤ 9 := by
  unfold countsD
  split
  · rename_i h
    unfold countsOk at h
    rw [Bool.and_eq_true] at h
    obtain ⟨⟨hx0, hx1⟩, hy0, hy1⟩ := (boxB_iff.1 h.1).1
    simp [countsL, seqTo_len]; omega
  · simp

set_option maxRecDepth 100000 in
set_option maxHeartbeats 3200000 in
theorem specAnswerCounts_any (vb : Value) (b : BoxD) (w : World) (h : RdII w vb b.Rows) :
    Calls Tryz.prog 12 #[.agg #[.int .i64 b.X, .int .i64 b.Y, .int .i64 b.Whole, vb]] w (IntsRes w (countsD b) (countsOk b)) := by
  go_enter Tryz.func12, Tryz.ntmps12
  go_wp2_with fail
  refine (l2Box_any vb b _ (h.kept (Nat.le_refl _) (by repeat' (first | with_reducible exact Below.refl _ _ | with_reducible assumption | with_reducible apply Below.alloc | with_reducible apply Below.setCell | with_reducible apply Below.drew | exact Nat.le_refl _ | omega | (simp only [World.size_alloc, World.size_setCell]; omega))))).mono ?_
  rintro e w1 ⟨rfl, b1⟩
  have B1 : Below w.heap.size w w1 := Below.trans (by repeat' (first | with_reducible exact Below.refl _ _ | with_reducible assumption | with_reducible apply Below.alloc | with_reducible apply Below.setCell | with_reducible apply Below.drew | exact Nat.le_refl _ | omega | (simp only [World.size_alloc, World.size_setCell]; omega))) (b1.mono (by first | exact Nat.le_refl _ | omega | (simp only [World.size_alloc, World.size_setCell]; omega)))
  have A1 : BoxAt w1 w.heap.size b.X b.Y b.Whole vb := ⟨keepCell b1 (by repeat' (first | with_reducible assumption | (refine cell_top ?_ rfl; first | with_reducible rfl | (simp only [World.size_alloc, World.size_setCell]; done)) | (refine cell_under ?_ ?_; (first | omega | (simp only [World.size_alloc, World.size_setCell]; omega))) | refine cell_drew ?_)), keepCell b1 (by repeat' (first | with_reducible assumption | (refine cell_top ?_ rfl; first | with_reducible rfl | (simp only [World.size_alloc, World.size_setCell]; done)) | (refine cell_under ?_ ?_; (first | omega | (simp only [World.size_alloc, World.size_setCell]; omega))) | refine cell_drew ?_)), keepCell b1 (by repeat' (first | with_reducible assumption | (refine cell_top ?_ rfl; first | with_reducible rfl | (simp only [World.size_alloc, World.size_setCell]; done)) | (refine cell_under ?_ ?_; (first | omega | (simp only [World.size_alloc, World.size_setCell]; omega))) | refine cell_drew ?_)), keepCell b1 (by repeat' (first | with_reducible assumption | (refine cell_top ?_ rfl; first | with_reducible rfl | (simp only [World.size_alloc, World.size_setCell]; done)) | (refine cell_under ?_ ?_; (first | omega | (simp only [World.size_alloc, World.size_setCell]; omega))) | refine cell_drew ?_))⟩
  have hE := OwnV.empty 3 (w.alloc (.cells #[.int .i64 b.X, .int .i64 b.Y, .int .i64 b.Whole, vb] 26))
  have hz := b1.size
  simp only [World.size_alloc] at hz
  have hO0 := (hE.kept b1 (by simp only [World.size_alloc]; omega)).weaken (lo' := w.heap.size + 1) (hi' := w1.heap.size) (by simp only [World.size_alloc]; omega) (by simp only [World.size_alloc]; omega)
  clear b1 hE
  simp only [World.size_alloc] at hO0
  rcases Bool.eq_false_or_eq_true (boxB b) with hok | hok
  · have HM := Lib.hid hok
    rw [hok]
    obtain ⟨⟨hx0, hx1⟩, hy0, hy1⟩ := (boxB_iff.1 hok).1
    obtain ⟨hwh0, hwh1⟩ := (boxB_iff.1 hok).2.1
    clear hok
    obtain ⟨wa, hwa⟩ : ∃ wa, wa = w1 := ⟨_, rfl⟩
    have AA := A1
    obtain ⟨a0, a1, a2, a3⟩ := AA
    go_wp2_with fail
    refine (l2Quiet_any vb b HM.out _ (h.kept (Nat.le_refl _) B1)).mono ?_
    rintro e w2 ⟨rfl, b2⟩
    replace B1 := B1.trans (b2.mono B1.size)
    replace A1 := A1.kept b2 A1.lt
    replace hO0 := (hO0.kept b2 (Nat.le_refl _)).weaken (Nat.le_refl _) b2.size
    have hz2 := b2.size
    clear a0 a1 a2 a3 b2 hwa wa
    rcases Bool.eq_false_or_eq_true (quietB b) with hq | hq
    · have hok : countsOk b = true := by unfold countsOk; rw [HM.out, hq]; rfl
      have hD : countsD b = countsL b := by unfold countsD; rw [hok]; simp
      have HOK := Lib.hid hok
      have HD := Lib.hid hD
      rw [hq]
      clear hq hok hD
      obtain ⟨lo, hlo⟩ : ∃ lo, lo = w.heap.size + 1 := ⟨_, rfl⟩
      replace hO0 : OwnV 3 lo w2.heap.size w2 (.slice (some ⟨w.heap.size + 1, 0, none⟩) 0 0) (ints (seqTo (countAt b) 0)) := by rw [hlo]; exact hO0
      clear hz
      obtain ⟨wz, rfl⟩ : ∃ wz, wz = w1 := ⟨_, rfl⟩
      have hl1 : w.heap.size < lo := by omega
      have hl2 : lo ≤ w2.heap.size := by have := A1.lt; omega
      clear hlo hz2
      generalize w2 = w1 at *
      have hB0 : Below lo w1 w1 := Below.refl _ _
      have KS := Lib.hid (fun (W : World) (h : Below lo w1 W) => And.intro h (And.intro (keepAt h hl1 A1.e0) (And.intro (keepAt h hl1 A1.e1) (And.intro (keepAt h hl1 A1.e2) (keepAt h hl1 A1.e3)))))
      go_wp2
      go_loopw [5, 4] (fun s5 s4 wr => ∃ k N : Nat, (k : Int) ≤ b.X ∧ s5 = .int .i64 k ∧ k = N ∧ ∃ a4 c4, s4 = .slice a4 N c4 ∧ OwnV 3 lo wr.heap.size wr (.slice a4 N c4) (ints (seqTo (countAt b) N)) ∧ Below lo w1 wr) (fun s5 _ _ => b.X.toNat - (intOf s5).toNat)
      case atStart => exact ⟨0, 0, by omega, rfl, rfl, _, _, rfl, hO0, hB0⟩
      case round =>
        obtain ⟨k, N, hk, rfl, hN, a4, c4, rfl, hO, hB⟩ := hrel
        obtain ⟨e0, e1, e2, e3⟩ := A1.kept hB hl1
        by_cases hkt : (k : Int) < b.X
        · obtain ⟨n, p, q, r, s, hn, hm, hn8, hrow, hnl, hp, hq, hr, hs, _, f0, f1, f2, f3⟩ := boxB_at HM.out k 0 hkt (by omega)
          have hone : oneB b 0 k 0 = r + s := by rw [oneB_0]; exact (congr (congrArg _ f2) f3 : numB b k (0 : Nat) 1 0 + numB b k (0 : Nat) 1 1 = r + s)
          have hat : countAt b N = r + s := by rw [← hN, countAt_x hkt]; exact hone
          have HN0 := Lib.hid hn
          have HR := Lib.hid hrow
          have hv : countAt b N = r + s := hat
          have HS := Lib.hid (seqTo_ints (countAt b) N _ hv)
          have hlen : (ints (seqTo (countAt b) N)).length = N := by simp [seqTo_len]
          have HNL := Lib.hid hlen
          have HNN := Lib.hid hN
          have hN6 : N ≤ 6 := by omega
          have hz1 := hB.size
          generalize hgl : ints (seqTo (countAt b) N) = L at *
          clear hgl hat hv hlen hN
          clear f0 f1 f2 f3 hone hn hrow
          go_wp2_with fail
          refine (l2Row_lit vb b k 0 k 0 rfl rfl n p q r s HN0.out hm hn8 hnl HR.out w _ h (B1.trans (hB.mono (by omega)))).mono ?_
          rintro e wd ⟨b5, o5, c5, rfl, K5, bd⟩
          have hB1 := hB.trans (bd.mono (by omega))
          have hO1 := hO.kept bd (Nat.le_refl _)
          have hzd := bd.size
          clear hO hB e0 e1 e2 e3
          go_wp2_with fail
          refine (l2One0_any b5 o5 c5 p q r s ⟨hr.1, by omega⟩ ⟨hs.1, by omega⟩ _ (cells4_at (B1.trans (hB1.mono (by omega))) K5)).mono ?_
          rintro e we ⟨rfl, bd2⟩
          have hB2 := hB1.trans (bd2.below lo)
          have hO2 := hO1.kept (bd2.below wr.heap.size) (Nat.le_refl _)
          have hze := (bd2.below lo).size
          clear hO1 hB1
          go_wp2_with (at_builtin; refine append1_own rfl _ _ 33 3 rfl Tryz.underlying33 Tryz.infoInt rfl hO2 rfl rfl rfl (by rw [HNL.out]; omega) (by omega) (by omega) ?_)
          intro a2 c2 w2 hO3 hg2
          have hBn : Below lo w1 w2 := hB2.grown hg2 (by omega) (fun g hg => (hO2.lt g hg).1)
          clear hO2
          have hO2 := hO3
          clear hO3
          rw [HS.out, HNL.out] at hO2
          go_wp2
          go_roundw
          case rel => exact ⟨k + 1, N + 1, by omega, by go_num, by have := HNN.out; omega, a2, c2, by rw [HNL.out], hO2, hBn⟩
          case measure => simp [intOf]; omega
        · go_wp2
          go_loopw [6, 4] (fun s5 s4 wr => ∃ k N : Nat, (k : Int) ≤ b.Y ∧ s5 = .int .i64 k ∧ b.X.toNat + k = N ∧ ∃ a4 c4, s4 = .slice a4 N c4 ∧ OwnV 3 lo wr.heap.size wr (.slice a4 N c4) (ints (seqTo (countAt b) N)) ∧ Below lo w1 wr) (fun s5 _ _ => b.Y.toNat - (intOf s5).toNat)
          case atStart => exact ⟨0, N, by omega, rfl, by omega, _, _, rfl, hO, hB⟩
          case round =>
            clear hO hB hk hN hkt e0 e1 e2 e3
            obtain ⟨k, N, hk, rfl, hN, a4, c4, rfl, hO, hB⟩ := hrel
            obtain ⟨e0, e1, e2, e3⟩ := A1.kept hB hl1
            by_cases hkt : (k : Int) < b.Y
            · obtain ⟨n, p, q, r, s, hn, hm, hn8, hrow, hnl, hp, hq, hr, hs, _, f0, f1, f2, f3⟩ := boxB_at HM.out 0 k (by omega) hkt
              have hone : oneB b 1 0 k = q + s := by rw [oneB_1]; exact (congr (congrArg _ f1) f3 : numB b (0 : Nat) k 0 1 + numB b (0 : Nat) k 1 1 = q + s)
              have hat : countAt b N = q + s := by rw [countAt_y (k := k) (by omega) hN]; exact hone
              have HN0 := Lib.hid hn
              have HR := Lib.hid hrow
              have hv : countAt b N = q + s := hat
              have HS := Lib.hid (seqTo_ints (countAt b) N _ hv)
              have hlen : (ints (seqTo (countAt b) N)).length = N := by simp [seqTo_len]
              have HNL := Lib.hid hlen
              have HNN := Lib.hid hN
              have hN6 : N ≤ 6 := by omega
              have hz1 := hB.size
              generalize hgl : ints (seqTo (countAt b) N) = L at *
              clear hgl hat hv hlen hN
              clear f0 f1 f2 f3 hone hn hrow
              go_wp2_with fail
              refine (l2Row_lit vb b 0 k 0 k rfl rfl n p q r s HN0.out hm hn8 hnl HR.out w _ h (B1.trans (hB.mono (by omega)))).mono ?_
              rintro e wd ⟨b5, o5, c5, rfl, K5, bd⟩
              have hB1 := hB.trans (bd.mono (by omega))
              have hO1 := hO.kept bd (Nat.le_refl _)
              have hzd := bd.size
              clear hO hB e0 e1 e2 e3
              go_wp2_with fail
              refine (l2One1_any b5 o5 c5 p q r s ⟨hq.1, by omega⟩ ⟨hs.1, by omega⟩ _ (cells4_at (B1.trans (hB1.mono (by omega))) K5)).mono ?_
              rintro e we ⟨rfl, bd2⟩
              have hB2 := hB1.trans (bd2.below lo)
              have hO2 := hO1.kept (bd2.below wr.heap.size) (Nat.le_refl _)
              have hze := (bd2.below lo).size
              clear hO1 hB1
              go_wp2_with (at_builtin; refine append1_own rfl _ _ 33 3 rfl Tryz.underlying33 Tryz.infoInt rfl hO2 rfl rfl rfl (by rw [HNL.out]; omega) (by omega) (by omega) ?_)
              intro a2 c2 w2 hO3 hg2
              have hBn : Below lo w1 w2 := hB2.grown hg2 (by omega) (fun g hg => (hO2.lt g hg).1)
              clear hO2
              have hO2 := hO3
              clear hO3
              rw [HS.out, HNL.out] at hO2
              go_wp2
              go_roundw
              case rel => exact ⟨k + 1, N + 1, by omega, by go_num, by have := HNN.out; omega, a2, c2, by rw [HNL.out], hO2, hBn⟩
              case measure => simp [intOf]; omega
            · go_wp2
              go_ret2
              have hNE : N = b.X.toNat + b.Y.toNat := by omega
              subst hNE
              rw [HD.out, HOK.out]
              exact ⟨a4, c4, by simp [countsL, seqTo_len], by simpa [countsL, seqTo_len] using hO.weaken (Nat.le_of_lt hl1) (Nat.le_refl _), B1.trans (hB.mono (Nat.le_of_lt hl1))⟩
    · have hok : countsOk b = false := by unfold countsOk; rw [HM.out, hq]; rfl
      have hD : countsD b = [] := by unfold countsD; rw [hok]; simp
      have HOK := Lib.hid hok
      have HD := Lib.hid hD
      rw [hq]
      clear hq hok hD
      go_wp2
      go_ret2
      rw [HD.out, HOK.out]
      exact ⟨_, _, rfl, hO0.weaken (by omega) (Nat.le_refl _), B1⟩
  · have hok2 : countsOk b = false := by unfold countsOk; rw [hok]; rfl
    have hD : countsD b = [] := by unfold countsD; rw [hok2]; simp
    have HOK := Lib.hid hok2
    have HD := Lib.hid hD
    rw [hok]
    clear hok hok2 hD
    go_wp2
    go_ret2
    rw [HD.out, HOK.out]
    exact ⟨_, _, rfl, hO0.weaken (by omega) (Nat.le_refl _), B1⟩
set_option maxRecDepth 100000 in
set_option maxHeartbeats 3200000 in
theorem counts_any (vb : Value) (b : BoxD) (hb : boxB b = true) (w : World) (h : RdII w vb b.Rows) :
    Calls Tryz.prog 43 #[.agg #[.int .i64 b.X, .int .i64 b.Y, .int .i64 b.Whole, vb]] w fun e w' => ∃ a c, e = .returned (.slice a (countsL b).length c) ∧ OwnV 3 w.heap.size w'.heap.size w' (.slice a (countsL b).length c) (ints (countsL b)) ∧ Below w.heap.size w w' := by
  obtain ⟨⟨hx0, hx1⟩, hy0, hy1⟩ := (boxB_iff.1 hb).1
  obtain ⟨hwh0, hwh1⟩ := (boxB_iff.1 hb).2.1
  have HM := Lib.hid hb
  clear hb
  go_enter Tryz.func43, Tryz.ntmps43
  go_wp2_with fail
  refine (questions_any vb b _).mono ?_
  rintro e wq ⟨rfl, bq⟩
  have B0 : Below w.heap.size w wq := Below.trans (by repeat' (first | with_reducible exact Below.refl _ _ | with_reducible assumption | with_reducible apply Below.alloc | with_reducible apply Below.setCell | with_reducible apply Below.drew | exact Nat.le_refl _ | omega | (simp only [World.size_alloc, World.size_setCell]; omega))) (bq.mono (by first | exact Nat.le_refl _ | omega | (simp only [World.size_alloc, World.size_setCell]; omega)))
  have A0 : BoxAt wq w.heap.size b.X b.Y b.Whole vb := ⟨keepCell bq (by repeat' (first | with_reducible assumption | (refine cell_top ?_ rfl; first | with_reducible rfl | (simp only [World.size_alloc, World.size_setCell]; done)) | (refine cell_under ?_ ?_; (first | omega | (simp only [World.size_alloc, World.size_setCell]; omega))) | refine cell_drew ?_)), keepCell bq (by repeat' (first | with_reducible assumption | (refine cell_top ?_ rfl; first | with_reducible rfl | (simp only [World.size_alloc, World.size_setCell]; done)) | (refine cell_under ?_ ?_; (first | omega | (simp only [World.size_alloc, World.size_setCell]; omega))) | refine cell_drew ?_)), keepCell bq (by repeat' (first | with_reducible assumption | (refine cell_top ?_ rfl; first | with_reducible rfl | (simp only [World.size_alloc, World.size_setCell]; done)) | (refine cell_under ?_ ?_; (first | omega | (simp only [World.size_alloc, World.size_setCell]; omega))) | refine cell_drew ?_)), keepCell bq (by repeat' (first | with_reducible assumption | (refine cell_top ?_ rfl; first | with_reducible rfl | (simp only [World.size_alloc, World.size_setCell]; done)) | (refine cell_under ?_ ?_; (first | omega | (simp only [World.size_alloc, World.size_setCell]; omega))) | refine cell_drew ?_))⟩
  have hE := OwnV.empty 3 (w.alloc (.cells #[.int .i64 b.X, .int .i64 b.Y, .int .i64 b.Whole, vb] 26))
  have hz := bq.size
  simp only [World.size_alloc] at hz
  have hO1 := (hE.kept bq (by simp only [World.size_alloc]; omega)).weaken (lo' := w.heap.size + 1) (hi' := wq.heap.size) (by simp only [World.size_alloc]; omega) (by simp only [World.size_alloc]; omega)
  clear bq hE
  simp only [World.size_alloc] at hO1
  go_wp2
  obtain ⟨w1, hw1⟩ : ∃ w1, w1 = wq.alloc (.cells #[.int .i64 b.X, .int .i64 b.Y] 91) := ⟨_, rfl⟩
  have hba : Below wq.heap.size wq w1 := by rw [hw1]; exact (Below.refl _ _).alloc (Nat.le_refl _) _
  obtain ⟨q0, hq0⟩ : ∃ q0, q0 = wq.heap.size := ⟨_, rfl⟩
  have hQ0 : w1.heap[q0]? = some (.cells #[.int .i64 b.X, .int .i64 b.Y] 91 (0, 0)) := by rw [hw1, hq0]; exact heap_alloc_new _ _
  have A1 : BoxAt w1 w.heap.size b.X b.Y b.Whole vb := A0.kept hba A0.lt
  have B1 : Below w.heap.size w w1 := B0.trans (hba.mono B0.size)
  obtain ⟨lo, hlo⟩ : ∃ lo, lo = w.heap.size + 1 := ⟨_, rfl⟩
  have hO0 : OwnV 3 lo w1.heap.size w1 (.slice (some ⟨w.heap.size + 1, 0, none⟩) 0 0) (ints (seqTo (countAt b) 0)) := by rw [hlo]; exact (hO1.kept hba (Nat.le_refl _)).weaken (Nat.le_refl _) hba.size
  rw [← hw1, ← hq0]
  have hl1 : w.heap.size < lo := by omega
  have hl2 : lo ≤ w1.heap.size := by have := hba.size; omega
  have hB0 : Below lo w1 w1 := Below.refl _ _
  clear hw1 hba A0 B0 hO1 hlo hz hq0
  have KS := Lib.hid (fun (W : World) (h : Below lo w1 W) => And.intro h (And.intro (keepAt h hl1 A1.e0) (And.intro (keepAt h hl1 A1.e1) (And.intro (keepAt h hl1 A1.e2) (keepAt h hl1 A1.e3)))))
  go_loopw [10, 3] (fun s5 s4 wr => ∃ pl N : Nat, pl ≤ 2 ∧ s5 = .int .i64 pl ∧ ((pl = 0 → N = 0) ∧ (pl = 1 → N = b.X.toNat) ∧ (pl = 2 → N = b.X.toNat + b.Y.toNat)) ∧ ∃ a4 c4, s4 = .slice a4 N c4 ∧ OwnV 3 lo wr.heap.size wr (.slice a4 N c4) (ints (seqTo (countAt b) N)) ∧ Below lo w1 wr ∧ wr.heap[q0]? = some (.cells #[.int .i64 b.X, .int .i64 b.Y] 91 (0, 0))) (fun s5 _ _ => 2 - (intOf s5).toNat)
  case atStart => exact ⟨0, 0, by omega, rfl, ⟨fun _ => rfl, fun h => by omega, fun h => by omega⟩, _, _, rfl, hO0, hB0, hQ0⟩
  case round =>
    obtain ⟨pl, N, hpl, rfl, ⟨hN0, hN1, hN2⟩, a4, c4, rfl, hO, hB, hQ⟩ := hrel
    have d0 : wr.cell? ⟨q0, 0, none⟩ = some (.int .i64 b.X) := by simp [World.cell?, hQ]
    have d1 : wr.cell? ⟨q0, 1, none⟩ = some (.int .i64 b.Y) := by simp [World.cell?, hQ]
    have lq := World.block_lt_of_cell? _ _ d0
    have HQ := Lib.hid hQ
    clear hQ
    have : pl = 0 ∨ pl = 1 ∨ pl = 2 := by omega
    rcases this with rfl | rfl | rfl
    · rw [show ((0 : Nat) : Int) = (0 : Int) from rfl]
      obtain rfl := hN0 rfl
      go_wp2
      clear d0 d1
      go_loopw [16, 3] (fun s5 s4 wr => ∃ k N : Nat, (k : Int) ≤ b.X ∧ s5 = .int .i64 k ∧ k = N ∧ ∃ a4 c4, s4 = .slice a4 N c4 ∧ OwnV 3 lo wr.heap.size wr (.slice a4 N c4) (ints (seqTo (countAt b) N)) ∧ Below lo w1 wr ∧ wr.heap[q0]? = some (.cells #[.int .i64 b.X, .int .i64 b.Y] 91 (0, 0))) (fun s5 _ _ => b.X.toNat - (intOf s5).toNat)
      case atStart => exact ⟨0, _, by omega, rfl, by omega, _, _, rfl, hO, hB, HQ.out⟩
      case round =>
        clear hO hB HQ hN0 hN1 hN2 lq
        obtain ⟨k, N, hk, rfl, hN, a4, c4, rfl, hO, hB, hQ⟩ := hrel
        have HQ := Lib.hid hQ
        clear hQ
        by_cases hkt : (k : Int) < b.X
        · have hY0 : ((0 : Nat) : Int) < b.Y := by omega
          have hat : countAt b N = oneB b 0 k 0 := by rw [← hN, countAt_x hkt]
          obtain ⟨o0, o1⟩ := oneB_bd HM.out 0 k 0 hkt hY0
          have hv : countAt b N = oneB b 0 k 0 := hat
          have HS := Lib.hid (seqTo_ints (countAt b) N _ hv)
          have hlen : (ints (seqTo (countAt b) N)).length = N := by simp [seqTo_len]
          have HNL := Lib.hid hlen
          have HNN := Lib.hid hN
          have hN6 : N ≤ 6 := by omega
          have hz1 := hB.size
          generalize hgl : ints (seqTo (countAt b) N) = L at *
          clear hgl hat hv hlen hN
          obtain ⟨e0, e1, e2, e3⟩ := A1.kept hB hl1
          go_wp2_with fail
          refine (ones0_lit vb b HM.out k 0 0 rfl hkt hY0 _ (h.kept (Nat.le_refl _) (B1.trans (hB.mono (by omega))))).mono ?_
          rintro e we ⟨rfl, bd⟩
          have hB2 := hB.trans (bd.mono (by omega))
          have hO2 := hO.kept bd (Nat.le_refl _)
          have hze := bd.size
          have hV := bd.alloc bd.size (.cells #[.int .i64 (oneB b 0 k 0)] 3)
          clear e0 e1 e2 e3 hB
          go_wp2_with (at_builtin; refine append1_own rfl _ _ 33 3 rfl Tryz.underlying33 Tryz.infoInt rfl hO2 rfl rfl rfl (by rw [HNL.out]; omega) (by omega) (by omega) ?_)
          intro a2 c2 w2 hO3 hg2
          have hQ2 : w2.heap[q0]? = some (.cells #[.int .i64 b.X, .int .i64 b.Y] 91 (0, 0)) := arr_kept HQ.out hO bd hg2 (by decide)
          have hBn : Below lo w1 w2 := hB2.grown hg2 (by omega) (fun g hg => (hO2.lt g hg).1)
          clear hO2 hO
          have hO2 := hO3
          clear hO3
          rw [HS.out, HNL.out] at hO2
          go_wp2
          go_roundw
          case rel => exact ⟨k + 1, N + 1, by omega, by go_num, by have := HNN.out; omega, a2, c2, by rw [HNL.out], hO2, hBn, hQ2⟩
          case measure => simp [intOf]; omega
        · go_wp2
          go_roundw
          case rel => exact ⟨1, N, by omega, rfl, ⟨fun h => by omega, fun h => by omega, fun h => by omega⟩, _, _, rfl, hO, hB, HQ.out⟩
          case measure => simp [intOf]
    · rw [show ((1 : Nat) : Int) = (1 : Int) from rfl]
      obtain rfl := hN1 rfl
      go_wp2
      clear d0 d1
      go_loopw [16, 3] (fun s5 s4 wr => ∃ k N : Nat, (k : Int) ≤ b.Y ∧ s5 = .int .i64 k ∧ b.X.toNat + k = N ∧ ∃ a4 c4, s4 = .slice a4 N c4 ∧ OwnV 3 lo wr.heap.size wr (.slice a4 N c4) (ints (seqTo (countAt b) N)) ∧ Below lo w1 wr ∧ wr.heap[q0]? = some (.cells #[.int .i64 b.X, .int .i64 b.Y] 91 (0, 0))) (fun s5 _ _ => b.Y.toNat - (intOf s5).toNat)
      case atStart => exact ⟨0, _, by omega, rfl, by omega, _, _, rfl, hO, hB, HQ.out⟩
      case round =>
        clear hO hB HQ hN0 hN1 hN2 lq
        obtain ⟨k, N, hk, rfl, hN, a4, c4, rfl, hO, hB, hQ⟩ := hrel
        have HQ := Lib.hid hQ
        clear hQ
        by_cases hkt : (k : Int) < b.Y
        · have hX0 : ((0 : Nat) : Int) < b.X := by omega
          have hat : countAt b N = oneB b 1 0 k := countAt_y (k := k) (by omega) hN
          obtain ⟨o0, o1⟩ := oneB_bd HM.out 1 0 k hX0 hkt
          have hv : countAt b N = oneB b 1 0 k := hat
          have HS := Lib.hid (seqTo_ints (countAt b) N _ hv)
          have hlen : (ints (seqTo (countAt b) N)).length = N := by simp [seqTo_len]
          have HNL := Lib.hid hlen
          have HNN := Lib.hid hN
          have hN6 : N ≤ 6 := by omega
          have hz1 := hB.size
          generalize hgl : ints (seqTo (countAt b) N) = L at *
          clear hgl hat hv hlen hN
          obtain ⟨e0, e1, e2, e3⟩ := A1.kept hB hl1
          go_wp2_with fail
          refine (ones1_lit vb b HM.out 0 k 0 rfl hX0 hkt _ (h.kept (Nat.le_refl _) (B1.trans (hB.mono (by omega))))).mono ?_
          rintro e we ⟨rfl, bd⟩
          have hB2 := hB.trans (bd.mono (by omega))
          have hO2 := hO.kept bd (Nat.le_refl _)
          have hze := bd.size
          have hV := bd.alloc bd.size (.cells #[.int .i64 (oneB b 1 0 k)] 3)
          clear e0 e1 e2 e3 hB
          go_wp2_with (at_builtin; refine append1_own rfl _ _ 33 3 rfl Tryz.underlying33 Tryz.infoInt rfl hO2 rfl rfl rfl (by rw [HNL.out]; omega) (by omega) (by omega) ?_)
          intro a2 c2 w2 hO3 hg2
          have hQ2 : w2.heap[q0]? = some (.cells #[.int .i64 b.X, .int .i64 b.Y] 91 (0, 0)) := arr_kept HQ.out hO bd hg2 (by decide)
          have hBn : Below lo w1 w2 := hB2.grown hg2 (by omega) (fun g hg => (hO2.lt g hg).1)
          clear hO2 hO
          have hO2 := hO3
          clear hO3
          rw [HS.out, HNL.out] at hO2
          go_wp2
          go_roundw
          case rel => exact ⟨k + 1, N + 1, by omega, by go_num, by have := HNN.out; omega, a2, c2, by rw [HNL.out], hO2, hBn, hQ2⟩
          case measure => simp [intOf]; omega
        · go_wp2
          go_roundw
          case rel => exact ⟨2, N, by omega, rfl, ⟨fun h => by omega, fun h => by omega, fun h => by omega⟩, _, _, rfl, hO, hB, HQ.out⟩
          case measure => simp [intOf]
    · obtain rfl := hN2 rfl
      clear d0 d1 HQ lq hN0 hN1 hN2
      go_wp2
      go_ret
      exact ⟨a4, c4, by simp [countsL, seqTo_len], by simpa [countsL, seqTo_len] using hO.weaken (Nat.le_of_lt hl1) (Nat.le_refl _), B1.trans (hB.mono (Nat.le_of_lt hl1))⟩
set_option maxHeartbeats 1600000 in
theorem implAnswerCounts_any (vb : Value) (b : BoxD) (w : World) (h : RdII w vb b.Rows) :
    Calls Tryz.prog 11 #[.agg #[.int .i64 b.X, .int .i64 b.Y, .int .i64 b.Whole, vb]] w (IntsRes w (countsD b) (countsOk b)) := by
  go_enter Tryz.func11, Tryz.ntmps11
  go_wp2_with fail
  refine (isQuiet_any vb b _ (h.kept (Nat.le_refl _) (by repeat' (first | with_reducible exact Below.refl _ _ | with_reducible assumption | with_reducible apply Below.alloc | with_reducible apply Below.setCell | with_reducible apply Below.drew | exact Nat.le_refl _ | omega | (simp only [World.size_alloc, World.size_setCell]; omega))))).mono ?_
  rintro e w1 ⟨rfl, b1⟩
  have B1 : Below w.heap.size w w1 := Below.trans (by repeat' (first | with_reducible exact Below.refl _ _ | with_reducible assumption | with_reducible apply Below.alloc | with_reducible apply Below.setCell | with_reducible apply Below.drew | exact Nat.le_refl _ | omega | (simp only [World.size_alloc, World.size_setCell]; omega))) (b1.mono (by first | exact Nat.le_refl _ | omega | (simp only [World.size_alloc, World.size_setCell]; omega)))
  have A1 : BoxAt w1 w.heap.size b.X b.Y b.Whole vb := ⟨keepCell b1 (by repeat' (first | with_reducible assumption | (refine cell_top ?_ rfl; first | with_reducible rfl | (simp only [World.size_alloc, World.size_setCell]; done)) | (refine cell_under ?_ ?_; (first | omega | (simp only [World.size_alloc, World.size_setCell]; omega))) | refine cell_drew ?_)), keepCell b1 (by repeat' (first | with_reducible assumption | (refine cell_top ?_ rfl; first | with_reducible rfl | (simp only [World.size_alloc, World.size_setCell]; done)) | (refine cell_under ?_ ?_; (first | omega | (simp only [World.size_alloc, World.size_setCell]; omega))) | refine cell_drew ?_)), keepCell b1 (by repeat' (first | with_reducible assumption | (refine cell_top ?_ rfl; first | with_reducible rfl | (simp only [World.size_alloc, World.size_setCell]; done)) | (refine cell_under ?_ ?_; (first | omega | (simp only [World.size_alloc, World.size_setCell]; omega))) | refine cell_drew ?_)), keepCell b1 (by repeat' (first | with_reducible assumption | (refine cell_top ?_ rfl; first | with_reducible rfl | (simp only [World.size_alloc, World.size_setCell]; done)) | (refine cell_under ?_ ?_; (first | omega | (simp only [World.size_alloc, World.size_setCell]; omega))) | refine cell_drew ?_))⟩
  clear b1
  rcases Bool.eq_false_or_eq_true (boxB b && quietB b) with hok | hok
  · have hb := hok
    rw [Bool.and_eq_true] at hb
    have HM := Lib.hid hb.1
    have HOK := Lib.hid (show countsOk b = true from hok)
    have hD : countsD b = countsL b := by unfold countsD; rw [HOK.out]; simp
    have HD := Lib.hid hD
    obtain ⟨a0, a1, a2, a3⟩ := A1
    rw [hok]
    clear hok hb hD
    go_wp2_with fail
    refine (counts_any vb b HM.out _ (h.kept (Nat.le_refl _) B1)).mono ?_
    rintro e w2 ⟨a, c, rfl, o2, b2⟩
    have B2 := B1.trans (b2.mono B1.size)
    have hz := B1.size
    go_wp2
    go_ret2
    rw [HD.out, HOK.out]
    exact ⟨a, c, rfl, o2.weaken hz (Nat.le_refl _), B2⟩
  · have HOK := Lib.hid (show countsOk b = false from hok)
    have hD : countsD b = [] := by unfold countsD; rw [HOK.out]; simp
    have HD := Lib.hid hD
    rw [hok]
    clear hok hD
    go_wp2
    go_ret2
    rw [HD.out, HOK.out]
    exact IntsRes.zero B1
end Go.Proofs.YtcifpfdlkpddeaaGreatDoor
