/- PlayOf: contracts of the program's and the reference's functions. -/
import Derived.Test.YtcifpfdlkpddeaaGreatDoorQxay
import Derived.Test.YtcifpfdlkpddeaaGreatDoorQxaz
import Derived.Test.YtcifpfdlkpddeaaGreatDoorQxba
import Derived.Test.YtcifpfdlkpddeaaGreatDoorQxav
import Derived.Test.YtcifpfdlkpddeaaGreatDoorQxat
import Derived.Test.YtcifpfdlkpddeaaGreatDoorQxah
set_option linter.unusedSimpArgs false
set_option linter.unusedVariables false
namespace Go.Proofs.YtcifpfdlkpddeaaGreatDoor
open Go.RowKit


theorem arr_kept {lo : Nat} {w0 W w2 : World} {q0 : Nat} {cs : Array Value} {T T' : Nat} {v : Value} {vs : List Value} (hq : w0.heap[q0]? = some (.cells cs T' (0, 0))) (hO : OwnV T lo w0.heap.size w0 v vs) (hb : Below w0.heap.size w0 W)
    (hg : W.grownBy w2 v.ownBlock) (hT : T ≠ T') : w2.heap[q0]? = some (.cells cs T' (0, 0)) := by
  have hl : q0 < w0.heap.size := by
    have h := Array.getElem?_eq_some_iff.1 hq
    exact h.1
  rw [hg.block q0 (Nat.lt_of_lt_of_le hl hb.size) (fun e => ?_), hb.block q0 hl]
  · exact hq
  · obtain ⟨cur, hc⟩ := hO.block e.symm
    rw [hq] at hc
    injection hc with hc
    injection hc with _ h2
    exact hT h2.symm

def playOfOk (b : BoxD) : Bool := boxB b && alikeR b.Rows (playRows b.X b.Y (playL b)) b.Whole 1
def playOfD (b : BoxD) : List Int := if playOfOk b then playL b else []
theorem playOfD_size (b : BoxD) : (playOfD b).length ≤ 9 := by
  unfold playOfD
  split
  · rename_i h
    unfold playOfOk at h
    rw [Bool.and_eq_true] at h
    obtain ⟨⟨hx0, hx1⟩, hy0, hy1⟩ := (boxB_iff.1 h.1).1
    simp [playL, seqTo_len]; omega
  · simp
theorem playOf_no {b : BoxD} (h : playOfOk b = false) : playOfD b = [] := by unfold playOfD; rw [h]; rfl
theorem playOf_yes {b : BoxD} (h : playOfOk b = true) : playOfD b = playL b := by unfold playOfD; rw [h]; rfl
theorem same_play {b : BoxD} (hb : boxB b = true) : sameB b (boxOf b.X b.Y 1 (playN b.X (playL b) 1)) = true :=
  sameB_iff.2 ⟨hb, playRows_box (boxB_sizes hb) (playL_bits hb), rfl, rfl⟩
theorem alike_play (vb v2 : Value) (b : BoxD) (hb : boxB b = true) (w : World) (ra : RdII w vb b.Rows) (rb : RdII w v2 (playRows b.X b.Y (playL b))) :
    Calls Tryz.prog 76 #[vb, .int .i64 b.Whole, v2, .int .i64 1] w fun e w' => e = .returned (.bool (alikeR b.Rows (playRows b.X b.Y (playL b)) b.Whole 1)) ∧ w = w' :=
  alike_any vb b v2 (boxOf b.X b.Y 1 (playN b.X (playL b) 1)) (same_play hb) w ra rb

theorem box_field3 (p q r s : Value) (W : World) : (Instr.field 26 (.agg #[p, q, r, s]) 3).run Tryz.prog W = .ok s W := by kernel_rfl
set_option maxRecDepth 100000 in
set_option maxHeartbeats 3200000 in
theorem implPlayOf_any (vb : Value) (b : BoxD) (w : World) (h : RdII w vb b.Rows) :
    Calls Tryz.prog 29 #[.agg #[.int .i64 b.X, .int .i64 b.Y, .int .i64 b.Whole, vb]] w (IntsRes w (playOfD b) (playOfOk b)) := by
  go_enter Tryz.func29, Tryz.ntmps29
  go_wp2_with fail
  refine (implIsBox_any vb b _ (h.kept (Nat.le_refl _) (by repeat' (first | with_reducible exact Below.refl _ _ | with_reducible assumption | with_reducible apply Below.alloc | with_reducible apply Below.setCell | with_reducible apply Below.drew | exact Nat.le_refl _ | omega | (simp only [World.size_alloc, World.size_setCell]; omega))))).mono ?_
  rintro e w0 ⟨rfl, b1⟩
  have B0 : Below w.heap.size w w0 := Below.trans (by repeat' (first | with_reducible exact Below.refl _ _ | with_reducible assumption | with_reducible apply Below.alloc | with_reducible apply Below.setCell | with_reducible apply Below.drew | exact Nat.le_refl _ | omega | (simp only [World.size_alloc, World.size_setCell]; omega))) (b1.mono (by first | exact Nat.le_refl _ | omega | (simp only [World.size_alloc, World.size_setCell]; omega)))
  have A0 : BoxAt w0 w.heap.size b.X b.Y b.Whole vb := ⟨keepCell b1 (by repeat' (first | with_reducible assumption | (refine cell_top ?_ rfl; first | with_reducible rfl | (simp only [World.size_alloc, World.size_setCell]; done)) | (refine cell_under ?_ ?_; (first | omega | (simp only [World.size_alloc, World.size_setCell]; omega))) | refine cell_drew ?_)), keepCell b1 (by repeat' (first | with_reducible assumption | (refine cell_top ?_ rfl; first | with_reducible rfl | (simp only [World.size_alloc, World.size_setCell]; done)) | (refine cell_under ?_ ?_; (first | omega | (simp only [World.size_alloc, World.size_setCell]; omega))) | refine cell_drew ?_)), keepCell b1 (by repeat' (first | with_reducible assumption | (refine cell_top ?_ rfl; first | with_reducible rfl | (simp only [World.size_alloc, World.size_setCell]; done)) | (refine cell_under ?_ ?_; (first | omega | (simp only [World.size_alloc, World.size_setCell]; omega))) | refine cell_drew ?_)), keepCell b1 (by repeat' (first | with_reducible assumption | (refine cell_top ?_ rfl; first | with_reducible rfl | (simp only [World.size_alloc, World.size_setCell]; done)) | (refine cell_under ?_ ?_; (first | omega | (simp only [World.size_alloc, World.size_setCell]; omega))) | refine cell_drew ?_))⟩
  clear b1
  rcases Bool.eq_false_or_eq_true (boxB b) with hok | hok
  · have HM := Lib.hid hok
    rw [hok]
    obtain ⟨⟨hx0, hx1⟩, hy0, hy1⟩ := (boxB_iff.1 hok).1
    obtain ⟨hwh0, hwh1⟩ := (boxB_iff.1 hok).2.1
    clear hok
    have AA := A0
    obtain ⟨a0, a1, a2, a3⟩ := AA
    go_wp2_with fail
    refine (questions_any vb b _).mono ?_
    rintro e wq ⟨rfl, bq⟩
    replace B0 := B0.trans (bq.mono B0.size)
    replace A0 := A0.kept bq A0.lt
    clear a0 a1 a2 a3 bq
    have hE := OwnV.empty 3 wq
    go_wp2
    obtain ⟨w1, hw1⟩ : ∃ w1, w1 = (wq.alloc (.cells #[] 3)).alloc (.cells #[.int .i64 b.X, .int .i64 b.Y] 91) := ⟨_, rfl⟩
    have hba : Below wq.heap.size wq w1 := by rw [hw1]; exact (by repeat' (first | with_reducible exact Below.refl _ _ | with_reducible assumption | with_reducible apply Below.alloc | with_reducible apply Below.setCell | with_reducible apply Below.drew | exact Nat.le_refl _ | omega | (simp only [World.size_alloc, World.size_setCell]; omega)))
    have hbb : Below (wq.heap.size + 1) (wq.alloc (.cells #[] 3)) w1 := by rw [hw1]; exact (by repeat' (first | with_reducible exact Below.refl _ _ | with_reducible assumption | with_reducible apply Below.alloc | with_reducible apply Below.setCell | with_reducible apply Below.drew | exact Nat.le_refl _ | omega | (simp only [World.size_alloc, World.size_setCell]; omega)))
    have hz1 : wq.heap.size + 1 + 1 = w1.heap.size := by rw [hw1, World.size_alloc, World.size_alloc]
    have hQ1 : w1.heap[wq.heap.size + 1]? = some (.cells #[.int .i64 b.X, .int .i64 b.Y] 91 (0, 0)) := by rw [hw1]; have := heap_alloc_new (wq.alloc (.cells #[] 3)) (.cells #[.int .i64 b.X, .int .i64 b.Y] 91); rw [World.size_alloc] at this; exact this
    rw [← hw1]
    have hl1 : w.heap.size < wq.heap.size := A0.lt
    have A1 := A0.kept hba A0.lt
    have B1 := B0.trans (hba.mono B0.size)
    have hE1 := hE.kept hbb (Nat.le_refl _)
    obtain ⟨lo, hlo⟩ : ∃ lo, wq.heap.size = lo := ⟨_, rfl⟩
    rw [hlo] at hE1 hl1 hQ1
    rw [hlo]
    have hl2 : lo ≤ w1.heap.size := by omega
    have hO0 : OwnV 3 lo w1.heap.size w1 (.slice (some ⟨lo, 0, none⟩) 0 0) (ints (seqTo (playAt b) 0)) := hE1.weaken (Nat.le_refl _) (by omega)
    have hB0 : Below lo w1 w1 := Below.refl _ _
    obtain ⟨q0, hq0⟩ : ∃ q0, lo + 1 = q0 := ⟨_, rfl⟩
    rw [hq0] at hQ1
    rw [hq0]
    have hQ0 := hQ1
    clear hE hE1 hba hbb hz1 hw1 A0 hlo hQ1 hq0
    have KS := Lib.hid (fun (W : World) (h : Below lo w1 W) => And.intro h (And.intro (keepAt h hl1 A1.e0) (And.intro (keepAt h hl1 A1.e1) (And.intro (keepAt h hl1 A1.e2) (keepAt h hl1 A1.e3)))))
    go_loopw [14, 5] (fun s5 s4 wr => ∃ pl N : Nat, pl ≤ 2 ∧ s5 = .int .i64 pl ∧ ((pl = 0 → N = 0) ∧ (pl = 1 → N = b.X.toNat) ∧ (pl = 2 → N = b.X.toNat + b.Y.toNat)) ∧ ∃ a4 c4, s4 = .slice a4 N c4 ∧ OwnV 3 lo wr.heap.size wr (.slice a4 N c4) (ints (seqTo (playAt b) N)) ∧ Below lo w1 wr ∧ wr.heap[q0]? = some (.cells #[.int .i64 b.X, .int .i64 b.Y] 91 (0, 0))) (fun s5 _ _ => 2 - (intOf s5).toNat)
    case atStart => exact ⟨0, 0, by omega, rfl, ⟨fun _ => rfl, fun h => by omega, fun h => by omega⟩, _, _, rfl, hO0, hB0, hQ0⟩
    case round =>
      obtain ⟨pl, N, hpl, rfl, ⟨hN0, hN1, hN2⟩, a4, c4, rfl, hO, hB, hQ⟩ := hrel
      have d0 : wr.cell? ⟨q0, 0, none⟩ = some (.int .i64 b.X) := by simp [World.cell?, hQ]
      have d1 : wr.cell? ⟨q0, 1, none⟩ = some (.int .i64 b.Y) := by simp [World.cell?, hQ]
      have lq := World.block_lt_of_cell? _ _ d0
      have HQ := Lib.hid hQ
      clear hQ
      have : pl = 0 ∨ pl = 1 ∨ pl = 2 := by omega
      rcases this with rfl | rfl | rfl
      · rw [show ((0 : Nat) : Int) = (0 : Int) from rfl]
        obtain rfl := hN0 rfl
        go_wp2
        clear d0 d1
        go_loopw [20, 5] (fun s5 s4 wr => ∃ k N : Nat, (k : Int) ≤ b.X ∧ s5 = .int .i64 k ∧ k = N ∧ ∃ a4 c4, s4 = .slice a4 N c4 ∧ OwnV 3 lo wr.heap.size wr (.slice a4 N c4) (ints (seqTo (playAt b) N)) ∧ Below lo w1 wr ∧ wr.heap[q0]? = some (.cells #[.int .i64 b.X, .int .i64 b.Y] 91 (0, 0))) (fun s5 _ _ => b.X.toNat - (intOf s5).toNat)
        case atStart => exact ⟨0, _, by omega, rfl, by omega, _, _, rfl, hO, hB, HQ.out⟩
        case round =>
          clear hO hB HQ hN0 hN1 hN2 lq
          obtain ⟨k, N, hk, rfl, hN, a4, c4, rfl, hO, hB, hQ⟩ := hrel
          have HQ := Lib.hid hQ
          clear hQ
          by_cases hkt : (k : Int) < b.X
          · have hY0 : ((0 : Nat) : Int) < b.Y := by omega
            have hat : countAt b N = oneB b 0 k 0 := by rw [← hN, countAt_x hkt]
            obtain ⟨o0, o1⟩ := oneB_bd HM.out 0 k 0 hkt hY0
            have hdz : ¬ b.Whole = 0 := by omega
            have hqq : IntKind.i64.wrap ((oneB b 0 k 0).tdiv b.Whole) = (oneB b 0 k 0) / b.Whole := by have := ones_div (oneB b 0 k 0) b.Whole (by omega) (by omega) (by omega); rw [Int.tdiv_eq_ediv_of_nonneg (by omega)]; exact wrap_in _ (by omega) (by omega)
            have hv : playAt b N = (oneB b 0 k 0) / b.Whole := by unfold playAt; rw [hat]
            have HS := Lib.hid (seqTo_ints (playAt b) N _ hv)
            have hlen : (ints (seqTo (playAt b) N)).length = N := by simp [seqTo_len]
            have HNL := Lib.hid hlen
            have HNN := Lib.hid hN
            have hN6 : N ≤ 6 := by omega
            have hz1 := hB.size
            generalize hgl : ints (seqTo (playAt b) N) = L at *
            clear hgl hat hv hlen hN
            go_wp2
            have K2 := Lib.hid (fun (W : World) (h : Below wr.heap.size wr W) => (KS.out _ (hB.trans (h.mono (by omega)))).2)
            refine wp_region_cut_held (S := fun W => W.cell? ⟨w.heap.size, 0, none⟩ = some (.int .i64 b.X) ∧ W.cell? ⟨w.heap.size, 1, none⟩ = some (.int .i64 b.Y) ∧ W.cell? ⟨w.heap.size, 2, none⟩ = some (.int .i64 b.Whole) ∧ W.cell? ⟨w.heap.size, 3, none⟩ = some vb) 10 _ rfl (by kernel_rfl) (by kernel_rfl) (K2.out _ (Below.refl _ _).drew) (fun hHeld => ?_)
            simp only [List.take_succ_cons, List.take_zero]
            refine wpAnyH_take (i := 0) (v := ?_) rfl (by kernel_rfl) (by kernel_rfl) (by kernel_rfl) (fun _ _ _ h => h) (Or.inl ⟨by rfl, ?_⟩) (by assumption) ?_
            rotate_left
            · (intro w hSw; (try dsimp only at hSw); go_simp; try with_reducible rfl)
            try simp only [Act.put, List.setIfInBounds_toArray, List.set_cons_zero, List.set_cons_succ]
            refine wpAnyH_take (i := 1) (v := ?_) rfl (by kernel_rfl) (by kernel_rfl) (by kernel_rfl) (fun _ _ _ h => h) (Or.inl ⟨by rfl, ?_⟩) (by assumption) ?_
            rotate_left
            · (intro w hSw; (try dsimp only at hSw); go_simp; try with_reducible rfl)
            try simp only [Act.put, List.setIfInBounds_toArray, List.set_cons_zero, List.set_cons_succ]
            refine wpAnyH_take (i := 2) (v := ?_) rfl (by kernel_rfl) (by kernel_rfl) (by kernel_rfl) (fun _ _ _ h => h) (Or.inl ⟨by rfl, ?_⟩) (by assumption) ?_
            rotate_left
            · (intro w hSw; (try dsimp only at hSw); go_simp; try with_reducible rfl)
            try simp only [Act.put, List.setIfInBounds_toArray, List.set_cons_zero, List.set_cons_succ]
            refine wpAnyH_take (i := 3) (v := ?_) rfl (by kernel_rfl) (by kernel_rfl) (by kernel_rfl) (fun _ _ _ h => h) (Or.inl ⟨by rfl, ?_⟩) (by assumption) ?_
            rotate_left
            · (intro w hSw; (try dsimp only at hSw); go_simp; try with_reducible rfl)
            try simp only [Act.put, List.setIfInBounds_toArray, List.set_cons_zero, List.set_cons_succ]
            refine wpAnyH_take (i := 5) (v := ?_) rfl (by kernel_rfl) (by kernel_rfl) (by kernel_rfl) (fun _ _ _ h => h) (Or.inl ⟨by rfl, ?_⟩) (by assumption) ?_
            rotate_left
            · (intro w hSw; (try dsimp only at hSw); go_simp; try with_reducible rfl)
            try simp only [Act.put, List.setIfInBounds_toArray, List.set_cons_zero, List.set_cons_succ]
            refine wpAnyH_take (i := 6) (v := ?_) rfl (by kernel_rfl) (by kernel_rfl) (by kernel_rfl) (fun _ _ _ h => h) (Or.inl ⟨by rfl, ?_⟩) (by assumption) ?_
            rotate_left
            · (intro w hSw; (try dsimp only at hSw); go_simp; try with_reducible rfl)
            try simp only [Act.put, List.setIfInBounds_toArray, List.set_cons_zero, List.set_cons_succ]
            refine wpAnyH_ready (rs := [4]) (by kernel_rfl) (by simp) ?_
            refine AllReadyH.cons rfl (fun K hK => ?_) AllReadyH.nil
            go_simp
            refine (ones0_lit vb b HM.out k 0 0 rfl hkt hY0 _ (h.kept (Nat.le_refl _) (B1.trans (hB.drew.mono (by omega))))).mono ?_
            rintro e we ⟨rfl, bd⟩
            have hbe : Below wr.heap.size wr we := (Below.refl wr.heap.size wr).drew.trans bd
            go_wp2_with fail
            refine hK.out _ _ ?_ (fun hHeld => ?_)
            · exact K2.out _ hbe
            clear hK K
            try simp only [Act.put, List.setIfInBounds_toArray, List.set_cons_zero, List.set_cons_succ]
            refine wpAnyH_take (i := 7) (v := ?_) rfl (by kernel_rfl) (by kernel_rfl) (by kernel_rfl) (fun _ _ _ h => h) (Or.inl ⟨by rfl, ?_⟩) (by assumption) ?_
            rotate_left
            · (intro w hSw; (try dsimp only at hSw); go_simp; try with_reducible rfl)
            try simp only [Act.put, List.setIfInBounds_toArray, List.set_cons_zero, List.set_cons_succ]
            refine wpAnyH_ready (rs := [8]) (by kernel_rfl) (by simp) ?_
            refine AllReadyH.cons rfl (fun K hK => ?_) AllReadyH.nil
            go_simp
            refine hK.out _ _ ?_ (fun hHeld => ?_)
            · exact K2.out _ (hbe.alloc hbe.size _)
            clear hK K
            try simp only [Act.put, List.setIfInBounds_toArray, List.set_cons_zero, List.set_cons_succ]
            refine wpAnyH_ready (rs := [9]) (by kernel_rfl) (by simp) ?_
            refine AllReadyH.cons rfl (fun K hK => ?_) AllReadyH.nil
            refine step_append1 (u := .int .i64 ((oneB b 0 k 0) / b.Whole)) (m := we.heap.size) (by rfl) _ _ 33 3 (by rfl) Tryz.underlying33 Tryz.infoInt rfl (hO.kept (hbe.alloc hbe.size _) (Nat.le_refl _)) (by rfl) (by rfl) (by repeat' (first | with_reducible assumption | (refine cell_top ?_ rfl; first | with_reducible rfl | (simp only [World.size_alloc, World.size_setCell]; done)) | (refine cell_under ?_ ?_; (first | omega | (simp only [World.size_alloc, World.size_setCell]; omega))) | refine cell_drew ?_)) rfl (by rw [HNL.out]; omega) (by omega) (by have := hbe.size; rw [World.size_alloc]; omega) ?_
            intro a2 c2 w2 hO2 hg2
            have hBn : Below lo w1 w2 := Below.grown ((hB.trans (hbe.mono (by omega))).alloc (by have := hbe.size; omega) _) hg2 (by have := hbe.size; rw [World.size_alloc]; omega) (fun g hg => (hO.lt g hg).1)
            have hV := hbe.alloc hbe.size (.cells #[.int .i64 ((oneB b 0 k 0) / b.Whole)] 3)
            have hQ2 : w2.heap[q0]? = some (.cells #[.int .i64 b.X, .int .i64 b.Y] 91 (0, 0)) := arr_kept HQ.out hO hV hg2 (by decide)
            refine hK.out _ _ ?_ (fun hHeld => ?_)
            · exact (KS.out _ hBn).2
            clear hK K
            try simp only [Act.put, List.setIfInBounds_toArray, List.set_cons_zero, List.set_cons_succ]
            refine wpAnyH_done (by kernel_rfl) ?_ _
            show wpList _ _ _ _ _ _
            rw [HS.out, HNL.out] at hO2
            go_wp2
            go_roundw
            case rel => exact ⟨k + 1, N + 1, by omega, by go_num, by have := HNN.out; omega, a2, c2, by rw [HNL.out], hO2, hBn, hQ2⟩
            case measure => simp [intOf]; omega
          · go_wp2
            go_roundw
            case rel => exact ⟨1, N, by omega, rfl, ⟨fun h => by omega, fun h => by omega, fun h => by omega⟩, _, _, rfl, hO, hB, HQ.out⟩
            case measure => simp [intOf]
      · rw [show ((1 : Nat) : Int) = (1 : Int) from rfl]
        obtain rfl := hN1 rfl
        go_wp2
        clear d0 d1
        go_loopw [20, 5] (fun s5 s4 wr => ∃ k N : Nat, (k : Int) ≤ b.Y ∧ s5 = .int .i64 k ∧ b.X.toNat + k = N ∧ ∃ a4 c4, s4 = .slice a4 N c4 ∧ OwnV 3 lo wr.heap.size wr (.slice a4 N c4) (ints (seqTo (playAt b) N)) ∧ Below lo w1 wr ∧ wr.heap[q0]? = some (.cells #[.int .i64 b.X, .int .i64 b.Y] 91 (0, 0))) (fun s5 _ _ => b.Y.toNat - (intOf s5).toNat)
        case atStart => exact ⟨0, _, by omega, rfl, by omega, _, _, rfl, hO, hB, HQ.out⟩
        case round =>
          clear hO hB HQ hN0 hN1 hN2 lq
          obtain ⟨k, N, hk, rfl, hN, a4, c4, rfl, hO, hB, hQ⟩ := hrel
          have HQ := Lib.hid hQ
          clear hQ
          by_cases hkt : (k : Int) < b.Y
          · have hX0 : ((0 : Nat) : Int) < b.X := by omega
            have hat : countAt b N = oneB b 1 0 k := countAt_y (k := k) (by omega) hN
            obtain ⟨o0, o1⟩ := oneB_bd HM.out 1 0 k hX0 hkt
            have hdz : ¬ b.Whole = 0 := by omega
            have hqq : IntKind.i64.wrap ((oneB b 1 0 k).tdiv b.Whole) = (oneB b 1 0 k) / b.Whole := by have := ones_div (oneB b 1 0 k) b.Whole (by omega) (by omega) (by omega); rw [Int.tdiv_eq_ediv_of_nonneg (by omega)]; exact wrap_in _ (by omega) (by omega)
            have hv : playAt b N = (oneB b 1 0 k) / b.Whole := by unfold playAt; rw [hat]
            have HS := Lib.hid (seqTo_ints (playAt b) N _ hv)
            have hlen : (ints (seqTo (playAt b) N)).length = N := by simp [seqTo_len]
            have HNL := Lib.hid hlen
            have HNN := Lib.hid hN
            have hN6 : N ≤ 6 := by omega
            have hz1 := hB.size
            generalize hgl : ints (seqTo (playAt b) N) = L at *
            clear hgl hat hv hlen hN
            go_wp2
            have K2 := Lib.hid (fun (W : World) (h : Below wr.heap.size wr W) => (KS.out _ (hB.trans (h.mono (by omega)))).2)
            refine wp_region_cut_held (S := fun W => W.cell? ⟨w.heap.size, 0, none⟩ = some (.int .i64 b.X) ∧ W.cell? ⟨w.heap.size, 1, none⟩ = some (.int .i64 b.Y) ∧ W.cell? ⟨w.heap.size, 2, none⟩ = some (.int .i64 b.Whole) ∧ W.cell? ⟨w.heap.size, 3, none⟩ = some vb) 10 _ rfl (by kernel_rfl) (by kernel_rfl) (K2.out _ (Below.refl _ _).drew) (fun hHeld => ?_)
            simp only [List.take_succ_cons, List.take_zero]
            refine wpAnyH_take (i := 0) (v := ?_) rfl (by kernel_rfl) (by kernel_rfl) (by kernel_rfl) (fun _ _ _ h => h) (Or.inl ⟨by rfl, ?_⟩) (by assumption) ?_
            rotate_left
            · (intro w hSw; (try dsimp only at hSw); go_simp; try with_reducible rfl)
            try simp only [Act.put, List.setIfInBounds_toArray, List.set_cons_zero, List.set_cons_succ]
            refine wpAnyH_take (i := 1) (v := ?_) rfl (by kernel_rfl) (by kernel_rfl) (by kernel_rfl) (fun _ _ _ h => h) (Or.inl ⟨by rfl, ?_⟩) (by assumption) ?_
            rotate_left
            · (intro w hSw; (try dsimp only at hSw); go_simp; try with_reducible rfl)
            try simp only [Act.put, List.setIfInBounds_toArray, List.set_cons_zero, List.set_cons_succ]
            refine wpAnyH_take (i := 2) (v := ?_) rfl (by kernel_rfl) (by kernel_rfl) (by kernel_rfl) (fun _ _ _ h => h) (Or.inl ⟨by rfl, ?_⟩) (by assumption) ?_
            rotate_left
            · (intro w hSw; (try dsimp only at hSw); go_simp; try with_reducible rfl)
            try simp only [Act.put, List.setIfInBounds_toArray, List.set_cons_zero, List.set_cons_succ]
            refine wpAnyH_take (i := 3) (v := ?_) rfl (by kernel_rfl) (by kernel_rfl) (by kernel_rfl) (fun _ _ _ h => h) (Or.inl ⟨by rfl, ?_⟩) (by assumption) ?_
            rotate_left
            · (intro w hSw; (try dsimp only at hSw); go_simp; try with_reducible rfl)
            try simp only [Act.put, List.setIfInBounds_toArray, List.set_cons_zero, List.set_cons_succ]
            refine wpAnyH_take (i := 5) (v := ?_) rfl (by kernel_rfl) (by kernel_rfl) (by kernel_rfl) (fun _ _ _ h => h) (Or.inl ⟨by rfl, ?_⟩) (by assumption) ?_
            rotate_left
            · (intro w hSw; (try dsimp only at hSw); go_simp; try with_reducible rfl)
            try simp only [Act.put, List.setIfInBounds_toArray, List.set_cons_zero, List.set_cons_succ]
            refine wpAnyH_take (i := 6) (v := ?_) rfl (by kernel_rfl) (by kernel_rfl) (by kernel_rfl) (fun _ _ _ h => h) (Or.inl ⟨by rfl, ?_⟩) (by assumption) ?_
            rotate_left
            · (intro w hSw; (try dsimp only at hSw); go_simp; try with_reducible rfl)
            try simp only [Act.put, List.setIfInBounds_toArray, List.set_cons_zero, List.set_cons_succ]
            refine wpAnyH_ready (rs := [4]) (by kernel_rfl) (by simp) ?_
            refine AllReadyH.cons rfl (fun K hK => ?_) AllReadyH.nil
            go_simp
            refine (ones1_lit vb b HM.out 0 k 0 rfl hX0 hkt _ (h.kept (Nat.le_refl _) (B1.trans (hB.drew.mono (by omega))))).mono ?_
            rintro e we ⟨rfl, bd⟩
            have hbe : Below wr.heap.size wr we := (Below.refl wr.heap.size wr).drew.trans bd
            go_wp2_with fail
            refine hK.out _ _ ?_ (fun hHeld => ?_)
            · exact K2.out _ hbe
            clear hK K
            try simp only [Act.put, List.setIfInBounds_toArray, List.set_cons_zero, List.set_cons_succ]
            refine wpAnyH_take (i := 7) (v := ?_) rfl (by kernel_rfl) (by kernel_rfl) (by kernel_rfl) (fun _ _ _ h => h) (Or.inl ⟨by rfl, ?_⟩) (by assumption) ?_
            rotate_left
            · (intro w hSw; (try dsimp only at hSw); go_simp; try with_reducible rfl)
            try simp only [Act.put, List.setIfInBounds_toArray, List.set_cons_zero, List.set_cons_succ]
            refine wpAnyH_ready (rs := [8]) (by kernel_rfl) (by simp) ?_
            refine AllReadyH.cons rfl (fun K hK => ?_) AllReadyH.nil
            go_simp
            refine hK.out _ _ ?_ (fun hHeld => ?_)
            · exact K2.out _ (hbe.alloc hbe.size _)
            clear hK K
            try simp only [Act.put, List.setIfInBounds_toArray, List.set_cons_zero, List.set_cons_succ]
            refine wpAnyH_ready (rs := [9]) (by kernel_rfl) (by simp) ?_
            refine AllReadyH.cons rfl (fun K hK => ?_) AllReadyH.nil
            refine step_append1 (u := .int .i64 ((oneB b 1 0 k) / b.Whole)) (m := we.heap.size) (by rfl) _ _ 33 3 (by rfl) Tryz.underlying33 Tryz.infoInt rfl (hO.kept (hbe.alloc hbe.size _) (Nat.le_refl _)) (by rfl) (by rfl) (by repeat' (first | with_reducible assumption | (refine cell_top ?_ rfl; first | with_reducible rfl | (simp only [World.size_alloc, World.size_setCell]; done)) | (refine cell_under ?_ ?_; (first | omega | (simp only [World.size_alloc, World.size_setCell]; omega))) | refine cell_drew ?_)) rfl (by rw [HNL.out]; omega) (by omega) (by have := hbe.size; rw [World.size_alloc]; omega) ?_
            intro a2 c2 w2 hO2 hg2
            have hBn : Below lo w1 w2 := Below.grown ((hB.trans (hbe.mono (by omega))).alloc (by have := hbe.size; omega) _) hg2 (by have := hbe.size; rw [World.size_alloc]; omega) (fun g hg => (hO.lt g hg).1)
            have hV := hbe.alloc hbe.size (.cells #[.int .i64 ((oneB b 1 0 k) / b.Whole)] 3)
            have hQ2 : w2.heap[q0]? = some (.cells #[.int .i64 b.X, .int .i64 b.Y] 91 (0, 0)) := arr_kept HQ.out hO hV hg2 (by decide)
            refine hK.out _ _ ?_ (fun hHeld => ?_)
            · exact (KS.out _ hBn).2
            clear hK K
            try simp only [Act.put, List.setIfInBounds_toArray, List.set_cons_zero, List.set_cons_succ]
            refine wpAnyH_done (by kernel_rfl) ?_ _
            show wpList _ _ _ _ _ _
            rw [HS.out, HNL.out] at hO2
            go_wp2
            go_roundw
            case rel => exact ⟨k + 1, N + 1, by omega, by go_num, by have := HNN.out; omega, a2, c2, by rw [HNL.out], hO2, hBn, hQ2⟩
            case measure => simp [intOf]; omega
          · go_wp2
            go_roundw
            case rel => exact ⟨2, N, by omega, rfl, ⟨fun h => by omega, fun h => by omega, fun h => by omega⟩, _, _, rfl, hO, hB, HQ.out⟩
            case measure => simp [intOf]
      · obtain rfl := hN2 rfl
        clear d0 d1 HQ lq hN0 hN1 hN2
        have hRd : RdI wr (.slice a4 (b.X.toNat + b.Y.toNat) c4) (playL b) := hO.rdI
        have hsz := Lib.hid (boxB_sizes HM.out)
        have hfld := box_field3
        have hbits := Lib.hid ((bits_iff.1 (playL_bits HM.out)).2)
        rcases Bool.eq_false_or_eq_true (alikeR b.Rows (playRows b.X b.Y (playL b)) b.Whole 1) with hal | hal
        · have HOK := Lib.hid (show playOfOk b = true by unfold playOfOk; rw [HM.out, hal]; rfl)
          have HD := Lib.hid (playOf_yes HOK.out)
          have HAL := Lib.hid hal
          clear hal
          go_wp2
          go_region_held3 (fun W => Below lo w1 W ∧ W.cell? ⟨w.heap.size, 0, none⟩ = some (.int .i64 b.X) ∧ W.cell? ⟨w.heap.size, 1, none⟩ = some (.int .i64 b.Y) ∧ W.cell? ⟨w.heap.size, 2, none⟩ = some (.int .i64 b.Whole) ∧ W.cell? ⟨w.heap.size, 3, none⟩ = some vb)
            (first | exact KS.out _ hB.drew | exact KS.out _ hBn)
            (first
              | (go_at_call 62; have hS := And.left (by assumption : Below lo w1 _ ∧ _); (with_reducible refine (playBox_any b.X b.Y _ (playL b) 1 hsz.out hbits.out _ (hRd.kept (Nat.le_refl _) (Below.refl _ _).drew)).mono ?_); rintro e wd ⟨a, c, vs, rfl, o1, bd⟩; have hBo : Below wr.heap.size wr wd := (Below.refl wr.heap.size wr).drew.trans bd; have hBn := hS.trans (bd.mono (by have := hS.size; omega)))
              | (go_at_call 76; have hS := And.left (by assumption : Below lo w1 _ ∧ _); (refine (alike_play vb _ b HM.out _ (h.kept (Nat.le_refl _) (B1.trans (hS.mono (by omega)))) o1.rdII).mono ?_); rintro e we ⟨rfl, hwe⟩; have hBp : Below wr.heap.size wr we := hwe ▸ hBo; have hBn : Below lo w1 we := hwe ▸ hS))
          rw [HAL.out]
          have hO2 := hO.kept hBp (Nat.le_refl _)
          have hz2 := hBp.size
          clear hO o1 bd hwe hBo hRd
          go_wp2
          go_ret2
          rw [HD.out, HOK.out]
          exact ⟨a4, c4, by simp [playL, seqTo_len], by simpa [playL, seqTo_len] using hO2.weaken (Nat.le_of_lt hl1) hz2, B1.trans (hBn.mono (Nat.le_of_lt hl1))⟩
        · have HOK := Lib.hid (show playOfOk b = false by unfold playOfOk; rw [HM.out, hal]; rfl)
          have HD := Lib.hid (playOf_no HOK.out)
          have HAL := Lib.hid hal
          clear hal
          go_wp2
          go_region_held3 (fun W => Below lo w1 W ∧ W.cell? ⟨w.heap.size, 0, none⟩ = some (.int .i64 b.X) ∧ W.cell? ⟨w.heap.size, 1, none⟩ = some (.int .i64 b.Y) ∧ W.cell? ⟨w.heap.size, 2, none⟩ = some (.int .i64 b.Whole) ∧ W.cell? ⟨w.heap.size, 3, none⟩ = some vb)
            (first | exact KS.out _ hB.drew | exact KS.out _ hBn)
            (first
              | (go_at_call 62; have hS := And.left (by assumption : Below lo w1 _ ∧ _); (with_reducible refine (playBox_any b.X b.Y _ (playL b) 1 hsz.out hbits.out _ (hRd.kept (Nat.le_refl _) (Below.refl _ _).drew)).mono ?_); rintro e wd ⟨a, c, vs, rfl, o1, bd⟩; have hBo : Below wr.heap.size wr wd := (Below.refl wr.heap.size wr).drew.trans bd; have hBn := hS.trans (bd.mono (by have := hS.size; omega)))
              | (go_at_call 76; have hS := And.left (by assumption : Below lo w1 _ ∧ _); (refine (alike_play vb _ b HM.out _ (h.kept (Nat.le_refl _) (B1.trans (hS.mono (by omega)))) o1.rdII).mono ?_); rintro e we ⟨rfl, hwe⟩; have hBp : Below wr.heap.size wr we := hwe ▸ hBo; have hBn : Below lo w1 we := hwe ▸ hS))
          rw [HAL.out]
          have hO2 := hO.kept hBp (Nat.le_refl _)
          have hz2 := hBp.size
          clear hO o1 bd hwe hBo hRd
          go_wp2
          go_ret2
          rw [HD.out, HOK.out]
          exact IntsRes.zero (B1.trans (hBn.mono (Nat.le_of_lt hl1)))
  · have HOK := Lib.hid (show playOfOk b = false by unfold playOfOk; rw [hok]; rfl)
    have HD := Lib.hid (playOf_no HOK.out)
    rw [hok]
    clear hok
    go_wp2
    go_ret2
    rw [HD.out, HOK.out]
    exact IntsRes.zero B0
end Go.Proofs.YtcifpfdlkpddeaaGreatDoor
