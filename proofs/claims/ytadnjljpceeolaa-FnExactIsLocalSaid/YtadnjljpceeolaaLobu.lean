/- IsLocal: contracts of the program's and the reference's functions. -/
import Derived.Test.YtadnjljpceeolaaLobl
import Derived.Test.YtadnjljpceeolaaLobt
import Derived.Deep.RegionHeld3
set_option linter.unusedSimpArgs false
set_option linter.unusedVariables false
namespace Go.Proofs.Ytadnjljpceeolaa
open Go.RowKit

def localB (b : BoxD) : Bool := quietB b && (decide ((great b).best ≤ 2 * b.Whole) && (decide (b.X < 3) || (decide (b.Y < 3) || decide (mostT b ≤ 0))))
def localOk (b : BoxD) : Bool := boxB b && localB b
set_option maxRecDepth 100000 in
set_option maxHeartbeats 1600000 in
theorem l3Local_any (v : Value) (b : BoxD) (hb : boxB b = true) (w : World) (h : RdII w v b.Rows) :
    Calls Try.prog 93 #[.agg #[.int .i64 b.X, .int .i64 b.Y, .int .i64 b.Whole, v]] w fun e w' => e = .returned (.bool (localB b)) ∧ Below w.heap.size w w' := by
  obtain ⟨⟨hx, hy⟩, hwh, _⟩ := boxB_iff.1 hb
  obtain ⟨m, hm⟩ : ∃ m, mostT b = m := ⟨_, rfl⟩
  have CM := fun hX hY W hW => l3Most_any v b hb hX hY W hW
  rw [hm] at CM
  have HL := Lib.hid (show localB b = (quietB b && (decide ((great b).best ≤ 2 * b.Whole) && (decide (b.X < 3) || (decide (b.Y < 3) || decide (m ≤ 0))))) by rw [← hm]; rfl)
  clear hm
  have CQ := Lib.hid (fun W hW => l2Quiet_any v b hb W hW)
  have CG := Lib.hid (fun W hW => l3Greatest_any v b hb W hW)
  generalize quietB b = q at *
  generalize great b = g at *
  obtain ⟨best, F0, F1, S0, S1, m0, there⟩ := g
  have hbf := fun W => best_field best F0 F1 S0 S1 m0 there W
  have hw2 : IntKind.i64.wrap (2 * b.Whole) = 2 * b.Whole := wrap_in _ (by omega) (by omega)
  go_enter Try.func93, Try.ntmps93
  go_wp2
  obtain ⟨w0, hw0⟩ : ∃ w0, w0 = w.alloc (.cells #[.int .i64 b.X, .int .i64 b.Y, .int .i64 b.Whole, v] 44) := ⟨_, rfl⟩
  have B0 : Below w.heap.size w w0 := by rw [hw0]; exact (by repeat' (first | with_reducible exact Below.refl _ _ | with_reducible assumption | with_reducible apply Below.alloc | with_reducible apply Below.setCell | with_reducible apply Below.drew | exact Nat.le_refl _ | omega | (simp only [World.size_alloc, World.size_setCell]; omega)))
  have A0 : BoxAt w0 w.heap.size b.X b.Y b.Whole v := by rw [hw0]; exact ⟨(by repeat' (first | with_reducible assumption | (refine cell_top ?_ rfl; first | with_reducible rfl | (simp only [World.size_alloc, World.size_setCell]; done)) | (refine cell_under ?_ ?_; (first | omega | (simp only [World.size_alloc, World.size_setCell]; omega))) | refine cell_drew ?_)), (by repeat' (first | with_reducible assumption | (refine cell_top ?_ rfl; first | with_reducible rfl | (simp only [World.size_alloc, World.size_setCell]; done)) | (refine cell_under ?_ ?_; (first | omega | (simp only [World.size_alloc, World.size_setCell]; omega))) | refine cell_drew ?_)), (by repeat' (first | with_reducible assumption | (refine cell_top ?_ rfl; first | with_reducible rfl | (simp only [World.size_alloc, World.size_setCell]; done)) | (refine cell_under ?_ ?_; (first | omega | (simp only [World.size_alloc, World.size_setCell]; omega))) | refine cell_drew ?_)), (by repeat' (first | with_reducible assumption | (refine cell_top ?_ rfl; first | with_reducible rfl | (simp only [World.size_alloc, World.size_setCell]; done)) | (refine cell_under ?_ ?_; (first | omega | (simp only [World.size_alloc, World.size_setCell]; omega))) | refine cell_drew ?_))⟩
  have HR := Lib.hid (fun (W : World) (hW : Below w0.heap.size w0 W) => h.kept (Nat.le_refl _) (B0.trans (hW.mono B0.size)))
  rw [← hw0]
  clear hw0
  cases q with
  | false =>
    refine wp_region_held_drew (S := fun W => Below w0.heap.size w0 W ∧ W.cell? ⟨w.heap.size, 0, none⟩ = some (.int .i64 b.X) ∧ W.cell? ⟨w.heap.size, 1, none⟩ = some (.int .i64 b.Y) ∧ W.cell? ⟨w.heap.size, 2, none⟩ = some (.int .i64 b.Whole) ∧ W.cell? ⟨w.heap.size, 3, none⟩ = some v) (by first | rfl | kernel_rfl) (held1 (Below.refl _ _).drew A0) (fun hHeld => ?_)
    refine wpAnyH_take (i := 0) (v := ?_) rfl (by kernel_rfl) (by kernel_rfl) (by kernel_rfl) (fun _ _ _ h => h) (Or.inl ⟨by rfl, ?_⟩) (by assumption) ?_
    rotate_left
    · (intro w hSw; (try dsimp only at hSw); go_simp; try with_reducible rfl)
    try simp only [Act.put, List.getElem_toArray, List.getElem_cons_zero, List.getElem_cons_succ, List.setIfInBounds_toArray, List.set_cons_zero, List.set_cons_succ]
    refine wpAnyH_ready (rs := [1]) (by kernel_rfl) (by simp) ?_
    refine AllReadyH.cons rfl (fun K hK => ?_) AllReadyH.nil
    go_simp
    refine (CQ.out _ (HR.out _ (Below.refl _ _).drew)).mono ?_
    rintro e wa ⟨rfl, ba⟩
    have hBn : Below w0.heap.size w0 wa := (Below.refl _ _).drew.trans ba
    go_wp2_with fail
    refine hK.out _ _ ?_ (fun hHeld => ?_)
    · exact held1 hBn A0
    clear hK K
    try simp only [Act.put, List.setIfInBounds_toArray, List.set_cons_zero, List.set_cons_succ]
    refine wpAnyH_take (i := 2) (v := ?_) rfl (by kernel_rfl) (by kernel_rfl) (by kernel_rfl) (fun _ _ _ h => h) (Or.inl ⟨by rfl, ?_⟩) (by assumption) ?_
    rotate_left
    · (intro w hSw; (try dsimp only at hSw); go_simp; try with_reducible rfl)
    try simp only [Act.put, List.getElem_toArray, List.getElem_cons_zero, List.getElem_cons_succ, List.setIfInBounds_toArray, List.set_cons_zero, List.set_cons_succ]
    refine wpAnyH_take (i := 3) (v := ?_) rfl (by kernel_rfl) (by kernel_rfl) (by kernel_rfl) (fun _ _ _ h => h) (Or.inl ⟨by rfl, ?_⟩) (by assumption) ?_
    rotate_left
    · (intro w hSw; (try dsimp only at hSw); go_simp; try with_reducible rfl)
    try simp only [Act.put, List.getElem_toArray, List.getElem_cons_zero, List.getElem_cons_succ, List.setIfInBounds_toArray, List.set_cons_zero, List.set_cons_succ]
    refine wpAnyH_take (i := 4) (v := undef) rfl (by kernel_rfl) (by kernel_rfl) (by kernel_rfl) (fun _ _ _ h => h) (Or.inr ⟨by first | rfl | kernel_rfl, rfl⟩) (by assumption) ?_
    try simp only [Act.put, List.getElem_toArray, List.getElem_cons_zero, List.getElem_cons_succ, List.setIfInBounds_toArray, List.set_cons_zero, List.set_cons_succ]
    refine wpAnyH_take (i := 5) (v := undef) rfl (by kernel_rfl) (by kernel_rfl) (by kernel_rfl) (fun _ _ _ h => h) (Or.inr ⟨by first | rfl | kernel_rfl, rfl⟩) (by assumption) ?_
    try simp only [Act.put, List.getElem_toArray, List.getElem_cons_zero, List.getElem_cons_succ, List.setIfInBounds_toArray, List.set_cons_zero, List.set_cons_succ]
    refine wpAnyH_take (i := 6) (v := undef) rfl (by kernel_rfl) (by kernel_rfl) (by kernel_rfl) (fun _ _ _ h => h) (Or.inr ⟨by first | rfl | kernel_rfl, rfl⟩) (by assumption) ?_
    try simp only [Act.put, List.getElem_toArray, List.getElem_cons_zero, List.getElem_cons_succ, List.setIfInBounds_toArray, List.set_cons_zero, List.set_cons_succ]
    refine wpAnyH_take (i := 7) (v := undef) rfl (by kernel_rfl) (by kernel_rfl) (by kernel_rfl) (fun _ _ _ h => h) (Or.inr ⟨by first | rfl | kernel_rfl, rfl⟩) (by assumption) ?_
    try simp only [Act.put, List.getElem_toArray, List.getElem_cons_zero, List.getElem_cons_succ, List.setIfInBounds_toArray, List.set_cons_zero, List.set_cons_succ]
    refine wpAnyH_take (i := 8) (v := undef) rfl (by kernel_rfl) (by kernel_rfl) (by kernel_rfl) (fun _ _ _ h => h) (Or.inr ⟨by first | rfl | kernel_rfl, rfl⟩) (by assumption) ?_
    try simp only [Act.put, List.getElem_toArray, List.getElem_cons_zero, List.getElem_cons_succ, List.setIfInBounds_toArray, List.set_cons_zero, List.set_cons_succ]
    refine wpAnyH_take (i := 9) (v := undef) rfl (by kernel_rfl) (by kernel_rfl) (by kernel_rfl) (fun _ _ _ h => h) (Or.inr ⟨by first | rfl | kernel_rfl, rfl⟩) (by assumption) ?_
    try simp only [Act.put, List.getElem_toArray, List.getElem_cons_zero, List.getElem_cons_succ, List.setIfInBounds_toArray, List.set_cons_zero, List.set_cons_succ]
    refine wpAnyH_take (i := 10) (v := undef) rfl (by kernel_rfl) (by kernel_rfl) (by kernel_rfl) (fun _ _ _ h => h) (Or.inr ⟨by first | rfl | kernel_rfl, rfl⟩) (by assumption) ?_
    try simp only [Act.put, List.getElem_toArray, List.getElem_cons_zero, List.getElem_cons_succ, List.setIfInBounds_toArray, List.set_cons_zero, List.set_cons_succ]
    refine wpAnyH_take (i := 11) (v := ?_) rfl (by kernel_rfl) (by kernel_rfl) (by kernel_rfl) (fun _ _ _ h => h) (Or.inl ⟨by rfl, ?_⟩) (by assumption) ?_
    rotate_left
    · (intro w hSw; (try dsimp only at hSw); go_simp; try with_reducible rfl)
    try simp only [Act.put, List.getElem_toArray, List.getElem_cons_zero, List.getElem_cons_succ, List.setIfInBounds_toArray, List.set_cons_zero, List.set_cons_succ]
    refine wpAnyH_done (by kernel_rfl) ?_ _
    go_wp2
    go_ret
    exact ⟨ret_bool (by rw [HL.out]; rfl), B0.trans (hBn.mono B0.size)⟩
  | true =>
    replace HL := Lib.hid (show localB b = (decide (best ≤ 2 * b.Whole) && (decide (b.X < 3) || (decide (b.Y < 3) || decide (m ≤ 0)))) from HL.out)
    refine wp_region_held_drew (S := fun W => Below w0.heap.size w0 W ∧ W.cell? ⟨w.heap.size, 0, none⟩ = some (.int .i64 b.X) ∧ W.cell? ⟨w.heap.size, 1, none⟩ = some (.int .i64 b.Y) ∧ W.cell? ⟨w.heap.size, 2, none⟩ = some (.int .i64 b.Whole) ∧ W.cell? ⟨w.heap.size, 3, none⟩ = some v) (by first | rfl | kernel_rfl) (held1 (Below.refl _ _).drew A0) (fun hHeld => ?_)
    refine wpAnyH_take (i := 0) (v := ?_) rfl (by kernel_rfl) (by kernel_rfl) (by kernel_rfl) (fun _ _ _ h => h) (Or.inl ⟨by rfl, ?_⟩) (by assumption) ?_
    rotate_left
    · (intro w hSw; (try dsimp only at hSw); go_simp; try with_reducible rfl)
    try simp only [Act.put, List.getElem_toArray, List.getElem_cons_zero, List.getElem_cons_succ, List.setIfInBounds_toArray, List.set_cons_zero, List.set_cons_succ]
    refine wpAnyH_ready (rs := [1]) (by kernel_rfl) (by simp) ?_
    refine AllReadyH.cons rfl (fun K hK => ?_) AllReadyH.nil
    go_simp
    refine (CQ.out _ (HR.out _ (Below.refl _ _).drew)).mono ?_
    rintro e wa ⟨rfl, ba⟩
    have hBa : Below w0.heap.size w0 wa := (Below.refl _ _).drew.trans ba
    go_wp2_with fail
    refine hK.out _ _ ?_ (fun hHeld => ?_)
    · exact held1 hBa A0
    clear hK K
    try simp only [Act.put, List.setIfInBounds_toArray, List.set_cons_zero, List.set_cons_succ]
    refine wpAnyH_take (i := 2) (v := ?_) rfl (by kernel_rfl) (by kernel_rfl) (by kernel_rfl) (fun _ _ _ h => h) (Or.inl ⟨by rfl, ?_⟩) (by assumption) ?_
    rotate_left
    · (intro w hSw; (try dsimp only at hSw); go_simp; try with_reducible rfl)
    try simp only [Act.put, List.getElem_toArray, List.getElem_cons_zero, List.getElem_cons_succ, List.setIfInBounds_toArray, List.set_cons_zero, List.set_cons_succ]
    refine wpAnyH_take (i := 3) (v := ?_) rfl (by kernel_rfl) (by kernel_rfl) (by kernel_rfl) (fun _ _ _ h => h) (Or.inl ⟨by rfl, ?_⟩) (by assumption) ?_
    rotate_left
    · (intro w hSw; (try dsimp only at hSw); go_simp; try with_reducible rfl)
    try simp only [Act.put, List.getElem_toArray, List.getElem_cons_zero, List.getElem_cons_succ, List.setIfInBounds_toArray, List.set_cons_zero, List.set_cons_succ]
    refine wpAnyH_take (i := 4) (v := ?_) rfl (by kernel_rfl) (by kernel_rfl) (by kernel_rfl) (fun _ _ _ h => h) (Or.inl ⟨by rfl, ?_⟩) (by assumption) ?_
    rotate_left
    · (intro w hSw; (try dsimp only at hSw); go_simp; try with_reducible rfl)
    try simp only [Act.put, List.getElem_toArray, List.getElem_cons_zero, List.getElem_cons_succ, List.setIfInBounds_toArray, List.set_cons_zero, List.set_cons_succ]
    refine wpAnyH_take (i := 7) (v := ?_) rfl (by kernel_rfl) (by kernel_rfl) (by kernel_rfl) (fun _ _ _ h => h) (Or.inl ⟨by rfl, ?_⟩) (by assumption) ?_
    rotate_left
    · (intro w hSw; (try dsimp only at hSw); go_simp; try with_reducible rfl)
    try simp only [Act.put, List.getElem_toArray, List.getElem_cons_zero, List.getElem_cons_succ, List.setIfInBounds_toArray, List.set_cons_zero, List.set_cons_succ]
    refine wpAnyH_take (i := 8) (v := ?_) rfl (by kernel_rfl) (by kernel_rfl) (by kernel_rfl) (fun _ _ _ h => h) (Or.inl ⟨by rfl, ?_⟩) (by assumption) ?_
    rotate_left
    · (intro w hSw; (try dsimp only at hSw); go_simp; try with_reducible rfl)
    try simp only [Act.put, List.getElem_toArray, List.getElem_cons_zero, List.getElem_cons_succ, List.setIfInBounds_toArray, List.set_cons_zero, List.set_cons_succ]
    refine wpAnyH_take (i := 9) (v := ?_) rfl (by kernel_rfl) (by kernel_rfl) (by kernel_rfl) (fun _ _ _ h => h) (Or.inl ⟨by rfl, ?_⟩) (by assumption) ?_
    rotate_left
    · (intro w hSw; (try dsimp only at hSw); go_simp; try with_reducible rfl)
    try simp only [Act.put, List.getElem_toArray, List.getElem_cons_zero, List.getElem_cons_succ, List.setIfInBounds_toArray, List.set_cons_zero, List.set_cons_succ]
    refine wpAnyH_ready (rs := [5]) (by kernel_rfl) (by simp) ?_
    refine AllReadyH.cons rfl (fun K hK => ?_) AllReadyH.nil
    go_simp
    refine (CG.out _ (HR.out _ hBa)).mono ?_
    rintro e w2 ⟨rfl, bg⟩
    have hBn : Below w0.heap.size w0 w2 := hBa.trans (bg.mono hBa.size)
    go_wp2_with fail
    refine hK.out _ _ ?_ (fun hHeld => ?_)
    · exact held1 hBn A0
    clear hK K
    try simp only [Act.put, List.setIfInBounds_toArray, List.set_cons_zero, List.set_cons_succ]
    refine wpAnyH_take (i := 6) (v := ?_) rfl (by kernel_rfl) (by kernel_rfl) (by kernel_rfl) (fun _ _ _ h => h) (Or.inl ⟨by rfl, ?_⟩) (by assumption) ?_
    rotate_left
    · (intro w hSw; (try dsimp only at hSw); go_simp; try with_reducible rfl)
    try simp only [Act.put, List.getElem_toArray, List.getElem_cons_zero, List.getElem_cons_succ, List.setIfInBounds_toArray, List.set_cons_zero, List.set_cons_succ]
    refine wpAnyH_take (i := 10) (v := ?_) rfl (by kernel_rfl) (by kernel_rfl) (by kernel_rfl) (fun _ _ _ h => h) (Or.inl ⟨by rfl, ?_⟩) (by assumption) ?_
    rotate_left
    · (intro w hSw; (try dsimp only at hSw); go_simp; try with_reducible rfl)
    try simp only [Act.put, List.getElem_toArray, List.getElem_cons_zero, List.getElem_cons_succ, List.setIfInBounds_toArray, List.set_cons_zero, List.set_cons_succ]
    refine wpAnyH_take (i := 11) (v := ?_) rfl (by kernel_rfl) (by kernel_rfl) (by kernel_rfl) (fun _ _ _ h => h) (Or.inl ⟨by rfl, ?_⟩) (by assumption) ?_
    rotate_left
    · (intro w hSw; (try dsimp only at hSw); go_simp; try with_reducible rfl)
    try simp only [Act.put, List.getElem_toArray, List.getElem_cons_zero, List.getElem_cons_succ, List.setIfInBounds_toArray, List.set_cons_zero, List.set_cons_succ]
    refine wpAnyH_done (by kernel_rfl) ?_ _
    have B2 := B0.trans (hBn.mono B0.size)
    obtain ⟨a0, a1, a2, a3⟩ := A0.kept hBn A0.lt
    by_cases hgt : 2 * b.Whole < best
    · have HD := Lib.hid (decide_eq_false (show ¬ best ≤ 2 * b.Whole by omega))
      go_wp2
      go_ret
      exact ⟨ret_bool (by rw [HL.out, HD.out]; rfl), B2⟩
    · have HD := Lib.hid (decide_eq_true (show best ≤ 2 * b.Whole by omega))
      by_cases h3 : b.X < 3
      · have HX := Lib.hid (decide_eq_true h3)
        go_wp2
        go_ret
        exact ⟨ret_bool (by rw [HL.out, HD.out, HX.out]; rfl), B2⟩
      · have HX := Lib.hid (decide_eq_false h3)
        by_cases h4 : b.Y < 3
        · have HY := Lib.hid (decide_eq_true h4)
          go_wp2
          go_ret
          exact ⟨ret_bool (by rw [HL.out, HD.out, HX.out, HY.out]; rfl), B2⟩
        · have HY := Lib.hid (decide_eq_false h4)
          have CC := CM (by omega) (by omega) w2 (h.kept (Nat.le_refl _) B2)
          go_wp2_with fail
          refine CC.mono ?_
          rintro e w3 ⟨rfl, b3⟩
          go_wp2
          go_ret
          exact ⟨ret_bool (by rw [HL.out, HD.out, HX.out, HY.out]; rfl), B2.trans (b3.mono B2.size)⟩
set_option maxRecDepth 100000 in
set_option maxHeartbeats 1600000 in
theorem isLocal_any (v : Value) (b : BoxD) (hb : boxB b = true) (w : World) (h : RdII w v b.Rows) :
    Calls Try.prog 95 #[.agg #[.int .i64 b.X, .int .i64 b.Y, .int .i64 b.Whole, v]] w fun e w' => e = .returned (.bool (localB b)) ∧ Below w.heap.size w w' := by
  obtain ⟨⟨hx, hy⟩, hwh, _⟩ := boxB_iff.1 hb
  obtain ⟨m, hm⟩ : ∃ m, mostT b = m := ⟨_, rfl⟩
  have CM := fun hX hY W hW => greatestTriple_any v b hb hX hY W hW
  rw [hm] at CM
  have HL := Lib.hid (show localB b = (quietB b && (decide ((great b).best ≤ 2 * b.Whole) && (decide (b.X < 3) || (decide (b.Y < 3) || decide (m ≤ 0))))) by rw [← hm]; rfl)
  clear hm
  have CG := greatest_any v b hb (w.alloc (.cells #[.int .i64 b.X, .int .i64 b.Y, .int .i64 b.Whole, v] 44)) (h.kept (Nat.le_refl _) (by repeat' (first | with_reducible exact Below.refl _ _ | with_reducible assumption | with_reducible apply Below.alloc | with_reducible apply Below.setCell | with_reducible apply Below.drew | exact Nat.le_refl _ | omega | (simp only [World.size_alloc, World.size_setCell]; omega))))
  have CQ := Lib.hid (fun W hW => isQuiet_any v b W hW)
  have CT := Lib.hid (fun W hW => isTriple_any v b W hW)
  have htr : tripleOk b = (quietB b && (decide (b.X = 3) && decide (b.Y = 3))) := by unfold tripleOk; rw [hb]; rfl
  rw [hb] at CQ
  rw [htr] at CT
  clear htr
  have hw2 : IntKind.i64.wrap (2 * b.Whole) = 2 * b.Whole := wrap_in _ (by omega) (by omega)
  go_enter Try.func95, Try.ntmps95
  go_wp2_with fail
  refine CG.mono ?_
  rintro e w1 ⟨rfl, b1⟩
  generalize great b = g at *
  obtain ⟨best, F0, F1, S0, S1, m0, there⟩ := g
  have B1 : Below w.heap.size w w1 := Below.trans (by repeat' (first | with_reducible exact Below.refl _ _ | with_reducible assumption | with_reducible apply Below.alloc | with_reducible apply Below.setCell | with_reducible apply Below.drew | exact Nat.le_refl _ | omega | (simp only [World.size_alloc, World.size_setCell]; omega))) (b1.mono (by first | exact Nat.le_refl _ | omega | (simp only [World.size_alloc, World.size_setCell]; omega)))
  have A1 : BoxAt w1 w.heap.size b.X b.Y b.Whole v := ⟨keepCell b1 (by repeat' (first | with_reducible assumption | (refine cell_top ?_ rfl; first | with_reducible rfl | (simp only [World.size_alloc, World.size_setCell]; done)) | (refine cell_under ?_ ?_; (first | omega | (simp only [World.size_alloc, World.size_setCell]; omega))) | refine cell_drew ?_)), keepCell b1 (by repeat' (first | with_reducible assumption | (refine cell_top ?_ rfl; first | with_reducible rfl | (simp only [World.size_alloc, World.size_setCell]; done)) | (refine cell_under ?_ ?_; (first | omega | (simp only [World.size_alloc, World.size_setCell]; omega))) | refine cell_drew ?_)), keepCell b1 (by repeat' (first | with_reducible assumption | (refine cell_top ?_ rfl; first | with_reducible rfl | (simp only [World.size_alloc, World.size_setCell]; done)) | (refine cell_under ?_ ?_; (first | omega | (simp only [World.size_alloc, World.size_setCell]; omega))) | refine cell_drew ?_)), keepCell b1 (by repeat' (first | with_reducible assumption | (refine cell_top ?_ rfl; first | with_reducible rfl | (simp only [World.size_alloc, World.size_setCell]; done)) | (refine cell_under ?_ ?_; (first | omega | (simp only [World.size_alloc, World.size_setCell]; omega))) | refine cell_drew ?_))⟩
  have hz := b1.size
  simp only [World.size_alloc] at hz
  clear b1 CG
  have l1 := A1.lt
  obtain ⟨a0, a1, a2, a3⟩ := A1
  have B2 : Below w.heap.size w ((w1.alloc (.cells #[.int .i64 F0, .int .i64 F1] 67)).alloc (.cells #[.int .i64 S0, .int .i64 S1] 67)) := (by repeat' (first | with_reducible exact Below.refl _ _ | with_reducible assumption | with_reducible apply Below.alloc | with_reducible apply Below.setCell | with_reducible apply Below.drew | exact Nat.le_refl _ | omega | (simp only [World.size_alloc, World.size_setCell]; omega)))
  have A2 : BoxAt ((w1.alloc (.cells #[.int .i64 F0, .int .i64 F1] 67)).alloc (.cells #[.int .i64 S0, .int .i64 S1] 67)) w.heap.size b.X b.Y b.Whole v := ⟨(by repeat' (first | with_reducible assumption | (refine cell_top ?_ rfl; first | with_reducible rfl | (simp only [World.size_alloc, World.size_setCell]; done)) | (refine cell_under ?_ ?_; (first | omega | (simp only [World.size_alloc, World.size_setCell]; omega))) | refine cell_drew ?_)), (by repeat' (first | with_reducible assumption | (refine cell_top ?_ rfl; first | with_reducible rfl | (simp only [World.size_alloc, World.size_setCell]; done)) | (refine cell_under ?_ ?_; (first | omega | (simp only [World.size_alloc, World.size_setCell]; omega))) | refine cell_drew ?_)), (by repeat' (first | with_reducible assumption | (refine cell_top ?_ rfl; first | with_reducible rfl | (simp only [World.size_alloc, World.size_setCell]; done)) | (refine cell_under ?_ ?_; (first | omega | (simp only [World.size_alloc, World.size_setCell]; omega))) | refine cell_drew ?_)), (by repeat' (first | with_reducible assumption | (refine cell_top ?_ rfl; first | with_reducible rfl | (simp only [World.size_alloc, World.size_setCell]; done)) | (refine cell_under ?_ ?_; (first | omega | (simp only [World.size_alloc, World.size_setCell]; omega))) | refine cell_drew ?_))⟩
  obtain ⟨e0, e1, e2, e3⟩ := id A2
  go_wp2_with fail
  revert A2 B2
  generalize (w1.alloc (.cells #[.int .i64 F0, .int .i64 F1] 67)).alloc (.cells #[.int .i64 S0, .int .i64 S1] 67) = w2 at *
  intro B2 A2
  refine (CQ.out _ (h.kept (Nat.le_refl _) B2)).mono ?_
  rintro e w3 ⟨rfl, b3⟩
  have B3 := B2.trans (b3.mono B2.size)
  have A3 := A2.kept b3 A2.lt
  clear e0 e1 e2 e3 a0 a1 a2 a3 b3 A2 B2
  generalize quietB b = q at *
  obtain ⟨a0, a1, a2, a3⟩ := id A3
  cases q with
  | false =>
    rw [show (true && false) = false from rfl]
    go_wp2
    go_ret
    exact ⟨ret_bool (by rw [HL.out]; rfl), B3⟩
  | true =>
    rw [show (true && true) = true from rfl]
    replace HL := Lib.hid (show localB b = (decide (best ≤ 2 * b.Whole) && (decide (b.X < 3) || (decide (b.Y < 3) || decide (m ≤ 0)))) from HL.out)
    by_cases hgt : 2 * b.Whole < best
    · have HD := Lib.hid (decide_eq_false (show ¬ best ≤ 2 * b.Whole by omega))
      go_wp2
      go_ret
      exact ⟨ret_bool (by rw [HL.out, HD.out]; rfl), B3⟩
    · have hle : best ≤ 2 * b.Whole := by omega
      have HD := Lib.hid (decide_eq_true hle)
      obtain ⟨t, ht⟩ : ∃ t, (true && (decide (b.X = 3) && decide (b.Y = 3))) = t := ⟨_, rfl⟩
      rw [ht] at CT
      have CT3 := CT.out w3 (h.kept (Nat.le_refl _) B3)
      go_wp2_with fail
      refine CT3.mono ?_
      rintro e w4 ⟨rfl, b4⟩
      have B4 := B3.trans (b4.mono B3.size)
      obtain ⟨c0, c1, c2, c3⟩ := A3.kept b4 A3.lt
      clear CT3 CT a0 a1 a2 a3
      cases t with
      | false =>
        have HT : (decide (b.X < 3) || (decide (b.Y < 3) || decide (m ≤ 0))) = true := by
          by_cases h3 : b.X < 3
          · rw [decide_eq_true h3]; rfl
          · by_cases h4 : b.Y < 3
            · rw [decide_eq_true h4, Bool.true_or, Bool.or_true]
            · rw [decide_eq_true (show b.X = 3 by omega), decide_eq_true (show b.Y = 3 by omega)] at ht
              cases ht
        have HH := Lib.hid HT
        clear HT ht
        go_wp2
        go_ret
        exact ⟨ret_bool (by rw [HL.out, HD.out, HH.out]; rfl), B4⟩
      | true =>
        have h34 : b.X = 3 ∧ b.Y = 3 := by simpa using ht
        have HX := Lib.hid (decide_eq_false (show ¬ b.X < 3 by omega))
        have HY := Lib.hid (decide_eq_false (show ¬ b.Y < 3 by omega))
        have CC := CM h34.1 h34.2 w4 (h.kept (Nat.le_refl _) B4)
        clear h34 ht
        go_wp2_with fail
        refine CC.mono ?_
        rintro e w5 ⟨rfl, b5⟩
        go_wp2
        go_ret
        exact ⟨ret_bool (by rw [HL.out, HD.out, HX.out, HY.out]; rfl), B4.trans (b5.mono B4.size)⟩
set_option maxHeartbeats 800000 in
theorem specIsLocal_any (v : Value) (b : BoxD) (w : World) (h : RdII w v b.Rows) :
    Calls Try.prog 28 #[.agg #[.int .i64 b.X, .int .i64 b.Y, .int .i64 b.Whole, v]] w fun e w' => e = .returned (.tuple #[.bool (localOk b), .bool (boxB b)]) ∧ Below w.heap.size w w' := by
  go_enter Try.func28, Try.ntmps28
  go_wp2_with fail
  refine (l2Box_any v b _ (h.kept (Nat.le_refl _) (by repeat' (first | with_reducible exact Below.refl _ _ | with_reducible assumption | with_reducible apply Below.alloc | with_reducible apply Below.setCell | with_reducible apply Below.drew | exact Nat.le_refl _ | omega | (simp only [World.size_alloc, World.size_setCell]; omega))))).mono ?_
  rintro e w1 ⟨rfl, b1⟩
  have B1 : Below w.heap.size w w1 := Below.trans (by repeat' (first | with_reducible exact Below.refl _ _ | with_reducible assumption | with_reducible apply Below.alloc | with_reducible apply Below.setCell | with_reducible apply Below.drew | exact Nat.le_refl _ | omega | (simp only [World.size_alloc, World.size_setCell]; omega))) (b1.mono (by first | exact Nat.le_refl _ | omega | (simp only [World.size_alloc, World.size_setCell]; omega)))
  have A1 : BoxAt w1 w.heap.size b.X b.Y b.Whole v := ⟨keepCell b1 (by repeat' (first | with_reducible assumption | (refine cell_top ?_ rfl; first | with_reducible rfl | (simp only [World.size_alloc, World.size_setCell]; done)) | (refine cell_under ?_ ?_; (first | omega | (simp only [World.size_alloc, World.size_setCell]; omega))) | refine cell_drew ?_)), keepCell b1 (by repeat' (first | with_reducible assumption | (refine cell_top ?_ rfl; first | with_reducible rfl | (simp only [World.size_alloc, World.size_setCell]; done)) | (refine cell_under ?_ ?_; (first | omega | (simp only [World.size_alloc, World.size_setCell]; omega))) | refine cell_drew ?_)), keepCell b1 (by repeat' (first | with_reducible assumption | (refine cell_top ?_ rfl; first | with_reducible rfl | (simp only [World.size_alloc, World.size_setCell]; done)) | (refine cell_under ?_ ?_; (first | omega | (simp only [World.size_alloc, World.size_setCell]; omega))) | refine cell_drew ?_)), keepCell b1 (by repeat' (first | with_reducible assumption | (refine cell_top ?_ rfl; first | with_reducible rfl | (simp only [World.size_alloc, World.size_setCell]; done)) | (refine cell_under ?_ ?_; (first | omega | (simp only [World.size_alloc, World.size_setCell]; omega))) | refine cell_drew ?_))⟩
  clear b1
  rcases Bool.eq_false_or_eq_true (boxB b) with hok | hok
  · obtain ⟨a0, a1, a2, a3⟩ := A1
    have HM := Lib.hid hok
    rw [hok]
    clear hok
    go_wp2_with fail
    refine (l3Local_any v b HM.out _ (h.kept (Nat.le_refl _) B1)).mono ?_
    rintro e w2 ⟨rfl, b2⟩
    have B2 := B1.trans (b2.mono B1.size)
    go_wp2
    refine bodyPost_ret (v := .tuple #[.bool (localB b), .bool true]) (by simp [results, Try.results28, go_sem]) rfl ⟨by unfold localOk; rw [HM.out]; rfl, B2⟩
  · have HM := Lib.hid hok
    rw [hok]
    clear hok
    go_wp2
    refine bodyPost_ret (v := .tuple #[.bool false, .bool false]) (by simp [results, Try.results28, go_sem]) rfl ⟨by unfold localOk; rw [HM.out]; rfl, B1⟩
set_option maxHeartbeats 800000 in
theorem implIsLocal_any (v : Value) (b : BoxD) (w : World) (h : RdII w v b.Rows) :
    Calls Try.prog 29 #[.agg #[.int .i64 b.X, .int .i64 b.Y, .int .i64 b.Whole, v]] w fun e w' => e = .returned (.tuple #[.bool (localOk b), .bool (boxB b)]) ∧ Below w.heap.size w w' := by
  go_enter Try.func29, Try.ntmps29
  go_wp2_with fail
  refine (implIsBox_any v b _ (h.kept (Nat.le_refl _) (by repeat' (first | with_reducible exact Below.refl _ _ | with_reducible assumption | with_reducible apply Below.alloc | with_reducible apply Below.setCell | with_reducible apply Below.drew | exact Nat.le_refl _ | omega | (simp only [World.size_alloc, World.size_setCell]; omega))))).mono ?_
  rintro e w1 ⟨rfl, b1⟩
  have B1 : Below w.heap.size w w1 := Below.trans (by repeat' (first | with_reducible exact Below.refl _ _ | with_reducible assumption | with_reducible apply Below.alloc | with_reducible apply Below.setCell | with_reducible apply Below.drew | exact Nat.le_refl _ | omega | (simp only [World.size_alloc, World.size_setCell]; omega))) (b1.mono (by first | exact Nat.le_refl _ | omega | (simp only [World.size_alloc, World.size_setCell]; omega)))
  have A1 : BoxAt w1 w.heap.size b.X b.Y b.Whole v := ⟨keepCell b1 (by repeat' (first | with_reducible assumption | (refine cell_top ?_ rfl; first | with_reducible rfl | (simp only [World.size_alloc, World.size_setCell]; done)) | (refine cell_under ?_ ?_; (first | omega | (simp only [World.size_alloc, World.size_setCell]; omega))) | refine cell_drew ?_)), keepCell b1 (by repeat' (first | with_reducible assumption | (refine cell_top ?_ rfl; first | with_reducible rfl | (simp only [World.size_alloc, World.size_setCell]; done)) | (refine cell_under ?_ ?_; (first | omega | (simp only [World.size_alloc, World.size_setCell]; omega))) | refine cell_drew ?_)), keepCell b1 (by repeat' (first | with_reducible assumption | (refine cell_top ?_ rfl; first | with_reducible rfl | (simp only [World.size_alloc, World.size_setCell]; done)) | (refine cell_under ?_ ?_; (first | omega | (simp only [World.size_alloc, World.size_setCell]; omega))) | refine cell_drew ?_)), keepCell b1 (by repeat' (first | with_reducible assumption | (refine cell_top ?_ rfl; first | with_reducible rfl | (simp only [World.size_alloc, World.size_setCell]; done)) | (refine cell_under ?_ ?_; (first | omega | (simp only [World.size_alloc, World.size_setCell]; omega))) | refine cell_drew ?_))⟩
  clear b1
  rcases Bool.eq_false_or_eq_true (boxB b) with hok | hok
  · obtain ⟨a0, a1, a2, a3⟩ := A1
    have HM := Lib.hid hok
    rw [hok]
    clear hok
    go_wp2_with fail
    refine (isLocal_any v b HM.out _ (h.kept (Nat.le_refl _) B1)).mono ?_
    rintro e w2 ⟨rfl, b2⟩
    have B2 := B1.trans (b2.mono B1.size)
    go_wp2
    refine bodyPost_ret (v := .tuple #[.bool (localB b), .bool true]) (by simp [results, Try.results29, go_sem]) rfl ⟨by unfold localOk; rw [HM.out]; rfl, B2⟩
  · have HM := Lib.hid hok
    rw [hok]
    clear hok
    go_wp2
    refine bodyPost_ret (v := .tuple #[.bool false, .bool false]) (by simp [results, Try.results29, go_sem]) rfl ⟨by unfold localOk; rw [HM.out]; rfl, B1⟩
end Go.Proofs.Ytadnjljpceeolaa
