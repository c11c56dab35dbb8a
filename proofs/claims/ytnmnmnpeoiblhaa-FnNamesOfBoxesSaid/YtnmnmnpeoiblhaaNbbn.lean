/- What the reference draws for FlipAnswers, PlayOf and AskAgain. -/
import Derived.Test.YtnmnmnpeoiblhaaNbbm
set_option linter.unusedSimpArgs false
set_option linter.unusedVariables false
namespace Go.Proofs.Ytnmnmnpeoiblhaa
open Go.RowKit Go.WideShapes

def BoxFlipsOf (w : World) (e : Ending) (w' : World) : Prop := ∃ (b : BoxD) (xs : List Int) (a a1 : Option Addr) (c c1 : Nat) (vs : List Value), e = .returned (.tuple #[.agg #[.int .i64 b.X, .int .i64 b.Y, .int .i64 b.Whole, .slice a b.Rows.length c], .slice a1 xs.length c1]) ∧ xs.length ≤ 9 ∧
  OwnII 27 3 w.heap.size w'.heap.size w' (.slice a b.Rows.length c) b.Rows vs ∧ OwnV 3 w.heap.size w'.heap.size w' (.slice a1 xs.length c1) (ints xs) ∧ Below w.heap.size w w'
set_option maxRecDepth 20000 in
set_option maxHeartbeats 3200000 in
theorem drawFlipAnswers_any (v : Value) (n : Nat) (w : World) (h : RdB w v n) : Calls Try.prog 6 #[v] w (BoxFlipsOf w) := by
  obtain ⟨va, vcap, rfl⟩ : ∃ a c, v = .slice a n c := by obtain ⟨a, _, _, c, hv, _⟩ := h; exact ⟨a, c, hv⟩
  have Z0 := ZB.made w
  obtain ⟨w0, hw0⟩ : ∃ w0, w0 = w.alloc (.cells #[.int .i64 0, .int .i64 0, .int .i64 0, .slice none 0 0] 26) := ⟨_, rfl⟩
  rw [← hw0] at Z0
  have z0 : w0.heap.size = w.heap.size + 1 := by rw [hw0]; exact World.size_alloc _ _
  have B0 : Below w.heap.size w w0 := by rw [hw0]; exact (Below.refl _ _).alloc (Nat.le_refl _) _
  have hR0 := h.kept B0
  have hc1 : CurB w0.heap.size (.slice va n vcap) n 0 (w0.alloc (.cells #[.slice va n vcap, .int .i64 0, .int .u64 0] 67)) := ⟨Cur.start w0 (.slice va n vcap), hR0.cur _⟩
  have B1 : Below w0.heap.size w0 (w0.alloc (.cells #[.slice va n vcap, .int .i64 0, .int .u64 0] 67)) := (Below.refl _ _).alloc (Nat.le_refl _) _
  have Z1 := Z0.kept B1 Z0.lt
  have CX := box_any w0.heap.size (.slice va n vcap) n 0 _ hc1 (by decide)
  rw [z0] at CX B1 hc1
  rw [hw0] at CX
  go_enter Try.func6, Try.ntmps6
  go_wp2_with fail
  refine CX.mono ?_
  rintro e w5 ⟨b2, a2, c2, s2, rfl, hd2⟩
  rw [← hw0] at hd2
  have Z5 : ZB w5 w.heap.size := (hd2.mid.block w.heap.size Z1.lt (by omega)).trans Z1
  have B5 : Below w.heap.size w w5 := B0.trans ((B1.mono (by omega)).trans (hd2.mid.below (by omega) (by rw [World.size_alloc]; omega)))
  have hsz := hd2.mid.size
  rw [World.size_alloc] at hsz
  obtain ⟨ob, hcb, hmb⟩ := hd2
  clear CX hw0 Z1 B1 hc1 hR0 hmb
  obtain ⟨w6, hw6⟩ : ∃ w6, w6 = w5.alloc (.cells #[.int .i64 b2.X, .int .i64 b2.Y, .int .i64 b2.Whole, .slice a2 b2.Rows.length c2] 26) := ⟨_, rfl⟩
  have b6 : Below w5.heap.size w5 w6 := by rw [hw6]; exact (Below.refl _ _).alloc (Nat.le_refl _) _
  have V6 : BoxAt w6 w5.heap.size b2.X b2.Y b2.Whole (.slice a2 b2.Rows.length c2) := by rw [hw6]; exact BoxAt.top rfl
  have hc6 := hcb.kept (Nat.le_refl _) b6
  have o6 := ob.kept b6 (Nat.le_refl _)
  have Z6 := Z5.kept b6 Z5.lt
  have B6 := B5.trans (b6.mono B5.size)
  have z6 := b6.size
  go_wp2
  rw [← hw6]
  clear hw6 b6 hcb ob Z5 B5
  have hcD := hc6.kept (Nat.le_refl _) ((Below.refl w6.heap.size w6).drew)
  have CP := play_any (w.heap.size + 1) (.slice va n vcap) n (0 + 3000) b2.X b2.Y w6.drew hcD (by decide)
  refine wp_region_held_drew (S := fun W => W.cell? ⟨w5.heap.size, 0, none⟩ = some (.int .i64 b2.X) ∧ W.cell? ⟨w5.heap.size, 1, none⟩ = some (.int .i64 b2.Y) ∧ W.cell? ⟨w5.heap.size, 2, none⟩ = some (.int .i64 b2.Whole) ∧ W.cell? ⟨w5.heap.size, 3, none⟩ = some (.slice a2 b2.Rows.length c2)) (by first | rfl | kernel_rfl) ⟨V6.e0, V6.e1, V6.e2, V6.e3⟩ (fun hHeld => ?_)
  refine wpAnyH_take (i := 0) (v := ?_) rfl (by kernel_rfl) (by kernel_rfl) (by kernel_rfl) (fun _ _ _ h => h) (Or.inl ⟨by rfl, ?_⟩) (by assumption) ?_
  rotate_left
  · (intro w hSw; (try dsimp only at hSw); go_simp; try with_reducible rfl)
  try simp only [Act.put, List.getElem_toArray, List.getElem_cons_zero, List.getElem_cons_succ, List.setIfInBounds_toArray, List.set_cons_zero, List.set_cons_succ]
  refine wpAnyH_take (i := 1) (v := ?_) rfl (by kernel_rfl) (by kernel_rfl) (by kernel_rfl) (fun _ _ _ h => h) (Or.inl ⟨by rfl, ?_⟩) (by assumption) ?_
  rotate_left
  · (intro w hSw; (try dsimp only at hSw); go_simp; try with_reducible rfl)
  try simp only [Act.put, List.getElem_toArray, List.getElem_cons_zero, List.getElem_cons_succ, List.setIfInBounds_toArray, List.set_cons_zero, List.set_cons_succ]
  refine wpAnyH_take (i := 2) (v := ?_) rfl (by kernel_rfl) (by kernel_rfl) (by kernel_rfl) (fun _ _ _ h => h) (Or.inl ⟨by rfl, ?_⟩) (by assumption) ?_
  rotate_left
  · (intro w hSw; (try dsimp only at hSw); go_simp; try with_reducible rfl)
  try simp only [Act.put, List.getElem_toArray, List.getElem_cons_zero, List.getElem_cons_succ, List.setIfInBounds_toArray, List.set_cons_zero, List.set_cons_succ]
  refine wpAnyH_take (i := 3) (v := ?_) rfl (by kernel_rfl) (by kernel_rfl) (by kernel_rfl) (fun _ _ _ h => h) (Or.inl ⟨by rfl, ?_⟩) (by assumption) ?_
  rotate_left
  · (intro w hSw; (try dsimp only at hSw); go_simp; try with_reducible rfl)
  try simp only [Act.put, List.getElem_toArray, List.getElem_cons_zero, List.getElem_cons_succ, List.setIfInBounds_toArray, List.set_cons_zero, List.set_cons_succ]
  refine wpAnyH_take (i := 4) (v := ?_) rfl (by kernel_rfl) (by kernel_rfl) (by kernel_rfl) (fun _ _ _ h => h) (Or.inl ⟨by rfl, ?_⟩) (by assumption) ?_
  rotate_left
  · (intro w hSw; (try dsimp only at hSw); go_simp; try with_reducible rfl)
  try simp only [Act.put, List.getElem_toArray, List.getElem_cons_zero, List.getElem_cons_succ, List.setIfInBounds_toArray, List.set_cons_zero, List.set_cons_succ]
  refine wpAnyH_take (i := 5) (v := ?_) rfl (by kernel_rfl) (by kernel_rfl) (by kernel_rfl) (fun _ _ _ h => h) (Or.inl ⟨by rfl, ?_⟩) (by assumption) ?_
  rotate_left
  · (intro w hSw; (try dsimp only at hSw); go_simp; try with_reducible rfl)
  try simp only [Act.put, List.getElem_toArray, List.getElem_cons_zero, List.getElem_cons_succ, List.setIfInBounds_toArray, List.set_cons_zero, List.set_cons_succ]
  refine wpAnyH_ready (rs := [6]) (by kernel_rfl) (by simp) ?_
  refine AllReadyH.cons rfl (fun K hK => ?_) AllReadyH.nil
  go_simp
  refine CP.mono ?_
  rintro e w7 ⟨⟨xs, a1, c1, rfl, hx9, ox⟩, hc7, hm7⟩
  have hk : ∀ (bk o : Nat) (u : Value), bk ≠ w.heap.size + 1 → w6.cell? ⟨bk, o, none⟩ = some u → w7.cell? ⟨bk, o, none⟩ = some u := fun bk o u hne hu => hm7.keep (by omega) (show w6.drew.cell? ⟨bk, o, none⟩ = some u from hu)
  have V7 : w7.cell? ⟨w5.heap.size, 0, none⟩ = some (.int .i64 b2.X) ∧ w7.cell? ⟨w5.heap.size, 1, none⟩ = some (.int .i64 b2.Y) ∧ w7.cell? ⟨w5.heap.size, 2, none⟩ = some (.int .i64 b2.Whole) ∧ w7.cell? ⟨w5.heap.size, 3, none⟩ = some (.slice a2 b2.Rows.length c2) := ⟨hk _ _ _ (by omega) V6.e0, hk _ _ _ (by omega) V6.e1, hk _ _ _ (by omega) V6.e2, hk _ _ _ (by omega) V6.e3⟩
  have Z7 : ZB w7 w.heap.size := (hm7.block w.heap.size Z6.lt (by omega)).trans Z6
  obtain ⟨e0, e1, e2, e3, ef⟩ := Z7.retAt
  have z7 := hm7.size
  have z7' : w6.heap.size ≤ w7.heap.size := z7
  have ob7 : OwnII 27 3 (w.heap.size + 1) w5.heap.size w7 (.slice a2 b2.Rows.length c2) b2.Rows s2 := (o6.weaken (lo' := w.heap.size + 2) (by rw [World.size_alloc]; omega) (Nat.le_refl _) |>.of_block fun k h1 h2 => hm7.block k (by show k < w6.heap.size; omega) (by omega)).weaken (by omega) (Nat.le_refl _)
  have hend := (ob7.set4 (g := w.heap.size) (by omega) (.int .i64 b2.X) (.int .i64 b2.Y) (.int .i64 b2.Whole) (.slice a2 b2.Rows.length c2)).weaken (lo' := w.heap.size) (hi' := w7.heap.size) (by omega) (by omega)
  have hb4 := set4W_below (w := w7) (r := w.heap.size) (B := w.heap.size) (Nat.le_refl _) (.int .i64 b2.X) (.int .i64 b2.Y) (.int .i64 b2.Whole) (.slice a2 b2.Rows.length c2)
  have oxe : OwnV 3 w.heap.size w7.heap.size (set4W w7 w.heap.size (.int .i64 b2.X) (.int .i64 b2.Y) (.int .i64 b2.Whole) (.slice a2 b2.Rows.length c2)) (.slice a1 xs.length c1) (ints xs) :=
    (ox.of_block fun k hk' => set4W_other (by have := (ox.lt k hk').1; have hz : w6.drew.heap.size = w6.heap.size := rfl; omega) _ _ _ _).weaken (by show w.heap.size ≤ w6.heap.size; omega) (Nat.le_refl _)
  have BE : Below w.heap.size w (set4W w7 w.heap.size (.int .i64 b2.X) (.int .i64 b2.Y) (.int .i64 b2.Whole) (.slice a2 b2.Rows.length c2)) := (B6.trans ((Below.refl _ _).drew.trans (hm7.below (by omega) (by show w.heap.size ≤ w6.heap.size; omega)))).trans hb4
  clear CP ox ob7 hc7 hk hm7 Z7 hb4
  go_wp2_with fail
  refine hK.out _ _ ?_ (fun hHeld => ?_)
  · exact V7
  clear hK K
  try simp only [Act.put, List.setIfInBounds_toArray, List.set_cons_zero, List.set_cons_succ]
  have hbk := set4W_other (w := w7) (r := w.heap.size) (k := w5.heap.size) (by omega) (.int .i64 b2.X) (.int .i64 b2.Y) (.int .i64 b2.Whole) (.slice a2 b2.Rows.length c2)
  have hcc : ∀ j, (set4W w7 w.heap.size (.int .i64 b2.X) (.int .i64 b2.Y) (.int .i64 b2.Whole) (.slice a2 b2.Rows.length c2)).cell? ⟨w5.heap.size, j, none⟩ = w7.cell? ⟨w5.heap.size, j, none⟩ := fun j => World.cell?_of_block (w := w7) (a := ⟨w5.heap.size, j, none⟩) hbk
  have V8 : (set4W w7 w.heap.size (.int .i64 b2.X) (.int .i64 b2.Y) (.int .i64 b2.Whole) (.slice a2 b2.Rows.length c2)).cell? ⟨w5.heap.size, 0, none⟩ = some (.int .i64 b2.X) ∧ (set4W w7 w.heap.size (.int .i64 b2.X) (.int .i64 b2.Y) (.int .i64 b2.Whole) (.slice a2 b2.Rows.length c2)).cell? ⟨w5.heap.size, 1, none⟩ = some (.int .i64 b2.Y) ∧ (set4W w7 w.heap.size (.int .i64 b2.X) (.int .i64 b2.Y) (.int .i64 b2.Whole) (.slice a2 b2.Rows.length c2)).cell? ⟨w5.heap.size, 2, none⟩ = some (.int .i64 b2.Whole) ∧ (set4W w7 w.heap.size (.int .i64 b2.X) (.int .i64 b2.Y) (.int .i64 b2.Whole) (.slice a2 b2.Rows.length c2)).cell? ⟨w5.heap.size, 3, none⟩ = some (.slice a2 b2.Rows.length c2) :=
    ⟨by rw [hcc]; exact V7.1, by rw [hcc]; exact V7.2.1, by rw [hcc]; exact V7.2.2.1, by rw [hcc]; exact V7.2.2.2⟩
  have HV8 := Lib.hid V8
  clear hbk hcc V8
  refine wpAnyH_ready (rs := [7]) (by kernel_rfl) (by simp) ?_
  refine AllReadyH.cons rfl (fun K hK => ?_) AllReadyH.nil
  go_simp
  refine hK.out _ _ ?_ (fun hHeld => ?_)
  · exact HV8.out
  clear hK K
  try simp only [Act.put, List.setIfInBounds_toArray, List.set_cons_zero, List.set_cons_succ]
  refine wpAnyH_take (i := 8) (v := ?_) rfl (by kernel_rfl) (by kernel_rfl) (by kernel_rfl) (fun _ _ _ h => h) (Or.inl ⟨by rfl, ?_⟩) (by assumption) ?_
  rotate_left
  · (intro w hSw; (try dsimp only at hSw); go_simp; try with_reducible rfl)
  try simp only [Act.put, List.getElem_toArray, List.getElem_cons_zero, List.getElem_cons_succ, List.setIfInBounds_toArray, List.set_cons_zero, List.set_cons_succ]
  refine wpAnyH_done (by kernel_rfl) ?_ _
  clear hHeld
  go_wp2
  refine bodyPost_ret (v := .tuple #[.agg #[.int .i64 b2.X, .int .i64 b2.Y, .int .i64 b2.Whole, .slice a2 b2.Rows.length c2], .slice a1 xs.length c1]) ?_ rfl ?_
  · simp [results, Try.results6, go_sem, e0, e1, e2, e3]
  · exact ⟨b2, xs, a2, a1, c2, c1, s2, rfl, hx9, by simp only [World.size_setCell]; exact hend, by simp only [World.size_setCell]; exact oxe, BE⟩
set_option maxRecDepth 20000 in
set_option maxHeartbeats 3200000 in
theorem drawPlayOf_any (v : Value) (n : Nat) (w : World) (h : RdB w v n) : Calls Try.prog 20 #[v] w (BoxOf w) := by
  obtain ⟨va, vcap, rfl⟩ : ∃ a c, v = .slice a n c := by obtain ⟨a, _, _, c, hv, _⟩ := h; exact ⟨a, c, hv⟩
  have Z0 := ZB.made w
  obtain ⟨w0, hw0⟩ : ∃ w0, w0 = w.alloc (.cells #[.int .i64 0, .int .i64 0, .int .i64 0, .slice none 0 0] 26) := ⟨_, rfl⟩
  rw [← hw0] at Z0
  have z0 : w0.heap.size = w.heap.size + 1 := by rw [hw0]; exact World.size_alloc _ _
  have B0 : Below w.heap.size w w0 := by rw [hw0]; exact (Below.refl _ _).alloc (Nat.le_refl _) _
  have hR0 := h.kept B0
  obtain ⟨w1, hw1⟩ : ∃ w1, w1 = w0.alloc (.cells #[.slice va n vcap, .int .i64 0, .int .u64 0] 67) := ⟨_, rfl⟩
  have hc1 : CurB w0.heap.size (.slice va n vcap) n 0 w1 := by rw [hw1]; exact ⟨Cur.start w0 (.slice va n vcap), hR0.cur _⟩
  have B1 : Below w0.heap.size w0 w1 := by rw [hw1]; exact (Below.refl _ _).alloc (Nat.le_refl _) _
  have z1 : w1.heap.size = w.heap.size + 2 := by rw [hw1, World.size_alloc, z0]
  have Z1 := Z0.kept B1 Z0.lt
  rw [z0] at B1 hc1
  have C1 := sizes_any (w.heap.size + 1) (.slice va n vcap) n 0 w1 hc1 (by decide)
  have HR1 := Lib.hid hc1.rd
  rw [hw1, hw0] at C1
  have BW : Below w.heap.size w w1 := B0.trans (B1.mono (by omega))
  go_enter Try.func20, Try.ntmps20
  go_wp2_with fail
  refine C1.mono ?_
  rintro e w2 ⟨x, y, rfl, hxy, hc2, hm2⟩
  rw [← hw0, ← hw1] at hm2
  clear C1 hw0 hw1 hxy
  have CSZ := fun W => l2Sizes_any x y W
  have hz2 := hm2.size
  rcases Bool.eq_false_or_eq_true (sizesB x y) with hs | hs
  · rw [hs] at CSZ
    have C2 := one_any (w.heap.size + 1) (.slice va n vcap) n (0 + 8) 2 w2 hc2.cur hc2.rd (by decide) (by decide) (by decide)
    have HS := Lib.hid hs
    obtain ⟨hx, hy⟩ := sizesB_iff.1 hs
    clear hs
    go_wp2_with fail
    refine (CSZ _).mono ?_
    rintro e wa ⟨rfl, rfl⟩
    go_wp2_with fail
    refine C2.mono ?_
    rintro e w3 ⟨b, rfl, hc3, hm3⟩
    have h3 := hc2.step hc3 hm3
    have m3 := hm2.trans hm3
    have z3 := hm3.size
    clear CSZ C2 hc2 hc3 hm2 hm3
    cases b with
    | true =>
      obtain ⟨X, rfl⟩ := Int.eq_ofNat_of_zero_le (show 0 ≤ x by omega)
      obtain ⟨Y, rfl⟩ := Int.eq_ofNat_of_zero_le (show 0 ≤ y by omega)
      have CP := l2Plays_any X Y (by omega) (by omega) w3
      go_wp2_with fail
      refine CP.mono ?_
      rintro e w4 ⟨pa, pc, ps, rfl, op, b4⟩
      obtain ⟨N, hN⟩ : ∃ N, N = X + Y := ⟨_, rfl⟩
      obtain ⟨M, hM⟩ : ∃ M, M = 2 ^ N := ⟨_, rfl⟩
      rw [← hN, ← hM] at op ⊢
      have hpl : (playsTo N M).length = M := by simp [playsTo]
      rw [hpl] at op ⊢
      have hM1 : 0 < M := by rw [hM]; exact Nat.two_pow_pos _
      have hM64 : M ≤ 64 := by rw [hM]; exact Nat.le_trans (Nat.pow_le_pow_right (by omega) (show N ≤ 6 by omega)) (by decide)
      have HNM := Lib.hid (And.intro hN hM)
      have h4 := h3.kept (Nat.le_refl _) b4
      have m4 := m3.trans (Mid.of_below b4 (Nat.le_refl _))
      have z4 := b4.size
      obtain ⟨gp, rfl, hg0, hg1, hcp⟩ := plays_own op hM1
      obtain ⟨pv, hpv⟩ : ∃ pv : Nat → Value, ∀ k, pv k = ps.getD k (.bool false) := ⟨fun k => ps.getD k (.bool false), fun k => rfl⟩
      have HPV := Lib.hid hpv
      have hS1 : ∀ k, k < M → w4.drew.cell? ⟨gp, k, none⟩ = some (pv k) := fun k hk => by rw [hpv]; exact (hcp k hk).1
      have hcD := h4.kept (Nat.le_refl _) ((Below.refl w4.heap.size w4).drew)
      have mD := m4.trans (Mid.of_below ((Below.refl w4.heap.size w4).drew) (Nat.le_refl _))
      have oD : OwnII 27 3 w3.heap.size w4.heap.size w4.drew (.slice (some ⟨gp, 0, none⟩) M pc) (playsTo N M) ps := op.of_block (fun _ _ _ => rfl)
      clear CP hpl hN hM b4 hpv hcp h3 m3 h4 m4 op
      go_wp2
      refine wp_region_cut_held (S := fun W => ∀ k, k < M → W.cell? ⟨gp, k, none⟩ = some (pv k)) 13 _ rfl (by kernel_rfl) (by kernel_rfl) hS1 (fun hHeld => ?_)
      simp only [List.take_succ_cons, List.take_zero]
      refine wpAnyH_take (i := 0) (v := ?_) rfl (by kernel_rfl) (by kernel_rfl) (by kernel_rfl) (fun _ _ _ h => h) (Or.inl ⟨by rfl, ?_⟩) (by assumption) ?_
      rotate_left
      · (intro w hSw; (try dsimp only at hSw); go_simp; try with_reducible rfl)
      try simp only [Act.put, List.getElem_toArray, List.getElem_cons_zero, List.getElem_cons_succ, List.setIfInBounds_toArray, List.set_cons_zero, List.set_cons_succ]
      refine wpAnyH_take (i := 1) (v := ?_) rfl (by kernel_rfl) (by kernel_rfl) (by kernel_rfl) (fun _ _ _ h => h) (Or.inl ⟨by rfl, ?_⟩) (by assumption) ?_
      rotate_left
      · (intro w hSw; (try dsimp only at hSw); go_simp; try with_reducible rfl)
      try simp only [Act.put, List.getElem_toArray, List.getElem_cons_zero, List.getElem_cons_succ, List.setIfInBounds_toArray, List.set_cons_zero, List.set_cons_succ]
      refine wpAnyH_take (i := 2) (v := ?_) rfl (by kernel_rfl) (by kernel_rfl) (by kernel_rfl) (fun _ _ _ h => h) (Or.inl ⟨by rfl, ?_⟩) (by assumption) ?_
      rotate_left
      · (intro w hSw; (try dsimp only at hSw); go_simp; try with_reducible rfl)
      try simp only [Act.put, List.getElem_toArray, List.getElem_cons_zero, List.getElem_cons_succ, List.setIfInBounds_toArray, List.set_cons_zero, List.set_cons_succ]
      refine wpAnyH_take (i := 3) (v := ?_) rfl (by kernel_rfl) (by kernel_rfl) (by kernel_rfl) (fun _ _ _ h => h) (Or.inl ⟨by rfl, ?_⟩) (by assumption) ?_
      rotate_left
      · (intro w hSw; (try dsimp only at hSw); go_simp; try with_reducible rfl)
      try simp only [Act.put, List.getElem_toArray, List.getElem_cons_zero, List.getElem_cons_succ, List.setIfInBounds_toArray, List.set_cons_zero, List.set_cons_succ]
      refine wpAnyH_take (i := 4) (v := ?_) rfl (by kernel_rfl) (by kernel_rfl) (by kernel_rfl) (fun _ _ _ h => h) (Or.inl ⟨by rfl, ?_⟩) (by assumption) ?_
      rotate_left
      · (intro w hSw; (try dsimp only at hSw); go_simp; try with_reducible rfl)
      try simp only [Act.put, List.getElem_toArray, List.getElem_cons_zero, List.getElem_cons_succ, List.setIfInBounds_toArray, List.set_cons_zero, List.set_cons_succ]
      refine wpAnyH_take (i := 5) (v := ?_) rfl (by kernel_rfl) (by kernel_rfl) (by kernel_rfl) (fun _ _ _ h => h) (Or.inl ⟨by rfl, ?_⟩) (by assumption) ?_
      rotate_left
      · (intro w hSw; (try dsimp only at hSw); go_simp; try with_reducible rfl)
      try simp only [Act.put, List.getElem_toArray, List.getElem_cons_zero, List.getElem_cons_succ, List.setIfInBounds_toArray, List.set_cons_zero, List.set_cons_succ]
      refine wpAnyH_take (i := 9) (v := ?_) rfl (by kernel_rfl) (by kernel_rfl) (by kernel_rfl) (fun _ _ _ h => h) (Or.inl ⟨by rfl, ?_⟩) (by assumption) ?_
      rotate_left
      · (intro w hSw; (try dsimp only at hSw); go_simp; try with_reducible rfl)
      try simp only [Act.put, List.getElem_toArray, List.getElem_cons_zero, List.getElem_cons_succ, List.setIfInBounds_toArray, List.set_cons_zero, List.set_cons_succ]
      refine wpAnyH_ready (rs := [6]) (by kernel_rfl) (by simp) ?_
      refine AllReadyH.cons rfl (fun K hK => ?_) AllReadyH.nil
      go_simp
      have C1 := pick_any (w.heap.size + 1) (.slice va n vcap) n (0 + 8 + 2) M w4.drew hcD.cur hcD.rd (by decide) (by omega) (by omega)
      refine C1.mono ?_
      rintro e w6 ⟨k, rfl, hk, hc6, hm6⟩
      have h6 := hcD.step hc6 hm6
      have m6 := mD.trans hm6
      have o6 := oD.mid hm6 (Or.inr (by omega))
      have hS6 : ∀ k, k < M → w6.cell? ⟨gp, k, none⟩ = some (pv k) := fun j hj => hm6.keep (Or.inr (by omega)) (hS1 j hj)
      have z6 : w4.heap.size ≤ w6.heap.size := hm6.size
      have hki : (k : Int) < (M : Int) := by omega
      have hk0 : (0 : Int) ≤ (k : Int) := by omega
      clear C1 hc6 hcD mD oD
      go_wp2_with fail
      refine hK.out _ _ ?_ (fun hHeld => ?_)
      · exact hS6
      clear hK K
      try simp only [Act.put, List.setIfInBounds_toArray, List.set_cons_zero, List.set_cons_succ]
      refine wpAnyH_take (i := 7) (v := ?_) rfl (by kernel_rfl) (by kernel_rfl) (by kernel_rfl) (fun _ _ _ h => h) (Or.inl ⟨by rfl, ?_⟩) (by assumption) ?_
      rotate_left
      · (intro w hSw; (try dsimp only at hSw); go_simp; try with_reducible rfl)
      try simp only [Act.put, List.getElem_toArray, List.getElem_cons_zero, List.getElem_cons_succ, List.setIfInBounds_toArray, List.set_cons_zero, List.set_cons_succ]
      refine wpAnyH_take (i := 8) (v := ?_) rfl (by kernel_rfl) (by kernel_rfl) (by kernel_rfl) (fun _ _ _ h => h) (Or.inl ⟨by rfl, ?_⟩) (by assumption) ?_
      rotate_left
      · (intro w hSw; (try dsimp only at hSw); go_simp; try with_reducible rfl)
      try simp only [Act.put, List.getElem_toArray, List.getElem_cons_zero, List.getElem_cons_succ, List.setIfInBounds_toArray, List.set_cons_zero, List.set_cons_succ]
      refine wpAnyH_ready (rs := [10]) (by kernel_rfl) (by simp) ?_
      refine AllReadyH.cons rfl (fun K hK => ?_) AllReadyH.nil
      go_simp
      have C2 := pick_any (w.heap.size + 1) (.slice va n vcap) n (0 + 8 + 2 + 2) 5 w6 h6.cur h6.rd (by decide) (by decide) (by decide)
      refine C2.mono ?_
      rintro e w7 ⟨q, rfl, hqq, hc7, hm7⟩
      have m7 := m6.trans hm7
      have o7 := o6.mid hm7 (Or.inr (by omega))
      have hS7 : ∀ k, k < M → w7.cell? ⟨gp, k, none⟩ = some (pv k) := fun j hj => hm7.keep (Or.inr (by omega)) (hS6 j hj)
      have z7 := hm7.size
      have hwq := wrap_in (1 + (q : Int)) (by omega) (by omega)
      clear C2 hc7 m6 o6 h6
      go_wp2_with fail
      refine hK.out _ _ ?_ (fun hHeld => ?_)
      · exact hS7
      clear hK K
      try simp only [Act.put, List.setIfInBounds_toArray, List.set_cons_zero, List.set_cons_succ]
      refine wpAnyH_take (i := 11) (v := ?_) rfl (by kernel_rfl) (by kernel_rfl) (by kernel_rfl) (fun _ _ _ h => h) (Or.inl ⟨by rfl, ?_⟩) (by assumption) ?_
      rotate_left
      · (intro w hSw; (try dsimp only at hSw); go_simp; try with_reducible rfl)
      try simp only [Act.put, List.getElem_toArray, List.getElem_cons_zero, List.getElem_cons_succ, List.setIfInBounds_toArray, List.set_cons_zero, List.set_cons_succ]
      refine wpAnyH_ready (rs := [12]) (by kernel_rfl) (by simp) ?_
      refine AllReadyH.cons rfl (fun K hK => ?_) AllReadyH.nil
      go_simp
      obtain ⟨gq, hgq, _, _, hcp⟩ := plays_own o7 hM1
      obtain rfl : gp = gq := by simpa using hgq
      clear hgq
      have C3 := pbox_any X Y N k q (pv k) HS.out HNM.out.1 w7 (by rw [HPV.out]; exact (hcp k hk).2)
      refine C3.mono ?_
      rintro e w5 ⟨a2, c2, s2, rfl, ob, b5⟩
      have m5 := m7.trans (Mid.of_below b5 (Nat.le_refl _))
      have hS5 : ∀ k, k < M → w5.cell? ⟨gp, k, none⟩ = some (pv k) := fun j hj => keepCell b5 (hS7 j hj)
      clear C3 hcp
      go_wp2_with fail
      refine hK.out _ _ ?_ (fun hHeld => ?_)
      · exact hS5
      clear hK K
      try simp only [Act.put, List.setIfInBounds_toArray, List.set_cons_zero, List.set_cons_succ]
      refine wpAnyH_done (by kernel_rfl) ?_ _
      show wpList _ _ _ _ _ _
      obtain ⟨b2, hb2⟩ : ∃ b2, b2 = boxOf X Y ((1 + q : Nat) : Int) (playN X (bitsTo N k N) ((1 + q : Nat) : Int)) := ⟨_, rfl⟩
      have hbX : b2.X = X := by rw [hb2]; rfl
      have hbY : b2.Y = Y := by rw [hb2]; rfl
      have hbW : b2.Whole = 1 + (q : Int) := by rw [hb2]; show ((1 + q : Nat) : Int) = _; simp
      have hbL : b2.Rows.length = X * Y := by rw [hb2, boxOf_len, Int.toNat_natCast, Int.toNat_natCast]
      rw [← hb2] at ob
      have Z5 : ZB w5 w.heap.size := (m5.block w.heap.size Z1.lt (by omega)).trans Z1
      obtain ⟨e0, e1, e2, e3, ef⟩ := Z5.retAt
      have B5 : Below w.heap.size w w5 := B0.trans ((B1.mono (by omega)).trans (m5.below (by omega) (by omega)))
      have hb4 := set4W_below (w := w5) (r := w.heap.size) (B := w.heap.size) (Nat.le_refl _) (.int .i64 b2.X) (.int .i64 b2.Y) (.int .i64 b2.Whole) (.slice a2 b2.Rows.length c2)
      have BE := B5.trans hb4
      have hend := (ob.set4 (g := w.heap.size) (by omega) (.int .i64 b2.X) (.int .i64 b2.Y) (.int .i64 b2.Whole) (.slice a2 b2.Rows.length c2)).weaken (lo' := w.heap.size) (by omega) (Nat.le_refl _)
      rw [hbX, hbY, hbW, hbL] at hend BE
      have HB := Lib.hid (And.intro hbX (And.intro hbY (And.intro hbW hbL)))
      clear hb2 hbX hbY hbW hbL hb4 B5 Z5 ob hHeld m5 m7 o7
      go_wp2
      refine bodyPost_ret (v := .agg #[.int .i64 X, .int .i64 Y, .int .i64 (1 + (q : Int)), .slice a2 (X * Y) c2]) ?_ rfl ?_
      · simp [results, Try.results20, go_sem, e0, e1, e2, e3]
      · exact ⟨b2, a2, c2, s2, by rw [HB.out.1, HB.out.2.1, HB.out.2.2.1, HB.out.2.2.2], by rw [HB.out.2.2.2]; simp only [World.size_setCell]; exact hend, BE⟩
    | false =>
      have CX := box_any (w.heap.size + 1) (.slice va n vcap) n (0 + 8 + 2) w3 h3 (by decide)
      go_wp2_with fail
      refine CX.mono ?_
      rintro e w5 ⟨b2, a2, c2, s2, rfl, hd2⟩
      have m5 := m3.trans hd2.mid
      have Z5 : ZB w5 w.heap.size := (m5.block w.heap.size Z1.lt (by omega)).trans Z1
      obtain ⟨e0, e1, e2, e3, ef⟩ := Z5.retAt
      have B5 : Below w.heap.size w w5 := B0.trans ((B1.mono (by omega)).trans (m5.below (by omega) (by omega)))
      have hb4 := set4W_below (w := w5) (r := w.heap.size) (B := w.heap.size) (Nat.le_refl _) (.int .i64 b2.X) (.int .i64 b2.Y) (.int .i64 b2.Whole) (.slice a2 b2.Rows.length c2)
      have BE := B5.trans hb4
      have hend := (hd2.own.set4 (g := w.heap.size) (by omega) (.int .i64 b2.X) (.int .i64 b2.Y) (.int .i64 b2.Whole) (.slice a2 b2.Rows.length c2)).weaken (lo' := w.heap.size) (by omega) (Nat.le_refl _)
      clear CX hd2 hb4 Z5 B5
      go_wp2
      refine bodyPost_ret (v := .agg #[.int .i64 b2.X, .int .i64 b2.Y, .int .i64 b2.Whole, .slice a2 b2.Rows.length c2]) ?_ rfl ?_
      · simp [results, Try.results20, go_sem, e0, e1, e2, e3]
      · exact ⟨b2, a2, c2, s2, rfl, by simp only [World.size_setCell]; exact hend, BE⟩
  · rw [hs] at CSZ
    have CX := box_any (w.heap.size + 1) (.slice va n vcap) n (0 + 8) w2 hc2 (by decide)
    have m3 := hm2
    have z3 : w1.heap.size ≤ w2.heap.size := hz2
    clear hs
    go_wp2_with fail
    refine (CSZ _).mono ?_
    rintro e wa ⟨rfl, rfl⟩
    clear CSZ
    go_wp2_with fail
    refine CX.mono ?_
    rintro e w5 ⟨b2, a2, c2, s2, rfl, hd2⟩
    have m5 := m3.trans hd2.mid
    have Z5 : ZB w5 w.heap.size := (m5.block w.heap.size Z1.lt (by omega)).trans Z1
    obtain ⟨e0, e1, e2, e3, ef⟩ := Z5.retAt
    have B5 : Below w.heap.size w w5 := B0.trans ((B1.mono (by omega)).trans (m5.below (by omega) (by omega)))
    have hb4 := set4W_below (w := w5) (r := w.heap.size) (B := w.heap.size) (Nat.le_refl _) (.int .i64 b2.X) (.int .i64 b2.Y) (.int .i64 b2.Whole) (.slice a2 b2.Rows.length c2)
    have BE := B5.trans hb4
    have hend := (hd2.own.set4 (g := w.heap.size) (by omega) (.int .i64 b2.X) (.int .i64 b2.Y) (.int .i64 b2.Whole) (.slice a2 b2.Rows.length c2)).weaken (lo' := w.heap.size) (by omega) (Nat.le_refl _)
    clear CX hd2 hb4 Z5 B5
    go_wp2
    refine bodyPost_ret (v := .agg #[.int .i64 b2.X, .int .i64 b2.Y, .int .i64 b2.Whole, .slice a2 b2.Rows.length c2]) ?_ rfl ?_
    · simp [results, Try.results20, go_sem, e0, e1, e2, e3]
    · exact ⟨b2, a2, c2, s2, rfl, by simp only [World.size_setCell]; exact hend, BE⟩
end Go.Proofs.Ytnmnmnpeoiblhaa
