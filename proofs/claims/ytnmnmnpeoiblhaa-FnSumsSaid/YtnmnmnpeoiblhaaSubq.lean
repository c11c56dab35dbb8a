/- MixtureBox: the reference's mixture. -/
import Derived.Test.YtnmnmnpeoiblhaaSuan
import Derived.Test.YtnmnmnpeoiblhaaSubg
import Derived.Test.YtnmnmnpeoiblhaaSuai
set_option linter.unusedSimpArgs false
set_option linter.unusedVariables false
namespace Go.Proofs.Ytnmnmnpeoiblhaa
open Go.RowKit

theorem upd_row {R : List (List Int)} {k q : Nat} {rs : List Int} {z s : Int} (hk : R[k]? = some rs) (hz : rs[q]? = some z) : upd R k q s = R.set k (rs.set q (z + s)) := by
  unfold upd
  rw [List.getD_eq_getElem?_getD, hk, Option.getD_some, List.getD_eq_getElem?_getD, hz, Option.getD_some]
theorem zeroR_succ (k : Nat) : zeroR (k + 1) = zeroR k ++ [[0, 0, 0, 0]] := by unfold zeroR; rw [List.replicate_succ']
theorem divmod_bound {N X Y k : Nat} (hN : X * Y = N) (hk : k < N) (hY : 1 ≤ Y) : k / Y < X ∧ k % Y < Y := by
  refine ⟨?_, Nat.mod_lt _ hY⟩
  rw [Nat.div_lt_iff_lt_mul hY]
  omega

/-- The play's bits. -/
theorem plays_row {n M i : Nat} {w : World} {v : Value} (h : RdII w v (playsTo n M)) (hi : i < M) (h0 : 0 < n) : ∃ pb po pc qb qo qc : Nat, v = .slice (some ⟨pb, po, none⟩) M pc ∧ w.cell? ⟨pb, po + i, none⟩ = some (.slice (some ⟨qb, qo, none⟩) n qc) ∧
    ∀ j : Nat, j < n → ∃ b : Nat, b ≤ 1 ∧ bitN (bitsTo n i n) j = b ∧ w.cell? ⟨qb, qo + j, none⟩ = some (.int .i64 (b : Int)) := by
  obtain ⟨a, pb, po, pc, hv, _, ha, hc⟩ := h
  have hpl : (playsTo n M).length = M := by simp [playsTo]
  rw [hpl] at hv ha
  obtain rfl := ha (by omega)
  obtain ⟨v', h1, qa, qb, qo, qc, hq, _, hqa, hqc⟩ := hc i _ (playsTo_get hi)
  have hbl : (bitsTo n i n).length = n := by simp [bitsTo]
  rw [hbl] at hq hqa
  obtain rfl := hqa h0
  subst hq
  refine ⟨pb, po, pc, qb, qo, qc, hv, h1, fun j hj => ?_⟩
  obtain ⟨b, hb, hg, hbn⟩ := bitsTo_bit (n := n) (k := i) hj
  exact ⟨b, hb, hbn, hqc j _ hg⟩
set_option maxRecDepth 20000 in
set_option maxHeartbeats 8000000 in
theorem l3Mixture_any (X Y : Nat) (hX : 1 ≤ X ∧ X ≤ 3) (hY : 1 ≤ Y ∧ Y ≤ 3) (v : Value) (xs : List Int) (w : World) (h : RdI w v xs) (hl : xs.length = 2 ^ (X + Y)) (hx : allIn xs 0 1000 = true) (hsum : xs.sum ≤ 1000) :
    Calls Try.prog 115 #[.int .i64 X, .int .i64 Y, v] w (BoxOnly w X Y xs.sum (mixR X Y (playsTo (X + Y) (2 ^ (X + Y))) xs (2 ^ (X + Y)))) := by
  obtain ⟨a1, b1, o1, k1, rfl, m1, e1, d1⟩ := h
  unfold maxLen at m1
  obtain ⟨M, hM⟩ : ∃ M, M = 2 ^ (X + Y) := ⟨_, rfl⟩
  have hM0 : 0 < M := by rw [hM]; exact Nat.two_pow_pos _
  have hM64 : M ≤ 64 := by rw [hM]; exact Nat.le_trans (Nat.pow_le_pow_right (by omega) (show X + Y ≤ 6 by omega)) (by decide)
  obtain ⟨N, hN⟩ : ∃ N, X * Y = N := ⟨_, rfl⟩
  have hN9 : N ≤ 9 := by rw [← hN]; exact Nat.mul_le_mul (show X ≤ 3 by omega) (show Y ≤ 3 by omega)
  have hNi : (X : Int) * (Y : Int) = (N : Int) := by rw [← hN]; simp
  have hNw : IntKind.i64.wrap (N : Int) = (N : Int) := wrap_in _ (by omega) (by omega)
  rw [← hM] at hl
  obtain rfl := e1 (by omega)
  have HXS := Lib.hid (And.intro hl (And.intro hx d1))
  have HN := Lib.hid hN
  have HM := Lib.hid hM
  have hx4 : xs.length ≤ 64 := by omega
  have hlen : ((xs.length : Nat) : Int) = (M : Int) := by omega
  clear hl hx d1 e1 hN hM
  go_enter Try.func115, Try.ntmps115
  go_wp2
  obtain ⟨W3, hW3⟩ : ∃ W3, W3 = (((w.alloc (.cells #[.int .i64 0, .int .i64 0, .int .i64 0, .slice none 0 0] 26)).alloc (.cells #[] 27)).alloc (.cells #[.int .i64 X, .int .i64 Y, .int .i64 0, .slice (some ⟨w.heap.size + 1, 0, none⟩) 0 0] 26)) := ⟨_, rfl⟩
  obtain ⟨hst, hB3, hs3⟩ := BoxRel.start3 (w.alloc (.cells #[.int .i64 0, .int .i64 0, .int .i64 0, .slice none 0 0] 26)) W3 (w.heap.size + 1) X Y 0 (World.size_alloc _ _) hW3
  have hret3 : RetAt W3 w.heap.size := by rw [hW3]; exact (by repeat' (first | with_reducible assumption | (refine RetAt.top ?_; first | with_reducible rfl | (simp only [World.size_alloc, World.size_setCell]; done)) | refine RetAt.under ?_))
  have BW : Below w.heap.size w W3 := by rw [hW3]; exact (by repeat' (first | with_reducible exact Below.refl _ _ | with_reducible assumption | with_reducible apply Below.alloc | with_reducible apply Below.setCell | with_reducible apply Below.drew | exact Nat.le_refl _ | omega | (simp only [World.size_alloc, World.size_setCell]; omega)))
  have HW := Lib.hid hW3
  clear hW3 hB3
  go_loopw [8] (fun s wr => ∃ k : Nat, k ≤ N ∧ s = .int .i64 k ∧ ∃ a c vs, BoxRel W3 (w.heap.size + 1) (w.heap.size + 1 + 1) (w.heap.size + 1) wr X Y 0 (zeroR k) a c vs) (fun s _ => N - (intOf s).toNat)
  case atStart => exact ⟨0, by omega, rfl, _, _, _, by rw [← HW.out]; simpa [zeroR] using hst⟩
  case round =>
    clear hst
    obtain ⟨k, hk, rfl, a, c, vs, hR⟩ := hrel
    by_cases hlt : k < N
    · obtain ⟨wd, rfl⟩ : ∃ wd, wd = wr := ⟨_, rfl⟩
      have hlen4 := hR.rows.len
      have hzl : (zeroR k).length = k := by simp [zeroR]
      rw [hzl] at hlen4
      obtain ⟨⟨g0, g1, g2, g3⟩, gf⟩ := hR.cells
      have ht := hR.rows.top
      rw [hzl] at g3 ht
      have HLwd := hR.lt
      have hlo := hR.b4
      have HV := Lib.hid hR
      have HZ := Lib.hid (And.intro (zeroR_succ k) (And.intro hzl hlen4))
      have hmk : ∀ W : World, (Instr.makeSlice 27 (.int .i64 4) (.int .i64 4)).run Try.prog W = .ok (.slice (some ⟨W.heap.size, 0, none⟩) 4 4) (W.alloc (.cells zero4 3)) := mk4_run
      have hvl : vs.length ≤ 9 := by omega
      have KS := Lib.hid (fun (W : World) (h : Below wd.heap.size wd W) => keepAt h HLwd g3)
      clear hR g0 g1 g2 hzl hlen4
      go_wp2
      refine wp_region_cut_held (S := fun W => W.cell? ⟨w.heap.size + 1 + 1, 3, none⟩ = some (.slice a k c)) 6 _ rfl (by kernel_rfl) (by kernel_rfl) (KS.out _ (Below.refl _ _).drew) (fun hHeld => ?_)
      simp only [List.take_succ_cons, List.take_zero]
      refine wpAnyH_take (i := 0) (v := ?_) rfl (by kernel_rfl) (by kernel_rfl) (by kernel_rfl) (fun _ _ _ h => h) (Or.inl ⟨by rfl, ?_⟩) (by assumption) ?_
      rotate_left
      · (intro w hSw; (try dsimp only at hSw); go_simp; try with_reducible rfl)
      try simp only [Act.put, List.setIfInBounds_toArray, List.set_cons_zero, List.set_cons_succ]
      refine wpAnyH_take (i := 1) (v := ?_) rfl (by kernel_rfl) (by kernel_rfl) (by kernel_rfl) (fun _ _ _ h => h) (Or.inl ⟨by rfl, ?_⟩) (by assumption) ?_
      rotate_left
      · (intro w hSw; (try dsimp only at hSw); go_simp; try with_reducible rfl)
      try simp only [Act.put, List.setIfInBounds_toArray, List.set_cons_zero, List.set_cons_succ]
      refine wpAnyH_ready (rs := [2]) (by kernel_rfl) (by simp) ?_
      refine AllReadyH.cons rfl (fun K hK => ?_) AllReadyH.nil
      go_simp
      refine hK.out _ _ ?_ (fun hHeld => ?_)
      · exact KS.out _ ((Below.refl _ _).drew.alloc (Nat.le_refl _) _)
      clear hK K
      try simp only [Act.put, List.setIfInBounds_toArray, List.set_cons_zero, List.set_cons_succ]
      refine wpAnyH_ready (rs := [3]) (by kernel_rfl) (by simp) ?_
      refine AllReadyH.cons rfl (fun K hK => ?_) AllReadyH.nil
      go_simp
      refine hK.out _ _ ?_ (fun hHeld => ?_)
      · exact KS.out _ (((Below.refl _ _).drew.alloc (Nat.le_refl _) _).alloc (by show wd.heap.size ≤ (wd.alloc _).heap.size; rw [World.size_alloc]; omega) _)
      clear hK K
      try simp only [Act.put, List.setIfInBounds_toArray, List.set_cons_zero, List.set_cons_succ]
      refine wpAnyH_ready (rs := [4]) (by kernel_rfl) (by simp) ?_
      refine AllReadyH.cons rfl (fun K hK => ?_) AllReadyH.nil
      refine step_append1 (u := .slice (some ⟨wd.heap.size, 0, none⟩) 4 4) (m := wd.heap.size + 1) (by rfl) _ _ 24 27 (by rfl) Try.underlying24 Try.infoInts rfl (ht.kept (B := wd.heap.size) (by repeat' (first | with_reducible exact Below.refl _ _ | with_reducible assumption | with_reducible apply Below.alloc | with_reducible apply Below.setCell | with_reducible apply Below.drew | exact Nat.le_refl _ | omega | (simp only [World.size_alloc, World.size_setCell]; omega))) (Nat.le_refl _)) (by rfl) (by rfl) (by repeat' (first | with_reducible assumption | (refine cell_top ?_ rfl; first | with_reducible rfl | (simp only [World.size_alloc, World.size_setCell]; done)) | (refine cell_under ?_ ?_; (first | omega | (simp only [World.size_alloc, World.size_setCell]; omega))) | refine cell_drew ?_)) rfl (by omega) (by omega) (by show w.heap.size + 1 ≤ ((wd.drew.alloc _).alloc _).heap.size; simp only [World.size_alloc]; show w.heap.size + 1 ≤ wd.heap.size + 1 + 1; omega) ?_
      intro a2 c2 w2 hT2 hg2
      obtain ⟨⟨hp1, f1, f2⟩, hBm⟩ := HV.out.push_lit [0, 0, 0, 0] (by simp [maxLen]) (cs := zero4) rfl hT2 (by rw [HZ.out.2.1]; exact hg2) (by rw [HZ.out.2.2]; simp [HZ.out.2.1])
      rw [HZ.out.2.1] at f1
      refine hK.out _ _ ?_ (fun hHeld => ?_)
      · exact f1
      clear hK K
      try simp only [Act.put, List.setIfInBounds_toArray, List.set_cons_zero, List.set_cons_succ]
      refine wpAnyH_take (i := 5) (v := ?_) rfl (by kernel_rfl) (by kernel_rfl) (by kernel_rfl) (fun _ _ _ h => h) (Or.inl ⟨by rfl, ?_⟩) (by assumption) ?_
      rotate_left
      · (intro w hSw; (try dsimp only at hSw); go_simp; try with_reducible rfl)
      try simp only [Act.put, List.setIfInBounds_toArray, List.set_cons_zero, List.set_cons_succ]
      refine wpAnyH_done (by kernel_rfl) ?_ _
      show wpList _ _ _ _ _ _
      rw [← HZ.out.1] at hp1
      clear ht hmk
      go_wp2
      go_roundw
      case rel => exact ⟨k + 1, by omega, by go_num, a2, c2, _, hp1⟩
      case measure => simp [intOf]; omega
    · obtain rfl : k = N := by omega
      obtain ⟨wq, rfl⟩ : ∃ W, W = wr := ⟨_, rfl⟩
      have hzl : (zeroR k).length = k := by simp [zeroR]
      have hret := hret3.kept hR.below (by omega)
      have B4 : Below w.heap.size w wq := BW.trans (hR.below.mono (by omega))
      have hgb := hR.lt
      have hrows := hR.rows
      have hbox := hR.box
      rw [hzl] at hrows hbox
      have CPL := l2Plays_any X Y hX hY wq
      rw [← HM.out] at CPL
      have hpl : (playsTo (X + Y) M).length = M := by simp [playsTo]
      rw [hpl] at CPL
      clear hR
      go_wp2_with fail
      refine CPL.mono ?_
      rintro e wp ⟨ap, cp, pvs, rfl, oP, bP⟩
      have hzp := bP.size
      have hS0 : MixS (w.heap.size + 1) (w.heap.size + 1 + 1) wq.heap.size wp wp X Y 0 (mixR X Y (playsTo (X + Y) M) xs 0) a k c vs :=
        ⟨by omega, by omega, hzp, by show (zeroR (X * Y)).length = k; rw [HN.out]; exact hzl, by rw [bP.block _ hgb]; exact hbox, by show OwnII _ _ _ _ _ _ (zeroR (X * Y)) _; rw [HN.out]; exact hrows.kept bP (Nat.le_refl _), Mid.refl _ _ _⟩
      have hretp := hret.kept bP (by omega)
      have HP := Lib.hid (fun (i : Nat) (hi : i < M) (W : World) (hm : Mid (w.heap.size + 1) wq.heap.size wp W) => plays_row ((oP.mid hm (Or.inr (Nat.le_refl _))).rdII (T2 := 27) (T1 := 3)) hi (by omega))
      have HXC := Lib.hid (fun (j : Nat) (z : Int) (hz : xs[j]? = some z) (W : World) (hm : Mid (w.heap.size + 1) wq.heap.size wp W) => (by
        have h1 := HXS.out.2.2 j z hz
        have h2 := World.block_lt_of_cell? _ _ h1
        simp only at h2
        have h3 := (B4.trans (bP.mono B4.size)).block b1 h2
        have h4 := hm.block b1 (by have := B4.size; omega) (Or.inl (by omega))
        rw [World.cell?_of_block (w := w) (a := ⟨b1, o1 + j, none⟩) (h4.trans h3)]
        exact h1 : W.cell? ⟨b1, o1 + j, none⟩ = some (.int .i64 z)))
      have HRT := Lib.hid hretp
      have BP := B4.trans (bP.mono B4.size)
      clear hrows hbox CPL hpl hret hretp oP bP B4 hgb hret3 BW HW hs3
      go_wp2
      go_loopw [10] (fun s wz => ∃ i : Nat, i ≤ M ∧ s = .int .i64 i ∧ MixS (w.heap.size + 1) (w.heap.size + 1 + 1) wq.heap.size wp wz X Y (xs.take i).sum (mixR X Y (playsTo (X + Y) M) xs i) a k c vs) (fun s _ => M - (intOf s).toNat)
      case atStart => exact ⟨0, by omega, rfl, by simpa using hS0⟩
      case round =>
        clear hS0
        obtain ⟨i, hi, rfl, hS⟩ := hrel
        obtain ⟨⟨g0, g1, g2, g3⟩, gf⟩ := hS.cells
        by_cases hlt2 : i < M
        · have hil : i < xs.length := by omega
          have hxi := List.getElem?_eq_getElem hil
          have hzb := allIn_get HXS.out.2.1 hxi
          have hst := sum_take xs i _ hxi
          have hub := sum_take_bound xs 0 1000 (by omega) (by omega) (fun j x hj => allIn_get HXS.out.2.1 hj) i
          have hxc := HXC.out i _ hxi _ hS.mid
          have hgd : xs.getD i 0 = xs[i] := getD_some xs i 0 _ hxi
          generalize xs[i] = z at *
          have HG := Lib.hid (And.intro hgd hst)
          obtain ⟨u, hu⟩ : ∃ u, (xs.take i).sum = u := ⟨_, rfl⟩
          rw [hu] at hub g2 hS
          have HU := Lib.hid hu
          have hMS := Lib.hid (hS.addWhole (u + z))
          have hwu : IntKind.i64.wrap (u + z) = u + z := wrap_in _ (by omega) (by omega)
          have i0 : (0 : Int) ≤ (i : Int) := by omega
          have i1 : (i : Int) < (xs.length : Int) := by omega
          have gf2 := gf 2
          clear hxi hgd hst hS g0 g1 g3 gf hu
          go_wp2
          refine wp_region_cut_held (S := fun W => W.cell? ⟨w.heap.size + 1 + 1, 2, none⟩ = some (.int .i64 u) ∧ W.cell? ⟨b1, o1 + i, none⟩ = some (.int .i64 z)) 8 _ rfl (by kernel_rfl) (by kernel_rfl) ⟨g2, hxc⟩ (fun hHeld => ?_)
          simp only [List.take_succ_cons, List.take_zero]
          refine wpAnyH_take (i := 0) (v := ?_) rfl (by kernel_rfl) (by kernel_rfl) (by kernel_rfl) (fun _ _ _ h => h) (Or.inl ⟨by rfl, ?_⟩) (by assumption) ?_
          rotate_left
          · (intro w hSw; (try dsimp only at hSw); go_simp; try with_reducible rfl)
          try simp only [Act.put, List.setIfInBounds_toArray, List.set_cons_zero, List.set_cons_succ]
          refine wpAnyH_take (i := 1) (v := ?_) rfl (by kernel_rfl) (by kernel_rfl) (by kernel_rfl) (fun _ _ _ h => h) (Or.inl ⟨by rfl, ?_⟩) (by assumption) ?_
          rotate_left
          · (intro w hSw; (try dsimp only at hSw); go_simp; try with_reducible rfl)
          try simp only [Act.put, List.setIfInBounds_toArray, List.set_cons_zero, List.set_cons_succ]
          refine wpAnyH_take (i := 2) (v := ?_) rfl (by kernel_rfl) (by kernel_rfl) (by kernel_rfl) (fun _ _ _ h => h) (Or.inl ⟨by rfl, ?_⟩) (by assumption) ?_
          rotate_left
          · (intro w hSw; (try dsimp only at hSw); go_simp; try with_reducible rfl)
          try simp only [Act.put, List.setIfInBounds_toArray, List.set_cons_zero, List.set_cons_succ]
          refine wpAnyH_take (i := 3) (v := ?_) rfl (by kernel_rfl) (by kernel_rfl) (by kernel_rfl) (fun _ _ _ h => h) (Or.inl ⟨by rfl, ?_⟩) (by assumption) ?_
          rotate_left
          · (intro w hSw; (try dsimp only at hSw); go_simp; try with_reducible rfl)
          try simp only [Act.put, List.setIfInBounds_toArray, List.set_cons_zero, List.set_cons_succ]
          refine wpAnyH_take (i := 4) (v := ?_) rfl (by kernel_rfl) (by kernel_rfl) (by kernel_rfl) (fun _ _ _ h => h) (Or.inl ⟨by rfl, ?_⟩) (by assumption) ?_
          rotate_left
          · (intro w hSw; (try dsimp only at hSw); go_simp; try with_reducible rfl)
          try simp only [Act.put, List.setIfInBounds_toArray, List.set_cons_zero, List.set_cons_succ]
          refine wpAnyH_take (i := 5) (v := ?_) rfl (by kernel_rfl) (by kernel_rfl) (by kernel_rfl) (fun _ _ _ h => h) (Or.inl ⟨by rfl, ?_⟩) (by assumption) ?_
          rotate_left
          · (intro w hSw; (try dsimp only at hSw); go_simp; try with_reducible rfl)
          try simp only [Act.put, List.setIfInBounds_toArray, List.set_cons_zero, List.set_cons_succ]
          refine wpAnyH_take (i := 6) (v := ?_) rfl (by kernel_rfl) (by kernel_rfl) (by kernel_rfl) (fun _ _ _ h => h) (Or.inl ⟨by rfl, ?_⟩) (by assumption) ?_
          rotate_left
          · (intro w hSw; (try dsimp only at hSw); go_simp; try with_reducible rfl)
          try simp only [Act.put, List.setIfInBounds_toArray, List.set_cons_zero, List.set_cons_succ]
          refine wpAnyH_take (i := 7) (v := ?_) rfl (by kernel_rfl) (by kernel_rfl) (by kernel_rfl) (fun _ _ _ h => h) (Or.inl ⟨by rfl, ?_⟩) (by assumption) ?_
          rotate_left
          · (intro w hSw; (try dsimp only at hSw); go_simp; try with_reducible rfl)
          try simp only [Act.put, List.setIfInBounds_toArray, List.set_cons_zero, List.set_cons_succ]
          refine wpAnyH_done (by kernel_rfl) ?_ _
          show wpList _ _ _ _ _ _
          go_wp2
          have hS1 := hMS.out.drew
          obtain ⟨wa, hwa⟩ : ∃ W, W = (wr.setCell ⟨w.heap.size + 1 + 1, 2, none⟩ (.int .i64 (u + z))).drew := ⟨_, rfl⟩
          rw [← hwa] at hS1
          rw [← hwa]
          clear hwa hMS gf2 g2 hxc
          go_loopw [11, 12] (fun s _ wz => ∃ q : Nat, q ≤ k ∧ s = .int .i64 q ∧ MixS (w.heap.size + 1) (w.heap.size + 1 + 1) wq.heap.size wp wz X Y (u + z) (stepTo (mixR X Y (playsTo (X + Y) M) xs i) (bitsTo (X + Y) i (X + Y)) z X Y q) a k c vs) (fun s _ _ => k - (intOf s).toNat)
          case atStart => exact ⟨0, by omega, rfl, hS1⟩
          case round =>
            clear hS1
            obtain ⟨q, hq, rfl, hS⟩ := hrel
            by_cases hqt : q < k
            · obtain ⟨hd1, hd2⟩ := divmod_bound HN.out hqt hY.1
              obtain ⟨pb, po, pc, qb, qo, qc, hpv, hpc, hpb⟩ := HP.out i hlt2 _ hS.mid
              obtain ⟨rfl, _, rfl⟩ := Value.slice.inj hpv
              obtain ⟨j1, hj1⟩ : ∃ j1, q / Y = j1 := ⟨_, rfl⟩
              obtain ⟨j2, hj2⟩ : ∃ j2, q % Y = j2 := ⟨_, rfl⟩
              rw [hj1] at hd1
              rw [hj2] at hd2
              obtain ⟨t0, ht0, hn0, c0⟩ := hpb j1 (by omega)
              obtain ⟨t1, ht1, hn1, c1⟩ := hpb (X + j2) (by omega)
              obtain ⟨nn, hnn⟩ : ∃ nn, 2 * t0 + t1 = nn := ⟨_, rfl⟩
              have hat : mixAt (bitsTo (X + Y) i (X + Y)) X Y q = nn := by unfold mixAt; rw [hj1, hj2, hn0, hn1, hnn]
              have hxc := HXC.out i _ (List.getElem?_eq_getElem hil) _ hS.mid
              rw [show xs[i] = z by have := HG.out.1; rw [getD_some xs i 0 _ (List.getElem?_eq_getElem hil)] at this; exact this] at hxc
              have hF := ((Four.mix (X := X) (Y := Y) (playsTo (X + Y) M) (xs := xs) (fun j x hj => allIn_get HXS.out.2.1 hj) (by rw [HN.out]; exact hN9) i).step (bitsTo (X + Y) i (X + Y)) z hzb X Y q)
              have hql : q < (stepTo (mixR X Y (playsTo (X + Y) M) xs i) (bitsTo (X + Y) i (X + Y)) z X Y q).length := by rw [hS.len]; exact hqt
              obtain ⟨rs, hrs⟩ : ∃ rs, (stepTo (mixR X Y (playsTo (X + Y) M) xs i) (bitsTo (X + Y) i (X + Y)) z X Y q)[q]? = some rs := ⟨_, List.getElem?_eq_getElem hql⟩
              obtain ⟨h4, hbd⟩ := hF.2 q rs hrs
              obtain ⟨old, hold⟩ : ∃ old, rs[nn]? = some old := ⟨_, List.getElem?_eq_getElem (by omega)⟩
              have hob := hbd nn old hold
              have hup := upd_row (s := z) hrs hold
              obtain ⟨tb, rb, rc, rfl, htk, hrc, hrf, hset⟩ := hS.row hrs h4
              have hrold := hrc nn old hold
              have hrfz := hrf nn
              have HST := Lib.hid (hset nn (old + z) (by omega))
              have HUP := Lib.hid (And.intro hup hat)
              obtain ⟨⟨_, _, _, g3⟩, _⟩ := hS.cells
              have eq1 : (q : Int).tdiv (Y : Int) = (j1 : Int) := by rw [← hj1, Int.tdiv_eq_ediv_of_nonneg (by omega)]; rfl
              have eq2 : (q : Int).tmod (Y : Int) = (j2 : Int) := by rw [← hj2, Int.tmod_eq_emod_of_nonneg (by omega)]; rfl
              have eq3 : IntKind.i64.wrap (j1 : Int) = (j1 : Int) := wrap_in _ (by omega) (by omega)
              have eq4 : IntKind.i64.wrap (j2 : Int) = (j2 : Int) := wrap_in _ (by omega) (by omega)
              obtain ⟨j3, hj3⟩ : ∃ j3, X + j2 = j3 := ⟨_, rfl⟩
              have eq5 : (X : Int) + (j2 : Int) = (j3 : Int) := by omega
              have eq6 : IntKind.i64.wrap (j3 : Int) = (j3 : Int) := wrap_in _ (by omega) (by omega)
              rw [hj3] at c1
              have eq7 : IntKind.i64.wrap (2 * (t0 : Int)) = 2 * (t0 : Int) := wrap_in _ (by omega) (by omega)
              have eq8 : 2 * (t0 : Int) + (t1 : Int) = (nn : Int) := by omega
              have eq9 : IntKind.i64.wrap (nn : Int) = (nn : Int) := wrap_in _ (by omega) (by omega)
              have eqa : IntKind.i64.wrap (old + z) = old + z := wrap_in _ (by omega) (by omega)
              obtain ⟨XY, hXY⟩ : ∃ XY, X + Y = XY := ⟨_, rfl⟩
              rw [hXY] at hpc
              have lj1 : (j1 : Int) < (XY : Int) := by omega
              have lj3 : (j3 : Int) < (XY : Int) := by omega
              have ln : (nn : Int) < 4 := by omega
              have lM : (i : Int) < (M : Int) := by omega
              have lk : (q : Int) < (k : Int) := by omega
              have lx : (i : Int) < (xs.length : Int) := by omega
              have hY0 : ¬ (Y : Int) = 0 := by omega
              clear hpv hpb hn0 hn1 hat hF hql hrs h4 hbd hold hup hrc hrf hset hS hj1 hj2 hj3 hXY
              go_wp2
              go_quiet (fail)
              go_wp2
              refine wp_region_cut_held (S := fun W => W.cell? ⟨w.heap.size + 1 + 1, 3, none⟩ = some (.slice (some ⟨tb, 0, none⟩) k c) ∧ W.cell? ⟨tb, q, none⟩ = some (.slice (some ⟨rb, 0, none⟩) 4 rc) ∧ W.cell? ⟨rb, nn, none⟩ = some (.int .i64 old) ∧ W.cell? ⟨b1, o1 + i, none⟩ = some (.int .i64 z)) 20 _ rfl (by kernel_rfl) (by kernel_rfl) ⟨g3, htk, hrold, hxc⟩ (fun hHeld => ?_)
              simp only [List.take_succ_cons, List.take_zero]
              refine wpAnyH_take (i := 0) (v := ?_) rfl (by kernel_rfl) (by kernel_rfl) (by kernel_rfl) (fun _ _ _ h => h) (Or.inl ⟨by rfl, ?_⟩) (by assumption) ?_
              rotate_left
              · (intro w hSw; (try dsimp only at hSw); go_simp; try with_reducible rfl)
              try simp only [Act.put, List.setIfInBounds_toArray, List.set_cons_zero, List.set_cons_succ]
              refine wpAnyH_take (i := 1) (v := ?_) rfl (by kernel_rfl) (by kernel_rfl) (by kernel_rfl) (fun _ _ _ h => h) (Or.inl ⟨by rfl, ?_⟩) (by assumption) ?_
              rotate_left
              · (intro w hSw; (try dsimp only at hSw); go_simp; try with_reducible rfl)
              try simp only [Act.put, List.setIfInBounds_toArray, List.set_cons_zero, List.set_cons_succ]
              refine wpAnyH_take (i := 2) (v := ?_) rfl (by kernel_rfl) (by kernel_rfl) (by kernel_rfl) (fun _ _ _ h => h) (Or.inl ⟨by rfl, ?_⟩) (by assumption) ?_
              rotate_left
              · (intro w hSw; (try dsimp only at hSw); go_simp; try with_reducible rfl)
              try simp only [Act.put, List.setIfInBounds_toArray, List.set_cons_zero, List.set_cons_succ]
              refine wpAnyH_take (i := 3) (v := ?_) rfl (by kernel_rfl) (by kernel_rfl) (by kernel_rfl) (fun _ _ _ h => h) (Or.inl ⟨by rfl, ?_⟩) (by assumption) ?_
              rotate_left
              · (intro w hSw; (try dsimp only at hSw); go_simp; try with_reducible rfl)
              try simp only [Act.put, List.setIfInBounds_toArray, List.set_cons_zero, List.set_cons_succ]
              refine wpAnyH_take (i := 4) (v := ?_) rfl (by kernel_rfl) (by kernel_rfl) (by kernel_rfl) (fun _ _ _ h => h) (Or.inl ⟨by rfl, ?_⟩) (by assumption) ?_
              rotate_left
              · (intro w hSw; (try dsimp only at hSw); go_simp; try with_reducible rfl)
              try simp only [Act.put, List.setIfInBounds_toArray, List.set_cons_zero, List.set_cons_succ]
              refine wpAnyH_take (i := 5) (v := ?_) rfl (by kernel_rfl) (by kernel_rfl) (by kernel_rfl) (fun _ _ _ h => h) (Or.inl ⟨by rfl, ?_⟩) (by assumption) ?_
              rotate_left
              · (intro w hSw; (try dsimp only at hSw); go_simp; try with_reducible rfl)
              try simp only [Act.put, List.setIfInBounds_toArray, List.set_cons_zero, List.set_cons_succ]
              refine wpAnyH_take (i := 6) (v := ?_) rfl (by kernel_rfl) (by kernel_rfl) (by kernel_rfl) (fun _ _ _ h => h) (Or.inl ⟨by rfl, ?_⟩) (by assumption) ?_
              rotate_left
              · (intro w hSw; (try dsimp only at hSw); go_simp; try with_reducible rfl)
              try simp only [Act.put, List.setIfInBounds_toArray, List.set_cons_zero, List.set_cons_succ]
              refine wpAnyH_take (i := 7) (v := ?_) rfl (by kernel_rfl) (by kernel_rfl) (by kernel_rfl) (fun _ _ _ h => h) (Or.inl ⟨by rfl, ?_⟩) (by assumption) ?_
              rotate_left
              · (intro w hSw; (try dsimp only at hSw); go_simp; try with_reducible rfl)
              try simp only [Act.put, List.setIfInBounds_toArray, List.set_cons_zero, List.set_cons_succ]
              refine wpAnyH_take (i := 8) (v := ?_) rfl (by kernel_rfl) (by kernel_rfl) (by kernel_rfl) (fun _ _ _ h => h) (Or.inl ⟨by rfl, ?_⟩) (by assumption) ?_
              rotate_left
              · (intro w hSw; (try dsimp only at hSw); go_simp; try with_reducible rfl)
              try simp only [Act.put, List.setIfInBounds_toArray, List.set_cons_zero, List.set_cons_succ]
              refine wpAnyH_take (i := 9) (v := ?_) rfl (by kernel_rfl) (by kernel_rfl) (by kernel_rfl) (fun _ _ _ h => h) (Or.inl ⟨by rfl, ?_⟩) (by assumption) ?_
              rotate_left
              · (intro w hSw; (try dsimp only at hSw); go_simp; try with_reducible rfl)
              try simp only [Act.put, List.setIfInBounds_toArray, List.set_cons_zero, List.set_cons_succ]
              refine wpAnyH_take (i := 10) (v := ?_) rfl (by kernel_rfl) (by kernel_rfl) (by kernel_rfl) (fun _ _ _ h => h) (Or.inl ⟨by rfl, ?_⟩) (by assumption) ?_
              rotate_left
              · (intro w hSw; (try dsimp only at hSw); go_simp; try with_reducible rfl)
              try simp only [Act.put, List.setIfInBounds_toArray, List.set_cons_zero, List.set_cons_succ]
              refine wpAnyH_take (i := 11) (v := ?_) rfl (by kernel_rfl) (by kernel_rfl) (by kernel_rfl) (fun _ _ _ h => h) (Or.inl ⟨by rfl, ?_⟩) (by assumption) ?_
              rotate_left
              · (intro w hSw; (try dsimp only at hSw); go_simp; try with_reducible rfl)
              try simp only [Act.put, List.setIfInBounds_toArray, List.set_cons_zero, List.set_cons_succ]
              refine wpAnyH_take (i := 12) (v := ?_) rfl (by kernel_rfl) (by kernel_rfl) (by kernel_rfl) (fun _ _ _ h => h) (Or.inl ⟨by rfl, ?_⟩) (by assumption) ?_
              rotate_left
              · (intro w hSw; (try dsimp only at hSw); go_simp; try with_reducible rfl)
              try simp only [Act.put, List.setIfInBounds_toArray, List.set_cons_zero, List.set_cons_succ]
              refine wpAnyH_take (i := 13) (v := ?_) rfl (by kernel_rfl) (by kernel_rfl) (by kernel_rfl) (fun _ _ _ h => h) (Or.inl ⟨by rfl, ?_⟩) (by assumption) ?_
              rotate_left
              · (intro w hSw; (try dsimp only at hSw); go_simp; try with_reducible rfl)
              try simp only [Act.put, List.setIfInBounds_toArray, List.set_cons_zero, List.set_cons_succ]
              refine wpAnyH_take (i := 14) (v := ?_) rfl (by kernel_rfl) (by kernel_rfl) (by kernel_rfl) (fun _ _ _ h => h) (Or.inl ⟨by rfl, ?_⟩) (by assumption) ?_
              rotate_left
              · (intro w hSw; (try dsimp only at hSw); go_simp; try with_reducible rfl)
              try simp only [Act.put, List.setIfInBounds_toArray, List.set_cons_zero, List.set_cons_succ]
              refine wpAnyH_take (i := 15) (v := ?_) rfl (by kernel_rfl) (by kernel_rfl) (by kernel_rfl) (fun _ _ _ h => h) (Or.inl ⟨by rfl, ?_⟩) (by assumption) ?_
              rotate_left
              · (intro w hSw; (try dsimp only at hSw); go_simp; try with_reducible rfl)
              try simp only [Act.put, List.setIfInBounds_toArray, List.set_cons_zero, List.set_cons_succ]
              refine wpAnyH_take (i := 16) (v := ?_) rfl (by kernel_rfl) (by kernel_rfl) (by kernel_rfl) (fun _ _ _ h => h) (Or.inl ⟨by rfl, ?_⟩) (by assumption) ?_
              rotate_left
              · (intro w hSw; (try dsimp only at hSw); go_simp; try with_reducible rfl)
              try simp only [Act.put, List.setIfInBounds_toArray, List.set_cons_zero, List.set_cons_succ]
              refine wpAnyH_take (i := 17) (v := ?_) rfl (by kernel_rfl) (by kernel_rfl) (by kernel_rfl) (fun _ _ _ h => h) (Or.inl ⟨by rfl, ?_⟩) (by assumption) ?_
              rotate_left
              · (intro w hSw; (try dsimp only at hSw); go_simp; try with_reducible rfl)
              try simp only [Act.put, List.setIfInBounds_toArray, List.set_cons_zero, List.set_cons_succ]
              refine wpAnyH_take (i := 18) (v := ?_) rfl (by kernel_rfl) (by kernel_rfl) (by kernel_rfl) (fun _ _ _ h => h) (Or.inl ⟨by rfl, ?_⟩) (by assumption) ?_
              rotate_left
              · (intro w hSw; (try dsimp only at hSw); go_simp; try with_reducible rfl)
              try simp only [Act.put, List.setIfInBounds_toArray, List.set_cons_zero, List.set_cons_succ]
              refine wpAnyH_take (i := 19) (v := ?_) rfl (by kernel_rfl) (by kernel_rfl) (by kernel_rfl) (fun _ _ _ h => h) (Or.inl ⟨by rfl, ?_⟩) (by assumption) ?_
              rotate_left
              · (intro w hSw; (try dsimp only at hSw); go_simp; try with_reducible rfl)
              try simp only [Act.put, List.setIfInBounds_toArray, List.set_cons_zero, List.set_cons_succ]
              refine wpAnyH_done (by kernel_rfl) ?_ _
              show wpList _ _ _ _ _ _
              go_wp2
              go_roundw
              case rel =>
                refine ⟨q + 1, by omega, by go_num, ?_⟩
                show MixS _ _ _ _ _ _ _ _ (upd (stepTo (mixR X Y (playsTo (X + Y) M) xs i) (bitsTo (X + Y) i (X + Y)) z X Y q) q (mixAt (bitsTo (X + Y) i (X + Y)) X Y q) z) _ _ _ _
                rw [HUP.out.2, HUP.out.1]
                exact HST.out.sameHeap (Drw.mk _ _)
              case measure => simp [intOf]; omega
            · obtain rfl : q = k := by omega
              have hnx : stepTo (mixR X Y (playsTo (X + Y) M) xs i) (bitsTo (X + Y) i (X + Y)) z X Y q = mixR X Y (playsTo (X + Y) M) xs (i + 1) := by
                show _ = stepTo (mixR X Y (playsTo (X + Y) M) xs i) ((playsTo (X + Y) M).getD i []) (xs.getD i 0) X Y (X * Y)
                rw [HG.out.1, HN.out, getD_some _ i [] _ (playsTo_get hlt2)]
              rw [hnx] at hS
              have hsu : u + z = (xs.take (i + 1)).sum := by rw [HG.out.2, HU.out]
              rw [hsu] at hS
              have HSS := Lib.hid hS
              clear hnx hS hsu
              go_wp2
              go_roundw
              case rel => exact ⟨i + 1, by omega, by go_num, HSS.out⟩
              case measure => simp [intOf]; omega
        · obtain rfl : i = M := by omega
          have htk : xs.take i = xs := List.take_of_length_le (by omega)
          rw [htk] at hS g2
          have hrt := HRT.out.kept (hS.mid.below (B := w.heap.size + 1) (Nat.le_refl _) (by have := BP.size; have := hS.g1; have := hS.g2; have := hS.g3; omega)) (by omega)
          obtain ⟨f0, f1, f2, f3, ff⟩ := hrt
          have hzz := hS.mid.size
          have B5 : Below w.heap.size w wr := BP.trans (hS.mid.below (by omega) BP.size)
          have hend := box_out (g := w.heap.size) B5 (Nat.le_refl _) (by omega) (hS.rows.weaken (lo' := w.heap.size + 1) (hi' := wr.heap.size) (Nat.le_refl _) (by omega)) (.int .i64 X) (.int .i64 Y) (.int .i64 xs.sum) (.slice a k c)
          clear hS htk
          go_wp2
          refine bodyPost_ret (v := .agg #[.int .i64 X, .int .i64 Y, .int .i64 xs.sum, .slice a k c]) ?_ rfl ?_
          · simp [results, Try.results115, go_sem, f0, f1, f2, f3]
          · refine ⟨a, c, vs, by rw [Int.toNat_natCast, Int.toNat_natCast, HN.out], ?_, hend.2⟩
            rw [Int.toNat_natCast, Int.toNat_natCast, HN.out, ← HM.out]
            exact hend.1
end Go.Proofs.Ytnmnmnpeoiblhaa
