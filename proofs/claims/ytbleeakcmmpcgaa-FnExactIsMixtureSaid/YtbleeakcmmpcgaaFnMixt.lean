/- MixtureBox: the program's mixture. -/
import Derived.Test.YtbleeakcmmpcgaaSpMixt
set_option linter.unusedSimpArgs false
set_option linter.unusedVariables false
namespace Go.Proofs.Ytbleeakcmmpcgaa
open Go.RowKit

/-- The plays' rows, wherever nothing of them was turned. -/
theorem plays_fixed {n M i P0 P1 lo cp : Nat} {wp : World} {ap : Option Addr} {pvs : List Value} (oP : OwnII 31 3 P0 P1 wp (.slice ap M cp) (playsTo n M) pvs) (hi : i < M) (h0 : 0 < n) :
    ∃ pb qb qc : Nat, ap = some ⟨pb, 0, none⟩ ∧ ∀ W : World, Mid lo P0 wp W → W.cell? ⟨pb, i, none⟩ = some (.slice (some ⟨qb, 0, none⟩) n qc) ∧
      ∀ j : Nat, j < n → ∃ b : Nat, b ≤ 1 ∧ bitN (bitsTo n i n) j = b ∧ W.cell? ⟨qb, j, none⟩ = some (.int .i64 (b : Int)) := by
  have hpl : (playsTo n M).length = M := by simp [playsTo]
  have hvl : pvs.length = M := by rw [oP.len, hpl]
  obtain ⟨ta, tb, tc, htv, _, hta, htc, _⟩ := oP.top.shape
  obtain ⟨rfl, hlb, _, hwb⟩ := hta (by omega)
  obtain ⟨rfl, _, _⟩ := Value.slice.inj htv
  have hv := List.getElem?_eq_getElem (show i < pvs.length by omega)
  have hrow := oP.row i _ _ hv (playsTo_get hi)
  have hbl : (bitsTo n i n).length = n := by simp [bitsTo]
  obtain ⟨ra, rb, rc, hrv, _, hra, hrc, _⟩ := hrow.shape
  rw [ints_length, hbl] at hrv hra
  obtain ⟨rfl, hrlb, _, hrwb⟩ := hra h0
  have htk := htc i _ hv
  rw [hrv] at htk
  refine ⟨tb, rb, rc, rfl, fun W hm => ⟨?_, fun j hj => ?_⟩⟩
  · rw [World.cell?_of_block (w := wp) (a := ⟨tb, i, none⟩) (hm.block tb hwb (Or.inr hlb))]
    exact htk
  · obtain ⟨b, hb, hg, hbn⟩ := bitsTo_bit (n := n) (k := i) hj
    refine ⟨b, hb, hbn, ?_⟩
    rw [World.cell?_of_block (w := wp) (a := ⟨rb, j, none⟩) (hm.block rb hrwb (Or.inr hrlb))]
    exact hrc j _ (by simp [ints, hg])
theorem rowsTo_zero (y n : Nat) : rowsTo (fun _ _ _ _ => 0) y n = zeroR n := by
  apply List.ext_getElem?
  intro k
  unfold zeroR
  rw [List.getElem?_replicate]
  by_cases h : k < n
  · rw [if_pos h]
    simp [rowsTo, rowOf, h]
  · rw [if_neg h, List.getElem?_eq_none (by rw [rowsTo_length]; omega)]
theorem mixture_func (args : Array Value) (w : World) : (callFunc 99 args).run Try.prog w = .ok (.enter 99 args) w := by kernel_rfl

set_option maxRecDepth 20000 in
set_option maxHeartbeats 8000000 in
theorem mixture_any (X Y : Nat) (hX : 1 ≤ X ∧ X ≤ 3) (hY : 1 ≤ Y ∧ Y ≤ 3) (v : Value) (xs : List Int) (w : World) (h : RdI w v xs) (hl : xs.length = 2 ^ (X + Y)) (hx : allIn xs 0 1000 = true) (hsum : xs.sum ≤ 1000) :
    Calls Try.prog 68 #[.int .i64 X, .int .i64 Y, v] w (BoxOnly w X Y xs.sum (mixR X Y (playsTo (X + Y) (2 ^ (X + Y))) xs (2 ^ (X + Y)))) := by
  have CT := fun W (hW : Below w.heap.size w W) (hn : xs.length ≤ 1048576) => total_any v xs W (h.kept (Nat.le_refl _) hW) hn (fun j z hz => by have := allIn_get hx hz; omega)
  obtain ⟨a1, b1, o1, k1, rfl, m1, e1, d1⟩ := h
  unfold maxLen at m1
  obtain ⟨M, hM⟩ : ∃ M, M = 2 ^ (X + Y) := ⟨_, rfl⟩
  have hM0 : 0 < M := by rw [hM]; exact Nat.two_pow_pos _
  have hM64 : M ≤ 64 := by rw [hM]; exact Nat.le_trans (Nat.pow_le_pow_right (by omega) (show X + Y ≤ 6 by omega)) (by decide)
  obtain ⟨N, hN⟩ : ∃ N, X * Y = N := ⟨_, rfl⟩
  have hN9 : N ≤ 9 := by rw [← hN]; exact Nat.mul_le_mul (show X ≤ 3 by omega) (show Y ≤ 3 by omega)
  rw [← hM] at hl
  obtain rfl := e1 (by omega)
  have HXS := Lib.hid (And.intro hl (And.intro hx d1))
  have HN := Lib.hid hN
  have HM := Lib.hid hM
  have hx4 : xs.length ≤ 64 := by omega
  have hlen : ((xs.length : Nat) : Int) = (M : Int) := by omega
  have HB0 : Below w.heap.size w (w.alloc (.cells #[.int .i64 0, .int .i64 0, .int .i64 0, .slice none 0 0] 33)) := (by repeat' (first | with_reducible exact Below.refl _ _ | with_reducible assumption | with_reducible apply Below.alloc | with_reducible apply Below.setCell | with_reducible apply Below.drew | exact Nat.le_refl _ | omega | (simp only [World.size_alloc, World.size_setCell]; omega)))
  have CT2 := CT _ HB0 (by omega)
  have CN := newBoxZ_any X Y (by omega) (by omega) xs.sum 99 #[] (fun _ _ _ _ => 0) (w.alloc (.cells #[.int .i64 0, .int .i64 0, .int .i64 0, .slice none 0 0] 33)) mixture_func (by
    intro wr hB i j a c hi hj ha hc
    go_enter Try.func99, Try.ntmps99
    go_wp2
    go_ret
    exact ⟨rfl, Below.refl _ _⟩)
  rw [Int.toNat_natCast, Int.toNat_natCast, rowsTo_zero] at CN
  clear hl hx d1 e1 hM CT
  go_enter Try.func68, Try.ntmps68
  go_wp2_with fail
  refine CT2.mono ?_
  rintro e w0 ⟨rfl, rfl⟩
  go_wp2_with fail
  refine CN.mono ?_
  rintro e w1 ⟨a, c, vs, rfl, oR, bR⟩
  rw [World.size_alloc] at oR
  have hz1 := bR.size
  rw [World.size_alloc] at hz1
  have hret1 : RetAt w1 w.heap.size := RetAt.call bR (by exact (by repeat' (first | with_reducible assumption | (refine RetAt.top ?_; first | with_reducible rfl | (simp only [World.size_alloc, World.size_setCell]; done)) | refine RetAt.under ?_)))
  have B1 : Below w.heap.size w w1 := HB0.trans (bR.mono (by rw [World.size_alloc]; omega))
  obtain ⟨wq, hwq⟩ : ∃ W, W = w1.alloc (.cells #[.int .i64 X, .int .i64 Y, .int .i64 xs.sum, .slice a (X * Y) c] 33) := ⟨_, rfl⟩
  have hsq : wq.heap.size = w1.heap.size + 1 := by rw [hwq]; simp
  have bQ : Below w1.heap.size w1 wq := by rw [hwq]; exact (Below.refl _ _).alloc (Nat.le_refl _) _
  have hbox : wq.heap[w1.heap.size]? = some (.cells #[.int .i64 X, .int .i64 Y, .int .i64 xs.sum, .slice a (X * Y) c] 33 (0, 0)) := by rw [hwq]; show (w1.heap.push _)[w1.heap.size]? = _; simp
  rw [hN] at oR hbox hwq
  have CPL := plays_any X Y hX hY wq
  rw [← HM.out] at CPL
  have hpl : (playsTo (X + Y) M).length = M := by simp [playsTo]
  rw [hpl] at CPL
  have HWQ := Lib.hid hwq
  clear CT2 CN bR hN
  go_wp2_with fail
  rw [HN.out, ← HWQ.out]
  refine CPL.mono ?_
  rintro e wp ⟨ap, cp, pvs, rfl, oP, bP⟩
  have hzp := bP.size
  have hzl : (zeroR N).length = N := by simp [zeroR]
  have hgb : w1.heap.size < wq.heap.size := by omega
  have hS0 : MixS (w.heap.size + 1) w1.heap.size wq.heap.size wp wp X Y xs.sum (mixR X Y (playsTo (X + Y) M) xs 0) a N c vs :=
    ⟨by omega, by omega, hzp, by show (zeroR (X * Y)).length = N; rw [HN.out]; exact hzl, by rw [bP.block _ hgb]; exact hbox, by show OwnII _ _ _ _ _ _ (zeroR (X * Y)) _; rw [HN.out]; exact ((oR.kept bQ (Nat.le_refl _)).kept bP (by omega)).weaken (Nat.le_refl _) (by omega), Mid.refl _ _ _⟩
  have BQ : Below w.heap.size w wq := B1.trans (bQ.mono B1.size)
  have hretp := (hret1.kept bQ (by omega)).kept bP (by omega)
  have HP := Lib.hid (fun (i : Nat) (hi : i < M) => plays_fixed (lo := w.heap.size + 1) oP hi (by omega))
  have HXC := Lib.hid (fun (j : Nat) (z : Int) (hz : xs[j]? = some z) (W : World) (hm : Mid (w.heap.size + 1) wq.heap.size wp W) => (by
    have h1 := HXS.out.2.2 j z hz
    have h2 := World.block_lt_of_cell? _ _ h1
    simp only at h2
    have h3 := (BQ.trans (bP.mono BQ.size)).block b1 h2
    have h4 := hm.block b1 (by have := BQ.size; omega) (Or.inl (by omega))
    rw [World.cell?_of_block (w := w) (a := ⟨b1, o1 + j, none⟩) (h4.trans h3)]
    exact h1 : W.cell? ⟨b1, o1 + j, none⟩ = some (.int .i64 z)))
  have HRT := Lib.hid hretp
  have BP := BQ.trans (bP.mono BQ.size)
  clear oR CPL hpl hret1 hretp oP bP hbox HWQ hwq bQ B1
  go_wp2
  go_loopw [21] (fun s wz => ∃ i : Nat, i ≤ M ∧ s = .int .i64 i ∧ MixS (w.heap.size + 1) w1.heap.size wq.heap.size wp wz X Y xs.sum (mixR X Y (playsTo (X + Y) M) xs i) a N c vs) (fun s _ => M - (intOf s).toNat)
  case atStart => exact ⟨0, by omega, rfl, hS0⟩
  case round =>
    clear hS0
    obtain ⟨i, hi, rfl, hS⟩ := hrel
    by_cases hlt2 : i < M
    · have hil : i < xs.length := by omega
      have hxi := List.getElem?_eq_getElem hil
      have hzb := allIn_get HXS.out.2.1 hxi
      have hgd : xs.getD i 0 = xs[i] := getD_some xs i 0 _ hxi
      generalize xs[i] = z at *
      have HG := Lib.hid (And.intro hgd hxi)
      obtain ⟨pb, qb, qc, rfl, hfix⟩ := HP.out i hlt2
      have hpc := (hfix _ hS.mid).1
      have HF := Lib.hid hfix
      obtain ⟨XY, hXY⟩ : ∃ XY, X + Y = XY := ⟨_, rfl⟩
      have HXY := Lib.hid hXY
      rw [hXY] at hpc
      have lM : (i : Int) < (M : Int) := by omega
      clear hxi hgd hXY hfix
      go_wp2
      go_loopw [27] (fun s wz => ∃ j : Nat, j ≤ X ∧ s = .int .i64 j ∧ MixS (w.heap.size + 1) w1.heap.size wq.heap.size wp wz X Y xs.sum (stepTo (mixR X Y (playsTo (X + Y) M) xs i) (bitsTo (X + Y) i (X + Y)) z X Y (j * Y)) a N c vs) (fun s _ => X - (intOf s).toNat)
      case atStart => exact ⟨0, by omega, rfl, by rw [Nat.zero_mul]; exact hS⟩
      case round =>
        clear hS hpc
        obtain ⟨j, hj, rfl, hS⟩ := hrel
        by_cases hjt : j < X
        · go_wp2
          go_loopw [31] (fun s wz => ∃ l : Nat, l ≤ Y ∧ s = .int .i64 l ∧ MixS (w.heap.size + 1) w1.heap.size wq.heap.size wp wz X Y xs.sum (stepTo (mixR X Y (playsTo (X + Y) M) xs i) (bitsTo (X + Y) i (X + Y)) z X Y (j * Y + l)) a N c vs) (fun s _ => Y - (intOf s).toNat)
          case atStart => exact ⟨0, by omega, rfl, hS⟩
          case round =>
            clear hS
            obtain ⟨l, hl, rfl, hS⟩ := hrel
            by_cases hlt3 : l < Y
            · obtain ⟨q, hq⟩ : ∃ q, j * Y + l = q := ⟨_, rfl⟩
              have hqt : q < N := by
                have h1 : j * Y + l < (j + 1) * Y := by rw [Nat.succ_mul]; omega
                have h2 : (j + 1) * Y ≤ X * Y := Nat.mul_le_mul_right _ (by omega)
                have := HN.out
                omega
              have hj1 : q / Y = j := by rw [← hq, Nat.mul_comm, Nat.mul_add_div (by omega), Nat.div_eq_of_lt hlt3, Nat.add_zero]
              have hj2 : q % Y = l := by rw [← hq, Nat.mul_comm, Nat.mul_add_mod, Nat.mod_eq_of_lt hlt3]
              have hqi : (j : Int) * (Y : Int) + (l : Int) = (q : Int) := by rw [← hq]; simp
              rw [hq] at hS
              obtain ⟨_, hpb⟩ := HF.out _ hS.mid
              obtain ⟨t0, ht0, hn0, c0⟩ := hpb j (by omega)
              obtain ⟨t1, ht1, hn1, c1⟩ := hpb (X + l) (by omega)
              obtain ⟨nn, hnn⟩ : ∃ nn, 2 * t0 + t1 = nn := ⟨_, rfl⟩
              have hat : mixAt (bitsTo (X + Y) i (X + Y)) X Y q = nn := by unfold mixAt; rw [hj1, hj2, hn0, hn1, hnn]
              have hxc := HXC.out i z HG.out.2 _ hS.mid
              have hFo := ((Four.mix (X := X) (Y := Y) (playsTo (X + Y) M) (xs := xs) (fun j x hj => allIn_get HXS.out.2.1 hj) (by rw [HN.out]; exact hN9) i).step (bitsTo (X + Y) i (X + Y)) z hzb X Y q)
              have hql : q < (stepTo (mixR X Y (playsTo (X + Y) M) xs i) (bitsTo (X + Y) i (X + Y)) z X Y q).length := by rw [hS.len]; exact hqt
              obtain ⟨rs, hrs⟩ : ∃ rs, (stepTo (mixR X Y (playsTo (X + Y) M) xs i) (bitsTo (X + Y) i (X + Y)) z X Y q)[q]? = some rs := ⟨_, List.getElem?_eq_getElem hql⟩
              obtain ⟨h4, hbd⟩ := hFo.2 q rs hrs
              obtain ⟨old, hold⟩ : ∃ old, rs[nn]? = some old := ⟨_, List.getElem?_eq_getElem (by omega)⟩
              have hob := hbd nn old hold
              have hup := upd_row (s := z) hrs hold
              obtain ⟨tb, rb, rc, rfl, htk, hrc, hrf, hset⟩ := hS.row hrs h4
              have hrold := hrc nn old hold
              have hrfz := hrf nn
              have HST := Lib.hid (hset nn (old + z) (by omega))
              have HUP := Lib.hid (And.intro hup hat)
              obtain ⟨⟨_, _, _, g3⟩, _⟩ := hS.cells
              obtain ⟨jY, hjY⟩ : ∃ jY, j * Y = jY := ⟨_, rfl⟩
              have eq1 : (j : Int) * (Y : Int) = (jY : Int) := by rw [← hjY]; simp
              have eq2 : (jY : Int) + (l : Int) = (q : Int) := by rw [← hq, ← hjY]; simp
              have hjl : jY ≤ 9 := by omega
              have eq3 : IntKind.i64.wrap (jY : Int) = (jY : Int) := wrap_in _ (by omega) (by omega)
              have eq4 : IntKind.i64.wrap (q : Int) = (q : Int) := wrap_in _ (by omega) (by omega)
              obtain ⟨j3, hj3⟩ : ∃ j3, X + l = j3 := ⟨_, rfl⟩
              have eq5 : (X : Int) + (l : Int) = (j3 : Int) := by omega
              have eq6 : IntKind.i64.wrap (j3 : Int) = (j3 : Int) := wrap_in _ (by omega) (by omega)
              rw [hj3] at c1
              have eq7 : IntKind.i64.wrap (2 * (t0 : Int)) = 2 * (t0 : Int) := wrap_in _ (by omega) (by omega)
              have eq8 : 2 * (t0 : Int) + (t1 : Int) = (nn : Int) := by omega
              have eq9 : IntKind.i64.wrap (nn : Int) = (nn : Int) := wrap_in _ (by omega) (by omega)
              have eqa : IntKind.i64.wrap (old + z) = old + z := wrap_in _ (by omega) (by omega)
              have hXYo := HXY.out
              have lj1 : (j : Int) < (XY : Int) := by omega
              have lj3 : (j3 : Int) < (XY : Int) := by omega
              have ln : (nn : Int) < 4 := by omega
              have lk : (q : Int) < (N : Int) := by omega
              have lx : (i : Int) < (xs.length : Int) := by omega
              have HQ := Lib.hid hq
              have HJ := Lib.hid hjY
              clear hpb hn0 hn1 hat hFo hql hrs h4 hbd hold hup hrc hrf hset hS hj1 hj2 hj3 hXYo hq hqi hjY
              go_wp2
              refine wp_region_cut_held (S := fun W => W.cell? ⟨w1.heap.size, 3, none⟩ = some (.slice (some ⟨tb, 0, none⟩) N c) ∧ W.cell? ⟨tb, q, none⟩ = some (.slice (some ⟨rb, 0, none⟩) 4 rc) ∧ W.cell? ⟨rb, nn, none⟩ = some (.int .i64 old) ∧ W.cell? ⟨b1, o1 + i, none⟩ = some (.int .i64 z) ∧ W.cell? ⟨qb, j, none⟩ = some (.int .i64 (t0 : Int)) ∧ W.cell? ⟨qb, j3, none⟩ = some (.int .i64 (t1 : Int))) 29 _ rfl (by kernel_rfl) (by kernel_rfl) ⟨g3, htk, hrold, hxc, c0, c1⟩ (fun hHeld => ?_)
              simp only [List.take_succ_cons, List.take_zero]
              refine wpAnyH_take (i := 0) (v := ?_) rfl (by kernel_rfl) (by kernel_rfl) (by kernel_rfl) (fun _ _ _ h => h) (Or.inl ⟨by rfl, ?_⟩) (by assumption) ?_
              rotate_left
              · (intro w hSw; (try dsimp only at hSw); go_simp; try with_reducible rfl)
              try simp only [Act.put, List.setIfInBounds_toArray, List.set_cons_zero, List.set_cons_succ]
              refine wpAnyH_take (i := 1) (v := ?_) rfl (by kernel_rfl) (by kernel_rfl) (by kernel_rfl) (fun _ _ _ h => h) (Or.inl ⟨by rfl, ?_⟩) (by assumption) ?_
              rotate_left
              · (intro w hSw; (try dsimp only at hSw); go_simp; try with_reducible rfl)
              try simp only [Act.put, List.setIfInBounds_toArray, List.set_cons_zero, List.set_cons_succ]
              refine wpAnyH_take (i := 2) (v := ?_) rfl (by kernel_rfl) (by kernel_rfl) (by kernel_rfl) (fun _ _ _ h => h) (Or.inl ⟨by rfl, ?_⟩) (by assumption) ?_
              rotate_left
              · (intro w hSw; (try dsimp only at hSw); go_simp; try with_reducible rfl)
              try simp only [Act.put, List.setIfInBounds_toArray, List.set_cons_zero, List.set_cons_succ]
              refine wpAnyH_take (i := 3) (v := ?_) rfl (by kernel_rfl) (by kernel_rfl) (by kernel_rfl) (fun _ _ _ h => h) (Or.inl ⟨by rfl, ?_⟩) (by assumption) ?_
              rotate_left
              · (intro w hSw; (try dsimp only at hSw); go_simp; try with_reducible rfl)
              try simp only [Act.put, List.setIfInBounds_toArray, List.set_cons_zero, List.set_cons_succ]
              refine wpAnyH_take (i := 4) (v := ?_) rfl (by kernel_rfl) (by kernel_rfl) (by kernel_rfl) (fun _ _ _ h => h) (Or.inl ⟨by rfl, ?_⟩) (by assumption) ?_
              rotate_left
              · (intro w hSw; (try dsimp only at hSw); go_simp; try with_reducible rfl)
              try simp only [Act.put, List.setIfInBounds_toArray, List.set_cons_zero, List.set_cons_succ]
              refine wpAnyH_take (i := 5) (v := ?_) rfl (by kernel_rfl) (by kernel_rfl) (by kernel_rfl) (fun _ _ _ h => h) (Or.inl ⟨by rfl, ?_⟩) (by assumption) ?_
              rotate_left
              · (intro w hSw; (try dsimp only at hSw); go_simp; try with_reducible rfl)
              try simp only [Act.put, List.setIfInBounds_toArray, List.set_cons_zero, List.set_cons_succ]
              refine wpAnyH_take (i := 6) (v := ?_) rfl (by kernel_rfl) (by kernel_rfl) (by kernel_rfl) (fun _ _ _ h => h) (Or.inl ⟨by rfl, ?_⟩) (by assumption) ?_
              rotate_left
              · (intro w hSw; (try dsimp only at hSw); go_simp; try with_reducible rfl)
              try simp only [Act.put, List.setIfInBounds_toArray, List.set_cons_zero, List.set_cons_succ]
              refine wpAnyH_take (i := 7) (v := ?_) rfl (by kernel_rfl) (by kernel_rfl) (by kernel_rfl) (fun _ _ _ h => h) (Or.inl ⟨by rfl, ?_⟩) (by assumption) ?_
              rotate_left
              · (intro w hSw; (try dsimp only at hSw); go_simp; try with_reducible rfl)
              try simp only [Act.put, List.setIfInBounds_toArray, List.set_cons_zero, List.set_cons_succ]
              refine wpAnyH_take (i := 8) (v := ?_) rfl (by kernel_rfl) (by kernel_rfl) (by kernel_rfl) (fun _ _ _ h => h) (Or.inl ⟨by rfl, ?_⟩) (by assumption) ?_
              rotate_left
              · (intro w hSw; (try dsimp only at hSw); go_simp; try with_reducible rfl)
              try simp only [Act.put, List.setIfInBounds_toArray, List.set_cons_zero, List.set_cons_succ]
              refine wpAnyH_take (i := 9) (v := ?_) rfl (by kernel_rfl) (by kernel_rfl) (by kernel_rfl) (fun _ _ _ h => h) (Or.inl ⟨by rfl, ?_⟩) (by assumption) ?_
              rotate_left
              · (intro w hSw; (try dsimp only at hSw); go_simp; try with_reducible rfl)
              try simp only [Act.put, List.setIfInBounds_toArray, List.set_cons_zero, List.set_cons_succ]
              refine wpAnyH_take (i := 10) (v := ?_) rfl (by kernel_rfl) (by kernel_rfl) (by kernel_rfl) (fun _ _ _ h => h) (Or.inl ⟨by rfl, ?_⟩) (by assumption) ?_
              rotate_left
              · (intro w hSw; (try dsimp only at hSw); go_simp; try with_reducible rfl)
              try simp only [Act.put, List.setIfInBounds_toArray, List.set_cons_zero, List.set_cons_succ]
              refine wpAnyH_take (i := 11) (v := ?_) rfl (by kernel_rfl) (by kernel_rfl) (by kernel_rfl) (fun _ _ _ h => h) (Or.inl ⟨by rfl, ?_⟩) (by assumption) ?_
              rotate_left
              · (intro w hSw; (try dsimp only at hSw); go_simp; try with_reducible rfl)
              try simp only [Act.put, List.setIfInBounds_toArray, List.set_cons_zero, List.set_cons_succ]
              refine wpAnyH_take (i := 12) (v := ?_) rfl (by kernel_rfl) (by kernel_rfl) (by kernel_rfl) (fun _ _ _ h => h) (Or.inl ⟨by rfl, ?_⟩) (by assumption) ?_
              rotate_left
              · (intro w hSw; (try dsimp only at hSw); go_simp; try with_reducible rfl)
              try simp only [Act.put, List.setIfInBounds_toArray, List.set_cons_zero, List.set_cons_succ]
              refine wpAnyH_take (i := 13) (v := ?_) rfl (by kernel_rfl) (by kernel_rfl) (by kernel_rfl) (fun _ _ _ h => h) (Or.inl ⟨by rfl, ?_⟩) (by assumption) ?_
              rotate_left
              · (intro w hSw; (try dsimp only at hSw); go_simp; try with_reducible rfl)
              try simp only [Act.put, List.setIfInBounds_toArray, List.set_cons_zero, List.set_cons_succ]
              refine wpAnyH_take (i := 14) (v := ?_) rfl (by kernel_rfl) (by kernel_rfl) (by kernel_rfl) (fun _ _ _ h => h) (Or.inl ⟨by rfl, ?_⟩) (by assumption) ?_
              rotate_left
              · (intro w hSw; (try dsimp only at hSw); go_simp; try with_reducible rfl)
              try simp only [Act.put, List.setIfInBounds_toArray, List.set_cons_zero, List.set_cons_succ]
              refine wpAnyH_take (i := 15) (v := ?_) rfl (by kernel_rfl) (by kernel_rfl) (by kernel_rfl) (fun _ _ _ h => h) (Or.inl ⟨by rfl, ?_⟩) (by assumption) ?_
              rotate_left
              · (intro w hSw; (try dsimp only at hSw); go_simp; try with_reducible rfl)
              try simp only [Act.put, List.setIfInBounds_toArray, List.set_cons_zero, List.set_cons_succ]
              refine wpAnyH_take (i := 16) (v := ?_) rfl (by kernel_rfl) (by kernel_rfl) (by kernel_rfl) (fun _ _ _ h => h) (Or.inl ⟨by rfl, ?_⟩) (by assumption) ?_
              rotate_left
              · (intro w hSw; (try dsimp only at hSw); go_simp; try with_reducible rfl)
              try simp only [Act.put, List.setIfInBounds_toArray, List.set_cons_zero, List.set_cons_succ]
              refine wpAnyH_take (i := 17) (v := ?_) rfl (by kernel_rfl) (by kernel_rfl) (by kernel_rfl) (fun _ _ _ h => h) (Or.inl ⟨by rfl, ?_⟩) (by assumption) ?_
              rotate_left
              · (intro w hSw; (try dsimp only at hSw); go_simp; try with_reducible rfl)
              try simp only [Act.put, List.setIfInBounds_toArray, List.set_cons_zero, List.set_cons_succ]
              refine wpAnyH_take (i := 18) (v := ?_) rfl (by kernel_rfl) (by kernel_rfl) (by kernel_rfl) (fun _ _ _ h => h) (Or.inl ⟨by rfl, ?_⟩) (by assumption) ?_
              rotate_left
              · (intro w hSw; (try dsimp only at hSw); go_simp; try with_reducible rfl)
              try simp only [Act.put, List.setIfInBounds_toArray, List.set_cons_zero, List.set_cons_succ]
              refine wpAnyH_take (i := 19) (v := ?_) rfl (by kernel_rfl) (by kernel_rfl) (by kernel_rfl) (fun _ _ _ h => h) (Or.inl ⟨by rfl, ?_⟩) (by assumption) ?_
              rotate_left
              · (intro w hSw; (try dsimp only at hSw); go_simp; try with_reducible rfl)
              try simp only [Act.put, List.setIfInBounds_toArray, List.set_cons_zero, List.set_cons_succ]
              refine wpAnyH_take (i := 20) (v := ?_) rfl (by kernel_rfl) (by kernel_rfl) (by kernel_rfl) (fun _ _ _ h => h) (Or.inl ⟨by rfl, ?_⟩) (by assumption) ?_
              rotate_left
              · (intro w hSw; (try dsimp only at hSw); go_simp; try with_reducible rfl)
              try simp only [Act.put, List.setIfInBounds_toArray, List.set_cons_zero, List.set_cons_succ]
              refine wpAnyH_take (i := 21) (v := ?_) rfl (by kernel_rfl) (by kernel_rfl) (by kernel_rfl) (fun _ _ _ h => h) (Or.inl ⟨by rfl, ?_⟩) (by assumption) ?_
              rotate_left
              · (intro w hSw; (try dsimp only at hSw); go_simp; try with_reducible rfl)
              try simp only [Act.put, List.setIfInBounds_toArray, List.set_cons_zero, List.set_cons_succ]
              refine wpAnyH_take (i := 22) (v := ?_) rfl (by kernel_rfl) (by kernel_rfl) (by kernel_rfl) (fun _ _ _ h => h) (Or.inl ⟨by rfl, ?_⟩) (by assumption) ?_
              rotate_left
              · (intro w hSw; (try dsimp only at hSw); go_simp; try with_reducible rfl)
              try simp only [Act.put, List.setIfInBounds_toArray, List.set_cons_zero, List.set_cons_succ]
              refine wpAnyH_take (i := 23) (v := ?_) rfl (by kernel_rfl) (by kernel_rfl) (by kernel_rfl) (fun _ _ _ h => h) (Or.inl ⟨by rfl, ?_⟩) (by assumption) ?_
              rotate_left
              · (intro w hSw; (try dsimp only at hSw); go_simp; try with_reducible rfl)
              try simp only [Act.put, List.setIfInBounds_toArray, List.set_cons_zero, List.set_cons_succ]
              refine wpAnyH_take (i := 24) (v := ?_) rfl (by kernel_rfl) (by kernel_rfl) (by kernel_rfl) (fun _ _ _ h => h) (Or.inl ⟨by rfl, ?_⟩) (by assumption) ?_
              rotate_left
              · (intro w hSw; (try dsimp only at hSw); go_simp; try with_reducible rfl)
              try simp only [Act.put, List.setIfInBounds_toArray, List.set_cons_zero, List.set_cons_succ]
              refine wpAnyH_take (i := 25) (v := ?_) rfl (by kernel_rfl) (by kernel_rfl) (by kernel_rfl) (fun _ _ _ h => h) (Or.inl ⟨by rfl, ?_⟩) (by assumption) ?_
              rotate_left
              · (intro w hSw; (try dsimp only at hSw); go_simp; try with_reducible rfl)
              try simp only [Act.put, List.setIfInBounds_toArray, List.set_cons_zero, List.set_cons_succ]
              refine wpAnyH_take (i := 26) (v := ?_) rfl (by kernel_rfl) (by kernel_rfl) (by kernel_rfl) (fun _ _ _ h => h) (Or.inl ⟨by rfl, ?_⟩) (by assumption) ?_
              rotate_left
              · (intro w hSw; (try dsimp only at hSw); go_simp; try with_reducible rfl)
              try simp only [Act.put, List.setIfInBounds_toArray, List.set_cons_zero, List.set_cons_succ]
              refine wpAnyH_take (i := 27) (v := ?_) rfl (by kernel_rfl) (by kernel_rfl) (by kernel_rfl) (fun _ _ _ h => h) (Or.inl ⟨by rfl, ?_⟩) (by assumption) ?_
              rotate_left
              · (intro w hSw; (try dsimp only at hSw); go_simp; try with_reducible rfl)
              try simp only [Act.put, List.setIfInBounds_toArray, List.set_cons_zero, List.set_cons_succ]
              refine wpAnyH_take (i := 28) (v := ?_) rfl (by kernel_rfl) (by kernel_rfl) (by kernel_rfl) (fun _ _ _ h => h) (Or.inl ⟨by rfl, ?_⟩) (by assumption) ?_
              rotate_left
              · (intro w hSw; (try dsimp only at hSw); go_simp; try with_reducible rfl)
              try simp only [Act.put, List.setIfInBounds_toArray, List.set_cons_zero, List.set_cons_succ]
              refine wpAnyH_done (by kernel_rfl) ?_ _
              show wpList _ _ _ _ _ _
              go_wp2
              go_roundw
              case rel =>
                refine ⟨l + 1, by omega, by go_num, ?_⟩
                rw [show j * Y + (l + 1) = q + 1 by rw [← HQ.out]; omega]
                show MixS _ _ _ _ _ _ _ _ (upd (stepTo (mixR X Y (playsTo (X + Y) M) xs i) (bitsTo (X + Y) i (X + Y)) z X Y q) q (mixAt (bitsTo (X + Y) i (X + Y)) X Y q) z) _ _ _ _
                rw [HUP.out.2, HUP.out.1]
                exact HST.out.sameHeap (Drw.mk _ _)
              case measure => simp [intOf]; omega
            · obtain rfl : l = Y := by omega
              have HSS := Lib.hid hS
              clear hS
              go_wp2
              go_roundw
              case rel => exact ⟨j + 1, by omega, by go_num, by rw [Nat.succ_mul]; exact HSS.out⟩
              case measure => simp [intOf]; omega
        · obtain rfl : j = X := by omega
          have hnx : stepTo (mixR j Y (playsTo (j + Y) M) xs i) (bitsTo (j + Y) i (j + Y)) z j Y (j * Y) = mixR j Y (playsTo (j + Y) M) xs (i + 1) := by
            show _ = stepTo (mixR j Y (playsTo (j + Y) M) xs i) ((playsTo (j + Y) M).getD i []) (xs.getD i 0) j Y (j * Y)
            rw [HG.out.1, getD_some _ i [] _ (playsTo_get hlt2)]
          rw [hnx] at hS
          have HSS := Lib.hid hS
          clear hnx hS
          go_wp2
          go_roundw
          case rel => exact ⟨i + 1, by omega, by go_num, HSS.out⟩
          case measure => simp [intOf]; omega
    · obtain rfl : i = M := by omega
      have hrt := HRT.out.kept (hS.mid.below (B := w.heap.size + 1) (Nat.le_refl _) (by have := BP.size; have := hS.g1; have := hS.g2; have := hS.g3; omega)) (by omega)
      obtain ⟨⟨g0, g1, g2, g3⟩, _⟩ := hS.cells
      obtain ⟨f0, f1, f2, f3, ff⟩ := hrt
      have hzz := hS.mid.size
      have B5 : Below w.heap.size w wr := BP.trans (hS.mid.below (by omega) BP.size)
      have hend := box_out (g := w.heap.size) B5 (Nat.le_refl _) (by omega) (hS.rows.weaken (lo' := w.heap.size + 1) (hi' := wr.heap.size) (Nat.le_refl _) (by omega)) (.int .i64 X) (.int .i64 Y) (.int .i64 xs.sum) (.slice a N c)
      clear hS
      go_wp2
      refine bodyPost_ret (v := .agg #[.int .i64 X, .int .i64 Y, .int .i64 xs.sum, .slice a N c]) ?_ rfl ?_
      · simp [results, Try.results68, go_sem, f0, f1, f2, f3]
      · refine ⟨a, c, vs, by rw [Int.toNat_natCast, Int.toNat_natCast, HN.out], ?_, hend.2⟩
        rw [Int.toNat_natCast, Int.toNat_natCast, HN.out, ← HM.out]
        exact hend.1
end Go.Proofs.Ytbleeakcmmpcgaa
