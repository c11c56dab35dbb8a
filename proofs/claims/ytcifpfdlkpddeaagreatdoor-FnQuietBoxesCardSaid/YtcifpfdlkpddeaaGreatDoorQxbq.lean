/- ParseBox: contract of the reference's function. -/
import Derived.Test.YtcifpfdlkpddeaaGreatDoorQxbp
set_option linter.unusedSimpArgs false
set_option linter.unusedVariables false
namespace Go.Proofs.YtcifpfdlkpddeaaGreatDoor
open Go.RowKit Go.WideShapes

/-- A box variable behind an empty list of rows. -/
theorem BoxRel.empty (w W3 : World) (x y whole : Int) (hW : W3 = (w.alloc (.cells #[] 33)).alloc (.cells #[.int .i64 x, .int .i64 y, .int .i64 whole, .slice (some ⟨w.heap.size, 0, none⟩) 0 0] 26)) :
    BoxRel W3 w.heap.size (w.heap.size + 1) w.heap.size W3 x y whole [] (some ⟨w.heap.size, 0, none⟩) 0 [] := by
  subst hW
  have hE := OwnII.empty 33 3 w
  have hE2 := (hE.kept (B := w.heap.size + 1) (w' := ((w.alloc (.cells #[] 33)).alloc (.cells #[.int .i64 x, .int .i64 y, .int .i64 whole, .slice (some ⟨w.heap.size, 0, none⟩) 0 0] 26))) ((Below.refl _ _).alloc (by simp) _) (Nat.le_refl _)).weaken (hi' := w.heap.size + 1 + 1) (Nat.le_refl _) (by omega)
  refine ⟨Below.refl _ _, by omega, Nat.le_refl _, by simp only [World.size_alloc]; omega, by simp only [World.size_alloc]; omega, ?_, by simpa only [World.size_alloc, List.length_nil] using hE2⟩
  show ((w.heap.push _).push _)[w.heap.size + 1]? = _
  rw [Array.getElem?_push, if_pos (by simp)]
  rfl
theorem four_list {xs : List Int} (h : xs.length = 4) : ∃ p q r z : Int, xs = [p, q, r, z] := by
  match xs, h with
  | [p, q, r, z], _ => exact ⟨p, q, r, z, rfl⟩
def lastSum (D : List (List Int)) : Int := (D.getLast?.getD []).sum
theorem lastSum_snoc (D : List (List Int)) (r : List Int) : lastSum (D ++ [r]) = r.sum := by unfold lastSum; simp

set_option maxRecDepth 20000 in
set_option maxHeartbeats 6400000 in
theorem specParseBox_any (s : ByteArray) (w : World) (hs : s.size ≤ 1048576) :
    Calls Tryz.prog 19 #[.string s] w (BoxRes w (parseD s) (parseOk s)) := by
  have hR0 := RetAt.made w
  have hB0 : Below w.heap.size w (w.alloc (.cells #[.int .i64 0, .int .i64 0, .int .i64 0, .slice none 0 0] 26)) := (Below.refl _ _).alloc (Nat.le_refl _) _
  have C := l1Split_any s 32 (w.alloc (.cells #[.int .i64 0, .int .i64 0, .int .i64 0, .slice none 0 0] 26)) hs
  have hps := fun (k : Nat) (x : ByteArray) (h : (piecesB 32 s)[k]? = some x) => piecesB_size2 (List.mem_of_getElem? h)
  obtain ⟨ps, hp⟩ : ∃ ps, piecesB 32 s = ps := ⟨_, rfl⟩
  rw [hp] at C hps
  have HP := Lib.hid hp
  have HPS := Lib.hid hps
  clear hp hps
  go_enter Tryz.func19, Tryz.ntmps19
  go_wp2_with fail
  refine C.mono ?_
  rintro e w1 ⟨a1, c1, rfl, o1, b1⟩
  have B1 : Below w.heap.size w w1 := hB0.trans (b1.mono hB0.size)
  have R1 : RetAt w1 w.heap.size := hR0.kept (B := w.heap.size + 1) (by rw [World.size_alloc] at b1; exact b1) (by omega)
  rw [← HP.out] at o1
  obtain ⟨rb, rfl⟩ := pieces_row o1
  rw [HP.out] at o1
  have hcap := ownCap o1
  rw [strs_length] at hcap
  have HC1 := Lib.hid (fun (k : Nat) (x : ByteArray) (hx : ps[k]? = some x) => o1.cell0 k (.string x) (by rw [strs_get, hx]; rfl))
  have z1 := B1.size
  clear C hB0 hR0 o1 b1
  by_cases h3 : ps.length < 3
  · have HNOP := Lib.hid (show parseOk s = false from parse_len (by unfold wordsB; rw [HP.out]; omega))
    have h3' : (ps.length : Int) < 3 := by omega
    obtain ⟨e0, e1, e2, e3, ef⟩ := R1
    have BZ := B1.trans (below_set4 (w := w1) (B := w.heap.size) (r := w.heap.size) (Nat.le_refl _) (.int .i64 0) (.int .i64 0) (.int .i64 0) (.slice none 0 0))
    have HNO := Lib.hid HNOP.out
    go_wp2
    refine bodyPost_ret (v := .tuple #[.agg #[.int .i64 0, .int .i64 0, .int .i64 0, .slice none 0 0], .bool false]) ?_ rfl ?_
    · simp [results, Tryz.results19, go_sem, e0, e1, e2, e3]
    · rw [parse_no HNO.out, HNO.out]
      exact zero_res BZ rfl
  by_cases h11 : 11 < ps.length
  · have HNOP := Lib.hid (show parseOk s = false from parse_len (by unfold wordsB; rw [HP.out]; omega))
    have h3' : ¬ (ps.length : Int) < 3 := by omega
    have h11' : (11 : Int) < (ps.length : Int) := by omega
    clear h3
    obtain ⟨e0, e1, e2, e3, ef⟩ := R1
    have BZ := B1.trans (below_set4 (w := w1) (B := w.heap.size) (r := w.heap.size) (Nat.le_refl _) (.int .i64 0) (.int .i64 0) (.int .i64 0) (.slice none 0 0))
    have HNO := Lib.hid HNOP.out
    go_wp2
    refine bodyPost_ret (v := .tuple #[.agg #[.int .i64 0, .int .i64 0, .int .i64 0, .slice none 0 0], .bool false]) ?_ rfl ?_
    · simp [results, Tryz.results19, go_sem, e0, e1, e2, e3]
    · rw [parse_no HNO.out, HNO.out]
      exact zero_res BZ rfl
  have H311 := Lib.hid (show 3 ≤ ps.length ∧ ps.length ≤ 11 by omega)
  obtain ⟨L, hL⟩ : ∃ L, ps.length = L + 2 := ⟨ps.length - 2, by omega⟩
  have hg0 := List.getElem?_eq_getElem (show 0 < ps.length by omega)
  have hg1 := List.getElem?_eq_getElem (show 1 < ps.length by omega)
  have hc0 := HC1.out 0 _ hg0
  have hc1 := HC1.out 1 _ hg1
  have hz0 := HPS.out 0 _ hg0
  have hz1 := HPS.out 1 _ hg1
  have HW0 := Lib.hid (show word s 0 = ps[0] by unfold word wordsB; rw [HP.out, List.getD_eq_getElem?_getD, hg0]; rfl)
  have HW1 := Lib.hid (show word s 1 = ps[1] by unfold word wordsB; rw [HP.out, List.getD_eq_getElem?_getD, hg1]; rfl)
  generalize ps[0] = t0 at *
  generalize ps[1] = t1 at *
  have HLL := Lib.hid hL
  have CP0 := l1Read_any t0 w1 (by omega)
  have CP1 := fun W => l1Read_any t1 W (by omega)
  have hL1 : 1 ≤ L := by omega
  have hL9 : L ≤ 9 := by omega
  have q3 : ¬ ((L : Int) + 2 < 3) := by omega
  have q11 : ¬ ((11 : Int) < (L : Int) + 2) := by omega
  rw [hL]
  clear hg0 hg1 hz0 hz1 hL h3 h11 hcap
  go_wp2_with fail
  refine CP0.mono ?_
  rintro e w2 ⟨rfl, d2⟩
  have b2 := d2.below w1.heap.size
  have B2 := B1.trans (b2.mono z1)
  have R2 : RetAt w2 w.heap.size := R1.kept b2 R1.lt0
  have hd1 : w2.cell? ⟨rb, 1, none⟩ = some (.string t1) := keepCell2 b2 hc1
  have z2 := B2.size
  have z12 := b2.size
  clear CP0 hc0 hc1 d2
  go_wp2_with fail
  refine (CP1 w2).mono ?_
  rintro e w3 ⟨rfl, d3⟩
  have b3 := d3.below w2.heap.size
  have B3 := B2.trans (b3.mono z2)
  have R3 : RetAt w3 w.heap.size := R2.kept b3 R2.lt0
  have z3 := B3.size
  have z23 := b3.size
  have HC3 := Lib.hid (fun (k : Nat) (x : ByteArray) (hx : ps[k]? = some x) => keepCell2 b3 (keepCell2 b2 (HC1.out k x hx)))
  clear CP1 hd1 b2 b3 d3
  obtain ⟨X, hX⟩ : ∃ X, readV t0 = X := ⟨_, rfl⟩
  obtain ⟨Y, hY⟩ : ∃ Y, readV t1 = Y := ⟨_, rfl⟩
  obtain ⟨one, hone⟩ : ∃ f, readOk t0 = f := ⟨_, rfl⟩
  obtain ⟨two, htwo⟩ : ∃ f, readOk t1 = f := ⟨_, rfl⟩
  rw [hX, hY, hone, htwo]
  have HXY := Lib.hid (And.intro hX (And.intro hY (And.intro hone htwo)))
  clear hX hY hone htwo
  have HONE := Lib.hid (show one = false ∨ two = false → parseOk s = false from fun h => parse_one (by rw [HW0.out, HW1.out, HXY.out.2.2.1, HXY.out.2.2.2]; exact h))
  obtain ⟨w4, hw4⟩ : ∃ w4, w4 = (w3.alloc (.cells #[] 33)).alloc (.cells #[.int .i64 X, .int .i64 Y, .int .i64 0, .slice (some ⟨w3.heap.size, 0, none⟩) 0 0] 26) := ⟨_, rfl⟩
  have hN := BoxRel.empty w3 w4 X Y 0 hw4
  have B4 : Below w.heap.size w w4 := by rw [hw4]; exact (B3.alloc z3 _).alloc (by simp only [World.size_alloc]; omega) _
  have b34 : Below w3.heap.size w3 w4 := by rw [hw4]; exact (below_alloc0 _ _).alloc (by simp) _
  have R4 : RetAt w4 w.heap.size := R3.kept b34 R3.lt0
  have z3' : w.heap.size + 1 ≤ w3.heap.size := R3.lt0
  have z4 := B4.size
  cases one with
  | false =>
    have HN1 := HONE.out (Or.inl rfl)
    go_wp2
    rw [← hw4]
    clear hw4
    go_loopw [10] (fun s10 wr => s10 = .int .i64 2 ∧ wr = w4) (fun _ _ => 0)
    case atStart => exact ⟨rfl, rfl⟩
    case round =>
      obtain ⟨rfl, rfl⟩ := hrel
      obtain ⟨wq, rfl⟩ : ∃ wq : World, wq = wr := ⟨_, rfl⟩
      have hLi : (2 : Int) < (L : Int) + 2 := by omega
      obtain ⟨e0, e1, e2, e3, ef⟩ := R4
      have BZ := B4.trans (below_set4 (w := wq) (B := w.heap.size) (r := w.heap.size) (Nat.le_refl _) (.int .i64 0) (.int .i64 0) (.int .i64 0) (.slice none 0 0))
      have HNO := Lib.hid HN1
      go_wp2
      refine bodyPost_ret (v := .tuple #[.agg #[.int .i64 0, .int .i64 0, .int .i64 0, .slice none 0 0], .bool false]) ?_ rfl ?_
      · simp [results, Tryz.results19, go_sem, e0, e1, e2, e3]
      · rw [parse_no HNO.out, HNO.out]
        exact zero_res BZ rfl
  | true =>
  cases two with
  | false =>
    have HN1 := HONE.out (Or.inr rfl)
    go_wp2
    rw [← hw4]
    clear hw4
    go_loopw [10] (fun s10 wr => s10 = .int .i64 2 ∧ wr = w4) (fun _ _ => 0)
    case atStart => exact ⟨rfl, rfl⟩
    case round =>
      obtain ⟨rfl, rfl⟩ := hrel
      obtain ⟨wq, rfl⟩ : ∃ wq : World, wq = wr := ⟨_, rfl⟩
      have hLi : (2 : Int) < (L : Int) + 2 := by omega
      obtain ⟨e0, e1, e2, e3, ef⟩ := R4
      have BZ := B4.trans (below_set4 (w := wq) (B := w.heap.size) (r := w.heap.size) (Nat.le_refl _) (.int .i64 0) (.int .i64 0) (.int .i64 0) (.slice none 0 0))
      have HNO := Lib.hid HN1
      go_wp2
      refine bodyPost_ret (v := .tuple #[.agg #[.int .i64 0, .int .i64 0, .int .i64 0, .slice none 0 0], .bool false]) ?_ rfl ?_
      · simp [results, Tryz.results19, go_sem, e0, e1, e2, e3]
      · rw [parse_no HNO.out, HNO.out]
        exact zero_res BZ rfl
  | true =>
    go_wp2
    rw [← hw4]
    clear hw4
    go_loopw [10] (fun s10 wr => ∃ k : Nat, k ≤ L ∧ s10 = .int .i64 ((k : Int) + 2) ∧ Hid (∀ (j : Nat) (t : ByteArray), j < k → (ps.drop 2)[j]? = some t → rowOk t = true) ∧ ∃ z a c vs, Hid (z = lastSum (((ps.drop 2).take k).map numsL)) ∧ BoxRel w4 w3.heap.size (w3.heap.size + 1) w3.heap.size wr X Y z (((ps.drop 2).take k).map numsL) a c vs) (fun s10 _ => L + 2 - (intOf s10).toNat)
    case atStart => exact ⟨0, by omega, rfl, Lib.hid (fun j t hj => absurd hj (by omega)), 0, some ⟨w3.heap.size, 0, none⟩, 0, [], Lib.hid (by simp [lastSum]), by simpa using hN⟩
    case round =>
      clear hN
      obtain ⟨k, hk, rfl, HOK, z, a, c, vs, HZ, hR⟩ := hrel
      have BW : Below w.heap.size w wr := B4.trans (hR.below.mono z3)
      have R5 : RetAt wr w.heap.size := R4.kept hR.below R3.lt0
      have zr := BW.size
      have hD : (((ps.drop 2).take k).map numsL).length = k := by rw [List.length_map, List.length_take, List.length_drop, HLL.out]; omega
      obtain ⟨D, hDD⟩ : ∃ D, ((ps.drop 2).take k).map numsL = D := ⟨_, rfl⟩
      rw [hDD] at hR hD
      have HDD := Lib.hid (And.intro hDD hD)
      have HKE := Lib.hid (fun (j : Nat) (x : ByteArray) (hx : ps[j]? = some x) => (hR.below.cell (p := ⟨rb, j, none⟩) (World.block_lt_of_cell? _ _ (HC3.out j x hx))).trans (keepCell2 b34 (HC3.out j x hx)))
      clear hDD
      by_cases hlt : k < L
      · obtain ⟨t, hg⟩ : ∃ t, ps[k + 2]? = some t := ⟨_, List.getElem?_eq_getElem (by have := HLL.out; omega)⟩
        have hcell := HKE.out (k + 2) t hg
        have hdrop : (ps.drop 2)[k]? = some t := by rw [List.getElem?_drop, show 2 + k = k + 2 by omega]; exact hg
        have hsz := HPS.out _ _ hg
        have CR := l2ReadRow_any t wr (by have := HLL.out; omega)
        have HDR := Lib.hid hdrop
        have hk0 : ((k : Int) + 2) < (L : Int) + 2 := by omega
        have hk1 : (0 : Int) ≤ (k : Int) + 2 := by omega
        clear hg hdrop hsz hD
        cases hok : rowOk t with
        | true =>
          rw [hok, rowR_ok hok] at CR
          have HOT := Lib.hid hok
          have hn4 := ((rowOk_iff t).1 hok).2
          have hbd := numsL_bd t
          obtain ⟨p0, p1, p2, p3, hp4⟩ := four_list hn4
          rw [hp4] at CR hbd
          have HP4 := Lib.hid hp4
          have bd0 := hbd 0 p0 rfl
          have bd1 := hbd 1 p1 rfl
          have bd2 := hbd 2 p2 rfl
          have bd3 := hbd 3 p3 rfl
          clear hok hn4 hp4 hbd
          go_wp2_with fail
          refine CR.mono ?_
          rintro e wd ⟨ar, cr, rfl, hrow, hb1⟩
          have hRd := hR.later hb1
          obtain ⟨⟨g0, g1, g2, g3⟩, gf⟩ := hRd.cells
          have ht := hRd.rows.top
          have hlen := hRd.rows.len
          rw [HDD.out.2] at hlen ht g3
          have HN := Lib.hid hlen
          have hn9 : vs.length ≤ 4194304 := by omega
          have hlo := hRd.b4
          clear hlen CR hcell
          go_wp2_with (at_builtin; refine append1_at rfl _ _ 24 33 rfl Tryz.underlying24 Tryz.infoInts rfl ht rfl rfl rfl rfl hn9 (by omega) hlo ?_)
          intro a2 c2 w5 hT2 hg2
          have hp := hR.push hb1 hrow hT2 (by rw [HDD.out.2]; exact hg2) (by rw [HN.out, List.length_append, HDD.out.2]; rfl)
          obtain ⟨hp1, f1, f2⟩ := hp
          clear g0 g1 g2 g3 gf hR hRd ht hT2 hrow
          rw [HDD.out.2] at f1
          have r5 := hp1.rows.row k (.slice ar ([p0, p1, p2, p3] : List Int).length cr) [p0, p1, p2, p3] (by rw [List.getElem?_append_right (by rw [HN.out]; exact Nat.le_refl _), HN.out]; simp) (by rw [List.getElem?_append_right (by rw [HDD.out.2]; exact Nat.le_refl _), HDD.out.2]; simp)
          obtain ⟨ga, rfl⟩ : ∃ g, ar = some ⟨g, 0, none⟩ := by
            obtain ⟨a', g, cap, hv, _, ha, _⟩ := r5.shape
            injection hv with q1
            exact ⟨g, by rw [q1]; exact (ha (by simp)).1⟩
          have k0 := r5.cell0 0 (.int .i64 p0) rfl
          have k1 := r5.cell0 1 (.int .i64 p1) rfl
          have k2 := r5.cell0 2 (.int .i64 p2) rfl
          have k3 := r5.cell0 3 (.int .i64 p3) rfl
          obtain ⟨⟨m0, m1, m2, m3⟩, mf⟩ := hp1.cells
          have e1 : IntKind.i64.wrap (p0 + p1) = p0 + p1 := IntWalk.i64_in _ (by omega)
          have e2 : IntKind.i64.wrap (p0 + p1 + p2) = p0 + p1 + p2 := IntWalk.i64_in _ (by omega)
          have e3 : IntKind.i64.wrap (p0 + p1 + p2 + p3) = p0 + p1 + p2 + p3 := IntWalk.i64_in _ (by omega)
          have HQ := Lib.hid ((hp1.setW (p0 + p1 + p2 + p3)).later ((Below.refl _ _).drew))
          have hne : w3.heap.size + 1 ≠ ga := fun e => r5.ne_tag hp1.box (by decide) (by rw [e]; rfl)
          have hne' : ga ≠ w3.heap.size + 1 := fun e => hne e.symm
          have mf2 := mf 2
          clear r5 hp1 mf
          go_wp2
          go_region_held3 (fun w' => w'.cell? ⟨ga, 0, none⟩ = some (.int .i64 p0) ∧ w'.cell? ⟨ga, 1, none⟩ = some (.int .i64 p1) ∧ w'.cell? ⟨ga, 2, none⟩ = some (.int .i64 p2) ∧ w'.cell? ⟨ga, 3, none⟩ = some (.int .i64 p3)) (first | exact ⟨k0, k1, k2, k3⟩ | exact ⟨(World.cell?_setCell_far _ _ _ _ hne).trans k0, (World.cell?_setCell_far _ _ _ _ hne).trans k1, (World.cell?_setCell_far _ _ _ _ hne).trans k2, (World.cell?_setCell_far _ _ _ _ hne).trans k3⟩ | exact ⟨(World.cell?_setCell_far _ _ _ _ hne').trans k0, (World.cell?_setCell_far _ _ _ _ hne').trans k1, (World.cell?_setCell_far _ _ _ _ hne').trans k2, (World.cell?_setCell_far _ _ _ _ hne').trans k3⟩) (fail)
          go_wp2
          go_roundw
          case rel => exact ⟨k + 1, by omega, by go_num, Lib.hid (fun j y hj hy => by
            by_cases e : j = k
            · subst e; rw [HDR.out] at hy; cases hy; exact HOT.out
            · exact HOK.out j y (by omega) hy), p0 + p1 + p2 + p3, a2, c2, _, by
              have hx : ((ps.drop 2).take (k + 1)).map numsL = D ++ [[p0, p1, p2, p3]] := by rw [List.take_add_one, HDR.out, List.map_append, HDD.out.1, ← HP4.out]; rfl
              rw [hx]
              exact ⟨Lib.hid (by rw [lastSum_snoc]; simp; omega), HQ.out⟩⟩
          case measure => simp [intOf]; omega
        | false =>
          rw [hok] at CR
          have HNOP := Lib.hid (show parseOk s = false from parse_four (k := k) (t := t) (by unfold wordsB; rw [HP.out]; exact HDR.out) hok)
          generalize rowR t = nr at *
          clear hok
          go_wp2_with fail
          refine CR.mono ?_
          rintro e wd ⟨ar, cr, rfl, hrow, hb1⟩
          have BD := BW.trans (hb1.mono zr)
          have RD := R5.kept hb1 R5.lt0
          clear hrow hb1 hcell hR CR R5
          obtain ⟨e0, e1, e2, e3, ef⟩ := RD
          have BZ := BD.trans (below_set4 (w := wd) (B := w.heap.size) (r := w.heap.size) (Nat.le_refl _) (.int .i64 0) (.int .i64 0) (.int .i64 0) (.slice none 0 0))
          have HNO := Lib.hid HNOP.out
          go_wp2
          refine bodyPost_ret (v := .tuple #[.agg #[.int .i64 0, .int .i64 0, .int .i64 0, .slice none 0 0], .bool false]) ?_ rfl ?_
          · simp [results, Tryz.results19, go_sem, e0, e1, e2, e3]
          · rw [parse_no HNO.out, HNO.out]
            exact zero_res BZ rfl
      · obtain rfl : k = L := by omega
        obtain ⟨t2, hg2⟩ : ∃ t, ps[2]? = some t := ⟨_, List.getElem?_eq_getElem (by have := HLL.out; omega)⟩
        have hall : (ps.drop 2).map numsL = D := by rw [← HDD.out.1, List.take_of_length_le (by rw [List.length_drop, HLL.out]; omega)]
        have hr0 : D[0]? = some (numsL t2) := by rw [← hall, List.getElem?_map, List.getElem?_drop]; rw [hg2]; rfl
        have hw2 : word s 2 = t2 := by unfold word wordsB; rw [HP.out, List.getD_eq_getElem?_getD, hg2]; rfl
        have hcand : candB s = ⟨X, Y, (numsL t2).sum, D⟩ := by
          unfold candB
          rw [HW0.out, HW1.out, HXY.out.1, HXY.out.2.1, hw2]
          unfold wordsB
          rw [HP.out, hall]
        obtain ⟨rl, hrl⟩ : ∃ rl, D[k - 1]? = some rl := ⟨_, List.getElem?_eq_getElem (by rw [HDD.out.2]; omega)⟩
        have hzl : z = rl.sum := by
          have h1 := HZ.out
          rw [HDD.out.1] at h1
          rw [h1]
          unfold lastSum
          rw [List.getLast?_eq_getElem?, HDD.out.2, hrl]
          rfl
        have hrest0 : parseOk s = (boxB (candB s) && decide (txtB (candB s) = s)) :=
          parse_rest (by unfold wordsB; rw [HP.out]; exact H311.out) (by rw [HW0.out, HXY.out.2.2.1]) (by rw [HW1.out, HXY.out.2.2.2]) (fun j t hj => ((rowOk_iff t).1 (HOK.out j t (by have := (List.getElem?_eq_some_iff.1 hj).1; unfold wordsB at this; rw [HP.out, List.length_drop, HLL.out] at this; omega) (by unfold wordsB at hj; rw [HP.out] at hj; exact hj))).1)
        have HCAND := Lib.hid (show boxB ⟨X, Y, z, D⟩ = true → candB s = ⟨X, Y, z, D⟩ from fun hb => by
          rw [hzl] at hb ⊢
          obtain ⟨h1, h2⟩ := parse_whole (b := ⟨X, Y, (numsL t2).sum, D⟩) hrl hr0 rfl hb
          rw [hcand, h2])
        have HREST := Lib.hid (show parseOk s = (boxB ⟨X, Y, z, D⟩ && decide (txtB ⟨X, Y, z, D⟩ = s)) by
          cases hb : boxB ⟨X, Y, z, D⟩ with
          | true => rw [hrest0, HCAND.out hb, hb]
          | false =>
            rw [hrest0]
            cases hc : boxB (candB s) with
            | false => rfl
            | true =>
              exfalso
              have h3 := parse_whole2 (b := candB s) (k := k - 1) (rs := rl) (by rw [hcand]; exact hrl) hc
              rw [hcand] at h3 hc
              rw [hzl] at hb
              rw [h3, hc] at hb
              cases hb)
        have hk0 : ¬ ((k : Int) + 2 < (k : Int) + 2) := by omega
        have hkp : (0 : Int) < (k : Int) := by omega
        clear hg2 hall hr0 hw2 hcand hrl hzl hrest0 hD
        have CB : Calls Tryz.prog 35 #[.agg #[.int .i64 X, .int .i64 Y, .int .i64 z, .slice a k c]] wr fun e w' => e = .returned (.bool (boxB ⟨X, Y, z, D⟩)) ∧ Below wr.heap.size wr w' := by
          have := l2Box_any (.slice a D.length c) ⟨X, Y, z, D⟩ wr hR.rows.rdII
          rw [HDD.out.2] at this
          exact this
        obtain ⟨⟨j0, j1, j2, j3⟩, jf⟩ := hR.cells
        rw [HDD.out.2] at j3
        cases hbx : boxB ⟨X, Y, z, D⟩ with
        | false =>
          rw [hbx] at CB
          have HN1 := Lib.hid (show parseOk s = false by rw [HREST.out, hbx]; rfl)
          clear hbx
          go_wp2_with fail
          refine CB.mono ?_
          rintro e w6 ⟨rfl, b6⟩
          have R6 := R5.kept b6 R5.lt0
          have B6 := BW.trans (b6.mono BW.size)
          clear CB j0 j1 j2 j3 jf hR
          obtain ⟨e0, e1, e2, e3, ef⟩ := R6
          have BZ := B6.trans (below_set4 (w := w6) (B := w.heap.size) (r := w.heap.size) (Nat.le_refl _) (.int .i64 0) (.int .i64 0) (.int .i64 0) (.slice none 0 0))
          have HNO := Lib.hid HN1.out
          go_wp2
          refine bodyPost_ret (v := .tuple #[.agg #[.int .i64 0, .int .i64 0, .int .i64 0, .slice none 0 0], .bool false]) ?_ rfl ?_
          · simp [results, Tryz.results19, go_sem, e0, e1, e2, e3]
          · rw [parse_no HNO.out, HNO.out]
            exact zero_res BZ rfl
        | true =>
          rw [hbx] at CB
          have HBX := Lib.hid hbx
          clear hbx
          go_wp2_with fail
          refine CB.mono ?_
          rintro e w6 ⟨rfl, b6⟩
          have R6 := R5.kept b6 R5.lt0
          have B6 := BW.trans (b6.mono BW.size)
          have hR3 := hR.later b6
          clear CB j0 j1 j2 j3 jf hR R5 BW
          have CX : Calls Tryz.prog 47 #[.agg #[.int .i64 X, .int .i64 Y, .int .i64 z, .slice a k c]] w6 fun e w' => e = .returned (.string (txtB ⟨X, Y, z, D⟩)) ∧ Below w6.heap.size w6 w' := by
            have := l2Text_any (.slice a D.length c) ⟨X, Y, z, D⟩ w6 hR3.rows.rdII HBX.out
            rw [HDD.out.2] at this
            exact this
          obtain ⟨⟨j0, j1, j2, j3⟩, jf⟩ := hR3.cells
          rw [HDD.out.2] at j3
          by_cases htx : txtB ⟨X, Y, z, D⟩ = s
          · have HYES := Lib.hid (show parseOk s = true by rw [HREST.out, HBX.out, decide_eq_true htx]; rfl)
            rw [htx] at CX
            clear htx
            go_wp2_with fail
            refine CX.mono ?_
            rintro e w7 ⟨rfl, b7⟩
            have R7 := R6.kept b7 R6.lt0
            have B7 := B6.trans (b7.mono B6.size)
            have hR4 := hR3.later b7
            clear CX j0 j1 j2 j3 jf hR3 R6 B6
            obtain ⟨⟨j0, j1, j2, j3⟩, jf⟩ := hR4.cells
            rw [HDD.out.2] at j3
            obtain ⟨e0, e1, e2, e3, ef⟩ := R7
            have hend := (set4_same (g := w.heap.size) hR4.rows (by omega) (.int .i64 X) (.int .i64 Y) (.int .i64 z) (.slice a k c)).weaken (lo' := w.heap.size) (by omega) (Nat.le_refl _)
            have BE := B7.trans (below_set4 (w := w7) (B := w.heap.size) (r := w.heap.size) (Nat.le_refl _) (.int .i64 X) (.int .i64 Y) (.int .i64 z) (.slice a k c))
            clear hR4 B7 b6 b7
            go_wp2
            refine bodyPost_ret (v := .tuple #[.agg #[.int .i64 X, .int .i64 Y, .int .i64 z, .slice a k c], .bool true]) ?_ rfl ?_
            · simp [results, Tryz.results19, go_sem, e0, e1, e2, e3]
            · rw [HYES.out, parse_yes HYES.out, HCAND.out HBX.out]
              exact ⟨a, c, vs, by rw [show (⟨X, Y, z, D⟩ : BoxD).Rows.length = k from HDD.out.2], by simp only [World.size_setCell]; exact hend, BE⟩
          · have HN1 := Lib.hid (show parseOk s = false by rw [HREST.out, decide_eq_false htx, Bool.and_false])
            have es : ((txtB ⟨X, Y, z, D⟩).toList == s.toList) = false := by
              rw [beq_eq_false_iff_ne]
              intro h
              rw [ByteArray.toList_eq, ByteArray.toList_eq] at h
              exact htx (bytes_inj h)
            generalize txtB ⟨X, Y, z, D⟩ = T at *
            clear htx
            go_wp2_with fail
            refine CX.mono ?_
            rintro e w7 ⟨rfl, b7⟩
            have R7 := R6.kept b7 R6.lt0
            have B7 := B6.trans (b7.mono B6.size)
            clear CX j0 j1 j2 j3 jf hR3 R6 B6
            obtain ⟨e0, e1, e2, e3, ef⟩ := R7
            have BZ := B7.trans (below_set4 (w := w7) (B := w.heap.size) (r := w.heap.size) (Nat.le_refl _) (.int .i64 0) (.int .i64 0) (.int .i64 0) (.slice none 0 0))
            have HNO := Lib.hid HN1.out
            go_wp2
            refine bodyPost_ret (v := .tuple #[.agg #[.int .i64 0, .int .i64 0, .int .i64 0, .slice none 0 0], .bool false]) ?_ rfl ?_
            · simp [results, Tryz.results19, go_sem, e0, e1, e2, e3]
            · rw [parse_no HNO.out, HNO.out]
              exact zero_res BZ rfl
theorem cand_size {b : BoxD} (h : boxB b = true) : b.Rows.length + sumLen b.Rows ≤ 4194304 := by
  have h9 := boxB_len h
  have h4 : ∀ (rss : List (List Int)), (∀ (k : Nat) (rs : List Int), rss[k]? = some rs → rs.length = 4) → sumLen rss = 4 * rss.length := by
    intro rss
    induction rss with
    | nil => intro _; rfl
    | cons r rs ih =>
      intro hh
      have h0 := hh 0 r rfl
      have h1 := ih (fun k x hx => hh (k + 1) x (by simpa using hx))
      have : sumLen (r :: rs) = r.length + sumLen rs := by simp [sumLen]
      rw [this, h0, h1, List.length_cons]
      omega
  rw [h4 b.Rows (fun k rs hk => (boxB_row4 h k rs hk).1)]
  omega
theorem parseD_size (s : ByteArray) : (parseD s).Rows.length + sumLen (parseD s).Rows ≤ 4194304 := by
  unfold parseD
  split
  · rename_i h
    unfold parseOk at h
    simp only [Bool.and_eq_true] at h
    exact cand_size h.2.2.2.2.1
  · simp [zeroD, sumLen]
end Go.Proofs.YtcifpfdlkpddeaaGreatDoor
