/- ParseBox: contract of the program's function. -/
import Derived.Test.YtcifpfdlkpddeaaGreatDoorQxbo
import Derived.Test.YtcifpfdlkpddeaaGreatDoorQxad
import Derived.Test.YtcifpfdlkpddeaaGreatDoorQxaf
set_option linter.unusedSimpArgs false
set_option linter.unusedVariables false
namespace Go.Proofs.YtcifpfdlkpddeaaGreatDoor
open Go.RowKit Go.WideShapes

theorem RetAt.lt0 {w : World} {g : Nat} (h : RetAt w g) : g < w.heap.size := World.block_lt_of_cell? w ⟨g, 0, none⟩ h.e0
theorem keepCell2 {w w' : World} {a : Addr} {v : Value} (hB : Below w.heap.size w w') (h : w.cell? a = some v) : w'.cell? a = some v := (hB.cell (World.block_lt_of_cell? _ _ h)).trans h
theorem below_alloc0 (w : World) (o : Obj) : Below w.heap.size w (w.alloc o) := (Below.refl _ _).alloc (Nat.le_refl _) _
theorem BoxRel.setW {w0 wr : World} {B gb lo : Nat} {x y whole : Int} {rss : List (List Int)} {a : Option Addr} {c : Nat} {vs : List Value} (h : BoxRel w0 B gb lo wr x y whole rss a c vs) (z : Int) :
    BoxRel w0 B gb lo (wr.setCell ⟨gb, 2, none⟩ (.int .i64 z)) x y z rss a c vs := by
  refine ⟨h.below.setCell (by exact h.b1) _, h.b1, h.b2, h.b3, by rw [World.size_setCell]; exact h.b4, ?_, ?_⟩
  · simp [World.setCell, Array.getElem?_modify, h.box]
  · rw [World.size_setCell]
    exact h.rows.tag h.box (by decide) (by decide) fun k hk => Below.heap_setCell _ _ _ _ hk
/-- A box variable with no rows as yet. -/
theorem BoxRel.nil (w : World) (x y whole : Int) : BoxRel (w.alloc (.cells #[.int .i64 x, .int .i64 y, .int .i64 whole, .slice none 0 0] 26)) w.heap.size w.heap.size w.heap.size (w.alloc (.cells #[.int .i64 x, .int .i64 y, .int .i64 whole, .slice none 0 0] 26)) x y whole [] none 0 [] :=
  ⟨Below.refl _ _, Nat.le_refl _, Nat.le_refl _, by simp, by simp, heap_alloc_new w _, OwnII.nil _ _ _ _ _⟩
theorem numsL_len (t : ByteArray) : (numsL t).length ≤ t.size + 1 := by unfold numsL; rw [List.length_map]; exact piecesB_length 44 t
theorem numsL_bd (t : ByteArray) (j : Nat) (x : Int) (h : (numsL t)[j]? = some x) : -1000000 ≤ x ∧ x ≤ 1000000 := by
  unfold numsL at h
  rw [List.getElem?_map, Option.map_eq_some_iff] at h
  obtain ⟨u, _, rfl⟩ := h
  have := readV_bd u
  omega
theorem numsR_ok {t : ByteArray} (h : numsOk t = true) : numsR t = numsL t := by unfold numsR; rw [if_pos h]
theorem set4_same {T2 T1 lo hi : Nat} {w : World} {v : Value} {rss : List (List Int)} {vs : List Value} (o : OwnII T2 T1 lo hi w v rss vs) {g : Nat} (hg : g < lo) (x y z u : Value) :
    OwnII T2 T1 lo hi ((((w.setCell ⟨g, 0, none⟩ x).setCell ⟨g, 1, none⟩ y).setCell ⟨g, 2, none⟩ z).setCell ⟨g, 3, none⟩ u) v rss vs :=
  (((o.setCell_off (Or.inl hg) x).setCell_off (Or.inl hg) y).setCell_off (Or.inl hg) z).setCell_off (Or.inl hg) u
theorem below_set4 {B : Nat} {w : World} {r : Nat} (h : B ≤ r) (x y z u : Value) : Below B w ((((w.setCell ⟨r, 0, none⟩ x).setCell ⟨r, 1, none⟩ y).setCell ⟨r, 2, none⟩ z).setCell ⟨r, 3, none⟩ u) :=
  ((((Below.refl _ _).setCell (by exact h) _).setCell (by exact h) _).setCell (by exact h) _).setCell (by exact h) _
/-- The zero box laid once more into the result variable. -/
theorem zero_res {w wr : World} (hB : Below w.heap.size w wr) {e : Ending} (he : e = .returned (.tuple #[.agg #[.int .i64 0, .int .i64 0, .int .i64 0, .slice none 0 0], .bool false])) : BoxRes w zeroD false e wr := by
  rw [he]; exact BoxRes.zero hB

set_option maxRecDepth 20000 in
set_option maxHeartbeats 6400000 in
theorem implParseBox_any (s : ByteArray) (w : World) (hs : s.size ≤ 1048576) (ht : Tab w) (he : ErrS w) (hm : Max w) :
    Calls Tryz.prog 16 #[.string s] w (BoxRes w (parseD s) (parseOk s)) := by
  have hR0 := RetAt.made w
  have hB0 : Below w.heap.size w (w.alloc (.cells #[.int .i64 0, .int .i64 0, .int .i64 0, .slice none 0 0] 26)) := (Below.refl _ _).alloc (Nat.le_refl _) _
  have C := split_any s 32 _ hs (hm.stays hB0)
  have HT := Lib.hid ht
  have HEE := Lib.hid he
  have HM := Lib.hid hm
  have hpl := piecesB_length 32 s
  have hps := fun (k : Nat) (x : ByteArray) (h : (piecesB 32 s)[k]? = some x) => piecesB_size2 (List.mem_of_getElem? h)
  obtain ⟨ps, hp⟩ : ∃ ps, piecesB 32 s = ps := ⟨_, rfl⟩
  rw [hp] at C hpl hps
  have HP := Lib.hid hp
  have HPS := Lib.hid hps
  clear hp ht he hm hps
  go_enter Tryz.func16, Tryz.ntmps16
  go_wp2_with fail
  refine C.mono ?_
  rintro e w1 ⟨a1, c1, rfl, o1, b1⟩
  have B1 : Below w.heap.size w w1 := hB0.trans (b1.mono hB0.size)
  have R1 : RetAt w1 w.heap.size := hR0.kept (B := w.heap.size + 1) (by rw [World.size_alloc] at b1; exact b1) (by omega)
  rw [← HP.out] at o1
  obtain ⟨rb, rfl⟩ := pieces_row o1
  rw [HP.out] at o1
  have hcap := ownCap o1
  rw [strs_length] at hcap
  have hcell1 := fun (k : Nat) (x : ByteArray) (hx : ps[k]? = some x) => o1.cell0 k (.string x) (by rw [strs_get, hx]; rfl)
  have HC1 := Lib.hid hcell1
  have z1 := B1.size
  clear C hB0 hR0 o1 b1 hcell1
  have CWI := fun W => within_any (ps.length : Int) 3 11 W
  by_cases h311 : 3 ≤ ps.length ∧ ps.length ≤ 11
  · have hin : inB (ps.length : Int) 3 11 = true := inB_iff.2 (by omega)
    rw [hin] at CWI
    obtain ⟨L, hL⟩ : ∃ L, ps.length = L + 2 := ⟨ps.length - 2, by omega⟩
    have hg0 := List.getElem?_eq_getElem (show 0 < ps.length by omega)
    have hg1 := List.getElem?_eq_getElem (show 1 < ps.length by omega)
    have hc0 := HC1.out 0 _ hg0
    have hc1 := HC1.out 1 _ hg1
    have hz0 := HPS.out 0 _ hg0
    have hz1 := HPS.out 1 _ hg1
    have HW0 := Lib.hid (show word s 0 = ps[0] by unfold word wordsB; rw [HP.out, List.getD_eq_getElem?_getD, hg0]; rfl)
    have HW1 := Lib.hid (show word s 1 = ps[1] by unfold word wordsB; rw [HP.out, List.getD_eq_getElem?_getD, hg1]; rfl)
    generalize ps[0] = t0 at *
    generalize ps[1] = t1 at *
    have H311 := Lib.hid h311
    have HLL := Lib.hid hL
    have CP0 := implParseInt_any t0 w1 (by omega) (HT.out.stays B1) (HEE.out.stays B1)
    have CP1 := fun W (hW : Below w.heap.size w W) => implParseInt_any t1 W (by omega) (HT.out.stays hW) (HEE.out.stays hW)
    have hL1 : 1 ≤ L := by omega
    have hL9 : L ≤ 9 := by omega
    have hc2 : ¬ c1 = 2 := by omega
    rw [hL] at CWI ⊢
    clear hin hg0 hg1 hz0 hz1 hL h311 hpl hcap
    go_wp2_with fail
    refine (CWI _).mono ?_
    rintro e wa ⟨rfl, rfl⟩
    go_wp2_with fail
    refine CP0.mono ?_
    rintro e w2 ⟨rfl, b2⟩
    have B2 := B1.trans (b2.mono z1)
    have R2 : RetAt w2 w.heap.size := R1.kept b2 R1.lt0
    have hd1 : w2.cell? ⟨rb, 1, none⟩ = some (.string t1) := keepCell2 b2 hc1
    have z2 := B2.size
    have z12 := b2.size
    clear CP0 CWI hc0 hc1
    go_wp2_with fail
    refine (CP1 w2 B2).mono ?_
    rintro e w3 ⟨rfl, b3⟩
    have B3 := B2.trans (b3.mono z2)
    have R3 : RetAt w3 w.heap.size := R2.kept b3 R2.lt0
    have z3 := B3.size
    have z23 := b3.size
    have HC3 := Lib.hid (fun (k : Nat) (x : ByteArray) (hx : ps[k]? = some x) => keepCell2 b3 (keepCell2 b2 (HC1.out k x hx)))
    clear CP1 hd1 b2 b3
    obtain ⟨X, hX⟩ : ∃ X, readV t0 = X := ⟨_, rfl⟩
    obtain ⟨Y, hY⟩ : ∃ Y, readV t1 = Y := ⟨_, rfl⟩
    obtain ⟨one, hone⟩ : ∃ f, readOk t0 = f := ⟨_, rfl⟩
    obtain ⟨two, htwo⟩ : ∃ f, readOk t1 = f := ⟨_, rfl⟩
    rw [hX, hY, hone, htwo]
    have HXY := Lib.hid (And.intro hX (And.intro hY (And.intro hone htwo)))
    clear hX hY hone htwo
    have hN := BoxRel.nil w3 X Y 0
    obtain ⟨w4, hw4⟩ : ∃ w4, w4 = w3.alloc (.cells #[.int .i64 X, .int .i64 Y, .int .i64 0, .slice none 0 0] 26) := ⟨_, rfl⟩
    rw [← hw4] at hN
    have B4 : Below w.heap.size w w4 := by rw [hw4]; exact B3.alloc z3 _
    have b34 : Below w3.heap.size w3 w4 := by rw [hw4]; exact below_alloc0 _ _
    have HW4 := Lib.hid hw4
    have z3' : w.heap.size + 1 ≤ w3.heap.size := R3.lt0
    go_wp2
    rw [← hw4]
    clear hw4
    go_loopw [41] (fun s41 wr => ∃ k : Nat, k ≤ L ∧ s41 = .int .i64 k ∧ Hid (∀ (j : Nat) (t : ByteArray), j < k → (ps.drop 2)[j]? = some t → numsOk t = true) ∧ ∃ a c vs, BoxRel w4 w3.heap.size w3.heap.size w3.heap.size wr X Y 0 (((ps.drop 2).take k).map numsL) a c vs) (fun s41 _ => L - (intOf s41).toNat)
    case atStart => exact ⟨0, by omega, rfl, Lib.hid (fun j t hj => absurd hj (by omega)), none, 0, [], by simpa using hN⟩
    case round =>
      clear hN
      obtain ⟨k, hk, rfl, HOK, a, c, vs, hR⟩ := hrel
      have BW : Below w.heap.size w wr := B4.trans (hR.below.mono z3)
      have R4 : RetAt wr w.heap.size := (R3.kept b34 R3.lt0).kept hR.below R3.lt0
      have zr := BW.size
      have hD : (((ps.drop 2).take k).map numsL).length = k := by rw [List.length_map, List.length_take, List.length_drop, HLL.out]; omega
      obtain ⟨D, hDD⟩ : ∃ D, ((ps.drop 2).take k).map numsL = D := ⟨_, rfl⟩
      rw [hDD] at hR hD
      have HDD := Lib.hid (And.intro hDD hD)
      have hkeep := fun (j : Nat) (x : ByteArray) (hx : ps[j]? = some x) => (hR.below.cell (p := ⟨rb, j, none⟩) (World.block_lt_of_cell? _ _ (HC3.out j x hx))).trans (keepCell2 b34 (HC3.out j x hx))
      have HKE := Lib.hid hkeep
      clear hDD hkeep
      by_cases hlt : k < L
      · obtain ⟨t, hg⟩ : ∃ t, ps[k + 2]? = some t := ⟨_, List.getElem?_eq_getElem (by have := HLL.out; omega)⟩
        have hcell := HKE.out (k + 2) t hg
        rw [show k + 2 = 2 + k by omega] at hcell
        have hdrop : (ps.drop 2)[k]? = some t := by rw [List.getElem?_drop, show 2 + k = k + 2 by omega]; exact hg
        have hsz := HPS.out _ _ hg
        have CR := readNumbers_any t wr (by have := HLL.out; omega) (HT.out.stays BW) (HEE.out.stays BW) (HM.out.stays BW)
        have HDR := Lib.hid hdrop
        have hk0 : (k : Int) < (L : Int) := by omega
        clear hg hdrop hsz hD
        cases hok : numsOk t with
        | true =>
          rw [hok, numsR_ok hok] at CR
          have HOT := Lib.hid hok
          have hnl := numsL_len t
          clear hok
          go_wp2_with fail
          refine CR.mono ?_
          rintro e wd ⟨ar, cr, rfl, hrow, hb1⟩
          have hRd := hR.later hb1
          obtain ⟨⟨g0, g1, g2, g3⟩, gf⟩ := hRd.cells
          have ht := hRd.rows.top
          have hlen := hRd.rows.len
          rw [HDD.out.2] at hlen ht g3
          have HN := Lib.hid hlen
          have hn9 : vs.length ≤ 4194304 := by omega
          have hlo := hRd.b4
          generalize (numsL t).length = nl at *
          clear hlen CR hcell hnl
          go_wp2_with (at_builtin; refine append1_at rfl _ _ 24 33 rfl Tryz.underlying24 Tryz.infoInts rfl ht rfl rfl rfl rfl hn9 (by omega) hlo ?_)
          intro a2 c2 w5 hT2 hg2
          have hp := hR.push hb1 hrow hT2 (by rw [HDD.out.2]; exact hg2) (by rw [HN.out, List.length_append, HDD.out.2]; rfl)
          obtain ⟨hp1, f1, f2⟩ := hp
          clear g0 g1 g2 g3 gf hR hRd ht hT2 hrow
          rw [HDD.out.2] at f1
          go_wp2
          go_roundw
          case rel => exact ⟨k + 1, by omega, by go_num, Lib.hid (fun j y hj hy => by
            by_cases e : j = k
            · subst e; rw [HDR.out] at hy; cases hy; exact HOT.out
            · exact HOK.out j y (by omega) hy), a2, c2, _, by
              have hx : ((ps.drop 2).take (k + 1)).map numsL = D ++ [numsL t] := by rw [List.take_add_one, HDR.out, List.map_append, HDD.out.1]; rfl
              rw [hx]; exact hp1⟩
          case measure => simp [intOf]; omega
        | false =>
          rw [hok] at CR
          have HNOP := Lib.hid (show parseOk s = false from parse_row (k := k) (t := t) (by unfold wordsB; rw [HP.out]; exact HDR.out) hok)
          generalize numsR t = nr at *
          clear hok
          go_wp2_with fail
          refine CR.mono ?_
          rintro e wd ⟨ar, cr, rfl, hrow, hb1⟩
          have BD := BW.trans (hb1.mono zr)
          have RD := R4.kept hb1 R4.lt0
          clear hrow hb1 hcell hR CR R4
          obtain ⟨e0, e1, e2, e3, ef⟩ := RD
          have BZ := BD.trans (below_set4 (w := wd) (B := w.heap.size) (r := w.heap.size) (Nat.le_refl _) (.int .i64 0) (.int .i64 0) (.int .i64 0) (.slice none 0 0))
          have HNO := Lib.hid HNOP.out
          go_wp2
          refine bodyPost_ret (v := .tuple #[.agg #[.int .i64 0, .int .i64 0, .int .i64 0, .slice none 0 0], .bool false]) ?_ rfl ?_
          · simp [results, Tryz.results16, go_sem, e0, e1, e2, e3]
          · rw [parse_no HNO.out, HNO.out]
            exact zero_res BZ rfl
      · obtain rfl : k = L := by omega
        obtain ⟨t2, hg2⟩ : ∃ t, ps[2]? = some t := ⟨_, List.getElem?_eq_getElem (by have := HLL.out; omega)⟩
        have hall : (ps.drop 2).map numsL = D := by rw [← HDD.out.1, List.take_of_length_le (by rw [List.length_drop, HLL.out]; omega)]
        have hr0 : D[0]? = some (numsL t2) := by rw [← hall, List.getElem?_map, List.getElem?_drop]; rw [hg2]; rfl
        have hw2 : word s 2 = t2 := by unfold word wordsB; rw [HP.out, List.getD_eq_getElem?_getD, hg2]; rfl
        have HCAND := Lib.hid (show candB s = ⟨X, Y, (numsL t2).sum, D⟩ by
          unfold candB
          rw [HW0.out, HW1.out, HXY.out.1, HXY.out.2.1, hw2]
          unfold wordsB
          rw [HP.out, hall])
        have hsz := HPS.out _ _ hg2
        have HREST := Lib.hid (show one = true → two = true → parseOk s = (boxB ⟨X, Y, (numsL t2).sum, D⟩ && decide (txtB ⟨X, Y, (numsL t2).sum, D⟩ = s)) from fun e1 e2 => by
          rw [← HCAND.out]
          exact parse_rest (by unfold wordsB; rw [HP.out]; exact H311.out) (by rw [HW0.out, HXY.out.2.2.1, e1]) (by rw [HW1.out, HXY.out.2.2.2, e2]) (fun j t hj => HOK.out j t (by have := (List.getElem?_eq_some_iff.1 hj).1; unfold wordsB at this; rw [HP.out, List.length_drop, HLL.out] at this; omega) (by unfold wordsB at hj; rw [HP.out] at hj; exact hj)))
        have HONE := Lib.hid (show one = false ∨ two = false → parseOk s = false from fun h => parse_one (by rw [HW0.out, HW1.out, HXY.out.2.2.1, HXY.out.2.2.2]; exact h))
        obtain ⟨ra, rbk, roff, rcap, hv, hrm, hra, hrc⟩ := hR.rows.rdII
        injection hv with q1 q2 q3
        rw [HDD.out.2] at hra
        obtain rfl := q1.trans (hra (by omega))
        obtain ⟨v0, hv0, rd0⟩ := hrc 0 _ hr0
        rw [Nat.add_zero] at hv0
        have hnl := numsL_len t2
        have CT := total_any v0 (numsL t2) wr rd0 (by have := HLL.out; omega) (numsL_bd t2)
        obtain ⟨⟨g0, g1, g2, g3⟩, gf⟩ := hR.cells
        rw [HDD.out.2] at g3
        obtain ⟨sm, hsm⟩ : ∃ sm, (numsL t2).sum = sm := ⟨_, rfl⟩
        rw [hsm] at CT
        have hR2 := hR.setW sm
        have HSM := Lib.hid hsm
        rw [hsm] at HCAND HREST
        have hk0 : ¬ (k : Int) < (k : Int) := by omega
        have hkp : (0 : Int) < (k : Int) := by omega
        have R5 : RetAt (wr.setCell ⟨w3.heap.size, 2, none⟩ (.int .i64 sm)) w.heap.size := R4.kept (B := w3.heap.size) ((Below.refl _ _).setCell (by exact Nat.le_refl _) _) R3.lt0
        have B5 : Below w.heap.size w (wr.setCell ⟨w3.heap.size, 2, none⟩ (.int .i64 sm)) := BW.setCell (by exact z3) _
        clear hg2 hr0 hw2 hsz hra hrc hrm q1 q2 q3 rd0 hnl hD hsm hall hR R4 BW
        go_wp2_with fail
        refine CT.mono ?_
        rintro e wt ⟨rfl, rfl⟩
        clear CT
        cases one with
        | false =>
          have HN1 := HONE.out (Or.inl rfl)
          obtain ⟨e0, e1, e2, e3, ef⟩ := R5
          have BZ := B5.trans (below_set4 (w := (wr.setCell ⟨w3.heap.size, 2, none⟩ (.int .i64 sm))) (B := w.heap.size) (r := w.heap.size) (Nat.le_refl _) (.int .i64 0) (.int .i64 0) (.int .i64 0) (.slice none 0 0))
          have HNO := Lib.hid HN1
          go_wp2
          refine bodyPost_ret (v := .tuple #[.agg #[.int .i64 0, .int .i64 0, .int .i64 0, .slice none 0 0], .bool false]) ?_ rfl ?_
          · simp [results, Tryz.results16, go_sem, e0, e1, e2, e3]
          · rw [parse_no HNO.out, HNO.out]
            exact zero_res BZ rfl
        | true =>
          cases two with
          | false =>
            have HN1 := HONE.out (Or.inr rfl)
            obtain ⟨e0, e1, e2, e3, ef⟩ := R5
            have BZ := B5.trans (below_set4 (w := (wr.setCell ⟨w3.heap.size, 2, none⟩ (.int .i64 sm))) (B := w.heap.size) (r := w.heap.size) (Nat.le_refl _) (.int .i64 0) (.int .i64 0) (.int .i64 0) (.slice none 0 0))
            have HNO := Lib.hid HN1
            go_wp2
            refine bodyPost_ret (v := .tuple #[.agg #[.int .i64 0, .int .i64 0, .int .i64 0, .slice none 0 0], .bool false]) ?_ rfl ?_
            · simp [results, Tryz.results16, go_sem, e0, e1, e2, e3]
            · rw [parse_no HNO.out, HNO.out]
              exact zero_res BZ rfl
          | true =>
            have HPK := Lib.hid (HREST.out rfl rfl)
            have CB : Calls Tryz.prog 10 #[.agg #[.int .i64 X, .int .i64 Y, .int .i64 sm, .slice (some ⟨rbk, roff, none⟩) k c]] (wr.setCell ⟨w3.heap.size, 2, none⟩ (.int .i64 sm)) fun e w' => e = .returned (.bool (boxB ⟨X, Y, sm, D⟩)) ∧ Below ((wr.setCell ⟨w3.heap.size, 2, none⟩ (.int .i64 sm))).heap.size (wr.setCell ⟨w3.heap.size, 2, none⟩ (.int .i64 sm)) w' := by
              have := implIsBox_any (.slice (some ⟨rbk, roff, none⟩) D.length c) ⟨X, Y, sm, D⟩ (wr.setCell ⟨w3.heap.size, 2, none⟩ (.int .i64 sm)) hR2.rows.rdII
              rw [HDD.out.2] at this
              exact this
            obtain ⟨⟨j0, j1, j2, j3⟩, jf⟩ := hR2.cells
            rw [HDD.out.2] at j3
            cases hbx : boxB ⟨X, Y, sm, D⟩ with
            | false =>
              rw [hbx] at CB
              have HN1 := Lib.hid (show parseOk s = false by rw [HPK.out, hbx]; rfl)
              clear hbx
              go_wp2_with fail
              refine CB.mono ?_
              rintro e w6 ⟨rfl, b6⟩
              have R6 := R5.kept b6 R5.lt0
              have B6 := B5.trans (b6.mono B5.size)
              clear CB j0 j1 j2 j3 jf hR2 g0 g1 g2 g3 gf
              obtain ⟨e0, e1, e2, e3, ef⟩ := R6
              have BZ := B6.trans (below_set4 (w := w6) (B := w.heap.size) (r := w.heap.size) (Nat.le_refl _) (.int .i64 0) (.int .i64 0) (.int .i64 0) (.slice none 0 0))
              have HNO := Lib.hid HN1.out
              go_wp2
              refine bodyPost_ret (v := .tuple #[.agg #[.int .i64 0, .int .i64 0, .int .i64 0, .slice none 0 0], .bool false]) ?_ rfl ?_
              · simp [results, Tryz.results16, go_sem, e0, e1, e2, e3]
              · rw [parse_no HNO.out, HNO.out]
                exact zero_res BZ rfl
            | true =>
              rw [hbx] at CB
              have HBX := Lib.hid hbx
              clear hbx
              go_wp2_with fail
              refine CB.mono ?_
              rintro e w6 ⟨rfl, b6⟩
              have R6 := R5.kept b6 R5.lt0
              have B6 := B5.trans (b6.mono B5.size)
              have hR3 := hR2.later b6
              clear CB j0 j1 j2 j3 jf hR2 g0 g1 g2 g3 gf R5 B5
              have CX : Calls Tryz.prog 46 #[.agg #[.int .i64 X, .int .i64 Y, .int .i64 sm, .slice (some ⟨rbk, roff, none⟩) k c]] w6 fun e w' => e = .returned (.string (txtB ⟨X, Y, sm, D⟩)) ∧ Below w6.heap.size w6 w' := by
                have := boxText_any (.slice (some ⟨rbk, roff, none⟩) D.length c) ⟨X, Y, sm, D⟩ w6 hR3.rows.rdII HBX.out (HT.out.stays B6)
                rw [HDD.out.2] at this
                exact this
              obtain ⟨⟨j0, j1, j2, j3⟩, jf⟩ := hR3.cells
              rw [HDD.out.2] at j3
              by_cases htx : txtB ⟨X, Y, sm, D⟩ = s
              · have HYES := Lib.hid (show parseOk s = true by rw [HPK.out, HBX.out, decide_eq_true htx]; rfl)
                rw [htx] at CX
                clear htx
                go_wp2_with fail
                refine CX.mono ?_
                rintro e w7 ⟨rfl, b7⟩
                have R7 := R6.kept b7 R6.lt0
                have B7 := B6.trans (b7.mono B6.size)
                have hR4 := hR3.later b7
                clear CX j0 j1 j2 j3 jf hR3 R6 B6
                obtain ⟨⟨j0, j1, j2, j3⟩, jf⟩ := hR4.cells
                rw [HDD.out.2] at j3
                obtain ⟨e0, e1, e2, e3, ef⟩ := R7
                have hend := (set4_same (g := w.heap.size) hR4.rows (by omega) (.int .i64 X) (.int .i64 Y) (.int .i64 sm) (.slice (some ⟨rbk, roff, none⟩) k c)).weaken (lo' := w.heap.size) (by omega) (Nat.le_refl _)
                have BE := B7.trans (below_set4 (w := w7) (B := w.heap.size) (r := w.heap.size) (Nat.le_refl _) (.int .i64 X) (.int .i64 Y) (.int .i64 sm) (.slice (some ⟨rbk, roff, none⟩) k c))
                clear hR4 B7 b6 b7
                go_wp2
                refine bodyPost_ret (v := .tuple #[.agg #[.int .i64 X, .int .i64 Y, .int .i64 sm, .slice (some ⟨rbk, roff, none⟩) k c], .bool true]) ?_ rfl ?_
                · simp [results, Tryz.results16, go_sem, e0, e1, e2, e3]
                · rw [HYES.out, parse_yes HYES.out, HCAND.out]
                  exact ⟨some ⟨rbk, roff, none⟩, c, vs, by rw [show (⟨X, Y, sm, D⟩ : BoxD).Rows.length = k from HDD.out.2], by simp only [World.size_setCell]; exact hend, BE⟩
              · have HN1 := Lib.hid (show parseOk s = false by rw [HPK.out, decide_eq_false htx, Bool.and_false])
                have es : ((txtB ⟨X, Y, sm, D⟩).toList == s.toList) = false := by
                  rw [beq_eq_false_iff_ne]
                  intro h
                  rw [ByteArray.toList_eq, ByteArray.toList_eq] at h
                  exact htx (bytes_inj h)
                generalize txtB ⟨X, Y, sm, D⟩ = T at *
                clear htx
                go_wp2_with fail
                refine CX.mono ?_
                rintro e w7 ⟨rfl, b7⟩
                have R7 := R6.kept b7 R6.lt0
                have B7 := B6.trans (b7.mono B6.size)
                clear CX j0 j1 j2 j3 jf hR3 R6 B6
                obtain ⟨e0, e1, e2, e3, ef⟩ := R7
                have BZ := B7.trans (below_set4 (w := w7) (B := w.heap.size) (r := w.heap.size) (Nat.le_refl _) (.int .i64 0) (.int .i64 0) (.int .i64 0) (.slice none 0 0))
                have HNO := Lib.hid HN1.out
                go_wp2
                refine bodyPost_ret (v := .tuple #[.agg #[.int .i64 0, .int .i64 0, .int .i64 0, .slice none 0 0], .bool false]) ?_ rfl ?_
                · simp [results, Tryz.results16, go_sem, e0, e1, e2, e3]
                · rw [parse_no HNO.out, HNO.out]
                  exact zero_res BZ rfl
  · have hin : inB (ps.length : Int) 3 11 = false := inB_not.2 (by omega)
    rw [hin] at CWI
    have HNOP := Lib.hid (show parseOk s = false from parse_len (by unfold wordsB; rw [HP.out]; exact h311))
    have hl0 : 1 ≤ ps.length := by rw [← HP.out]; exact piecesB_pos 32 s
    clear h311 hin
    go_wp2_with fail
    refine (CWI _).mono ?_
    rintro e wa ⟨rfl, rfl⟩
    clear CWI
    obtain ⟨e0, e1, e2, e3, ef⟩ := R1
    have BZ := B1.trans (below_set4 (w := w1) (B := w.heap.size) (r := w.heap.size) (Nat.le_refl _) (.int .i64 0) (.int .i64 0) (.int .i64 0) (.slice none 0 0))
    have HNO := Lib.hid HNOP.out
    go_wp2
    refine bodyPost_ret (v := .tuple #[.agg #[.int .i64 0, .int .i64 0, .int .i64 0, .slice none 0 0], .bool false]) ?_ rfl ?_
    · simp [results, Tryz.results16, go_sem, e0, e1, e2, e3]
    · rw [parse_no HNO.out, HNO.out]
      exact zero_res BZ rfl
end Go.Proofs.YtcifpfdlkpddeaaGreatDoor
