/- What the reference draws for sums: shares, boxes that are often local, two questions each. -/
import Derived.Test.YtnmnmnpeoiblhaaSubp
import Derived.Test.YtnmnmnpeoiblhaaSubr
import Derived.Test.YtnmnmnpeoiblhaaSuam
import Derived.Test.YtnmnmnpeoiblhaaSuao
import Derived.Deep.Cut
set_option linter.unusedSimpArgs false
set_option linter.unusedVariables false
namespace Go.Proofs.Ytnmnmnpeoiblhaa
open Go.RowKit Go.WideShapes

set_option maxRecDepth 20000 in
set_option maxHeartbeats 3200000 in
theorem shares3_any (g : Nat) (v : Value) (n A : Nat) (x y : Int) (w : World) (hc : CurB g v n A w) (hA : A ≤ 800000) :
    Calls Try.prog 113 #[.pointer (some ⟨g, 0, none⟩), .int .i64 x, .int .i64 y] w fun e w' => ListDrawn w 70 e w' ∧ CurB g v n (A + 140) w' ∧ Mid g (g + 1) w w' := by
  have hg := hc.lt
  have hE := OwnV.empty 3 w
  have hc0 := hc.kept (Nat.le_refl _) ((Below.refl w.heap.size w).alloc (Nat.le_refl _) (.cells #[] 3))
  have hm0 := mid_alloc g w (.cells #[] 3)
  have HRD := Lib.hid hc.rd
  have CSZ := fun W => l2Sizes_any x y W
  rcases Bool.eq_false_or_eq_true (sizesB x y) with hs | hs
  · obtain ⟨hx, hy⟩ := sizesB_iff.1 hs
    obtain ⟨X, rfl⟩ := Int.eq_ofNat_of_zero_le (show 0 ≤ x by omega)
    obtain ⟨Y, rfl⟩ := Int.eq_ofNat_of_zero_le (show 0 ≤ y by omega)
    rw [hs] at CSZ
    obtain ⟨M, hM⟩ : ∃ M, M = 2 ^ (X + Y) := ⟨_, rfl⟩
    obtain ⟨hpw, hM64, hM0⟩ := pow_wrap (X := X) (Y := Y) (by omega) (by omega) hM
    have hM4 : 4 ≤ M := by rw [hM]; exact Nat.le_trans (by decide) (Nat.pow_le_pow_right (by decide) (show 2 ≤ X + Y by omega))
    clear hs hM
    go_enter Try.func113, Try.ntmps113
    go_wp2_with fail
    refine (CSZ _).mono ?_
    rintro e w1 ⟨rfl, rfl⟩
    clear CSZ
    go_wp2
    try rw [hpw]
    go_loopw [8, 7] (fun s8 s7 wr => ∃ (i : Nat) (xs : List Int) (a : Option Addr) (c : Nat), i ≤ M ∧ s8 = .int .i64 i ∧ xs.length = i ∧ s7 = .slice a xs.length c ∧ OwnV 3 w.heap.size wr.heap.size wr (.slice a xs.length c) (ints xs) ∧ CurB g v n (A + 2 * i) wr ∧ Mid g (g + 1) w wr) (fun s8 _ _ => M - (intOf s8).toNat)
    case atStart => exact ⟨0, [], _, _, by omega, rfl, rfl, rfl, by simpa [ints] using hE, hc0, hm0⟩
    case round =>
      clear hE hc0 hm0
      obtain ⟨i, xs, a, c, hi, rfl, hl, rfl, hO, hcr, hm⟩ := hrel
      have HL := Lib.hid hl
      have hdl : (ints xs).length ≤ 4194304 := by rw [ints_length]; omega
      have hz := hm.size
      clear hl
      by_cases hlt : i < M
      · have hlti : (i : Int) < (M : Int) := by omega
        have C := among_made g v n (A + 2 * i) [0, 0, 1, 0, 0, 2, 0, 5] wr hcr.cur hcr.rd (by omega) (by decide) (by decide)
        go_wp2_with fail
        try rw [hpw]
        refine C.mono ?_
        rintro e w3 ⟨p, hp, rfl, hc3, hm3⟩
        have h3 := hcr.step hc3 hm3
        have hO3 := (hO.mid hm3 (Or.inr hg)).weaken (Nat.le_refl _) hm3.size
        have m3 := hm.trans hm3
        have hz3 := m3.size
        clear hO C hc3 hp
        go_wp2_with (at_builtin; refine append1_own rfl _ _ 27 3 rfl Try.underlying27 Try.infoInt rfl hO3 rfl rfl rfl hdl (by omega) (by omega) ?_)
        intro a2 c2 w4 hO4 hg4
        have hB4 : Below w.heap.size w3 w4 := (Below.refl _ _).grown hg4 hz3 (fun g' hg' => (hO3.lt g' hg').1)
        have h4 : CurB g v n (A + 2 * i + 2) w4 := h3.far HRD.out hg (Nat.le_refl _) m3 hB4
        have m4 := m3.low hB4
        clear hO3
        go_wp2
        go_roundw
        case rel => exact ⟨i + 1, xs ++ [p], a2, c2, by omega, by go_num, by rw [List.length_append, HL.out]; rfl, by simp, by simpa [ints] using hO4, h4.up (by omega), m4⟩
        case measure => simp [intOf]; omega
      · have hlti : ¬ (i : Int) < (M : Int) := by omega
        have hL4 : 4 ≤ xs.length := by have := HL.out; omega
        have hL64 : xs.length ≤ 64 := by have := HL.out; omega
        have C := pick_any g v n (A + 2 * i) xs.length wr hcr.cur hcr.rd (by omega) (by omega) (by omega)
        go_wp2_with fail
        try rw [hpw]
        refine C.mono ?_
        rintro e w5 ⟨q, rfl, hq, hc5, hm5⟩
        have h5 := hcr.step hc5 hm5
        have hO5 := (hO.mid hm5 (Or.inr hg)).weaken (Nat.le_refl _) hm5.size
        have m5 := hm.trans hm5
        obtain ⟨sa, sg, sc, hsv, hsm, hsa, hsc, hsf⟩ := hO5.shape
        injection hsv with e1 e2 e3
        rw [ints_length] at hsa hsf
        obtain ⟨rfl, hs1, hs2, hs3⟩ := e1 ▸ hsa (by omega)
        have hql : q < (ints xs).length := by rw [ints_length]; exact hq
        have cq := hsc q _ (List.getElem?_eq_getElem hql)
        have fq := hsf (by omega) q
        have lq := World.block_lt_of_cell? _ _ cq
        have hq0 : (0 : Int) ≤ (q : Int) := by omega
        have hq1 : (q : Int) < (xs.length : Int) := by omega
        have hO6 := (hO5.set (g := sg) (j := q) rfl hql (.int .i64 1)).weaken (hi' := (w5.setCell ⟨sg, q, none⟩ (.int .i64 1)).heap.size) (Nat.le_refl _) (by rw [World.size_setCell]; exact Nat.le_refl _)
        have hB6 : Below w.heap.size w5 (w5.setCell ⟨sg, q, none⟩ (.int .i64 1)) := (Below.refl _ _).setCell (by show w.heap.size ≤ sg; exact hs1) _
        have h6 := h5.far HRD.out hg (Nat.le_refl _) m5 hB6
        have m6 := m5.low hB6
        obtain ⟨zs, hzs⟩ : ∃ zs, zs = xs.set q 1 := ⟨_, rfl⟩
        have hzl : zs.length = xs.length := by rw [hzs, List.length_set]
        have hzi : (ints xs).set q (.int .i64 1) = ints zs := by rw [hzs]; simp [ints, List.map_set]
        rw [hzi] at hO6
        have HZ := Lib.hid hzl
        clear hO hO5 hcr h5 hzi hzs e1 e2 e3 hsm hsc hsf m5 hB6 hs2 hs3 hc5 hm5 C hm hz
        generalize (ints xs)[q] = old at *
        clear hzl hql
        obtain ⟨w3, hw3⟩ : ∃ w3, w3 = w5.setCell ⟨sg, q, none⟩ (.int .i64 1) := ⟨_, rfl⟩
        rw [← HZ.out] at hO6
        rw [← hw3] at h6 m6 hO6
        have h3 := h6.up (B := A + 132) (by have := HL.out; omega)
        have hz3 := m6.size
        have hZ4 : 4 ≤ zs.length := by have := HZ.out; omega
        have hZ64 : zs.length ≤ 64 := by have := HZ.out; omega
        have hdl : (ints zs).length ≤ 4194304 := by rw [ints_length]; omega
        have C := pick_any g v n (A + 132) 30 w3 h3.cur h3.rd (by omega) (by decide) (by decide)
        rw [hw3] at C
        go_wp2_with fail
        refine C.mono ?_
        rintro e w4 ⟨u, rfl, hu, hc4, hm4⟩
        rw [← hw3] at hm4
        rw [← HZ.out]
        have h4 := h3.step hc4 hm4
        have hO4 := (hO6.mid hm4 (Or.inr hg)).weaken (Nat.le_refl _) hm4.size
        have m4 := m6.trans hm4
        have hz4 := m4.size
        clear C hO6 h3 h6 m6 hc4 hm4 hw3 cq fq lq hq0 hq1 hL4 hL64
        by_cases u0 : u = 0
        · subst u0
          go_wp2_with (at_builtin; refine append1_own rfl _ _ 27 3 rfl Try.underlying27 Try.infoInt rfl hO4 rfl rfl rfl hdl (by omega) (by omega) ?_)
          intro a5 c5 w6 hO5 hg5
          have hB5 : Below w.heap.size w4 w6 := (Below.refl _ _).grown hg5 hz4 (fun g' hg' => (hO4.lt g' hg').1)
          have h5 := h4.far HRD.out hg (Nat.le_refl _) m4 hB5
          have m5 := m4.low hB5
          clear hO4
          go_wp2
          go_ret
          exact ⟨⟨zs ++ [0], a5, c5, by simp, by simp; omega, by simpa [ints] using hO5⟩, h5.up (by omega), m5⟩
        · have u0' : ¬ (u : Int) = 0 := by omega
          by_cases u1 : u = 1
          · subst u1
            have D := among_made g v n (A + 132 + 2) [-1, 1000, 1001, 4611686018427387904] w4 h4.cur h4.rd (by omega) (by decide) (by decide)
            go_wp2_with fail
            refine D.mono ?_
            rintro e w6 ⟨z, hz, rfl, hc6, hm6⟩
            have h6 := h4.step hc6 hm6
            have hO6 := (hO4.mid hm6 (Or.inr hg)).weaken (Nat.le_refl _) hm6.size
            have m6 := m4.trans hm6
            clear hO4 h4 D hz hc6 hm6 m4
            obtain ⟨sb, sg2, sc2, hsv, hsm, hsa2, hsc, hsf⟩ := hO6.shape
            injection hsv with e1 e2 e3
            rw [ints_length] at hsa2 hsf
            obtain ⟨e4, hs3, hs4, hs5⟩ := hsa2 (by omega)
            rw [← e1] at e4
            injection e4 with e4
            injection e4 with e4
            subst e4
            have hql : 0 < (ints zs).length := by rw [ints_length]; omega
            have cq := hsc 0 _ (List.getElem?_eq_getElem hql)
            have fq := hsf (by omega) 0
            have lq := World.block_lt_of_cell? _ _ cq
            have hq1 : (0 : Int) < (zs.length : Int) := by omega
            have hO7 := (hO6.set (g := sg) (j := 0) rfl hql (.int .i64 z)).weaken (hi' := (w6.setCell ⟨sg, 0, none⟩ (.int .i64 z)).heap.size) (Nat.le_refl _) (by rw [World.size_setCell]; exact Nat.le_refl _)
            have hB7 : Below w.heap.size w6 (w6.setCell ⟨sg, 0, none⟩ (.int .i64 z)) := (Below.refl _ _).setCell (by show w.heap.size ≤ sg; exact hs3) _
            have h7 := h6.far HRD.out hg (Nat.le_refl _) m6 hB7
            have m7 := m6.low hB7
            have hzi : (ints zs).set 0 (.int .i64 z) = ints (zs.set 0 z) := by simp [ints, List.map_set]
            rw [hzi] at hO7
            clear hO6 h6 m6 hB7 hzi e1 e2 e3 hsm hsc hsf hsa2 hs4 hs5
            generalize (ints zs)[0] = old2 at *
            go_wp2
            go_ret
            exact ⟨⟨zs.set 0 z, some ⟨sg, 0, none⟩, c, by rw [List.length_set]; rfl, by rw [List.length_set]; omega, by rw [List.length_set]; exact hO7⟩, h7.up (by omega), m7⟩
          · have u1' : ¬ (u : Int) = 1 := by omega
            go_wp2
            go_ret
            exact ⟨⟨zs, _, _, rfl, by omega, hO4⟩, h4.up (by omega), m4⟩
  · rw [hs] at CSZ
    clear hs
    go_enter Try.func113, Try.ntmps113
    go_wp2_with fail
    refine (CSZ _).mono ?_
    rintro e w1 ⟨rfl, rfl⟩
    go_wp2
    go_ret
    exact ⟨⟨[], _, _, rfl, by simp, by simpa [ints] using hE⟩, hc0.up (by omega), hm0⟩
set_option maxRecDepth 20000 in
set_option maxHeartbeats 3200000 in
theorem local3_any (g : Nat) (v : Value) (n A : Nat) (w : World) (hc : CurB g v n A w) (hA : A ≤ 700000) :
    Calls Try.prog 83 #[.pointer (some ⟨g, 0, none⟩)] w (DrawnBox w g v n (A + 4000)) := by
  have hg := hc.lt
  have HRD := Lib.hid hc.rd
  have R0 := ZB.made w
  have hc0 : CurB g v n A (w.alloc (.cells #[.int .i64 0, .int .i64 0, .int .i64 0, .slice none 0 0] 26)) := hc.kept (Nat.le_refl _) ((Below.refl _ _).alloc (Nat.le_refl _) _)
  have hm0 : Mid g (g + 1) w (w.alloc (.cells #[.int .i64 0, .int .i64 0, .int .i64 0, .slice none 0 0] 26)) := mid_alloc g w _
  have C0 := sizes_any g v n A _ hc0 (by omega)
  go_enter Try.func83, Try.ntmps83
  go_wp2_with fail
  refine C0.mono ?_
  rintro e w2 ⟨x, y, rfl, hxy, hc2, hm2⟩
  have C1 := shares3_any g v n (A + 8) x y w2 hc2 (by omega)
  clear C0 hxy
  go_wp2_with fail
  refine C1.mono ?_
  rintro e w3 ⟨⟨xs, a1, c1, rfl, hx70, ox⟩, h3, hm3⟩
  have m3 := hm2.trans hm3
  have z2 := hm2.size
  rw [World.size_alloc] at z2
  clear C1 hc2 hm3 hm2
  have rx := ox.rdI
  have C2 := l3Shares_any x y (.slice a1 xs.length c1) xs w3 rx (by omega)
  rcases Bool.eq_false_or_eq_true (sharesB x y xs) with hsh | hsh
  · rw [hsh] at C2
    have C3 := one_any g v n (A + 8 + 140) 3 w3 h3.cur h3.rd (by omega) (by decide) (by decide)
    have HSH := Lib.hid hsh
    clear hsh
    go_wp2_with fail
    refine C2.mono ?_
    rintro e w4 ⟨rfl, rfl⟩
    go_wp2_with fail
    refine C3.mono ?_
    rintro e w4 ⟨b, rfl, hc4, hm4⟩
    have h4 := h3.step hc4 hm4
    have r4 : RdI w4 (.slice a1 xs.length c1) xs := (ox.mid hm4 (Or.inr (by omega))).rdI
    replace m3 := m3.trans hm4
    clear C2 C3 h3 rx ox hc4 hm4
    obtain ⟨w3, rfl⟩ : ∃ w3, w3 = w4 := ⟨_, rfl⟩
    cases b with
    | true =>
      have CX := l3Mixture_int x y (.slice a1 xs.length c1) xs HSH.out w3 r4
      have hml := mixtE_len HSH.out
      go_wp2_with fail
      refine CX.mono ?_
      rintro e w5 ⟨a2, c2, s2, rfl, o2, b5⟩
      obtain ⟨b2, hb2⟩ : ∃ b2, b2 = mixtE x y xs := ⟨_, rfl⟩
      rw [← hb2] at o2 hml
      have hX : b2.X = x := by rw [hb2]; rfl
      have hY : b2.Y = y := by rw [hb2]; rfl
      have hW : b2.Whole = xs.sum := by rw [hb2]; rfl
      rw [← hml] at o2 ⊢
      rw [← hX, ← hY, ← hW]
      have m35 : Mid g (g + 1) w3 w5 := Mid.of_below b5 (Nat.le_refl _)
      have h5 := h4.kept (Nat.le_refl _) b5
      have Z5 := R0.midc (m3.trans m35) hg
      obtain ⟨e0, e1, e2, e3, ef⟩ := Z5.retAt
      have hb4 := set4W_below (w := w5) (r := w.heap.size) (B := w.heap.size) (Nat.le_refl _) (.int .i64 b2.X) (.int .i64 b2.Y) (.int .i64 b2.Whole) (.slice a2 b2.Rows.length c2)
      have hend := (o2.set4 (g := w.heap.size) (by have := m3.size; rw [World.size_alloc] at this; omega) (.int .i64 b2.X) (.int .i64 b2.Y) (.int .i64 b2.Whole) (.slice a2 b2.Rows.length c2)).weaken (lo' := w.heap.size) (by have := m3.size; rw [World.size_alloc] at this; omega) (Nat.le_refl _)
      have m5 := hm0.trans (m3.trans m35)
      have hcE := (h5).far HRD.out hg (Nat.le_refl _) m5 hb4
      have hmE := m5.low hb4
      clear hb2 hX hY hW hml CX o2 b5 m35 h5 h4 Z5 hb4 m5
      go_wp2
      refine bodyPost_ret (v := .agg #[.int .i64 b2.X, .int .i64 b2.Y, .int .i64 b2.Whole, .slice a2 b2.Rows.length c2]) ?_ rfl ?_
      · simp [results, Try.results83, go_sem, e0, e1, e2, e3]
      · exact ⟨b2, a2, c2, s2, rfl, ⟨by simp only [World.size_setCell]; exact hend, hcE.up (by omega), hmE⟩⟩
    | false =>
      have h3 := h4
      clear h4 r4
      have C5 := one_any g v n (A + 8 + 140 + 2) 8 w3 h3.cur h3.rd (by omega) (by decide) (by decide)
      go_wp2_with fail
      refine C5.mono ?_
      rintro e w4 ⟨b8, rfl, hc4, hm4⟩
      have h4 := (h3.step hc4 hm4).up (B := A + 160) (by omega)
      replace m3 := m3.trans hm4
      clear C5 hc4 hm4 h3
      cases b8 with
      | true =>
        have CX := box_any g v n (A + 160) w4 h4 (by omega)
        go_wp2_with fail
        refine CX.mono ?_
        rintro e w5 ⟨b2, a2, c2, s2, rfl, hd2⟩
        have Z5 := R0.midc (m3.trans hd2.mid) hg
        obtain ⟨e0, e1, e2, e3, ef⟩ := Z5.retAt
        have hb4 := set4W_below (w := w5) (r := w.heap.size) (B := w.heap.size) (Nat.le_refl _) (.int .i64 b2.X) (.int .i64 b2.Y) (.int .i64 b2.Whole) (.slice a2 b2.Rows.length c2)
        have hend := (hd2.own.set4 (g := w.heap.size) (by have := m3.size; rw [World.size_alloc] at this; omega) (.int .i64 b2.X) (.int .i64 b2.Y) (.int .i64 b2.Whole) (.slice a2 b2.Rows.length c2)).weaken (lo' := w.heap.size) (by have := m3.size; rw [World.size_alloc] at this; omega) (Nat.le_refl _)
        have m5 := hm0.trans (m3.trans hd2.mid)
        have hcE := (hd2.cur).far HRD.out hg (Nat.le_refl _) m5 hb4
        have hmE := m5.low hb4
        clear hd2 CX Z5 hb4 m5
        go_wp2
        refine bodyPost_ret (v := .agg #[.int .i64 b2.X, .int .i64 b2.Y, .int .i64 b2.Whole, .slice a2 b2.Rows.length c2]) ?_ rfl ?_
        · simp [results, Try.results83, go_sem, e0, e1, e2, e3]
        · exact ⟨b2, a2, c2, s2, rfl, ⟨by simp only [World.size_setCell]; exact hend, hcE.up (by omega), hmE⟩⟩
      | false =>
        have CX := quietBox_any g v n (A + 160) w4 h4 (by omega)
        go_wp2_with fail
        refine CX.mono ?_
        rintro e w5 ⟨b2, a2, c2, s2, rfl, hd2⟩
        have Z5 := R0.midc (m3.trans hd2.mid) hg
        obtain ⟨e0, e1, e2, e3, ef⟩ := Z5.retAt
        have hb4 := set4W_below (w := w5) (r := w.heap.size) (B := w.heap.size) (Nat.le_refl _) (.int .i64 b2.X) (.int .i64 b2.Y) (.int .i64 b2.Whole) (.slice a2 b2.Rows.length c2)
        have hend := (hd2.own.set4 (g := w.heap.size) (by have := m3.size; rw [World.size_alloc] at this; omega) (.int .i64 b2.X) (.int .i64 b2.Y) (.int .i64 b2.Whole) (.slice a2 b2.Rows.length c2)).weaken (lo' := w.heap.size) (by have := m3.size; rw [World.size_alloc] at this; omega) (Nat.le_refl _)
        have m5 := hm0.trans (m3.trans hd2.mid)
        have hcE := (hd2.cur).far HRD.out hg (Nat.le_refl _) m5 hb4
        have hmE := m5.low hb4
        clear hd2 CX Z5 hb4 m5
        go_wp2
        refine bodyPost_ret (v := .agg #[.int .i64 b2.X, .int .i64 b2.Y, .int .i64 b2.Whole, .slice a2 b2.Rows.length c2]) ?_ rfl ?_
        · simp [results, Try.results83, go_sem, e0, e1, e2, e3]
        · exact ⟨b2, a2, c2, s2, rfl, ⟨by simp only [World.size_setCell]; exact hend, hcE.up (by omega), hmE⟩⟩
  · rw [hsh] at C2
    clear hsh ox rx
    go_wp2_with fail
    refine C2.mono ?_
    rintro e w4 ⟨rfl, rfl⟩
    clear C2
    have C5 := one_any g v n (A + 8 + 140) 8 w3 h3.cur h3.rd (by omega) (by decide) (by decide)
    go_wp2_with fail
    refine C5.mono ?_
    rintro e w4 ⟨b8, rfl, hc4, hm4⟩
    have h4 := (h3.step hc4 hm4).up (B := A + 160) (by omega)
    replace m3 := m3.trans hm4
    clear C5 hc4 hm4 h3
    cases b8 with
    | true =>
      have CX := box_any g v n (A + 160) w4 h4 (by omega)
      go_wp2_with fail
      refine CX.mono ?_
      rintro e w5 ⟨b2, a2, c2, s2, rfl, hd2⟩
      have Z5 := R0.midc (m3.trans hd2.mid) hg
      obtain ⟨e0, e1, e2, e3, ef⟩ := Z5.retAt
      have hb4 := set4W_below (w := w5) (r := w.heap.size) (B := w.heap.size) (Nat.le_refl _) (.int .i64 b2.X) (.int .i64 b2.Y) (.int .i64 b2.Whole) (.slice a2 b2.Rows.length c2)
      have hend := (hd2.own.set4 (g := w.heap.size) (by have := m3.size; rw [World.size_alloc] at this; omega) (.int .i64 b2.X) (.int .i64 b2.Y) (.int .i64 b2.Whole) (.slice a2 b2.Rows.length c2)).weaken (lo' := w.heap.size) (by have := m3.size; rw [World.size_alloc] at this; omega) (Nat.le_refl _)
      have m5 := hm0.trans (m3.trans hd2.mid)
      have hcE := (hd2.cur).far HRD.out hg (Nat.le_refl _) m5 hb4
      have hmE := m5.low hb4
      clear hd2 CX Z5 hb4 m5
      go_wp2
      refine bodyPost_ret (v := .agg #[.int .i64 b2.X, .int .i64 b2.Y, .int .i64 b2.Whole, .slice a2 b2.Rows.length c2]) ?_ rfl ?_
      · simp [results, Try.results83, go_sem, e0, e1, e2, e3]
      · exact ⟨b2, a2, c2, s2, rfl, ⟨by simp only [World.size_setCell]; exact hend, hcE.up (by omega), hmE⟩⟩
    | false =>
      have CX := quietBox_any g v n (A + 160) w4 h4 (by omega)
      go_wp2_with fail
      refine CX.mono ?_
      rintro e w5 ⟨b2, a2, c2, s2, rfl, hd2⟩
      have Z5 := R0.midc (m3.trans hd2.mid) hg
      obtain ⟨e0, e1, e2, e3, ef⟩ := Z5.retAt
      have hb4 := set4W_below (w := w5) (r := w.heap.size) (B := w.heap.size) (Nat.le_refl _) (.int .i64 b2.X) (.int .i64 b2.Y) (.int .i64 b2.Whole) (.slice a2 b2.Rows.length c2)
      have hend := (hd2.own.set4 (g := w.heap.size) (by have := m3.size; rw [World.size_alloc] at this; omega) (.int .i64 b2.X) (.int .i64 b2.Y) (.int .i64 b2.Whole) (.slice a2 b2.Rows.length c2)).weaken (lo' := w.heap.size) (by have := m3.size; rw [World.size_alloc] at this; omega) (Nat.le_refl _)
      have m5 := hm0.trans (m3.trans hd2.mid)
      have hcE := (hd2.cur).far HRD.out hg (Nat.le_refl _) m5 hb4
      have hmE := m5.low hb4
      clear hd2 CX Z5 hb4 m5
      go_wp2
      refine bodyPost_ret (v := .agg #[.int .i64 b2.X, .int .i64 b2.Y, .int .i64 b2.Whole, .slice a2 b2.Rows.length c2]) ?_ rfl ?_
      · simp [results, Try.results83, go_sem, e0, e1, e2, e3]
      · exact ⟨b2, a2, c2, s2, rfl, ⟨by simp only [World.size_setCell]; exact hend, hcE.up (by omega), hmE⟩⟩
end Go.Proofs.Ytnmnmnpeoiblhaa
