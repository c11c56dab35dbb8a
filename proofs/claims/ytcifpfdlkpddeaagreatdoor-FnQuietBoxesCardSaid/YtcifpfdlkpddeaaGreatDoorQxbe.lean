/- What the reference draws: numbers of questions, plays, boxes. -/
import Derived.Test.YtcifpfdlkpddeaaGreatDoorQxaj
import Derived.Test.YtcifpfdlkpddeaaGreatDoorQxad
import Derived.Test.YtcifpfdlkpddeaaGreatDoorQxab
import Derived.Test.YtcifpfdlkpddeaaGreatDoorQxac
import Derived.RegionTactic
import Derived.BigRegion
set_option linter.unusedSimpArgs false
set_option linter.unusedVariables false
namespace Go.Proofs.YtcifpfdlkpddeaaGreatDoor
open Go.RowKit Go.WideShapes

theorem Mid.low {lo hi : Nat} {w wr wx : World} (h : Mid lo hi w wr) (hb : Below w.heap.size wr wx) : Mid lo hi w wx :=
  ⟨hb.os.trans h.os, hb.tape.trans h.tape, hb.output.trans h.output, Nat.le_trans h.size hb.size, fun k hk hx => (hb.block k hk).trans (h.block k hk hx)⟩
theorem RdC.low {g : Nat} {w w' : World} {v : Value} {n : Nat} (h : RdC g w v n) (hb : Below w.heap.size w w') : RdC g w' v n := h.mid (Mid.of_below hb (Nat.le_refl _))

/-- A cursor and its bytes. -/
structure CurB (g : Nat) (v : Value) (n A : Nat) (w : World) : Prop where
  cur : Cur g v A w
  rd : RdC g w v n
theorem CurB.lt {g n A : Nat} {v : Value} {w : World} (h : CurB g v n A w) : g < w.heap.size := h.cur.lt
theorem CurB.up {g n A B : Nat} {v : Value} {w : World} (h : CurB g v n A w) (hAB : A ≤ B) : CurB g v n B w := ⟨h.cur.up hAB, h.rd⟩
theorem CurB.kept {g n A : Nat} {v : Value} {w w' : World} (h : CurB g v n A w) {B : Nat} (hB : w.heap.size ≤ B) (hb : Below B w w') : CurB g v n A w' :=
  ⟨h.cur.of_block (hb.block g (Nat.lt_of_lt_of_le h.lt hB)), h.rd.mid (Mid.of_below hb hB)⟩
/-- All that was there keeps its block. -/
theorem CurB.far {g n A B : Nat} {v : Value} {w wr w' : World} (h : CurB g v n A wr) (hr : RdC g w v n) (hg : g < B) (hB : w.heap.size ≤ B) (hm : Mid g (g + 1) w wr) (hb : Below B wr w') : CurB g v n A w' := by
  refine ⟨h.cur.of_block (hb.block g hg), ?_⟩
  exact hr.mid (hm.low (hb.mono hB))
theorem CurB.step {g n A A' : Nat} {v : Value} {w w' : World} (h : CurB g v n A w) (hc : Cur g v A' w') (hm : Mid g (g + 1) w w') : CurB g v n A' w' := ⟨hc, h.rd.mid hm⟩

theorem l1Most_int (n c : Int) (w : World) : Calls Tryz.prog 106 #[.int .i64 n, .int .i64 c] w fun e w' => e = .returned (.int .i64 (if c < n then n else c)) ∧ w = w' := by
  by_cases h : c < n
  · rw [if_pos h]
    go_enter Tryz.func106, Tryz.ntmps106
    go_wp2
    go_ret
    exact ⟨rfl, rfl⟩
  · rw [if_neg h]
    go_enter Tryz.func106, Tryz.ntmps106
    go_wp2
    go_ret
    exact ⟨rfl, rfl⟩
theorem l1Least_int (n c : Int) (w : World) : Calls Tryz.prog 105 #[.int .i64 n, .int .i64 c] w fun e w' => e = .returned (.int .i64 (if n < c then n else c)) ∧ w = w' := by
  by_cases h : n < c
  · rw [if_pos h]
    go_enter Tryz.func105, Tryz.ntmps105
    go_wp2
    go_ret
    exact ⟨rfl, rfl⟩
  · rw [if_neg h]
    go_enter Tryz.func105, Tryz.ntmps105
    go_wp2
    go_ret
    exact ⟨rfl, rfl⟩
def near (n : Int) : Nat := min n.toNat 4
theorem near_le (n : Int) : near n ≤ 4 := Nat.min_le_right _ _
theorem l2Near_any (n : Int) (w : World) : Calls Tryz.prog 88 #[.int .i64 n] w fun e w' => e = .returned (.int .i64 (near n)) ∧ w = w' := by
  have C1 := fun W => l1Most_int n 0 W
  obtain ⟨m, hm⟩ : ∃ m, (if 0 < n then n else 0) = m := ⟨_, rfl⟩
  rw [hm] at C1
  have C2 := fun W => l1Least_int m 4 W
  have hr : (if m < 4 then m else 4) = (near n : Int) := by
    unfold near
    rw [← hm]
    split <;> split <;> omega
  rw [hr] at C2
  clear hm hr
  generalize near n = k at *
  go_enter Tryz.func88, Tryz.ntmps88
  go_wp2_with fail
  refine (C1 _).mono ?_
  rintro e w1 ⟨rfl, rfl⟩
  go_wp2_with fail
  refine (C2 _).mono ?_
  rintro e w1 ⟨rfl, rfl⟩
  go_wp2
  go_ret
  exact ⟨rfl, rfl⟩
/-- Numbers of questions as they are drawn. -/
def SzD (x y : Int) : Prop := (-1 ≤ x ∧ x ≤ 4) ∧ 0 ≤ y ∧ (y ≤ 4 ∨ y = 4611686018427387904)
set_option maxHeartbeats 1600000 in
theorem sizes_any (g : Nat) (v : Value) (n A : Nat) (w : World) (hc : CurB g v n A w) (hA : A ≤ 900000) :
    Calls Tryz.prog 58 #[.pointer (some ⟨g, 0, none⟩)] w fun e w' => ∃ x y : Int, e = .returned (.tuple #[.int .i64 x, .int .i64 y]) ∧ SzD x y ∧ CurB g v n (A + 8) w' ∧ Mid g (g + 1) w w' := by
  have C1 := one_any g v n A 2 w hc.cur hc.rd (by omega) (by decide) (by decide)
  go_enter Tryz.func58, Tryz.ntmps58
  go_wp2_with fail
  refine C1.mono ?_
  rintro e w1 ⟨b, rfl, hc1, hm1⟩
  have h1 := hc.step hc1 hm1
  clear C1 hc1
  cases b with
  | true =>
    go_wp2
    go_ret2
    exact ⟨2, 2, rfl, by unfold SzD; omega, h1.up (by omega), hm1⟩
  | false =>
    have C2 := one_any g v n (A + 2) 24 w1 h1.cur h1.rd (by omega) (by decide) (by decide)
    go_wp2_with fail
    refine C2.mono ?_
    rintro e w2 ⟨b, rfl, hc2, hm2⟩
    have h2 := h1.step hc2 hm2
    have m2 := hm1.trans hm2
    clear C2 hc2 hm1 hm2
    cases b with
    | true =>
      have C3 := among_made g v n (A + 2 + 2) [0, 4, -1, 2] w2 h2.cur h2.rd (by omega) (by decide) (by decide)
      go_wp2_with fail
      refine C3.mono ?_
      rintro e w3 ⟨x, hx, rfl, hc3, hm3⟩
      have h3 := h2.step hc3 hm3
      have hxb : -1 ≤ x ∧ x ≤ 4 := by simp at hx; omega
      have C4 := among_made g v n (A + 2 + 2 + 2) [0, 4, 2, 4611686018427387904] w3 h3.cur h3.rd (by omega) (by decide) (by decide)
      clear C3 hx hc3
      go_wp2_with fail
      refine C4.mono ?_
      rintro e w4 ⟨y, hy, rfl, hc4, hm4⟩
      have hyb : 0 ≤ y ∧ (y ≤ 4 ∨ y = 4611686018427387904) := by simp at hy; omega
      have h4 := h3.step hc4 hm4
      clear C4 hy hc4
      go_wp2
      go_ret2
      exact ⟨x, y, rfl, ⟨hxb, hyb⟩, h4.up (by omega), m2.trans (hm3.trans hm4)⟩
    | false =>
      have C3 := pick_any g v n (A + 2 + 2) 3 w2 h2.cur h2.rd (by omega) (by decide) (by decide)
      go_wp2_with fail
      refine C3.mono ?_
      rintro e w3 ⟨x, rfl, hx, hc3, hm3⟩
      have h3 := h2.step hc3 hm3
      have C4 := pick_any g v n (A + 2 + 2 + 2) 3 w3 h3.cur h3.rd (by omega) (by decide) (by decide)
      clear C3 hc3
      go_wp2_with fail
      refine C4.mono ?_
      rintro e w4 ⟨y, rfl, hy, hc4, hm4⟩
      have h4 := h3.step hc4 hm4
      clear C4 hc4
      go_wp2
      go_ret2
      exact ⟨1 + (x : Int), 1 + (y : Int), by first | rfl | simp, by unfold SzD; omega, h4.up (by omega), m2.trans (hm3.trans hm4)⟩
/-- A list of the call's own beside the cursor. -/
def ListDrawn (w : World) (m : Nat) (e : Ending) (w' : World) : Prop := ∃ (xs : List Int) (a : Option Addr) (c : Nat), e = .returned (.slice a xs.length c) ∧ xs.length ≤ m ∧ OwnV 3 w.heap.size w'.heap.size w' (.slice a xs.length c) (ints xs)
set_option maxRecDepth 20000 in
set_option maxHeartbeats 3200000 in
theorem play_any (g : Nat) (v : Value) (n A : Nat) (x y : Int) (w : World) (hc : CurB g v n A w) (hA : A ≤ 900000) :
    Calls Tryz.prog 59 #[.pointer (some ⟨g, 0, none⟩), .int .i64 x, .int .i64 y] w fun e w' => ListDrawn w 9 e w' ∧ CurB g v n (A + 30) w' ∧ Mid g (g + 1) w w' := by
  have hg := hc.lt
  have hE := OwnV.empty 3 w
  have hc0 := hc.kept (Nat.le_refl _) ((Below.refl w.heap.size w).alloc (Nat.le_refl _) (.cells #[] 3))
  have hm0 := mid_alloc g w (.cells #[] 3)
  have HRD := Lib.hid hc.rd
  have NX := Lib.hid (fun W => l2Near_any x W)
  have NY := Lib.hid (fun W => l2Near_any y W)
  have nx := near_le x
  have ny := near_le y
  generalize near x = kx at *
  generalize near y = ky at *
  go_enter Tryz.func59, Tryz.ntmps59
  go_wp2
  go_loopw [8, 7] (fun s8 s7 wr => ∃ (i : Nat) (xs : List Int) (a : Option Addr) (c : Nat), i ≤ 8 ∧ s8 = .int .i64 i ∧ xs.length = i ∧ s7 = .slice a xs.length c ∧ OwnV 3 w.heap.size wr.heap.size wr (.slice a xs.length c) (ints xs) ∧ CurB g v n (A + 2 * i) wr ∧ Mid g (g + 1) w wr) (fun s8 _ _ => 8 - (intOf s8).toNat)
  case atStart => exact ⟨0, [], _, _, by omega, rfl, rfl, rfl, by simpa [ints] using hE, hc0, hm0⟩
  case round =>
    clear hE hc0 hm0
    obtain ⟨i, xs, a, c, hi, rfl, hl, rfl, hO, hcr, hm⟩ := hrel
    have HL := Lib.hid hl
    have hdl : (ints xs).length ≤ 4194304 := by rw [ints_length]; omega
    have hz := hm.size
    clear hl
    go_wp2_with fail
    refine (NX.out _).mono ?_
    rintro e w1 ⟨rfl, rfl⟩
    go_wp2_with fail
    refine (NY.out _).mono ?_
    rintro e w1 ⟨rfl, rfl⟩
    by_cases hlt : i < kx + ky
    · have hlti : (i : Int) < (kx : Int) + (ky : Int) := by omega
      have C := pick_any g v n (A + 2 * i) 2 wr hcr.cur hcr.rd (by omega) (by decide) (by decide)
      go_wp2_with fail
      refine C.mono ?_
      rintro e w3 ⟨p, rfl, hp, hc3, hm3⟩
      have h3 := hcr.step hc3 hm3
      have hO3 := (hO.mid hm3 (Or.inr hg)).weaken (Nat.le_refl _) hm3.size
      have m3 := hm.trans hm3
      have hz3 := m3.size
      clear hO C hc3
      go_wp2_with (at_builtin; refine append1_own rfl _ _ 33 3 rfl Tryz.underlying33 Tryz.infoInt rfl hO3 rfl rfl rfl hdl (by omega) (by omega) ?_)
      intro a2 c2 w4 hO4 hg4
      have hB4 : Below w.heap.size w3 w4 := (Below.refl _ _).grown hg4 hz3 (fun g' hg' => (hO3.lt g' hg').1)
      have h4 : CurB g v n (A + 2 * i + 2) w4 := h3.far HRD.out hg (Nat.le_refl _) m3 hB4
      have m4 := m3.low hB4
      clear hO3
      go_wp2
      go_roundw
      case rel => exact ⟨i + 1, xs ++ [(p : Int)], a2, c2, by omega, by go_num, by rw [List.length_append, HL.out]; rfl, by simp, by simpa [ints] using hO4, h4.up (by omega), m4⟩
      case measure => simp [intOf]; omega
    · have hlti : ¬ (i : Int) < (kx : Int) + (ky : Int) := by omega
      have HL8 := Lib.hid (show xs.length ≤ 8 by have := HL.out; omega)
      by_cases h0 : 0 < xs.length
      · have h0' : (0 : Int) < (xs.length : Int) := by omega
        have C := one_any g v n (A + 2 * i) 30 wr hcr.cur hcr.rd (by omega) (by decide) (by decide)
        have H1 := Lib.hid h0
        clear h0
        go_wp2_with fail
        refine C.mono ?_
        rintro e w3 ⟨b, rfl, hc3, hm3⟩
        have h3 := (hcr.step hc3 hm3).up (B := A + 18) (by omega)
        have hO3 := (hO.mid hm3 (Or.inr hg)).weaken (Nat.le_refl _) hm3.size
        have m3 := hm.trans hm3
        have hz3 := m3.size
        clear hO C hc3 hm3 hcr hm hz hlt hlti
        cases b with
        | false =>
          have C := one_any g v n (A + 18) 40 w3 h3.cur h3.rd (by omega) (by decide) (by decide)
          go_wp2_with fail
          refine C.mono ?_
          rintro e w4 ⟨b, rfl, hc4, hm4⟩
          have h4 := (h3.step hc4 hm4).up (B := A + 30) (by omega)
          have hO4 := (hO3.mid hm4 (Or.inr hg)).weaken (Nat.le_refl _) hm4.size
          have m4 := m3.trans hm4
          have hz4 := m4.size
          clear C hO3 hc4 hm4
          cases b with
          | true =>
            have hdl4 : (ints xs).length ≤ 4194304 := hdl
            go_wp2_with (at_builtin; refine append1_own rfl _ _ 33 3 rfl Tryz.underlying33 Tryz.infoInt rfl hO4 rfl rfl rfl hdl4 (by omega) (by omega) ?_)
            intro a5 c5 w5 hO5 hg5
            have hB5 : Below w.heap.size w4 w5 := (Below.refl _ _).grown hg5 hz4 (fun g' hg' => (hO4.lt g' hg').1)
            have h5 := h4.far HRD.out hg (Nat.le_refl _) m4 hB5
            have m5 := m4.low hB5
            clear hO4
            go_wp2
            go_ret
            exact ⟨⟨xs ++ [0], a5, c5, by simp, by have := HL8.out; simp; omega, by simpa [ints] using hO5⟩, h5, m5⟩
          | false =>
            go_wp2
            go_ret
            exact ⟨⟨xs, _, _, rfl, by have := HL8.out; omega, hO4⟩, h4, m4⟩
        | true =>
          have C := pick_any g v n (A + 18) xs.length w3 h3.cur h3.rd (by omega) H1.out (by have := HL8.out; omega)
          go_wp2_with fail
          refine C.mono ?_
          rintro e w4 ⟨q, rfl, hq, hc4, hm4⟩
          have h4 := h3.step hc4 hm4
          have hO4 := (hO3.mid hm4 (Or.inr hg)).weaken (Nat.le_refl _) hm4.size
          have m4 := m3.trans hm4
          have D := among_made g v n (A + 18 + 2) [2, -1, 4611686018427387904] w4 h4.cur h4.rd (by omega) (by decide) (by decide)
          clear C hO3 hc4 hm4
          go_wp2_with fail
          refine D.mono ?_
          rintro e w5 ⟨u, hu, rfl, hc5, hm5⟩
          have h5 := h4.step hc5 hm5
          have hO5 := (hO4.mid hm5 (Or.inr hg)).weaken (Nat.le_refl _) hm5.size
          have m5 := m4.trans hm5
          obtain ⟨sa, sg, sc, hsv, hsm, hsa, hsc, hsf⟩ := hO5.shape
          injection hsv with e1 e2 e3
          rw [ints_length] at hsa hsf
          obtain ⟨rfl, hs1, hs2, hs3⟩ := e1 ▸ hsa (by omega)
          have hql : q < (ints xs).length := by rw [ints_length]; exact hq
          have cq := hsc q _ (List.getElem?_eq_getElem hql)
          have fq := hsf (by omega) q
          have lq := World.block_lt_of_cell? _ _ cq
          have hq0 : (0 : Int) ≤ (q : Int) := by omega
          have hq1 : (q : Int) < (xs.length : Int) := by omega
          have hO6 := (hO5.set (g := sg) (j := q) rfl hql (.int .i64 u)).weaken (hi' := (w5.setCell ⟨sg, q, none⟩ (.int .i64 u)).heap.size) (Nat.le_refl _) (by rw [World.size_setCell]; exact Nat.le_refl _)
          have hB6 : Below w.heap.size w5 (w5.setCell ⟨sg, q, none⟩ (.int .i64 u)) := (Below.refl _ _).setCell (by show w.heap.size ≤ sg; exact hs1) _
          have h6 := h5.far HRD.out hg (Nat.le_refl _) m5 hB6
          have m6 := m5.low hB6
          obtain ⟨zs, hzs⟩ : ∃ zs, zs = xs.set q u := ⟨_, rfl⟩
          have hzl : zs.length = xs.length := by rw [hzs, List.length_set]
          have hzi : (ints xs).set q (.int .i64 u) = ints zs := by rw [hzs]; simp [ints, List.map_set]
          rw [hzi] at hO6
          have HZ := Lib.hid hzl
          clear hO4 hO5 h4 hzi hzs e1 e2 e3 hsm hsc hsf m4 m3 h3 D hB6 hs2 hs3 hu hc5 hm5 m5 h5
          generalize (ints xs)[q] = old at *
          clear hzl hql
          go_wp2_with fail
          rw [← HZ.out]
          obtain ⟨w3, hw3⟩ : ∃ w3, w3 = w5.setCell ⟨sg, q, none⟩ (.int .i64 u) := ⟨_, rfl⟩
          rw [← HZ.out] at hO6
          rw [← hw3] at h6 m6 hO6 ⊢
          have h3 := h6.up (B := A + 22) (by omega)
          have hO3 := hO6
          have m3 := m6
          have hz3 := m3.size
          have HL8 := Lib.hid (show zs.length ≤ 8 by have := HL8.out; have := HZ.out; omega)
          have hdl : (ints zs).length ≤ 4194304 := by rw [ints_length]; have := HL8.out; omega
          clear hw3 h6 hO6 m6 fq cq lq hq0 hq1
          have C := one_any g v n (A + 22) 40 w3 h3.cur h3.rd (by omega) (by decide) (by decide)
          go_wp2_with fail
          refine C.mono ?_
          rintro e w4 ⟨b, rfl, hc4, hm4⟩
          have h4 := (h3.step hc4 hm4).up (B := A + 30) (by omega)
          have hO4 := (hO3.mid hm4 (Or.inr hg)).weaken (Nat.le_refl _) hm4.size
          have m4 := m3.trans hm4
          have hz4 := m4.size
          clear C hO3 hc4 hm4
          cases b with
          | true =>
            have hdl4 : (ints zs).length ≤ 4194304 := hdl
            go_wp2_with (at_builtin; refine append1_own rfl _ _ 33 3 rfl Tryz.underlying33 Tryz.infoInt rfl hO4 rfl rfl rfl hdl4 (by omega) (by omega) ?_)
            intro a5 c5 w5 hO5 hg5
            have hB5 : Below w.heap.size w4 w5 := (Below.refl _ _).grown hg5 hz4 (fun g' hg' => (hO4.lt g' hg').1)
            have h5 := h4.far HRD.out hg (Nat.le_refl _) m4 hB5
            have m5 := m4.low hB5
            clear hO4
            go_wp2
            go_ret
            exact ⟨⟨zs ++ [0], a5, c5, by simp, by have := HL8.out; simp; omega, by simpa [ints] using hO5⟩, h5, m5⟩
          | false =>
            go_wp2
            go_ret
            exact ⟨⟨zs, _, _, rfl, by have := HL8.out; omega, hO4⟩, h4, m4⟩
      · have h0' : ¬ (0 : Int) < (xs.length : Int) := by omega
        have h3 : CurB g v n (A + 18) wr := hcr.up (by omega)
        have hO3 := hO
        have m3 := hm
        have hz3 := hz
        obtain ⟨w3, rfl⟩ : ∃ w3, w3 = wr := ⟨_, rfl⟩
        clear hO hcr hm hz hlt h0
        have C := one_any g v n (A + 18) 40 w3 h3.cur h3.rd (by omega) (by decide) (by decide)
        go_wp2_with fail
        refine C.mono ?_
        rintro e w4 ⟨b, rfl, hc4, hm4⟩
        have h4 := (h3.step hc4 hm4).up (B := A + 30) (by omega)
        have hO4 := (hO3.mid hm4 (Or.inr hg)).weaken (Nat.le_refl _) hm4.size
        have m4 := m3.trans hm4
        have hz4 := m4.size
        clear C hO3 hc4 hm4
        cases b with
        | true =>
          have hdl4 : (ints xs).length ≤ 4194304 := hdl
          go_wp2_with (at_builtin; refine append1_own rfl _ _ 33 3 rfl Tryz.underlying33 Tryz.infoInt rfl hO4 rfl rfl rfl hdl4 (by omega) (by omega) ?_)
          intro a5 c5 w5 hO5 hg5
          have hB5 : Below w.heap.size w4 w5 := (Below.refl _ _).grown hg5 hz4 (fun g' hg' => (hO4.lt g' hg').1)
          have h5 := h4.far HRD.out hg (Nat.le_refl _) m4 hB5
          have m5 := m4.low hB5
          clear hO4
          go_wp2
          go_ret
          exact ⟨⟨xs ++ [0], a5, c5, by simp, by have := HL8.out; simp; omega, by simpa [ints] using hO5⟩, h5, m5⟩
        | false =>
          go_wp2
          go_ret
          exact ⟨⟨xs, _, _, rfl, by have := HL8.out; omega, hO4⟩, h4, m4⟩
end Go.Proofs.YtcifpfdlkpddeaaGreatDoor
