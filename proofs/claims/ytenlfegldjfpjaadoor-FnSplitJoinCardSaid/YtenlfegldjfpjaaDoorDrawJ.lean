/- What the reference draws for JoinStrings: some texts and a sign. -/
import Derived.Test.YtenlfegldjfpjaaDoorDraw
import Derived.Test.YtenlfegldjfpjaaDoorFnText
import Derived.Test.YtenlfegldjfpjaaDoorBoxRel
set_option linter.unusedSimpArgs false
set_option linter.unusedVariables false
namespace Go.Proofs.YtenlfegldjfpjaaDoor
open Go.RowKit Go.WideShapes

theorem sumSz_snoc (ss : List ByteArray) (x : ByteArray) : sumSz (ss ++ [x]) = sumSz ss + x.size := by simp [sumSz]

set_option maxRecDepth 20000 in
set_option maxHeartbeats 3000000 in
theorem drawJoinStrings_any (v : Value) (n : Nat) (w : World) (h : RdB w v n) :
    Calls Tryd.prog 36 #[v] w fun e w' => ∃ (ss : List ByteArray) (t : ByteArray) (a : Option Addr) (c : Nat), e = .returned (.tuple #[.slice a ss.length c, .string t]) ∧ sumSz ss + ss.length ≤ 100000 ∧ t.size ≤ 10 ∧ RdS w' (.slice a ss.length c) ss ∧ ss.length ≤ c ∧ Below w.heap.size w w' := by
  obtain ⟨va, vcap, rfl⟩ : ∃ a c, v = .slice a n c := by obtain ⟨a, _, _, c, hv, _⟩ := h; exact ⟨a, c, hv⟩
  have hc := Cur.start w (.slice va n vcap)
  have hB0 : Below w.heap.size w (w.alloc (.cells #[.slice va n vcap, .int .i64 0, .int .u64 0] 60)) := (Below.refl _ _).alloc (Nat.le_refl _) _
  obtain ⟨w1, hw1⟩ : ∃ W, W = w.alloc (.cells #[.slice va n vcap, .int .i64 0, .int .u64 0] 60) := ⟨_, rfl⟩
  rw [← hw1] at hc hB0
  have hsz1 : w1.heap.size = w.heap.size + 1 := by rw [hw1]; simp
  have hE := OwnV.empty 9 w1
  have hBE : Below w.heap.size w (w1.alloc (.cells #[] 9)) := hB0.alloc hB0.size _
  have hcE := hc.alloc (.cells #[] 9)
  have C1 := pick_any w.heap.size (.slice va n vcap) n 0 4 _ hcE (h.curAt hBE) (by decide) (by decide) (by decide)
  have HH := Lib.hid h
  rw [hw1] at C1
  obtain ⟨g, hg⟩ : ∃ g, g = w.heap.size := ⟨_, rfl⟩
  go_enter Tryd.func36, Tryd.ntmps36
  go_wp2_with fail
  refine C1.mono ?_
  rintro e w2 ⟨y, rfl, hy, hc2, hm2⟩
  rw [← hw1] at hm2
  have hB2 : Below w.heap.size w w2 := hBE.trans (hm2.below (Nat.le_refl _) hBE.size)
  have hz2 := hm2.size
  rw [World.size_alloc] at hz2
  have hO2 : OwnV 9 (w.heap.size + 1) w2.heap.size w2 (.slice (some ⟨w1.heap.size, 0, none⟩) 0 0) [] :=
    ((hE.mid hm2 (Or.inr (by omega))).weaken (by omega) (by omega))
  clear hE hBE hcE C1 hm2 hB0 hc hw1
  go_wp2
  go_loopw [5, 7] (fun s5 s7 wr => ∃ (k : Nat) (ss : List ByteArray) (a : Option Addr) (c : Nat), k ≤ y ∧ s7 = .int .i64 k ∧ ss.length = k ∧ sumSz ss ≤ 10 * k ∧ s5 = .slice a ss.length c ∧ OwnV 9 (w.heap.size + 1) wr.heap.size wr (.slice a ss.length c) (strs ss) ∧ Cur w.heap.size (.slice va n vcap) (2 + 2 * k) wr ∧ Below w.heap.size w wr) (fun _ s7 _ => y - (intOf s7).toNat)
  case atStart => exact ⟨0, [], _, _, by omega, rfl, rfl, by simp [sumSz], rfl, by rw [hsz1] at hO2; exact hO2, hc2, hB2⟩
  case round =>
    obtain ⟨k, ss, a, c, hk, rfl, hsl, hss, rfl, hO, hcr, hB⟩ := hrel
    have hz := hB.size
    have hgl := hcr.lt
    have HSL := Lib.hid (And.intro hsl hss)
    by_cases hlt : k < y
    · have C := any1_any w.heap.size (.slice va n vcap) n (2 + 2 * k) wr hcr (HH.out.curAt hB) (by omega)
      have hdl : (strs ss).length ≤ 4194304 := by rw [strs_length]; omega
      clear hsl hss hO2 hc2 hB2
      go_wp2_with fail
      refine C.mono ?_
      rintro e w3 ⟨x, hx, rfl, hc3, hm3⟩
      have hx10 := anyL_size hx
      have hB3 := hB.trans (hm3.below (Nat.le_refl _) hz)
      have hz3 := hB3.size
      have hO3 := (hO.mid hm3 (Or.inr (Nat.le_refl _))).weaken (Nat.le_refl _) hm3.size
      have hg3 := hc3.lt
      clear hO C hx hcr
      go_wp2_with (at_builtin; refine append1_own rfl _ _ 41 9 rfl Tryd.underlying41 Tryd.infoStr rfl hO3 rfl rfl rfl hdl (by omega) (by omega) ?_)
      intro a2 c2 w4 hO4 hg4
      have hB4 : Below w.heap.size w w4 := hB3.grown hg4 (by omega) (fun g' hg' => by have := (hO3.lt g' hg').1; omega)
      have hc4 := hc3.of_block (hg4.block w.heap.size hg3 (fun e => by have := (hO3.lt _ e.symm).1; omega))
      clear hO3
      go_wp2
      go_roundw
      case rel => exact ⟨k + 1, ss ++ [x], a2, c2, by omega, by go_num, by rw [List.length_append, HSL.out.1]; rfl, by rw [sumSz_snoc]; have := HSL.out.2; omega, by simp [strs_length], by simpa [strs] using hO4, hc4.up (by omega), hB4⟩
      case measure => simp [intOf]; omega
    · obtain rfl : k = y := by omega
      have C := one_any w.heap.size (.slice va n vcap) n (2 + 2 * k) 20 wr hcr (HH.out.curAt hB) (by omega) (by decide) (by decide)
      clear hsl hss hO2 hc2 hB2
      go_wp2_with fail
      refine C.mono ?_
      rintro e w3 ⟨b, rfl, hc3, hm3⟩
      have hB3 := hB.trans (hm3.below (Nat.le_refl _) hz)
      have hz3 := hB3.size
      have hO3 := (hO.mid hm3 (Or.inr (Nat.le_refl _))).weaken (Nat.le_refl _) hm3.size
      clear hO C hcr
      have hdl : (strs ss).length ≤ 4194304 := by rw [strs_length, HSL.out.1]; omega
      cases b with
      | true =>
        have C4 := pick_any w.heap.size (.slice va n vcap) n 50 20 w3 (hc3.up (by omega)) (HH.out.curAt hB3) (by omega) (by decide) (by decide)
        go_wp2_with fail
        refine C4.mono ?_
        rintro e w4 ⟨z, rfl, hz4, hc4, hm4⟩
        have hB4 := hB3.trans (hm4.below (Nat.le_refl _) hz3)
        have hO4 := (hO3.mid hm4 (Or.inr (Nat.le_refl _))).weaken (Nat.le_refl _) hm4.size
        have hs4 := hB4.size
        obtain ⟨m, hm⟩ : ∃ m : Nat, m = 3990 + z := ⟨_, rfl⟩
        have e1 : 3990 + (z : Int) = (m : Int) := by omega
        have hmb : m ≤ 4010 := by omega
        have hmk := run_make_row' (P := Tryd.prog) 22 5 (.int .u8 0) 1 Tryd.underlying22 Tryd.infoByte rfl .i64 .i64 m (by omega) (by omega)
        have hzt := zero_text w4 m
        have hzs := zeroT_size m
        have hO5 := (hO4.kept (B := w4.heap.size) ((Below.refl _ _).alloc (Nat.le_refl _) (.cells (madeCells #[.int .u8 0] m) 5)) (Nat.le_refl _)).weaken (lo' := w.heap.size + 1) (hi' := w4.heap.size + 1) (Nat.le_refl _) (by omega)
        have hc5 := hc4.alloc (.cells (madeCells #[.int .u8 0] m) 5)
        have hB5 : Below w.heap.size w (w4.alloc (.cells (madeCells #[.int .u8 0] m) 5)) := hB4.alloc hs4 _
        have hg5 := hc5.lt
        have hzz : w4.heap.size + 1 = (w4.alloc (.cells (madeCells #[.int .u8 0] m) 5)).heap.size := by simp
        rw [hzz] at hO5
        generalize zeroT m = Z at *
        have HZ := Lib.hid hzs
        clear C4 hm hzs hO3 hO4 hc3 hc4 hzz
        go_wp2_with (at_builtin; refine append1_at (m := w4.heap.size + 1) rfl _ _ 41 9 rfl Tryd.underlying41 Tryd.infoStr rfl hO5 (by simp) rfl rfl rfl hdl (by omega) (by rw [World.size_alloc]; omega) ?_)
        intro a2 c2 w6 hO6 hg6
        have hB6 : Below w.heap.size w w6 := hB5.grown hg6 (by rw [World.size_alloc]; omega) (fun g' hg' => by have := (hO5.lt g' hg').1; omega)
        have hc6 := hc5.of_block (hg6.block w.heap.size hg5 (fun e => by have := (hO5.lt _ e.symm).1; omega))
        replace hO6 : OwnV 9 (w.heap.size + 1) w6.heap.size w6 (.slice a2 (ss ++ [Z]).length c2) (strs (ss ++ [Z])) := by simpa [strs] using hO6
        clear hO5 hc5 hmk hzt
        have C5 := of_made w.heap.size (.slice va n vcap) n 100 [⟨#[44]⟩, ⟨#[59]⟩, ⟨#[59]⟩, ⟨#[]⟩, ⟨#[97, 98]⟩] _ (hc6.up (by omega)) (HH.out.curAt hB6) (by decide) (by decide) (by decide)
        go_wp2_with fail
        refine C5.mono ?_
        rintro e w9 ⟨t, ht, rfl, hc9, hm9⟩
        have ht10 : t.size ≤ 10 := by
          have : ([⟨#[44]⟩, ⟨#[59]⟩, ⟨#[59]⟩, ⟨#[]⟩, ⟨#[97, 98]⟩] : List ByteArray).all (fun x => decide (x.size ≤ 10)) = true := by decide
          exact of_decide_eq_true (List.all_eq_true.1 this t ht)
        have hO9 := (hO6.mid hm9 (Or.inr (Nat.le_refl _)))
        have hB9 := hB6.trans (hm9.below (Nat.le_refl _) hB6.size)
        have hcap9 := ownCap hO9
        rw [strs_length] at hcap9
        clear ht C5
        go_wp2
        go_ret2
        exact ⟨ss ++ [Z], t, _, _, by rw [List.length_append]; rfl, by rw [sumSz_snoc, List.length_append, HZ.out]; have := HSL.out; simp only [List.length_singleton]; omega, ht10, hO9.rdS, hcap9, hB9⟩
      | false =>
        have C5 := of_made w.heap.size (.slice va n vcap) n 100 [⟨#[44]⟩, ⟨#[59]⟩, ⟨#[59]⟩, ⟨#[]⟩, ⟨#[97, 98]⟩] _ (hc3.up (by omega)) (HH.out.curAt hB3) (by decide) (by decide) (by decide)
        go_wp2_with fail
        refine C5.mono ?_
        rintro e w9 ⟨t, ht, rfl, hc9, hm9⟩
        have ht10 : t.size ≤ 10 := by
          have : ([⟨#[44]⟩, ⟨#[59]⟩, ⟨#[59]⟩, ⟨#[]⟩, ⟨#[97, 98]⟩] : List ByteArray).all (fun x => decide (x.size ≤ 10)) = true := by decide
          exact of_decide_eq_true (List.all_eq_true.1 this t ht)
        have hO9 := (hO3.mid hm9 (Or.inr (Nat.le_refl _)))
        have hB9 := hB3.trans (hm9.below (Nat.le_refl _) hB3.size)
        have hcap9 := ownCap hO9
        rw [strs_length] at hcap9
        clear ht C5
        go_wp2
        go_ret2
        exact ⟨_, t, _, _, rfl, by have := HSL.out; omega, ht10, hO9.rdS, hcap9, hB9⟩
end Go.Proofs.YtenlfegldjfpjaaDoor
