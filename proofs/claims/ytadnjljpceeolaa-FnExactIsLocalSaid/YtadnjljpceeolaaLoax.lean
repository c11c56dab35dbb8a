/- Functionals: contracts of the program's and the reference's test. The worth of a functional: contracts of the program's and the reference's sum. -/
import Derived.Test.YtadnjljpceeolaaLoai
import Derived.Test.YtadnjljpceeolaaLoae
import Derived.Test.YtadnjljpceeolaaLoam
import Derived.Test.YtadnjljpceeolaaLoas
set_option linter.unusedSimpArgs false
set_option linter.unusedVariables false
namespace Go.Proofs.Ytadnjljpceeolaa
open Go.RowKit

theorem funcB_sizes {x y : Int} {f : List (List Int)} (h : sizesB x y = false) : funcB x y f = false := by unfold funcB; rw [h]; rfl
theorem funcB_len {x y : Int} {f : List (List Int)} (h : ¬ (f.length : Int) = x * y) : funcB x y f = false := by unfold funcB; rw [decide_eq_false h]; simp
theorem funcB_row {x y : Int} {f : List (List Int)} {k : Nat} {rs : List Int} (h : f[k]? = some rs) (hr : funcRowB rs = false) : funcB x y f = false := by
  unfold funcB; rw [all_false h hr]; simp
theorem funcRow_in {rs : List Int} (h : allIn rs (-99) 99 = false) : funcRowB rs = false := by unfold funcRowB; rw [h]; simp
theorem funcRow_len {rs : List Int} (h : ¬ rs.length = 4) : funcRowB rs = false := by unfold funcRowB; rw [decide_eq_false h]; simp
theorem sizes_mul {x y : Int} (h : sizesB x y = true) : 0 ≤ x * y ∧ x * y ≤ 9 := by
  obtain ⟨⟨hx0, hx1⟩, hy0, hy1⟩ := sizesB_iff.1 h
  have e1 : x = 1 ∨ x = 2 ∨ x = 3 := by omega
  rcases e1 with e1 | e1 | e1 <;> rw [e1] <;> omega

set_option maxHeartbeats 1600000 in
theorem isFunctional_any (x y : Int) (v : Value) (f : List (List Int)) (w : World) (h : RdII w v f) :
    Calls Try.prog 136 #[.int .i64 x, .int .i64 y, v] w fun e w' => e = .returned (.bool (funcB x y f)) ∧ w = w' := by
  obtain ⟨a, ba, off, cap, rfl, hm, ha, hc⟩ := h
  unfold maxLen at hm
  go_enter Try.func136, Try.ntmps136
  go_wp2
  go_loop [11] (fun s => ∃ n : Nat, n ≤ f.length ∧ s = .int .i64 n ∧ ∀ (j : Nat) (rs : List Int), j < n → f[j]? = some rs → funcRowB rs = true) (fun s => f.length - (intOf s).toNat)
  case atStart => exact ⟨0, by omega, rfl, fun j rs hj => by omega⟩
  case round =>
    obtain ⟨n, hn, rfl, hA⟩ := hrel
    have HA := Lib.hid hA
    clear hA
    by_cases hlt : n < f.length
    · obtain rfl := ha (by omega)
      obtain ⟨rs, hrs⟩ : ∃ rs, f[n]? = some rs := ⟨_, List.getElem?_eq_getElem hlt⟩
      obtain ⟨v', hcell, hrd⟩ := hc n rs hrs
      have hrd' := hrd
      obtain ⟨a2, b2, o2, c2, rfl, hm2, _, _⟩ := hrd'
      unfold maxLen at hm2
      have HX := Lib.hid hrs
      clear hc hrs
      by_cases h4 : rs.length = 4
      · have h4z : ((rs.length : Int) != 4) = false := by simp; omega
        have H4 := Lib.hid h4
        clear h4
        rcases Bool.eq_false_or_eq_true (allIn rs (-99) 99) with h5 | h5
        · go_wp2_with (go_at_call 85; refine (allWithin_any _ rs _ _ _ hrd).mono ?_; rintro e w' ⟨rfl, rfl⟩)
          go_round
          case rel => exact ⟨n + 1, by omega, by go_num, fun j rs' hj hr' => by
            by_cases e : j = n
            · subst e; rw [HX.out] at hr'; cases hr'
              unfold funcRowB
              rw [decide_eq_true H4.out, h5]; rfl
            · exact HA.out j rs' (by omega) hr'⟩
          case measure => simp [intOf]; omega
        · go_wp2_with (go_at_call 85; refine (allWithin_any _ rs _ _ _ hrd).mono ?_; rintro e w' ⟨rfl, rfl⟩)
          go_ret
          exact ⟨ret_bool (funcB_row HX.out (funcRow_in h5)).symm, rfl⟩
      · have h4z : ((rs.length : Int) != 4) = true := by simp; omega
        have H4 := Lib.hid h4
        clear h4
        go_wp2
        go_ret
        exact ⟨ret_bool (funcB_row HX.out (funcRow_len H4.out)).symm, rfl⟩
    · obtain rfl : n = f.length := by omega
      rcases Bool.eq_false_or_eq_true (sizesB x y) with h1 | h1
      · obtain ⟨hm0, hm9⟩ := sizes_mul h1
        by_cases h3 : (f.length : Int) = x * y
        · have h3z : ((f.length : Int) == x * y) = true := by simp [h3]
          have H3 := Lib.hid h3
          clear h3
          go_wp2_with (go_at_call 84; refine (areQuestions_any _ _ _).mono ?_; rintro e w' ⟨rfl, rfl⟩)
          go_ret
          exact ⟨ret_bool (by unfold funcB; rw [h1, decide_eq_true H3.out, all_true (fun j rs hx => HA.out j rs (List.getElem?_eq_some_iff.1 hx).1 hx)]; rfl), rfl⟩
        · have h3z : ((f.length : Int) == x * y) = false := by simp [h3]
          have H3 := Lib.hid h3
          clear h3
          go_wp2_with (go_at_call 84; refine (areQuestions_any _ _ _).mono ?_; rintro e w' ⟨rfl, rfl⟩)
          go_ret
          exact ⟨ret_bool (funcB_len H3.out).symm, rfl⟩
      · go_wp2_with (go_at_call 84; refine (areQuestions_any _ _ _).mono ?_; rintro e w' ⟨rfl, rfl⟩)
        go_ret
        exact ⟨ret_bool (funcB_sizes h1).symm, rfl⟩
end Go.Proofs.Ytadnjljpceeolaa
set_option linter.unusedSimpArgs false
set_option linter.unusedVariables false
namespace Go.Proofs.Ytadnjljpceeolaa
open Go.RowKit

/-- The cells that lead to a valid functional's number. -/
theorem func_path {f : List (List Int)} (hf : f.all funcRowB = true) {w : World} {v : Value} (h : RdII w v f) (k : Nat) (hk : k < f.length) :
    ∃ (ba off cap b2 o2 c2 : Nat), v = .slice (some ⟨ba, off, none⟩) f.length cap ∧ w.cell? ⟨ba, off + k, none⟩ = some (.slice (some ⟨b2, o2, none⟩) 4 c2) ∧ ba < w.heap.size ∧ b2 < w.heap.size ∧
      ∀ q, q < 4 → ∃ x : Int, w.cell? ⟨b2, o2 + q, none⟩ = some (.int .i64 x) ∧ (-99 ≤ x ∧ x ≤ 99) ∧ cellAt f k q = x := by
  obtain ⟨av, ba, off, cap, rfl, hm, ha, hc⟩ := h
  obtain rfl := ha (by omega)
  have hrs : f[k]? = some f[k] := List.getElem?_eq_getElem hk
  obtain ⟨p0, p1, p2, p3, hrow, h0, h1, h2, h3⟩ := funcRow_four (all_get hf hrs)
  obtain ⟨v', hv', a2, b2, o2, c2, rfl, _, ha2, hc2⟩ := hc k _ hrs
  rw [hrow] at hv' ha2 hc2 hrs
  obtain rfl := ha2 (by simp)
  have l1 := World.block_lt_of_cell? _ _ hv'
  have l2 := World.block_lt_of_cell? _ _ (hc2 0 p0 rfl)
  refine ⟨ba, off, cap, b2, o2, c2, rfl, hv', l1, l2, fun q hq => ?_⟩
  have : q = 0 ∨ q = 1 ∨ q = 2 ∨ q = 3 := by omega
  rcases this with rfl | rfl | rfl | rfl
  · exact ⟨p0, hc2 0 p0 rfl, h0, cellAt_get hrs rfl⟩
  · exact ⟨p1, hc2 1 p1 rfl, h1, cellAt_get hrs rfl⟩
  · exact ⟨p2, hc2 2 p2 rfl, h2, cellAt_get hrs rfl⟩
  · exact ⟨p3, hc2 3 p3 rfl, h3, cellAt_get hrs rfl⟩
theorem func_len {f : List (List Int)} {b : BoxD} (hf : funcB b.X b.Y f = true) (hb : boxB b = true) : f.length = b.Rows.length := by
  have h1 := (funcB_iff.1 hf).2.1
  have h2 := (boxB_iff.1 hb).2.2.1
  omega
theorem prod_bd {x y : Int} (hx : -99 ≤ x ∧ x ≤ 99) (hy : 0 ≤ y ∧ y ≤ 1000) : -99000 ≤ x * y ∧ x * y ≤ 99000 := mul_bd x y 99 1000 hx hy

set_option maxHeartbeats 1600000 in
theorem worth_any (vf : Value) (f : List (List Int)) (vb : Value) (b : BoxD) (hf : funcB b.X b.Y f = true) (hb : boxB b = true) (w : World) (rf : RdII w vf f) (rb : RdII w vb b.Rows) :
    Calls Try.prog 138 #[vf, vb] w fun e w' => e = .returned (.int .i64 (worthR f b.Rows)) ∧ w = w' := by
  have hlen := func_len hf hb
  have PF := Lib.hid (fun k hk => func_path (funcB_iff.1 hf).2.2 rf k hk)
  have PB := Lib.hid (fun k hk => boxB_path hb rb k hk)
  have hl9 : b.Rows.length ≤ 9 := boxB_len hb
  have hl1 : 1 ≤ b.Rows.length := boxB_len1 hb
  obtain ⟨wb0, wb1⟩ := (boxB_iff.1 hb).2.1
  obtain ⟨ba, off, cap, _, _, _, rfl, _⟩ := PF.out 0 (by omega)
  obtain ⟨bb, offb, capb, _, _, _, rfl, _⟩ := PB.out 0 (by omega)
  have hf9 : f.length ≤ 9 := by omega
  have HL := Lib.hid hlen
  clear hlen hf hb rf rb
  go_enter Try.func138, Try.ntmps138
  go_wp2
  go_loop [12, 5] (fun s6 s5 => ∃ (n : Nat) (t : Int), n ≤ f.length ∧ s6 = .int .i64 n ∧ s5 = .int .i64 t ∧ t = worthTo f b.Rows n ∧ -(396000 * (n : Int)) ≤ t ∧ t ≤ 396000 * (n : Int)) (fun s6 _ => f.length - (intOf s6).toNat)
  case atStart => exact ⟨0, 0, by omega, rfl, rfl, rfl, by omega, by omega⟩
  case round =>
    obtain ⟨n, t, hn, rfl, rfl, ht, ht0, ht1⟩ := hrel
    have HT := Lib.hid ht
    clear ht
    by_cases hlt : n < f.length
    · obtain ⟨_, _, _, b2, o2, c2, ev, ca, lba, lb2, PFk⟩ := PF.out n hlt
      obtain ⟨_, _, _, b4, o4, c4, ev2, _, cb, lbb, lb4, PBk⟩ := PB.out n (by rw [← HL.out]; exact hlt)
      simp only [Value.slice.injEq, Option.some.injEq, Addr.mk.injEq, and_true, true_and] at ev ev2
      obtain ⟨⟨rfl, rfl⟩, rfl⟩ := ev
      obtain ⟨⟨rfl, rfl⟩, rfl⟩ := ev2
      have HPF := Lib.hid PFk
      have HPB := Lib.hid PBk
      clear PFk PBk
      go_wp2
      go_loop [19, 5] (fun s7 s5 => ∃ (q : Nat) (u : Int), q ≤ 4 ∧ s7 = .int .i64 q ∧ s5 = .int .i64 u ∧ u = t + wRow f b.Rows n q ∧ -(396000 * (n : Int) + 99000 * (q : Int)) ≤ u ∧ u ≤ 396000 * (n : Int) + 99000 * (q : Int)) (fun s7 _ => 4 - (intOf s7).toNat)
      case atStart => exact ⟨0, t, by omega, rfl, rfl, by rw [wRow_zero]; omega, by omega, by omega⟩
      case round =>
        obtain ⟨q, u, hq, rfl, rfl, hu, hu0, hu1⟩ := hrel
        have HU := Lib.hid hu
        clear hu
        by_cases hqt : q < 4
        · obtain ⟨x, cx, hx, nx⟩ := HPF.out q hqt
          obtain ⟨y, cy, ⟨by0, by1⟩, _, ny⟩ := HPB.out q hqt
          obtain ⟨p0, p1⟩ := prod_bd hx ⟨by0, by omega⟩
          have n2 : n < b.Rows.length := by have := HL.out; omega
          have hs : u + x * y = t + wRow f b.Rows n (q + 1) := by rw [wRow_succ, nx, ny, HU.out]; omega
          have HS := Lib.hid hs
          have v0 : -(396000 * (n : Int) + 99000 * ((q + 1 : Nat) : Int)) ≤ u + x * y := by omega
          have v1 : u + x * y ≤ 396000 * (n : Int) + 99000 * ((q + 1 : Nat) : Int) := by omega
          have HV := Lib.hid (And.intro v0 v1)
          obtain ⟨hx0, hx1⟩ := hx
          clear nx ny hs v0 v1
          go_wp2
          go_round
          case rel => exact ⟨q + 1, u + x * y, by omega, by go_num, rfl, HS.out, HV.out.1, HV.out.2⟩
          case measure => simp [intOf]; omega
        · obtain rfl : q = 4 := by omega
          have hv : u = worthTo f b.Rows (n + 1) := by rw [worthTo_succ, ← HT.out]; exact HU.out
          have HV := Lib.hid hv
          clear hv
          go_wp2
          go_round
          case rel => exact ⟨n + 1, u, by omega, by go_num, rfl, HV.out, by omega, by omega⟩
          case measure => simp [intOf]; omega
    · obtain rfl : n = f.length := by omega
      go_wp2
      go_ret
      exact ⟨ret_int (by rw [HT.out, HL.out]; rfl), rfl⟩
end Go.Proofs.Ytadnjljpceeolaa
