/- The numbers of a box: contracts. -/
import Derived.Test.YtadnjljpceeolaaPlainD
import Derived.Test.YtadnjljpceeolaaFnNoise
set_option linter.unusedSimpArgs false
set_option linter.unusedVariables false
namespace Go.Proofs.Ytadnjljpceeolaa
open Go.RowKit

/-- What a valid box holds at questions and answers. -/
theorem boxB_at {b : BoxD} (hb : boxB b = true) (i j : Nat) (hi : (i : Int) < b.X) (hj : (j : Int) < b.Y) :
    ∃ (n : Nat) (p q r s : Int), (i : Int) * b.Y + (j : Int) = (n : Int) ∧ (0 ≤ (i : Int) * b.Y ∧ (i : Int) * b.Y ≤ 6) ∧ n ≤ 8 ∧ b.Rows[n]? = some [p, q, r, s] ∧ n < b.Rows.length ∧
      (0 ≤ p ∧ p ≤ b.Whole) ∧ (0 ≤ q ∧ q ≤ b.Whole) ∧ (0 ≤ r ∧ r ≤ b.Whole) ∧ (0 ≤ s ∧ s ≤ b.Whole) ∧ p + q + r + s = b.Whole ∧
      numB b i j 0 0 = p ∧ numB b i j 0 1 = q ∧ numB b i j 1 0 = r ∧ numB b i j 1 1 = s := by
  obtain ⟨⟨⟨hx0, hx1⟩, hy0, hy1⟩, hw, hl, hr⟩ := boxB_iff.1 hb
  obtain ⟨Y, hY⟩ := Int.eq_ofNat_of_zero_le (show 0 ≤ b.Y by omega)
  obtain ⟨X, hX⟩ := Int.eq_ofNat_of_zero_le (show 0 ≤ b.X by omega)
  have hl' : b.Rows.length = X * Y := by rw [hX, hY, ← Int.natCast_mul] at hl; exact Int.ofNat_inj.1 hl
  have h1 : (i + 1) * Y ≤ X * Y := Nat.mul_le_mul_right _ (by omega)
  rw [Nat.succ_mul] at h1
  have h2 : i * Y ≤ 2 * 3 := Nat.mul_le_mul (by omega) (by omega)
  have h3 : i * Y + j < b.Rows.length := by omega
  obtain ⟨p, q, r, s, hrow, hp, hq, hrr, hs, hsum⟩ := fourB_four (rowsB_get hr (List.getElem?_eq_getElem h3))
  refine ⟨i * Y + j, p, q, r, s, by rw [hY]; simp, by rw [hY, ← Int.natCast_mul]; omega, by omega, ?_, h3, hp, hq, hrr, hs, hsum, ?_, ?_, ?_, ?_⟩
  · rw [List.getElem?_eq_getElem h3, hrow]
  all_goals (unfold numB; rw [hY]; simp [List.getD_eq_getElem?_getD, h3, hrow])

theorem numB_bound {b : BoxD} (hb : boxB b = true) (i j : Nat) (hi : (i : Int) < b.X) (hj : (j : Int) < b.Y) (a c : Nat) (ha : a < 2) (hc : c < 2) : 0 ≤ numB b i j a c ∧ numB b i j a c ≤ b.Whole := by
  obtain ⟨n, p, q, r, s, _, _, _, _, _, hp, hq, hr, hs, _, e0, e1, e2, e3⟩ := boxB_at hb i j hi hj
  have : a = 0 ∨ a = 1 := by omega
  have : c = 0 ∨ c = 1 := by omega
  rcases ‹a = 0 ∨ a = 1› with rfl | rfl <;> rcases ‹c = 0 ∨ c = 1› with rfl | rfl
  · exact e0 ▸ hp
  · exact e1 ▸ hq
  · exact e2 ▸ hr
  · exact e3 ▸ hs

set_option maxHeartbeats 400000 in
theorem at_any (v : Value) (b : BoxD) (hb : boxB b = true) (i j a c : Nat) (hi : (i : Int) < b.X) (hj : (j : Int) < b.Y) (ha : a < 2) (hc : c < 2) (w : World) (h : RdII w v b.Rows) :
    Calls Try.prog 153 #[.agg #[.int .i64 b.X, .int .i64 b.Y, .int .i64 b.Whole, v], .int .i64 i, .int .i64 j, .int .i64 a, .int .i64 c] w fun e w' => e = .returned (.int .i64 (numB b i j a c)) ∧ Below w.heap.size w w' := by
  obtain ⟨n, p, q, r, s, hn, ⟨hm0, hm1⟩, hn8, hrow, hlt, _, _, _, _, _, e0, e1, e2, e3⟩ := boxB_at hb i j hi hj
  obtain ⟨av, ba, off, cap, rfl, hm, hav, hcell⟩ := h
  unfold maxLen at hm
  obtain rfl := hav (by omega)
  obtain ⟨v', hv', hrd⟩ := hcell n _ hrow
  obtain ⟨a2, b2, o2, c2, rfl, hm2, ha2, hc2⟩ := hrd
  obtain rfl := ha2 (by simp)
  obtain ⟨m, x, hm3, hx, hxe⟩ : ∃ (m : Nat) (x : Int), 2 * (a : Int) + (c : Int) = (m : Int) ∧ [p, q, r, s][m]? = some x ∧ numB b i j a c = x := by
    have : a = 0 ∨ a = 1 := by omega
    have : c = 0 ∨ c = 1 := by omega
    rcases ‹a = 0 ∨ a = 1› with rfl | rfl <;> rcases ‹c = 0 ∨ c = 1› with rfl | rfl
    · exact ⟨0, p, rfl, rfl, e0⟩
    · exact ⟨1, q, rfl, rfl, e1⟩
    · exact ⟨2, r, rfl, rfl, e2⟩
    · exact ⟨3, s, rfl, rfl, e3⟩
  have hcx := hc2 m x hx
  have hm4 : m < 4 := by omega
  rw [hxe]
  clear hc2 ha2 hcell hav hrow e0 e1 e2 e3 hx hxe hb
  have l1 := World.block_lt_of_cell? _ _ hv'
  have l2 := World.block_lt_of_cell? _ _ hcx
  simp only [] at l1 l2
  go_enter Try.func153, Try.ntmps153
  go_wp2
  go_ret
  exact ⟨rfl, (by repeat' (first | with_reducible exact Below.refl _ _ | with_reducible assumption | with_reducible apply Below.alloc | with_reducible apply Below.setCell | with_reducible apply Below.drew | exact Nat.le_refl _ | omega | (simp only [World.size_alloc, World.size_setCell]; omega)))⟩
set_option maxHeartbeats 400000 in
theorem l2Row_any (v : Value) (b : BoxD) (i j n : Nat) (p q r s : Int) (hn : (i : Int) * b.Y + (j : Int) = (n : Int)) (hm : 0 ≤ (i : Int) * b.Y ∧ (i : Int) * b.Y ≤ 6) (hn8 : n ≤ 8) (hlt : n < b.Rows.length) (hrow : b.Rows[n]? = some [p, q, r, s]) (w0 w : World) (h : RdII w0 v b.Rows) (hB : Below w0.heap.size w0 w) :
    Calls Try.prog 104 #[.agg #[.int .i64 b.X, .int .i64 b.Y, .int .i64 b.Whole, v], .int .i64 i, .int .i64 j] w fun e w' => ∃ b2 o2 c2 : Nat, e = .returned (.slice (some ⟨b2, o2, none⟩) 4 c2) ∧
      (w0.cell? ⟨b2, o2, none⟩ = some (.int .i64 p) ∧ w0.cell? ⟨b2, o2 + 1, none⟩ = some (.int .i64 q) ∧ w0.cell? ⟨b2, o2 + 2, none⟩ = some (.int .i64 r) ∧ w0.cell? ⟨b2, o2 + 3, none⟩ = some (.int .i64 s)) ∧ Below w.heap.size w w' := by
  obtain ⟨av, ba, off, cap, rfl, hm2, hav, hcell⟩ := h
  unfold maxLen at hm2
  obtain rfl := hav (by omega)
  obtain ⟨v', hv0, hrd⟩ := hcell n _ hrow
  have hv' := (hB.cell (p := ⟨ba, off + n, none⟩) (World.block_lt_of_cell? _ _ hv0)).trans hv0
  clear hv0
  obtain ⟨a2, b2, o2, c2, rfl, hm3, ha2, hc2⟩ := hrd
  obtain rfl := ha2 (by simp)
  have d0 := hc2 0 p rfl
  have d1 := hc2 1 q rfl
  have d2 := hc2 2 r rfl
  have d3 := hc2 3 s rfl
  have l1 := World.block_lt_of_cell? _ _ hv'
  simp only [] at l1
  obtain ⟨hm0, hm1⟩ := hm
  have D := Lib.hid (And.intro d0 (And.intro d1 (And.intro d2 d3)))
  clear hc2 ha2 hcell hav hrow d0 d1 d2 d3
  go_enter Try.func104, Try.ntmps104
  go_wp2
  go_ret
  exact ⟨b2, o2, c2, rfl, D.out, (by repeat' (first | with_reducible exact Below.refl _ _ | with_reducible assumption | with_reducible apply Below.alloc | with_reducible apply Below.setCell | with_reducible apply Below.drew | exact Nat.le_refl _ | omega | (simp only [World.size_alloc, World.size_setCell]; omega)))⟩
end Go.Proofs.Ytadnjljpceeolaa
