/- Plain facts of boxes that are told by their numbers. -/
import Derived.Test.YtcifpfdlkpddeaaDoorPlainC
set_option linter.unusedSimpArgs false
set_option linter.unusedVariables false
namespace Go.Proofs.YtcifpfdlkpddeaaDoor

/-- The number of a box at questions and answers. -/
def numB (b : BoxD) : Num := fun i j a c => (b.Rows.getD (i.toNat * b.Y.toNat + j.toNat) []).getD (2 * a.toNat + c.toNat) 0
/-- The box with told numbers. -/
def boxOf (x y whole : Int) (num : Num) : BoxD := ⟨x, y, whole, rowsTo num y.toNat (x.toNat * y.toNat)⟩
@[simp] theorem boxOf_X (x y whole : Int) (num : Num) : (boxOf x y whole num).X = x := rfl
@[simp] theorem boxOf_Y (x y whole : Int) (num : Num) : (boxOf x y whole num).Y = y := rfl
@[simp] theorem boxOf_Whole (x y whole : Int) (num : Num) : (boxOf x y whole num).Whole = whole := rfl
theorem boxOf_len (x y whole : Int) (num : Num) : (boxOf x y whole num).Rows.length = x.toNat * y.toNat := by simp [boxOf]
theorem boxOf_size (x y whole : Int) (num : Num) (h : sizesB x y = true) : (boxOf x y whole num).Rows.length + sumLen (boxOf x y whole num).Rows ≤ 4194304 := by
  obtain ⟨⟨hx0, hx1⟩, hy0, hy1⟩ := sizesB_iff.1 h
  unfold boxOf
  exact rows_size _ _ _ (Nat.mul_le_mul (show x.toNat ≤ 3 by omega) (show y.toNat ≤ 3 by omega))

theorem rowsTo_congr (f g : Num) (Y n : Nat) (h : ∀ k, k < n → rowOf f ((k / Y : Nat) : Int) ((k % Y : Nat) : Int) = rowOf g ((k / Y : Nat) : Int) ((k % Y : Nat) : Int)) : rowsTo f Y n = rowsTo g Y n := by
  unfold rowsTo
  apply List.map_congr_left
  intro k hk
  exact h k (List.mem_range.1 hk)

theorem div_lt_of {X Y k : Nat} (h : k < X * Y) : k / Y < X ∧ k % Y < Y := by
  have hY : 0 < Y := by
    rcases Nat.eq_zero_or_pos Y with rfl | h0
    · simp at h
    · exact h0
  exact ⟨(Nat.div_lt_iff_lt_mul hY).2 h, Nat.mod_lt _ hY⟩

theorem boxOf_congr (x y whole : Int) (f g : Num) (h : ∀ i j : Nat, (i : Int) < x → (j : Int) < y → rowOf f i j = rowOf g i j) : boxOf x y whole f = boxOf x y whole g := by
  unfold boxOf
  congr 1
  apply rowsTo_congr
  intro k hk
  obtain ⟨h1, h2⟩ := div_lt_of hk
  exact h _ _ (Int.lt_toNat.1 h1) (Int.lt_toNat.1 h2)

/-- What a box's row tells: four numbers of at least 0 with the sum whole. -/
def FourN (num : Num) (whole : Int) (i j : Int) : Prop := 0 ≤ num i j 0 0 ∧ 0 ≤ num i j 0 1 ∧ 0 ≤ num i j 1 0 ∧ 0 ≤ num i j 1 1 ∧ num i j 0 0 + num i j 0 1 + num i j 1 0 + num i j 1 1 = whole

theorem rowOf_fourB {num : Num} {whole i j : Int} (h : FourN num whole i j) : fourB (rowOf num i j) whole = true := by
  obtain ⟨h0, h1, h2, h3, h4⟩ := h
  rw [fourB_iff]
  refine ⟨rfl, ?_, ?_⟩
  · simp [allIn, rowOf, inB]; omega
  · simp [rowOf]; omega

theorem boxOf_boxB (x y whole : Int) (num : Num) (hs : sizesB x y = true) (h : ∀ i j : Nat, (i : Int) < x → (j : Int) < y → FourN num whole i j) : boxB (boxOf x y whole num) = inB whole 1 1000 := by
  obtain ⟨⟨hx0, hx1⟩, hy0, hy1⟩ := sizesB_iff.1 hs
  have e1 : decide ((((boxOf x y whole num).Rows.length : Nat) : Int) = x * y) = true := by
    rw [boxOf_len]
    apply decide_eq_true
    rw [Int.natCast_mul, Int.toNat_of_nonneg (by omega), Int.toNat_of_nonneg (by omega)]
  have e2 : rowsB (boxOf x y whole num).Rows whole = true := by
    apply rowsB_true
    intro k rs hrs
    have hk : k < x.toNat * y.toNat := by have := (List.getElem?_eq_some_iff.1 hrs).1; rwa [boxOf_len] at this
    obtain ⟨h1, h2⟩ := div_lt_of hk
    unfold boxOf rowsTo at hrs
    simp only [] at hrs
    rw [List.getElem?_map, List.getElem?_range hk, Option.map_some] at hrs
    cases hrs
    exact rowOf_fourB (h _ _ (Int.lt_toNat.1 h1) (Int.lt_toNat.1 h2))
  unfold boxB
  show (sizesB x y && (inB whole 1 1000 && (decide (((boxOf x y whole num).Rows.length : Int) = x * y) && rowsB (boxOf x y whole num).Rows whole))) = _
  rw [hs, e1, e2]
  simp

theorem numB_boxOf (x y whole : Int) (num : Num) (i j a c : Nat) (hi : (i : Int) < x) (hj : (j : Int) < y) (ha : a < 2) (hc : c < 2) : numB (boxOf x y whole num) i j a c = num i j a c := by
  have h1 : (i + 1) * y.toNat ≤ x.toNat * y.toNat := Nat.mul_le_mul_right _ (by omega)
  rw [Nat.succ_mul] at h1
  have hg := rowsTo_get num y.toNat (x.toNat * y.toNat) i j (by omega) (by omega)
  unfold numB boxOf
  simp only [Int.toNat_natCast, List.getD_eq_getElem?_getD, hg, Option.getD_some]
  have : a = 0 ∨ a = 1 := by omega
  have : c = 0 ∨ c = 1 := by omega
  rcases ‹a = 0 ∨ a = 1› with rfl | rfl <;> rcases ‹c = 0 ∨ c = 1› with rfl | rfl <;> rfl

/-- A valid box's row by its place. -/
theorem boxB_row {b : BoxD} (hb : boxB b = true) (k : Nat) (hk : k < b.Rows.length) :
    ∃ p q r s : Int, b.Rows[k]? = some [p, q, r, s] ∧ (0 ≤ p ∧ p ≤ b.Whole) ∧ (0 ≤ q ∧ q ≤ b.Whole) ∧ (0 ≤ r ∧ r ≤ b.Whole) ∧ (0 ≤ s ∧ s ≤ b.Whole) ∧ p + q + r + s = b.Whole ∧
      rowOf (numB b) ((k / b.Y.toNat : Nat) : Int) ((k % b.Y.toNat : Nat) : Int) = [p, q, r, s] := by
  obtain ⟨⟨⟨hx0, hx1⟩, hy0, hy1⟩, hw, hl, hr⟩ := boxB_iff.1 hb
  obtain ⟨p, q, r, s, hrow, hp, hq, hrr, hs, hsum⟩ := fourB_four (rowsB_get hr (List.getElem?_eq_getElem hk))
  refine ⟨p, q, r, s, by rw [List.getElem?_eq_getElem hk, hrow], hp, hq, hrr, hs, hsum, ?_⟩
  have e : k / b.Y.toNat * b.Y.toNat + k % b.Y.toNat = k := Nat.div_add_mod' k _
  have e2 : ∀ n : Nat, ((n : Nat) : Int).toNat = n := fun n => by simp
  unfold rowOf numB
  simp only [e2, e]
  simp [List.getD_eq_getElem?_getD, hk, hrow]

theorem boxB_len2 {b : BoxD} (hb : boxB b = true) : b.Rows.length = b.X.toNat * b.Y.toNat := by
  obtain ⟨⟨⟨hx0, hx1⟩, hy0, hy1⟩, _, hl, _⟩ := boxB_iff.1 hb
  apply Int.ofNat_inj.1
  rw [hl, Int.natCast_mul, Int.toNat_of_nonneg (by omega), Int.toNat_of_nonneg (by omega)]

theorem box_eq_boxOf {b : BoxD} (hb : boxB b = true) : b = boxOf b.X b.Y b.Whole (numB b) := by
  have hl := boxB_len2 hb
  have : b.Rows = rowsTo (numB b) b.Y.toNat (b.X.toNat * b.Y.toNat) := by
    apply List.ext_getElem?
    intro k
    by_cases hk : k < b.Rows.length
    · obtain ⟨p, q, r, s, hrow, _, _, _, _, _, hf⟩ := boxB_row hb k hk
      rw [hrow]
      unfold rowsTo
      rw [List.getElem?_map, List.getElem?_range (by omega), Option.map_some, hf]
    · rw [List.getElem?_eq_none (by omega), List.getElem?_eq_none (by simp; omega)]
  unfold boxOf
  rw [← this]

theorem boxB_four {b : BoxD} (hb : boxB b = true) (i j : Nat) (hi : (i : Int) < b.X) (hj : (j : Int) < b.Y) : FourN (numB b) b.Whole i j := by
  obtain ⟨⟨⟨hx0, hx1⟩, hy0, hy1⟩, _, _, _⟩ := boxB_iff.1 hb
  have hl := boxB_len2 hb
  have h1 : (i + 1) * b.Y.toNat ≤ b.X.toNat * b.Y.toNat := Nat.mul_le_mul_right _ (by omega)
  rw [Nat.succ_mul] at h1
  have hj' : j < b.Y.toNat := by omega
  obtain ⟨p, q, r, s, _, hp, hq, hr, hs, hsum, hf⟩ := boxB_row hb (i * b.Y.toNat + j) (by omega)
  have e1 : (i * b.Y.toNat + j) / b.Y.toNat = i := by
    rw [Nat.add_comm, Nat.add_mul_div_right _ _ (by omega), Nat.div_eq_of_lt hj', Nat.zero_add]
  have e2 : (i * b.Y.toNat + j) % b.Y.toNat = j := by
    rw [Nat.add_comm, Nat.add_mul_mod_self_right, Nat.mod_eq_of_lt hj']
  rw [e1, e2] at hf
  simp only [rowOf, List.cons.injEq, and_true] at hf
  obtain ⟨f0, f1, f2, f3⟩ := hf
  unfold FourN
  rw [f0, f1, f2, f3]
  exact ⟨hp.1, hq.1, hr.1, hs.1, hsum⟩
/-- A valid box's number by its places. -/
theorem boxB_cell {b : BoxD} (hb : boxB b = true) (k q : Nat) (hk : k < b.Rows.length) (hq : q < 4) :
    ∃ (rs : List Int) (x : Int), b.Rows[k]? = some rs ∧ rs.length = 4 ∧ rs[q]? = some x ∧ (0 ≤ x ∧ x ≤ b.Whole) ∧ numB b ((k / b.Y.toNat : Nat) : Int) ((k % b.Y.toNat : Nat) : Int) ((q : Int) / 2) ((q : Int) % 2) = x := by
  obtain ⟨p0, p1, p2, p3, hrow, h0, h1, h2, h3, _, hf⟩ := boxB_row hb k hk
  simp only [rowOf, List.cons.injEq, and_true] at hf
  obtain ⟨f0, f1, f2, f3⟩ := hf
  have : q = 0 ∨ q = 1 ∨ q = 2 ∨ q = 3 := by omega
  rcases this with rfl | rfl | rfl | rfl
  · exact ⟨_, p0, hrow, rfl, rfl, h0, f0⟩
  · exact ⟨_, p1, hrow, rfl, rfl, h1, f1⟩
  · exact ⟨_, p2, hrow, rfl, rfl, h2, f2⟩
  · exact ⟨_, p3, hrow, rfl, rfl, h3, f3⟩
theorem boxB_sizes {b : BoxD} (hb : boxB b = true) : sizesB b.X b.Y = true := sizesB_iff.2 (boxB_iff.1 hb).1

end Go.Proofs.YtcifpfdlkpddeaaDoor
