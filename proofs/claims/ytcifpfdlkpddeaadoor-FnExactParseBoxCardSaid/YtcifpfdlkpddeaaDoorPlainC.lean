/- Plain facts of valid boxes. -/
import Derived.Test.YtcifpfdlkpddeaaDoorPlainB
set_option linter.unusedSimpArgs false
set_option linter.unusedVariables false
namespace Go.Proofs.YtcifpfdlkpddeaaDoor

theorem boxB_iff {b : BoxD} : boxB b = true ↔ ((1 ≤ b.X ∧ b.X ≤ 3) ∧ (1 ≤ b.Y ∧ b.Y ≤ 3)) ∧ (1 ≤ b.Whole ∧ b.Whole ≤ 1000) ∧ (b.Rows.length : Int) = b.X * b.Y ∧ rowsB b.Rows b.Whole = true := by
  unfold boxB
  rw [Bool.and_eq_true, Bool.and_eq_true, Bool.and_eq_true, sizesB_iff, inB_iff, decide_eq_true_iff]

theorem fourB_four {rs : List Int} {whole : Int} (h : fourB rs whole = true) : ∃ p q r s : Int, rs = [p, q, r, s] ∧ (0 ≤ p ∧ p ≤ whole) ∧ (0 ≤ q ∧ q ≤ whole) ∧ (0 ≤ r ∧ r ≤ whole) ∧ (0 ≤ s ∧ s ≤ whole) ∧ p + q + r + s = whole := by
  obtain ⟨h1, h2, h3⟩ := fourB_iff.1 h
  match rs, h1 with
  | [p, q, r, s], _ =>
    refine ⟨p, q, r, s, rfl, allIn_get h2 (k := 0) rfl, allIn_get h2 (k := 1) rfl, allIn_get h2 (k := 2) rfl, allIn_get h2 (k := 3) rfl, ?_⟩
    simp at h3
    omega

/-- The agreement of a row. -/
def agreeL (rs : List Int) : Int := rs.getD 0 0 - rs.getD 1 0 - rs.getD 2 0 + rs.getD 3 0
theorem boxB_len {b : BoxD} (h : boxB b = true) : b.Rows.length ≤ 9 := by
  obtain ⟨⟨⟨hx0, hx1⟩, hy0, hy1⟩, _, hl, _⟩ := boxB_iff.1 h
  have e1 : b.X = 1 ∨ b.X = 2 ∨ b.X = 3 := by omega
  rcases e1 with e1 | e1 | e1 <;> rw [e1] at hl <;> omega
theorem bits_iff {xs : List Int} {n : Int} : bitsB xs n = true ↔ allIn xs 0 1 = true ∧ (xs.length : Int) = n := by
  simp [bitsB]
theorem rows_size (num : Num) (Y n : Nat) (hn : n ≤ 9) : (rowsTo num Y n).length + sumLen (rowsTo num Y n) ≤ 4194304 := by
  have h : ∀ k, sumLen ((rowsTo num Y n).take k) ≤ 4 * k := by
    intro k
    induction k with
    | zero => simp [sumLen]
    | succ k ih =>
      cases hx : (rowsTo num Y n)[k]? with
      | none =>
        have hl : (rowsTo num Y n).length ≤ k := by simpa using hx
        rw [List.take_of_length_le (by omega)]
        rw [List.take_of_length_le hl] at ih
        omega
      | some rs =>
        rw [sumLen_take _ _ _ hx]
        have : rs.length = 4 := by
          unfold rowsTo at hx
          rw [List.getElem?_map] at hx
          obtain ⟨p, _, rfl⟩ := Option.map_eq_some_iff.1 hx
          rfl
        omega
  have h9 := h n
  rw [List.take_of_length_le (by simp)] at h9
  rw [rowsTo_length]
  omega

theorem rows_next (num : Num) (Y k : Nat) : rowsTo num Y (k + 1) = rowsTo num Y k ++ [rowOf num ((k / Y : Nat) : Int) ((k % Y : Nat) : Int)] := by
  unfold rowsTo
  rw [List.range_succ, List.map_append, List.map_cons, List.map_nil]

end Go.Proofs.YtcifpfdlkpddeaaDoor
