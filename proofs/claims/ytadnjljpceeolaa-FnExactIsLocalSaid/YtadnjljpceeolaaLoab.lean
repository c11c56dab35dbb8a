/- Plain definitions and lemmas on numbers and lists: what the walks compute. No program in sight. Plain definitions and lemmas: boxes by their numbers. Plain facts of valid boxes. -/
import Derived.Test.YtadnjljpceeolaaLoaa
set_option linter.unusedSimpArgs false
set_option linter.unusedVariables false
namespace Go.Proofs.Ytadnjljpceeolaa

/-- Between two numbers. -/
def inB (n lo hi : Int) : Bool := decide (lo ≤ n) && decide (n ≤ hi)
theorem inB_iff {n lo hi : Int} : inB n lo hi = true ↔ lo ≤ n ∧ n ≤ hi := by simp [inB]
theorem inB_not {n lo hi : Int} : inB n lo hi = false ↔ n < lo ∨ hi < n := by
  simp only [inB, Bool.and_eq_false_iff, decide_eq_false_iff_not]; omega

def allIn (xs : List Int) (lo hi : Int) : Bool := xs.all fun x => inB x lo hi
theorem allIn_true {xs : List Int} {lo hi : Int} (h : ∀ (j : Nat) (x : Int), xs[j]? = some x → inB x lo hi = true) : allIn xs lo hi = true := by
  unfold allIn
  rw [List.all_eq_true]
  intro x hx
  obtain ⟨j, hj⟩ := List.mem_iff_getElem?.1 hx
  exact h j x hj
theorem allIn_false {xs : List Int} {lo hi : Int} {k : Nat} {x : Int} (h : xs[k]? = some x) (hx : inB x lo hi = false) : allIn xs lo hi = false := by
  unfold allIn
  rw [List.all_eq_false]
  exact ⟨x, List.mem_of_getElem? h, by simp [hx]⟩
theorem allIn_get {xs : List Int} {lo hi : Int} (h : allIn xs lo hi = true) {k : Nat} {x : Int} (hx : xs[k]? = some x) : lo ≤ x ∧ x ≤ hi := by
  unfold allIn at h
  rw [List.all_eq_true] at h
  exact inB_iff.1 (h x (List.mem_of_getElem? hx))
theorem allIn_mem {xs : List Int} {lo hi : Int} (h : allIn xs lo hi = true) {x : Int} (hx : x ∈ xs) : lo ≤ x ∧ x ≤ hi := by
  unfold allIn at h
  rw [List.all_eq_true] at h
  exact inB_iff.1 (h x hx)

def sizesB (x y : Int) : Bool := inB x 1 3 && inB y 1 3
theorem sizesB_iff {x y : Int} : sizesB x y = true ↔ (1 ≤ x ∧ x ≤ 3) ∧ (1 ≤ y ∧ y ≤ 3) := by
  unfold sizesB
  rw [Bool.and_eq_true, inB_iff, inB_iff]

def bitsB (xs : List Int) (n : Int) : Bool := allIn xs 0 1 && decide ((xs.length : Int) = n)

theorem sum_take (xs : List Int) (k : Nat) (x : Int) (h : xs[k]? = some x) : (xs.take (k + 1)).sum = (xs.take k).sum + x := by
  simp [List.take_add_one, h]
theorem sum_take_bound (xs : List Int) (lo hi : Int) (hlo : lo ≤ 0) (hhi : 0 ≤ hi) (h : ∀ (j : Nat) (x : Int), xs[j]? = some x → lo ≤ x ∧ x ≤ hi) (k : Nat) : lo * k ≤ (xs.take k).sum ∧ (xs.take k).sum ≤ hi * k := by
  induction k with
  | zero => simp
  | succ k ih =>
    rw [Int.natCast_add, Int.mul_add, Int.mul_add]
    cases hx : xs[k]? with
    | none =>
      have hl : xs.length ≤ k := by simpa using hx
      rw [List.take_of_length_le (by omega)]
      rw [List.take_of_length_le hl] at ih
      omega
    | some x =>
      rw [sum_take xs k x hx]
      have := h k x hx
      omega

def fourB (xs : List Int) (whole : Int) : Bool := decide (xs.length = 4) && allIn xs 0 whole && decide (xs.sum = whole)

/-! ### The checksum -/
def csum (l : List UInt8) : Int := l.foldl (fun h c => (41 * h + (c.toNat : Int) + 1) % 999979) 7
theorem csum_snoc (l : List UInt8) (c : UInt8) : csum (l ++ [c]) = (41 * csum l + (c.toNat : Int) + 1) % 999979 := by
  simp [csum, List.foldl_append]
theorem csum_fold (l : List UInt8) : ∀ h : Int, 0 ≤ h ∧ h < 999979 → 0 ≤ l.foldl (fun h c => (41 * h + (c.toNat : Int) + 1) % 999979) h ∧ l.foldl (fun h c => (41 * h + (c.toNat : Int) + 1) % 999979) h < 999979 := by
  induction l with
  | nil => intro h hh; exact hh
  | cons c l ih =>
    intro h hh
    exact ih _ (by constructor <;> dsimp only <;> omega)
theorem csum_bound (l : List UInt8) : 0 ≤ csum l ∧ csum l < 999979 := csum_fold l 7 (by omega)
theorem bytes_take (s : ByteArray) (k : Nat) (h : k < s.size) : s.data.toList.take (k + 1) = s.data.toList.take k ++ [s[k]] := by
  rw [List.take_succ_eq_append_getElem (by simpa using h)]; rfl
theorem byte_bound (c : UInt8) : 0 ≤ (c.toNat : Int) ∧ (c.toNat : Int) ≤ 255 := by
  have := c.toNat_lt
  omega

/-! ### Boxes -/
def rowsB (rss : List (List Int)) (whole : Int) : Bool := rss.all fun rs => fourB rs whole
theorem rowsB_true {rss : List (List Int)} {whole : Int} (h : ∀ (j : Nat) (rs : List Int), rss[j]? = some rs → fourB rs whole = true) : rowsB rss whole = true := by
  unfold rowsB
  rw [List.all_eq_true]
  intro x hx
  obtain ⟨j, hj⟩ := List.mem_iff_getElem?.1 hx
  exact h j x hj
theorem rowsB_false {rss : List (List Int)} {whole : Int} {k : Nat} {rs : List Int} (h : rss[k]? = some rs) (hx : fourB rs whole = false) : rowsB rss whole = false := by
  unfold rowsB
  rw [List.all_eq_false]
  exact ⟨rs, List.mem_of_getElem? h, by simp [hx]⟩
theorem rowsB_get {rss : List (List Int)} {whole : Int} (h : rowsB rss whole = true) {k : Nat} {rs : List Int} (hx : rss[k]? = some rs) : fourB rs whole = true := by
  unfold rowsB at h
  rw [List.all_eq_true] at h
  exact h rs (List.mem_of_getElem? hx)
def boxB (b : BoxD) : Bool := sizesB b.X b.Y && (inB b.Whole 1 1000 && (decide ((b.Rows.length : Int) = b.X * b.Y) && rowsB b.Rows b.Whole))
theorem fourB_iff {xs : List Int} {whole : Int} : fourB xs whole = true ↔ xs.length = 4 ∧ allIn xs 0 whole = true ∧ xs.sum = whole := by
  simp [fourB, and_assoc]
theorem fourB_len {xs : List Int} {whole : Int} (h : ¬ xs.length = 4) : fourB xs whole = false := by
  simp [fourB, h]
theorem fourB_in {xs : List Int} {whole : Int} (h : allIn xs 0 whole = false) : fourB xs whole = false := by
  simp [fourB, h]
theorem fourB_sum {xs : List Int} {whole : Int} (h : xs.length = 4) (h2 : allIn xs 0 whole = true) : fourB xs whole = decide (xs.sum = whole) := by
  simp [fourB, h, h2]

end Go.Proofs.Ytadnjljpceeolaa
set_option linter.unusedSimpArgs false
set_option linter.unusedVariables false
namespace Go.Proofs.Ytadnjljpceeolaa

abbrev Num := Int → Int → Int → Int → Int
/-- The first q numbers of a row, by the answers. -/
def rowTo (num : Num) (i j : Int) (q : Nat) : List Int := List.map (fun p : Nat => num i j ((p : Int) / 2) ((p : Int) % 2)) (List.range q)
def rowOf (num : Num) (i j : Int) : List Int := [num i j 0 0, num i j 0 1, num i j 1 0, num i j 1 1]
theorem rowTo_four (num : Num) (i j : Int) : rowTo num i j 4 = rowOf num i j := by
  simp [rowTo, rowOf, List.range_succ]
theorem rowTo_succ (num : Num) (i j : Int) (q : Nat) : rowTo num i j (q + 1) = rowTo num i j q ++ [num i j ((q : Int) / 2) ((q : Int) % 2)] := by
  simp [rowTo, List.range_succ]
@[simp] theorem rowTo_length (num : Num) (i j : Int) (q : Nat) : (rowTo num i j q).length = q := by simp [rowTo]

/-- The first n rows of a box with Y questions of the second player. -/
def rowsTo (num : Num) (Y n : Nat) : List (List Int) := List.map (fun p : Nat => rowOf num ((p / Y : Nat) : Int) ((p % Y : Nat) : Int)) (List.range n)
@[simp] theorem rowsTo_length (num : Num) (Y n : Nat) : (rowsTo num Y n).length = n := by simp [rowsTo]
theorem rowsTo_succ (num : Num) (Y i j : Nat) (hj : j < Y) : rowsTo num Y (i * Y + j + 1) = rowsTo num Y (i * Y + j) ++ [rowOf num (i : Int) (j : Int)] := by
  have h1 : (i * Y + j) / Y = i := by
    rw [Nat.add_comm, Nat.add_mul_div_right _ _ (by omega), Nat.div_eq_of_lt hj, Nat.zero_add]
  have h2 : (i * Y + j) % Y = j := by
    rw [Nat.add_comm, Nat.add_mul_mod_self_right, Nat.mod_eq_of_lt hj]
  unfold rowsTo
  rw [List.range_succ, List.map_append, List.map_cons, List.map_nil, h1, h2]
theorem rowsTo_get (num : Num) (Y n i j : Nat) (hj : j < Y) (hn : i * Y + j < n) : (rowsTo num Y n)[i * Y + j]? = some (rowOf num (i : Int) (j : Int)) := by
  have h1 : (i * Y + j) / Y = i := by
    rw [Nat.add_comm, Nat.add_mul_div_right _ _ (by omega), Nat.div_eq_of_lt hj, Nat.zero_add]
  have h2 : (i * Y + j) % Y = j := by
    rw [Nat.add_comm, Nat.add_mul_mod_self_right, Nat.mod_eq_of_lt hj]
  unfold rowsTo
  rw [List.getElem?_map, List.getElem?_range hn, Option.map_some, h1, h2]

end Go.Proofs.Ytadnjljpceeolaa
set_option linter.unusedSimpArgs false
set_option linter.unusedVariables false
namespace Go.Proofs.Ytadnjljpceeolaa

theorem boxB_iff {b : BoxD} : boxB b = true ↔ ((1 ≤ b.X ∧ b.X ≤ 3) ∧ (1 ≤ b.Y ∧ b.Y ≤ 3)) ∧ (1 ≤ b.Whole ∧ b.Whole ≤ 1000) ∧ (b.Rows.length : Int) = b.X * b.Y ∧ rowsB b.Rows b.Whole = true := by
  unfold boxB
  rw [Bool.and_eq_true, Bool.and_eq_true, Bool.and_eq_true, sizesB_iff, inB_iff, decide_eq_true_iff]

theorem fourB_four {rs : List Int} {whole : Int} (h : fourB rs whole = true) : ∃ p q r s : Int, rs = [p, q, r, s] ∧ (0 ≤ p ∧ p ≤ whole) ∧ (0 ≤ q ∧ q ≤ whole) ∧ (0 ≤ r ∧ r ≤ whole) ∧ (0 ≤ s ∧ s ≤ whole) ∧ p + q + r + s = whole := by
  obtain ⟨h1, h2, h3⟩ := fourB_iff.1 h
  match rs, h1 with
  | [p, q, r, s], _ =>
    refine ⟨p, q, r, s, rfl, allIn_get h2 (k := 0) rfl, allIn_get h2 (k := 1) rfl, allIn_get h2 (k := 2) rfl, allIn_get h2 (k := 3) rfl, ?_⟩
    simp at h3
    omega

/-- The agreement of a row. -/
def agreeL (rs : List Int) : Int := rs.getD 0 0 - rs.getD 1 0 - rs.getD 2 0 + rs.getD 3 0
theorem boxB_len {b : BoxD} (h : boxB b = true) : b.Rows.length ≤ 9 := by
  obtain ⟨⟨⟨hx0, hx1⟩, hy0, hy1⟩, _, hl, _⟩ := boxB_iff.1 h
  have e1 : b.X = 1 ∨ b.X = 2 ∨ b.X = 3 := by omega
  rcases e1 with e1 | e1 | e1 <;> rw [e1] at hl <;> omega
theorem bits_iff {xs : List Int} {n : Int} : bitsB xs n = true ↔ allIn xs 0 1 = true ∧ (xs.length : Int) = n := by
  simp [bitsB]
theorem rows_size (num : Num) (Y n : Nat) (hn : n ≤ 9) : (rowsTo num Y n).length + sumLen (rowsTo num Y n) ≤ 4194304 := by
  have h : ∀ k, sumLen ((rowsTo num Y n).take k) ≤ 4 * k := by
    intro k
    induction k with
    | zero => simp [sumLen]
    | succ k ih =>
      cases hx : (rowsTo num Y n)[k]? with
      | none =>
        have hl : (rowsTo num Y n).length ≤ k := by simpa using hx
        rw [List.take_of_length_le (by omega)]
        rw [List.take_of_length_le hl] at ih
        omega
      | some rs =>
        rw [sumLen_take _ _ _ hx]
        have : rs.length = 4 := by
          unfold rowsTo at hx
          rw [List.getElem?_map] at hx
          obtain ⟨p, _, rfl⟩ := Option.map_eq_some_iff.1 hx
          rfl
        omega
  have h9 := h n
  rw [List.take_of_length_le (by simp)] at h9
  rw [rowsTo_length]
  omega

theorem rows_next (num : Num) (Y k : Nat) : rowsTo num Y (k + 1) = rowsTo num Y k ++ [rowOf num ((k / Y : Nat) : Int) ((k % Y : Nat) : Int)] := by
  unfold rowsTo
  rw [List.range_succ, List.map_append, List.map_cons, List.map_nil]

end Go.Proofs.Ytadnjljpceeolaa
