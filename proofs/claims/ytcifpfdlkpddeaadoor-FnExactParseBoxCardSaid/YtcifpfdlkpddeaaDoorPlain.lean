/- Plain definitions and lemmas on numbers and lists: what the walks compute. No program in sight. -/
import Derived.Test.YtcifpfdlkpddeaaDoorBase
set_option linter.unusedSimpArgs false
set_option linter.unusedVariables false
namespace Go.Proofs.YtcifpfdlkpddeaaDoor

/-- Between two numbers. -/
def inB (n lo hi : Int) : Bool := decide (lo ≤ n) && decide (n ≤ hi)
theorem inB_iff {n lo hi : Int} : inB n lo hi = true ↔ lo ≤ n ∧ n ≤ hi := by simp [inB]
theorem inB_not {n lo hi : Int} : inB n lo hi = false ↔ n < lo ∨ hi < n := by
  simp only [inB, Bool.and_eq_false_iff, decide_eq_false_iff_not]; omega

def allIn (xs : List Int) (lo hi : Int) : Bool := xs.all fun x => inB x lo hi
theorem allIn_true {xs : List Int} {lo hi : Int} (h : ∀ (j : Nat) (x : Int), xs[j]? = some x → inB x lo hi = true) : allIn xs lo hi = true := by
  unfold allIn
  rw [List.all_eq_true]
  intro x hx
  obtain ⟨j, hj⟩ := List.mem_iff_getElem?.1 hx
  exact h j x hj
theorem allIn_false {xs : List Int} {lo hi : Int} {k : Nat} {x : Int} (h : xs[k]? = some x) (hx : inB x lo hi = false) : allIn xs lo hi = false := by
  unfold allIn
  rw [List.all_eq_false]
  exact ⟨x, List.mem_of_getElem? h, by simp [hx]⟩
theorem allIn_get {xs : List Int} {lo hi : Int} (h : allIn xs lo hi = true) {k : Nat} {x : Int} (hx : xs[k]? = some x) : lo ≤ x ∧ x ≤ hi := by
  unfold allIn at h
  rw [List.all_eq_true] at h
  exact inB_iff.1 (h x (List.mem_of_getElem? hx))
theorem allIn_mem {xs : List Int} {lo hi : Int} (h : allIn xs lo hi = true) {x : Int} (hx : x ∈ xs) : lo ≤ x ∧ x ≤ hi := by
  unfold allIn at h
  rw [List.all_eq_true] at h
  exact inB_iff.1 (h x hx)

def sizesB (x y : Int) : Bool := inB x 1 3 && inB y 1 3
theorem sizesB_iff {x y : Int} : sizesB x y = true ↔ (1 ≤ x ∧ x ≤ 3) ∧ (1 ≤ y ∧ y ≤ 3) := by
  unfold sizesB
  rw [Bool.and_eq_true, inB_iff, inB_iff]

def bitsB (xs : List Int) (n : Int) : Bool := allIn xs 0 1 && decide ((xs.length : Int) = n)

theorem sum_take (xs : List Int) (k : Nat) (x : Int) (h : xs[k]? = some x) : (xs.take (k + 1)).sum = (xs.take k).sum + x := by
  simp [List.take_add_one, h]
theorem sum_take_bound (xs : List Int) (lo hi : Int) (hlo : lo ≤ 0) (hhi : 0 ≤ hi) (h : ∀ (j : Nat) (x : Int), xs[j]? = some x → lo ≤ x ∧ x ≤ hi) (k : Nat) : lo * k ≤ (xs.take k).sum ∧ (xs.take k).sum ≤ hi * k := by
  induction k with
  | zero => simp
  | succ k ih =>
    rw [Int.natCast_add, Int.mul_add, Int.mul_add]
    cases hx : xs[k]? with
    | none =>
      have hl : xs.length ≤ k := by simpa using hx
      rw [List.take_of_length_le (by omega)]
      rw [List.take_of_length_le hl] at ih
      omega
    | some x =>
      rw [sum_take xs k x hx]
      have := h k x hx
      omega

def fourB (xs : List Int) (whole : Int) : Bool := decide (xs.length = 4) && allIn xs 0 whole && decide (xs.sum = whole)

/-! ### The checksum -/
def csum (l : List UInt8) : Int := l.foldl (fun h c => (41 * h + (c.toNat : Int) + 1) % 999979) 7
theorem csum_snoc (l : List UInt8) (c : UInt8) : csum (l ++ [c]) = (41 * csum l + (c.toNat : Int) + 1) % 999979 := by
  simp [csum, List.foldl_append]
theorem csum_fold (l : List UInt8) : ∀ h : Int, 0 ≤ h ∧ h < 999979 → 0 ≤ l.foldl (fun h c => (41 * h + (c.toNat : Int) + 1) % 999979) h ∧ l.foldl (fun h c => (41 * h + (c.toNat : Int) + 1) % 999979) h < 999979 := by
  induction l with
  | nil => intro h hh; exact hh
  | cons c l ih =>
    intro h hh
    exact ih _ (by constructor <;> dsimp only <;> omega)
theorem csum_bound (l : List UInt8) : 0 ≤ csum l ∧ csum l < 999979 := csum_fold l 7 (by omega)
theorem bytes_take (s : ByteArray) (k : Nat) (h : k < s.size) : s.data.toList.take (k + 1) = s.data.toList.take k ++ [s[k]] := by
  rw [List.take_succ_eq_append_getElem (by simpa using h)]; rfl
theorem byte_bound (c : UInt8) : 0 ≤ (c.toNat : Int) ∧ (c.toNat : Int) ≤ 255 := by
  have := c.toNat_lt
  omega

/-! ### Boxes -/
def rowsB (rss : List (List Int)) (whole : Int) : Bool := rss.all fun rs => fourB rs whole
theorem rowsB_true {rss : List (List Int)} {whole : Int} (h : ∀ (j : Nat) (rs : List Int), rss[j]? = some rs → fourB rs whole = true) : rowsB rss whole = true := by
  unfold rowsB
  rw [List.all_eq_true]
  intro x hx
  obtain ⟨j, hj⟩ := List.mem_iff_getElem?.1 hx
  exact h j x hj
theorem rowsB_false {rss : List (List Int)} {whole : Int} {k : Nat} {rs : List Int} (h : rss[k]? = some rs) (hx : fourB rs whole = false) : rowsB rss whole = false := by
  unfold rowsB
  rw [List.all_eq_false]
  exact ⟨rs, List.mem_of_getElem? h, by simp [hx]⟩
theorem rowsB_get {rss : List (List Int)} {whole : Int} (h : rowsB rss whole = true) {k : Nat} {rs : List Int} (hx : rss[k]? = some rs) : fourB rs whole = true := by
  unfold rowsB at h
  rw [List.all_eq_true] at h
  exact h rs (List.mem_of_getElem? hx)
def boxB (b : BoxD) : Bool := sizesB b.X b.Y && (inB b.Whole 1 1000 && (decide ((b.Rows.length : Int) = b.X * b.Y) && rowsB b.Rows b.Whole))
theorem fourB_iff {xs : List Int} {whole : Int} : fourB xs whole = true ↔ xs.length = 4 ∧ allIn xs 0 whole = true ∧ xs.sum = whole := by
  simp [fourB, and_assoc]
theorem fourB_len {xs : List Int} {whole : Int} (h : ¬ xs.length = 4) : fourB xs whole = false := by
  simp [fourB, h]
theorem fourB_in {xs : List Int} {whole : Int} (h : allIn xs 0 whole = false) : fourB xs whole = false := by
  simp [fourB, h]
theorem fourB_sum {xs : List Int} {whole : Int} (h : xs.length = 4) (h2 : allIn xs 0 whole = true) : fourB xs whole = decide (xs.sum = whole) := by
  simp [fourB, h, h2]

end Go.Proofs.YtcifpfdlkpddeaaDoor
