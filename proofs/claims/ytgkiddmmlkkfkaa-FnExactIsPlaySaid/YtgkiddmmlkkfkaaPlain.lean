/- Plain definitions and lemmas on numbers and lists: what the walks compute. No program in sight. -/
import Derived.Test.YtgkiddmmlkkfkaaBase
set_option linter.unusedSimpArgs false
set_option linter.unusedVariables false
namespace Go.Proofs.Ytgkiddmmlkkfkaa

/-- Between two numbers. -/
def inB (n lo hi : Int) : Bool := decide (lo ≤ n) && decide (n ≤ hi)
theorem inB_iff {n lo hi : Int} : inB n lo hi = true ↔ lo ≤ n ∧ n ≤ hi := by simp [inB]
theorem inB_not {n lo hi : Int} : inB n lo hi = false ↔ n < lo ∨ hi < n := by
  simp only [inB, Bool.and_eq_false_iff, decide_eq_false_iff_not]; omega

def allIn (xs : List Int) (lo hi : Int) : Bool := xs.all fun x => inB x lo hi
theorem allIn_true {xs : List Int} {lo hi : Int} (h : ∀ (j : Nat) (x : Int), xs[j]? = some x → inB x lo hi = true) : allIn xs lo hi = true := by
  unfold allIn
  rw [List.all_eq_true]
  intro x hx
  obtain ⟨j, hj⟩ := List.mem_iff_getElem?.1 hx
  exact h j x hj
theorem allIn_false {xs : List Int} {lo hi : Int} {k : Nat} {x : Int} (h : xs[k]? = some x) (hx : inB x lo hi = false) : allIn xs lo hi = false := by
  unfold allIn
  rw [List.all_eq_false]
  exact ⟨x, List.mem_of_getElem? h, by simp [hx]⟩
theorem allIn_get {xs : List Int} {lo hi : Int} (h : allIn xs lo hi = true) {k : Nat} {x : Int} (hx : xs[k]? = some x) : lo ≤ x ∧ x ≤ hi := by
  unfold allIn at h
  rw [List.all_eq_true] at h
  exact inB_iff.1 (h x (List.mem_of_getElem? hx))
theorem allIn_mem {xs : List Int} {lo hi : Int} (h : allIn xs lo hi = true) {x : Int} (hx : x ∈ xs) : lo ≤ x ∧ x ≤ hi := by
  unfold allIn at h
  rw [List.all_eq_true] at h
  exact inB_iff.1 (h x hx)

def sizesB (x y : Int) : Bool := inB x 1 3 && inB y 1 3
theorem sizesB_iff {x y : Int} : sizesB x y = true ↔ (1 ≤ x ∧ x ≤ 3) ∧ (1 ≤ y ∧ y ≤ 3) := by
  unfold sizesB
  rw [Bool.and_eq_true, inB_iff, inB_iff]

def bitsB (xs : List Int) (n : Int) : Bool := allIn xs 0 1 && decide ((xs.length : Int) = n)

theorem sum_take (xs : List Int) (k : Nat) (x : Int) (h : xs[k]? = some x) : (xs.take (k + 1)).sum = (xs.take k).sum + x := by
  simp [List.take_add_one, h]
theorem sum_take_bound (xs : List Int) (lo hi : Int) (hlo : lo ≤ 0) (hhi : 0 ≤ hi) (h : ∀ (j : Nat) (x : Int), xs[j]? = some x → lo ≤ x ∧ x ≤ hi) (k : Nat) : lo * k ≤ (xs.take k).sum ∧ (xs.take k).sum ≤ hi * k := by
  induction k with
  | zero => simp
  | succ k ih =>
    rw [Int.natCast_add, Int.mul_add, Int.mul_add]
    cases hx : xs[k]? with
    | none =>
      have hl : xs.length ≤ k := by simpa using hx
      rw [List.take_of_length_le (by omega)]
      rw [List.take_of_length_le hl] at ih
      omega
    | some x =>
      rw [sum_take xs k x hx]
      have := h k x hx
      omega

def fourB (xs : List Int) (whole : Int) : Bool := decide (xs.length = 4) && allIn xs 0 whole && decide (xs.sum = whole)

end Go.Proofs.Ytgkiddmmlkkfkaa
