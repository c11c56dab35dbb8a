/- Plain facts of functionals, of the worth of a functional, and of boxes that are alike. -/
import Derived.Test.YtadnjljpceeolaaLoac
set_option linter.unusedSimpArgs false
set_option linter.unusedVariables false
namespace Go.Proofs.Ytadnjljpceeolaa

theorem mul_bd (a b A B : Int) (h : -A ≤ a ∧ a ≤ A) (hb : 0 ≤ b ∧ b ≤ B) : -(A * B) ≤ a * b ∧ a * b ≤ A * B := by
  have hA : 0 ≤ A := by omega
  have h1 : a * b ≤ A * b := Int.mul_le_mul_of_nonneg_right h.2 hb.1
  have h2 : A * b ≤ A * B := Int.mul_le_mul_of_nonneg_left hb.2 hA
  have h3 : (-A) * b ≤ a * b := Int.mul_le_mul_of_nonneg_right h.1 hb.1
  rw [Int.neg_mul] at h3
  omega

/-! ### Functionals -/
def funcRowB (rs : List Int) : Bool := decide (rs.length = 4) && allIn rs (-99) 99
def funcB (x y : Int) (f : List (List Int)) : Bool := sizesB x y && (decide ((f.length : Int) = x * y) && f.all funcRowB)
theorem all_true {α : Type} {p : α → Bool} {l : List α} (h : ∀ (j : Nat) (r : α), l[j]? = some r → p r = true) : l.all p = true := by
  rw [List.all_eq_true]
  intro x hx
  obtain ⟨j, hj⟩ := List.mem_iff_getElem?.1 hx
  exact h j x hj
theorem all_false {α : Type} {p : α → Bool} {l : List α} {k : Nat} {r : α} (h : l[k]? = some r) (hr : p r = false) : l.all p = false := by
  rw [List.all_eq_false]
  exact ⟨r, List.mem_of_getElem? h, by simp [hr]⟩
theorem all_get {α : Type} {p : α → Bool} {l : List α} (h : l.all p = true) {k : Nat} {r : α} (hr : l[k]? = some r) : p r = true := by
  rw [List.all_eq_true] at h
  exact h r (List.mem_of_getElem? hr)
theorem funcB_iff {x y : Int} {f : List (List Int)} : funcB x y f = true ↔ sizesB x y = true ∧ (f.length : Int) = x * y ∧ f.all funcRowB = true := by
  unfold funcB
  rw [Bool.and_eq_true, Bool.and_eq_true, decide_eq_true_iff]
theorem funcRow_four {rs : List Int} (h : funcRowB rs = true) : ∃ p q r s : Int, rs = [p, q, r, s] ∧ (-99 ≤ p ∧ p ≤ 99) ∧ (-99 ≤ q ∧ q ≤ 99) ∧ (-99 ≤ r ∧ r ≤ 99) ∧ (-99 ≤ s ∧ s ≤ 99) := by
  unfold funcRowB at h
  rw [Bool.and_eq_true, decide_eq_true_iff] at h
  obtain ⟨h1, h2⟩ := h
  match rs, h1 with
  | [p, q, r, s], _ => exact ⟨p, q, r, s, rfl, allIn_get h2 (k := 0) rfl, allIn_get h2 (k := 1) rfl, allIn_get h2 (k := 2) rfl, allIn_get h2 (k := 3) rfl⟩

/-! ### Worth -/
def cellAt (rss : List (List Int)) (i k : Nat) : Int := (rss.getD i []).getD k 0
theorem cellAt_get {rss : List (List Int)} {i k : Nat} {rs : List Int} {x : Int} (h : rss[i]? = some rs) (hx : rs[k]? = some x) : cellAt rss i k = x := by
  simp [cellAt, List.getD_eq_getElem?_getD, h, hx]
def wRow (f rows : List (List Int)) (i k : Nat) : Int := (List.map (fun q => cellAt f i q * cellAt rows i q) (List.range k)).sum
theorem wRow_zero (f rows : List (List Int)) (i : Nat) : wRow f rows i 0 = 0 := rfl
theorem wRow_succ (f rows : List (List Int)) (i k : Nat) : wRow f rows i (k + 1) = wRow f rows i k + cellAt f i k * cellAt rows i k := by
  simp [wRow, List.range_succ]
def worthTo (f rows : List (List Int)) (n : Nat) : Int := (List.map (fun i => wRow f rows i 4) (List.range n)).sum
theorem worthTo_zero (f rows : List (List Int)) : worthTo f rows 0 = 0 := rfl
theorem worthTo_succ (f rows : List (List Int)) (n : Nat) : worthTo f rows (n + 1) = worthTo f rows n + wRow f rows n 4 := by
  simp [worthTo, List.range_succ]
def worthR (f rows : List (List Int)) : Int := worthTo f rows rows.length

/-! ### Alike -/
/-- All places before place k of row n agree. -/
def AlikeTo (ra rb : List (List Int)) (wa wb : Int) (n k : Nat) : Prop := ∀ i q : Nat, q < 4 → (i < n ∨ (i = n ∧ q < k)) → cellAt ra i q * wb = cellAt rb i q * wa
def alikeR (ra rb : List (List Int)) (wa wb : Int) : Bool := (List.range ra.length).all fun i => (List.range 4).all fun q => decide (cellAt ra i q * wb = cellAt rb i q * wa)
theorem alikeR_true {ra rb : List (List Int)} {wa wb : Int} (h : AlikeTo ra rb wa wb ra.length 0) : alikeR ra rb wa wb = true := by
  unfold alikeR
  rw [List.all_eq_true]
  intro i hi
  rw [List.all_eq_true]
  intro q hq
  exact decide_eq_true (h i q (List.mem_range.1 hq) (Or.inl (List.mem_range.1 hi)))
theorem alikeR_false {ra rb : List (List Int)} {wa wb : Int} {i q : Nat} (hi : i < ra.length) (hq : q < 4) (h : ¬ cellAt ra i q * wb = cellAt rb i q * wa) : alikeR ra rb wa wb = false := by
  unfold alikeR
  rw [List.all_eq_false]
  refine ⟨i, List.mem_range.2 hi, ?_⟩
  rw [Bool.not_eq_true, List.all_eq_false]
  exact ⟨q, List.mem_range.2 hq, by simp [h]⟩
theorem AlikeTo.next {ra rb : List (List Int)} {wa wb : Int} {n k : Nat} (h : AlikeTo ra rb wa wb n k) (e : cellAt ra n k * wb = cellAt rb n k * wa) : AlikeTo ra rb wa wb n (k + 1) := by
  intro i q hq hd
  by_cases h1 : i < n ∨ (i = n ∧ q < k)
  · exact h i q hq h1
  · obtain rfl : i = n := by omega
    obtain rfl : q = k := by omega
    exact e
theorem AlikeTo.row {ra rb : List (List Int)} {wa wb : Int} {n : Nat} (h : AlikeTo ra rb wa wb n 4) : AlikeTo ra rb wa wb (n + 1) 0 := by
  intro i q hq hd
  exact h i q hq (by omega)

end Go.Proofs.Ytadnjljpceeolaa
