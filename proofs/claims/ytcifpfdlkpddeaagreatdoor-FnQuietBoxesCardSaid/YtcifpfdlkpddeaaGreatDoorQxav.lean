/- FlipPlay: contracts of the program's and the reference's function. Lists by places; the sums for the answer 1 in order; the play of a box; the worth of a play. -/
import Derived.Test.YtcifpfdlkpddeaaGreatDoorQxae
import Derived.Test.YtcifpfdlkpddeaaGreatDoorQxah
import Derived.Test.YtcifpfdlkpddeaaGreatDoorQxau
import Derived.Test.YtcifpfdlkpddeaaGreatDoorQxar
set_option linter.unusedSimpArgs false
set_option linter.unusedVariables false
namespace Go.Proofs.YtcifpfdlkpddeaaGreatDoor
open Go.RowKit

/-- A call handed back a slice of ints of its own and a bool. -/
def IntsRes (w : World) (xs : List Int) (ok : Bool) (e : Ending) (w' : World) : Prop :=
  ∃ a c, e = .returned (.tuple #[.slice a xs.length c, .bool ok]) ∧ OwnV 3 w.heap.size w'.heap.size w' (.slice a xs.length c) (ints xs) ∧ Below w.heap.size w w'
theorem IntsRes.zero {w w' : World} (h : Below w.heap.size w w') : IntsRes w [] false (.returned (.tuple #[.slice none 0 0, .bool false])) w' :=
  ⟨none, 0, rfl, OwnV.nil _ _ _ _, h⟩

theorem l2Play_any (x y : Int) (v : Value) (ps : List Int) (w : World) (h : RdI w v ps) :
    Calls Tryz.prog 63 #[.int .i64 x, .int .i64 y, v] w fun e w' => e = .returned (.bool (sizesB x y && bitsB ps (x + y))) ∧ w = w' := by
  rcases Bool.eq_false_or_eq_true (sizesB x y) with hs | hs
  · obtain ⟨⟨hx0, hx1⟩, hy0, hy1⟩ := sizesB_iff.1 hs
    go_enter Tryz.func63, Tryz.ntmps63
    go_wp2_with (first | (go_at_call 72; refine (l2Sizes_any _ _ _).mono ?_; rintro e w' ⟨rfl, rfl⟩) | (go_at_call 77; refine (l2Bits_any _ ps _ _ h).mono ?_; rintro e w' ⟨rfl, rfl⟩))
    go_ret
    exact ⟨ret_bool (by rw [hs]; rfl), rfl⟩
  · go_enter Tryz.func63, Tryz.ntmps63
    go_wp2_with (go_at_call 72; refine (l2Sizes_any _ _ _).mono ?_; rintro e w' ⟨rfl, rfl⟩)
    go_ret
    exact ⟨ret_bool (by rw [hs]; rfl), rfl⟩
end Go.Proofs.YtcifpfdlkpddeaaGreatDoor
set_option linter.unusedSimpArgs false
set_option linter.unusedVariables false
namespace Go.Proofs.YtcifpfdlkpddeaaGreatDoor
open Go.RowKit

def seqTo (f : Nat → Int) (n : Nat) : List Int := (List.range n).map f
theorem seqTo_zero (f : Nat → Int) : seqTo f 0 = [] := rfl
theorem seqTo_succ (f : Nat → Int) (n : Nat) : seqTo f (n + 1) = seqTo f n ++ [f n] := by unfold seqTo; simp [List.range_succ]
theorem seqTo_len (f : Nat → Int) (n : Nat) : (seqTo f n).length = n := by simp [seqTo]
theorem seqTo_get (f : Nat → Int) (n k : Nat) (h : k < n) : (seqTo f n)[k]? = some (f k) := by simp [seqTo, h]
theorem seqTo_ints (f : Nat → Int) (n : Nat) (x : Int) (h : f n = x) : ints (seqTo f n) ++ [Value.int .i64 x] = ints (seqTo f (n + 1)) := by rw [seqTo_succ, h]; simp [ints]

def countAt (b : BoxD) (k : Nat) : Int := if (k : Int) < b.X then oneB b 0 k 0 else oneB b 1 0 (k - b.X.toNat)
theorem countAt_x {b : BoxD} {k : Nat} (h : (k : Int) < b.X) : countAt b k = oneB b 0 k 0 := by unfold countAt; rw [if_pos h]
theorem countAt_y {b : BoxD} {k n : Nat} (h : 0 ≤ b.X) (hn : b.X.toNat + k = n) : countAt b n = oneB b 1 0 k := by
  unfold countAt
  rw [if_neg (by omega)]
  congr 1
  omega
theorem countAt_bd {b : BoxD} (hb : boxB b = true) (k : Nat) (h : (k : Int) < b.X + b.Y) : 0 ≤ countAt b k ∧ countAt b k ≤ b.Whole := by
  obtain ⟨⟨hx0, hx1⟩, hy0, hy1⟩ := (boxB_iff.1 hb).1
  by_cases hk : (k : Int) < b.X
  · rw [countAt_x hk]
    exact oneB_bd hb 0 k 0 hk (by omega)
  · rw [countAt_y (k := k - b.X.toNat) (by omega) (by omega)]
    exact oneB_bd hb 1 0 _ (by omega) (by omega)
def playAt (b : BoxD) (k : Nat) : Int := countAt b k / b.Whole
theorem playAt_bd {b : BoxD} (hb : boxB b = true) (k : Nat) (h : (k : Int) < b.X + b.Y) : 0 ≤ playAt b k ∧ playAt b k ≤ 1 := by
  obtain ⟨h0, h1⟩ := countAt_bd hb k h
  have hw := (boxB_iff.1 hb).2.1
  unfold playAt
  refine ⟨Int.ediv_nonneg h0 (by omega), ?_⟩
  have : countAt b k / b.Whole < 2 := Int.ediv_lt_of_lt_mul (by omega) (by omega)
  omega
def countsL (b : BoxD) : List Int := seqTo (countAt b) (b.X.toNat + b.Y.toNat)
def playL (b : BoxD) : List Int := seqTo (playAt b) (b.X.toNat + b.Y.toNat)
theorem playL_bits {b : BoxD} (hb : boxB b = true) : bitsB (playL b) (b.X + b.Y) = true := by
  obtain ⟨⟨hx0, hx1⟩, hy0, hy1⟩ := (boxB_iff.1 hb).1
  refine bits_iff.2 ⟨allIn_true (fun j x hx => ?_), ?_⟩
  · have hj : j < b.X.toNat + b.Y.toNat := by
      have := (List.getElem?_eq_some_iff.1 hx).1
      simpa [playL, seqTo_len] using this
    unfold playL at hx
    rw [seqTo_get _ _ _ hj] at hx
    cases hx
    exact inB_iff.2 (playAt_bd hb j (by omega))
  · simp [playL, seqTo_len]; omega
/-- A list of numbers by places that is being filled. -/
theorem ones_div (x y : Int) (h0 : 0 ≤ x) (h1 : x ≤ 1000000) (y0 : 1 ≤ y) : x / y ≥ 0 ∧ x / y ≤ 1000000 := by
  refine ⟨Int.ediv_nonneg h0 (by omega), ?_⟩
  have := Int.ediv_le_self y h0
  omega
end Go.Proofs.YtcifpfdlkpddeaaGreatDoor
