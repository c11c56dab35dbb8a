/- Two valid boxes with as many questions; the cells that lead to a valid box's numbers. Sums for the answer 1: contracts of the program's and the reference's function. Lists by places; the sums for the answer 1 in order; the play of a box; the worth of a play. The first loud player: contracts of the reference's and of the program's search. IsPlay: the program's answers are the reference's, for all arguments. -/
import Derived.Test.YtnmnmnpeoiblhaaSuag
import Derived.Test.YtnmnmnpeoiblhaaSuae
set_option linter.unusedSimpArgs false
set_option linter.unusedVariables false
namespace Go.Proofs.Ytnmnmnpeoiblhaa
open Go.RowKit

def sameB (a b : BoxD) : Bool := boxB a && (boxB b && (decide (a.X = b.X) && decide (a.Y = b.Y)))
theorem sameB_iff {a b : BoxD} : sameB a b = true ↔ boxB a = true ∧ boxB b = true ∧ a.X = b.X ∧ a.Y = b.Y := by
  unfold sameB
  rw [Bool.and_eq_true, Bool.and_eq_true, Bool.and_eq_true, decide_eq_true_iff, decide_eq_true_iff]

theorem keepAt {B : Nat} {w w' : World} {b o : Nat} {v : Value} (hB : Below B w w') (hb : b < B) (h : w.cell? ⟨b, o, none⟩ = some v) : w'.cell? ⟨b, o, none⟩ = some v :=
  (hB.cell (p := ⟨b, o, none⟩) hb).trans h

/-- The cells that lead to a valid box's number, by its places. -/
theorem boxB_path {b : BoxD} (hb : boxB b = true) {w : World} {v : Value} (h : RdII w v b.Rows) (k : Nat) (hk : k < b.Rows.length) :
    ∃ (ba off cap b2 o2 c2 : Nat), v = .slice (some ⟨ba, off, none⟩) b.Rows.length cap ∧ b.Rows.length ≤ 9 ∧ w.cell? ⟨ba, off + k, none⟩ = some (.slice (some ⟨b2, o2, none⟩) 4 c2) ∧ ba < w.heap.size ∧ b2 < w.heap.size ∧
      ∀ q, q < 4 → ∃ x : Int, w.cell? ⟨b2, o2 + q, none⟩ = some (.int .i64 x) ∧ (0 ≤ x ∧ x ≤ b.Whole) ∧ numB b ((k / b.Y.toNat : Nat) : Int) ((k % b.Y.toNat : Nat) : Int) ((q : Int) / 2) ((q : Int) % 2) = x ∧ cellAt b.Rows k q = x := by
  obtain ⟨av, ba, off, cap, rfl, hm, ha, hc⟩ := h
  obtain rfl := ha (by omega)
  obtain ⟨rs, x0, hrs, hl, hx0, _, _⟩ := boxB_cell hb k 0 hk (by omega)
  obtain ⟨v', hv', a2, b2, o2, c2, rfl, _, ha2, hc2⟩ := hc k rs hrs
  obtain rfl := ha2 (by omega)
  have l1 := World.block_lt_of_cell? _ _ hv'
  have l2 := World.block_lt_of_cell? _ _ (hc2 0 x0 hx0)
  rw [hl] at hv'
  refine ⟨ba, off, cap, b2, o2, c2, rfl, boxB_len hb, hv', l1, l2, fun q hq => ?_⟩
  obtain ⟨rs', x, hrs', _, hx, hb, hn⟩ := boxB_cell hb k q hk hq
  rw [hrs] at hrs'
  cases hrs'
  exact ⟨x, hc2 q x hx, hb, hn, cellAt_get hrs hx⟩

theorem mul_small {x k : Int} (h0 : 0 ≤ x) (h1 : x ≤ 1000) (k0 : 1 ≤ k) (k1 : k ≤ 1000) : 0 ≤ x * k ∧ x * k ≤ 1000000 := by
  refine ⟨Int.mul_nonneg h0 (by omega), ?_⟩
  have := Int.mul_le_mul h1 k1 (by omega) (by omega : (0 : Int) ≤ 1000)
  omega
theorem div_small {n d : Int} (h0 : 0 ≤ n) (h1 : n ≤ 1000000) (d0 : 1 ≤ d) : 0 ≤ n / d ∧ n / d ≤ 1000000 := by
  refine ⟨Int.ediv_nonneg h0 (by omega), ?_⟩
  have := Int.ediv_le_self d h0
  omega
theorem boxB_len1 {b : BoxD} (hb : boxB b = true) : 1 ≤ b.Rows.length := by
  obtain ⟨⟨⟨hx0, hx1⟩, hy0, hy1⟩, _⟩ := boxB_iff.1 hb
  rw [boxB_len2 hb]
  exact Nat.mul_le_mul (show 1 ≤ b.X.toNat by omega) (show 1 ≤ b.Y.toNat by omega)
end Go.Proofs.Ytnmnmnpeoiblhaa
set_option linter.unusedSimpArgs false
set_option linter.unusedVariables false
namespace Go.Proofs.Ytnmnmnpeoiblhaa
open Go.RowKit

/-- The sum for the answer 1 of a player, at the questions x and y. -/
def oneB (b : BoxD) (pl : Nat) (x y : Nat) : Int := if pl = 0 then numB b x y 1 0 + numB b x y 1 1 else numB b x y 0 1 + numB b x y 1 1
theorem oneB_0 (b : BoxD) (x y : Nat) : oneB b 0 x y = numB b x y 1 0 + numB b x y 1 1 := rfl
theorem oneB_1 (b : BoxD) (x y : Nat) : oneB b 1 x y = numB b x y 0 1 + numB b x y 1 1 := rfl
theorem oneB_bd {b : BoxD} (hb : boxB b = true) (pl x y : Nat) (hx : (x : Int) < b.X) (hy : (y : Int) < b.Y) : 0 ≤ oneB b pl x y ∧ oneB b pl x y ≤ b.Whole := by
  obtain ⟨h0, h1, h2, h3, h4⟩ := boxB_four hb x y hx hy
  unfold oneB
  split <;> omega

set_option maxHeartbeats 800000 in
theorem l2One0_any (b5 o5 c5 : Nat) (p q r s : Int) (hr : 0 ≤ r ∧ r ≤ 1000) (hs : 0 ≤ s ∧ s ≤ 1000) (w : World)
    (h : w.cell? ⟨b5, o5, none⟩ = some (.int .i64 p) ∧ w.cell? ⟨b5, o5 + 1, none⟩ = some (.int .i64 q) ∧ w.cell? ⟨b5, o5 + 2, none⟩ = some (.int .i64 r) ∧ w.cell? ⟨b5, o5 + 3, none⟩ = some (.int .i64 s)) :
    Calls Try.prog 77 #[.slice (some ⟨b5, o5, none⟩) 4 c5, .int .i64 0] w fun e w' => e = .returned (.int .i64 (r + s)) ∧ Drw w w' := by
  obtain ⟨k0, k1, k2, k3⟩ := h
  have hw := wrap_in (r + s) (by omega) (by omega)
  clear hr hs
  go_enter Try.func77, Try.ntmps77
  go_wp2
  go_quiet (fail)
  go_wp2
  go_ret
  exact ⟨rfl, Drw.mk _ _⟩
set_option maxHeartbeats 800000 in
theorem l2One1_any (b5 o5 c5 : Nat) (p q r s : Int) (hr : 0 ≤ q ∧ q ≤ 1000) (hs : 0 ≤ s ∧ s ≤ 1000) (w : World)
    (h : w.cell? ⟨b5, o5, none⟩ = some (.int .i64 p) ∧ w.cell? ⟨b5, o5 + 1, none⟩ = some (.int .i64 q) ∧ w.cell? ⟨b5, o5 + 2, none⟩ = some (.int .i64 r) ∧ w.cell? ⟨b5, o5 + 3, none⟩ = some (.int .i64 s)) :
    Calls Try.prog 77 #[.slice (some ⟨b5, o5, none⟩) 4 c5, .int .i64 1] w fun e w' => e = .returned (.int .i64 (q + s)) ∧ Drw w w' := by
  obtain ⟨k0, k1, k2, k3⟩ := h
  have hw := wrap_in (q + s) (by omega) (by omega)
  clear hr hs
  go_enter Try.func77, Try.ntmps77
  go_wp2
  go_quiet (fail)
  go_wp2
  go_ret
  exact ⟨rfl, Drw.mk _ _⟩
theorem at_lit (v : Value) (b : BoxD) (hb : boxB b = true) (i j a c : Nat) (a' c' : Int) (ea : (a : Int) = a') (ec : (c : Int) = c') (hi : (i : Int) < b.X) (hj : (j : Int) < b.Y) (ha : a < 2) (hc : c < 2) (w : World) (h : RdII w v b.Rows) :
    Calls Try.prog 103 #[.agg #[.int .i64 b.X, .int .i64 b.Y, .int .i64 b.Whole, v], .int .i64 i, .int .i64 j, .int .i64 a', .int .i64 c'] w fun e w' => e = .returned (.int .i64 (numB b i j a' c')) ∧ Below w.heap.size w w' := by
  subst ea ec
  exact at_any v b hb i j a c hi hj ha hc w h
set_option maxHeartbeats 1600000 in
theorem ones0_any (v : Value) (b : BoxD) (hb : boxB b = true) (x y : Nat) (hx : (x : Int) < b.X) (hy : (y : Int) < b.Y) (w : World) (h : RdII w v b.Rows) :
    Calls Try.prog 74 #[.agg #[.int .i64 b.X, .int .i64 b.Y, .int .i64 b.Whole, v], .int .i64 0, .int .i64 x, .int .i64 y] w fun e w' => e = .returned (.int .i64 (oneB b 0 x y)) ∧ Below w.heap.size w w' := by
  have n0 := numB_bound hb x y hx hy 1 0 (by omega) (by omega)
  have n1 := numB_bound hb x y hx hy 1 1 (by omega) (by omega)
  have hwb := (boxB_iff.1 hb).2.1
  have hw := wrap_in (numB b x y ((1 : Nat) : Int) ((0 : Nat) : Int) + numB b x y ((1 : Nat) : Int) ((1 : Nat) : Int)) (by omega) (by omega)
  have hw2 : IntKind.i64.wrap (numB b x y 1 0 + numB b x y 1 1) = numB b x y 1 0 + numB b x y 1 1 := hw
  rw [oneB_0]
  have A0 : BoxAt (w.alloc (.cells #[.int .i64 b.X, .int .i64 b.Y, .int .i64 b.Whole, v] 26)) w.heap.size b.X b.Y b.Whole v := BoxAt.top rfl
  have B0 : Below w.heap.size w (w.alloc (.cells #[.int .i64 b.X, .int .i64 b.Y, .int .i64 b.Whole, v] 26)) := (by repeat' (first | with_reducible exact Below.refl _ _ | with_reducible assumption | with_reducible apply Below.alloc | with_reducible apply Below.setCell | with_reducible apply Below.drew | exact Nat.le_refl _ | omega | (simp only [World.size_alloc, World.size_setCell]; omega)))
  clear n0 n1 hwb hw
  go_enter Try.func74, Try.ntmps74
  go_wp2
  generalize hw1 : w.alloc (.cells #[.int .i64 b.X, .int .i64 b.Y, .int .i64 b.Whole, v] 26) = w1 at *
  have ra := h.kept (Nat.le_refl _) B0
  go_region_held3 (fun w' => Below w1.heap.size w1 w' ∧ w'.cell? ⟨w.heap.size, 0, none⟩ = some (.int .i64 b.X) ∧ w'.cell? ⟨w.heap.size, 1, none⟩ = some (.int .i64 b.Y) ∧ w'.cell? ⟨w.heap.size, 2, none⟩ = some (.int .i64 b.Whole) ∧ w'.cell? ⟨w.heap.size, 3, none⟩ = some v)
    (first | exact held1 (Below.refl _ _).drew A0 | exact held1 hBn A0)
    (first
      | (go_at_call 103; have hS := And.left (by assumption : Below w1.heap.size w1 _ ∧ _); (with_reducible refine (at_lit v b hb x y 1 0 1 0 rfl rfl hx hy (by omega) (by omega) _ (ra.kept (Nat.le_refl _) hS)).mono ?_); rintro e w2 ⟨rfl, b2⟩; have hBn : Below w1.heap.size w1 w2 := hS.trans (b2.mono hS.size))
      | (go_at_call 103; have hS := And.left (by assumption : Below w1.heap.size w1 _ ∧ _); (with_reducible refine (at_lit v b hb x y 1 1 1 1 rfl rfl hx hy (by omega) (by omega) _ (ra.kept (Nat.le_refl _) hS)).mono ?_); rintro e w2 ⟨rfl, b2⟩; have hBn : Below w1.heap.size w1 w2 := hS.trans (b2.mono hS.size)))
  all_goals
    go_wp2
    go_ret
    exact ⟨rfl, B0.trans (hBn.mono B0.size)⟩
set_option maxHeartbeats 1600000 in
theorem ones1_any (v : Value) (b : BoxD) (hb : boxB b = true) (x y : Nat) (hx : (x : Int) < b.X) (hy : (y : Int) < b.Y) (w : World) (h : RdII w v b.Rows) :
    Calls Try.prog 74 #[.agg #[.int .i64 b.X, .int .i64 b.Y, .int .i64 b.Whole, v], .int .i64 1, .int .i64 y, .int .i64 x] w fun e w' => e = .returned (.int .i64 (oneB b 1 x y)) ∧ Below w.heap.size w w' := by
  have n0 := numB_bound hb x y hx hy 0 1 (by omega) (by omega)
  have n1 := numB_bound hb x y hx hy 1 1 (by omega) (by omega)
  have hwb := (boxB_iff.1 hb).2.1
  have hw := wrap_in (numB b x y ((0 : Nat) : Int) ((1 : Nat) : Int) + numB b x y ((1 : Nat) : Int) ((1 : Nat) : Int)) (by omega) (by omega)
  have hw2 : IntKind.i64.wrap (numB b x y 0 1 + numB b x y 1 1) = numB b x y 0 1 + numB b x y 1 1 := hw
  rw [oneB_1]
  have A0 : BoxAt (w.alloc (.cells #[.int .i64 b.X, .int .i64 b.Y, .int .i64 b.Whole, v] 26)) w.heap.size b.X b.Y b.Whole v := BoxAt.top rfl
  have B0 : Below w.heap.size w (w.alloc (.cells #[.int .i64 b.X, .int .i64 b.Y, .int .i64 b.Whole, v] 26)) := (by repeat' (first | with_reducible exact Below.refl _ _ | with_reducible assumption | with_reducible apply Below.alloc | with_reducible apply Below.setCell | with_reducible apply Below.drew | exact Nat.le_refl _ | omega | (simp only [World.size_alloc, World.size_setCell]; omega)))
  clear n0 n1 hwb hw
  go_enter Try.func74, Try.ntmps74
  go_wp2
  generalize hw1 : w.alloc (.cells #[.int .i64 b.X, .int .i64 b.Y, .int .i64 b.Whole, v] 26) = w1 at *
  have ra := h.kept (Nat.le_refl _) B0
  go_region_held3 (fun w' => Below w1.heap.size w1 w' ∧ w'.cell? ⟨w.heap.size, 0, none⟩ = some (.int .i64 b.X) ∧ w'.cell? ⟨w.heap.size, 1, none⟩ = some (.int .i64 b.Y) ∧ w'.cell? ⟨w.heap.size, 2, none⟩ = some (.int .i64 b.Whole) ∧ w'.cell? ⟨w.heap.size, 3, none⟩ = some v)
    (first | exact held1 (Below.refl _ _).drew A0 | exact held1 hBn A0)
    (first
      | (go_at_call 103; have hS := And.left (by assumption : Below w1.heap.size w1 _ ∧ _); (with_reducible refine (at_lit v b hb x y 0 1 0 1 rfl rfl hx hy (by omega) (by omega) _ (ra.kept (Nat.le_refl _) hS)).mono ?_); rintro e w2 ⟨rfl, b2⟩; have hBn : Below w1.heap.size w1 w2 := hS.trans (b2.mono hS.size))
      | (go_at_call 103; have hS := And.left (by assumption : Below w1.heap.size w1 _ ∧ _); (with_reducible refine (at_lit v b hb x y 1 1 1 1 rfl rfl hx hy (by omega) (by omega) _ (ra.kept (Nat.le_refl _) hS)).mono ?_); rintro e w2 ⟨rfl, b2⟩; have hBn : Below w1.heap.size w1 w2 := hS.trans (b2.mono hS.size)))
  all_goals
    go_wp2
    go_ret
    exact ⟨rfl, B0.trans (hBn.mono B0.size)⟩
end Go.Proofs.Ytnmnmnpeoiblhaa
set_option linter.unusedSimpArgs false
set_option linter.unusedVariables false
namespace Go.Proofs.Ytnmnmnpeoiblhaa
open Go.RowKit

def seqTo (f : Nat → Int) (n : Nat) : List Int := (List.range n).map f
theorem seqTo_zero (f : Nat → Int) : seqTo f 0 = [] := rfl
theorem seqTo_succ (f : Nat → Int) (n : Nat) : seqTo f (n + 1) = seqTo f n ++ [f n] := by unfold seqTo; simp [List.range_succ]
theorem seqTo_len (f : Nat → Int) (n : Nat) : (seqTo f n).length = n := by simp [seqTo]
theorem seqTo_get (f : Nat → Int) (n k : Nat) (h : k < n) : (seqTo f n)[k]? = some (f k) := by simp [seqTo, h]
theorem seqTo_ints (f : Nat → Int) (n : Nat) (x : Int) (h : f n = x) : ints (seqTo f n) ++ [Value.int .i64 x] = ints (seqTo f (n + 1)) := by rw [seqTo_succ, h]; simp [ints]

def countAt (b : BoxD) (k : Nat) : Int := if (k : Int) < b.X then oneB b 0 k 0 else oneB b 1 0 (k - b.X.toNat)
theorem countAt_x {b : BoxD} {k : Nat} (h : (k : Int) < b.X) : countAt b k = oneB b 0 k 0 := by unfold countAt; rw [if_pos h]
theorem countAt_y {b : BoxD} {k n : Nat} (h : 0 ≤ b.X) (hn : b.X.toNat + k = n) : countAt b n = oneB b 1 0 k := by
  unfold countAt
  rw [if_neg (by omega)]
  congr 1
  omega
theorem countAt_bd {b : BoxD} (hb : boxB b = true) (k : Nat) (h : (k : Int) < b.X + b.Y) : 0 ≤ countAt b k ∧ countAt b k ≤ b.Whole := by
  obtain ⟨⟨hx0, hx1⟩, hy0, hy1⟩ := (boxB_iff.1 hb).1
  by_cases hk : (k : Int) < b.X
  · rw [countAt_x hk]
    exact oneB_bd hb 0 k 0 hk (by omega)
  · rw [countAt_y (k := k - b.X.toNat) (by omega) (by omega)]
    exact oneB_bd hb 1 0 _ (by omega) (by omega)
def playAt (b : BoxD) (k : Nat) : Int := countAt b k / b.Whole
theorem playAt_bd {b : BoxD} (hb : boxB b = true) (k : Nat) (h : (k : Int) < b.X + b.Y) : 0 ≤ playAt b k ∧ playAt b k ≤ 1 := by
  obtain ⟨h0, h1⟩ := countAt_bd hb k h
  have hw := (boxB_iff.1 hb).2.1
  unfold playAt
  refine ⟨Int.ediv_nonneg h0 (by omega), ?_⟩
  have : countAt b k / b.Whole < 2 := Int.ediv_lt_of_lt_mul (by omega) (by omega)
  omega
def countsL (b : BoxD) : List Int := seqTo (countAt b) (b.X.toNat + b.Y.toNat)
def playL (b : BoxD) : List Int := seqTo (playAt b) (b.X.toNat + b.Y.toNat)
theorem playL_bits {b : BoxD} (hb : boxB b = true) : bitsB (playL b) (b.X + b.Y) = true := by
  obtain ⟨⟨hx0, hx1⟩, hy0, hy1⟩ := (boxB_iff.1 hb).1
  refine bits_iff.2 ⟨allIn_true (fun j x hx => ?_), ?_⟩
  · have hj : j < b.X.toNat + b.Y.toNat := by
      have := (List.getElem?_eq_some_iff.1 hx).1
      simpa [playL, seqTo_len] using this
    unfold playL at hx
    rw [seqTo_get _ _ _ hj] at hx
    cases hx
    exact inB_iff.2 (playAt_bd hb j (by omega))
  · simp [playL, seqTo_len]; omega
/-- A list of numbers by places that is being filled. -/
theorem ones_div (x y : Int) (h0 : 0 ≤ x) (h1 : x ≤ 1000000) (y0 : 1 ≤ y) : x / y ≥ 0 ∧ x / y ≤ 1000000 := by
  refine ⟨Int.ediv_nonneg h0 (by omega), ?_⟩
  have := Int.ediv_le_self y h0
  omega
end Go.Proofs.Ytnmnmnpeoiblhaa
set_option linter.unusedSimpArgs false
set_option linter.unusedVariables false
namespace Go.Proofs.Ytnmnmnpeoiblhaa
open Go.RowKit

def loudX (b : BoxD) (x : Nat) : Bool := (List.range b.Y.toNat).any fun y => decide (oneB b 0 x y ≠ oneB b 0 x 0)
def loudY (b : BoxD) (y : Nat) : Bool := (List.range b.X.toNat).any fun x => decide (oneB b 1 x y ≠ oneB b 1 0 y)
def loudF (b : BoxD) : Option (Nat × Nat) := match (List.range b.X.toNat).find? (loudX b) with
  | some x => some (0, x)
  | none => ((List.range b.Y.toNat).find? (loudY b)).map fun y => (1, y)
theorem loudX_true {b : BoxD} {x y : Nat} (hy : (y : Int) < b.Y) (h : ¬ oneB b 0 x y = oneB b 0 x 0) : loudX b x = true := by
  unfold loudX
  rw [List.any_eq_true]
  exact ⟨y, List.mem_range.2 (by omega), decide_eq_true h⟩
theorem loudX_false {b : BoxD} {x : Nat} (h : ∀ y : Nat, (y : Int) < b.Y → oneB b 0 x y = oneB b 0 x 0) : loudX b x = false := by
  unfold loudX
  rw [List.any_eq_false]
  intro y hy
  simp [h y (Int.lt_toNat.1 (List.mem_range.1 hy))]
theorem loudY_true {b : BoxD} {x y : Nat} (hx : (x : Int) < b.X) (h : ¬ oneB b 1 x y = oneB b 1 0 y) : loudY b y = true := by
  unfold loudY
  rw [List.any_eq_true]
  exact ⟨x, List.mem_range.2 (by omega), decide_eq_true h⟩
theorem loudY_false {b : BoxD} {y : Nat} (h : ∀ x : Nat, (x : Int) < b.X → oneB b 1 x y = oneB b 1 0 y) : loudY b y = false := by
  unfold loudY
  rw [List.any_eq_false]
  intro x hx
  simp [h x (Int.lt_toNat.1 (List.mem_range.1 hx))]
theorem find_range {n i : Nat} {p : Nat → Bool} (hi : i < n) (hp : p i = true) (h : ∀ j, j < i → p j = false) : (List.range n).find? p = some i := by
  rw [List.find?_range_eq_some]
  exact ⟨hp, List.mem_range.2 hi, fun j hj => by simp [h j hj]⟩
theorem find_none {n : Nat} {p : Nat → Bool} (h : ∀ j, j < n → p j = false) : (List.range n).find? p = none := by
  rw [List.find?_range_eq_none]
  intro j hj
  simp [h j hj]
theorem loudF_x {b : BoxD} {x : Nat} (hx : (x : Int) < b.X) (h : loudX b x = true) (h0 : ∀ j, j < x → loudX b j = false) : loudF b = some (0, x) := by
  unfold loudF
  rw [find_range (by omega) h h0]
theorem loudF_y {b : BoxD} {y : Nat} (hX : ∀ j : Nat, (j : Int) < b.X → loudX b j = false) (hy : (y : Int) < b.Y) (h : loudY b y = true) (h0 : ∀ j, j < y → loudY b j = false) : loudF b = some (1, y) := by
  unfold loudF
  rw [find_none (fun j hj => hX j (Int.lt_toNat.1 hj)), find_range (by omega) h h0]
  rfl
theorem loudF_no {b : BoxD} (hX : ∀ j : Nat, (j : Int) < b.X → loudX b j = false) (hY : ∀ j : Nat, (j : Int) < b.Y → loudY b j = false) : loudF b = none := by
  unfold loudF
  rw [find_none (fun j hj => hX j (Int.lt_toNat.1 hj)), find_none (fun j hj => hY j (Int.lt_toNat.1 hj))]
  rfl

theorem cells4_at {w W : World} {b5 o5 : Nat} {p q r s : Int} (hB : Below w.heap.size w W)
    (h : w.cell? ⟨b5, o5, none⟩ = some (.int .i64 p) ∧ w.cell? ⟨b5, o5 + 1, none⟩ = some (.int .i64 q) ∧ w.cell? ⟨b5, o5 + 2, none⟩ = some (.int .i64 r) ∧ w.cell? ⟨b5, o5 + 3, none⟩ = some (.int .i64 s)) :
    W.cell? ⟨b5, o5, none⟩ = some (.int .i64 p) ∧ W.cell? ⟨b5, o5 + 1, none⟩ = some (.int .i64 q) ∧ W.cell? ⟨b5, o5 + 2, none⟩ = some (.int .i64 r) ∧ W.cell? ⟨b5, o5 + 3, none⟩ = some (.int .i64 s) :=
  ⟨keepCell hB h.1, keepCell hB h.2.1, keepCell hB h.2.2.1, keepCell hB h.2.2.2⟩

theorem l2Row_lit (v : Value) (b : BoxD) (i j : Nat) (i' j' : Int) (ei : (i : Int) = i') (ej : (j : Int) = j') (n : Nat) (p q r s : Int) (hn : (i : Int) * b.Y + (j : Int) = (n : Int)) (hm : 0 ≤ (i : Int) * b.Y ∧ (i : Int) * b.Y ≤ 6) (hn8 : n ≤ 8) (hlt : n < b.Rows.length) (hrow : b.Rows[n]? = some [p, q, r, s]) (w0 w : World) (h : RdII w0 v b.Rows) (hB : Below w0.heap.size w0 w) :
    Calls Try.prog 56 #[.agg #[.int .i64 b.X, .int .i64 b.Y, .int .i64 b.Whole, v], .int .i64 i', .int .i64 j'] w fun e w' => ∃ b2 o2 c2 : Nat, e = .returned (.slice (some ⟨b2, o2, none⟩) 4 c2) ∧
      (w0.cell? ⟨b2, o2, none⟩ = some (.int .i64 p) ∧ w0.cell? ⟨b2, o2 + 1, none⟩ = some (.int .i64 q) ∧ w0.cell? ⟨b2, o2 + 2, none⟩ = some (.int .i64 r) ∧ w0.cell? ⟨b2, o2 + 3, none⟩ = some (.int .i64 s)) ∧ Below w.heap.size w w' := by
  subst ei ej
  exact l2Row_any v b i j n p q r s hn hm hn8 hlt hrow w0 w h hB
def loudS (b : BoxD) : Int × Int := match loudF b with
  | some (p, q) => ((p : Int), (q : Int))
  | none => (-1, -1)

end Go.Proofs.Ytnmnmnpeoiblhaa
set_option linter.unusedSimpArgs false
set_option linter.unusedVariables false
namespace Go.Proofs.Ytnmnmnpeoiblhaa
open Go.RowKit

theorem ret_bool2 {a b c d : Bool} (h : a = c) (h' : b = d) : Ending.returned (.tuple #[.bool a, .bool b]) = .returned (.tuple #[.bool c, .bool d]) := by rw [h, h']

end Go.Proofs.Ytnmnmnpeoiblhaa
