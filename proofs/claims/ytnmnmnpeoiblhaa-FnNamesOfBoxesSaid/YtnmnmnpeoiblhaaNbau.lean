/- The first loud player: contracts of the reference's and of the program's search. -/
import Derived.Test.YtnmnmnpeoiblhaaNbat
set_option linter.unusedSimpArgs false
set_option linter.unusedVariables false
namespace Go.Proofs.Ytnmnmnpeoiblhaa
open Go.RowKit

def loudX (b : BoxD) (x : Nat) : Bool := (List.range b.Y.toNat).any fun y => decide (oneB b 0 x y ≠ oneB b 0 x 0)
def loudY (b : BoxD) (y : Nat) : Bool := (List.range b.X.toNat).any fun x => decide (oneB b 1 x y ≠ oneB b 1 0 y)
def loudF (b : BoxD) : Option (Nat × Nat) := match (List.range b.X.toNat).find? (loudX b) with
  | some x => some (0, x)
  | none => ((List.range b.Y.toNat).find? (loudY b)).map fun y => (1, y)
theorem loudX_true {b : BoxD} {x y : Nat} (hy : (y : Int) < b.Y) (h : ¬ oneB b 0 x y = oneB b 0 x 0) : loudX b x = true := by
  unfold loudX
  rw [List.any_eq_true]
  exact ⟨y, List.mem_range.2 (by omega), decide_eq_true h⟩
theorem loudX_false {b : BoxD} {x : Nat} (h : ∀ y : Nat, (y : Int) < b.Y → oneB b 0 x y = oneB b 0 x 0) : loudX b x = false := by
  unfold loudX
  rw [List.any_eq_false]
  intro y hy
  simp [h y (Int.lt_toNat.1 (List.mem_range.1 hy))]
theorem loudY_true {b : BoxD} {x y : Nat} (hx : (x : Int) < b.X) (h : ¬ oneB b 1 x y = oneB b 1 0 y) : loudY b y = true := by
  unfold loudY
  rw [List.any_eq_true]
  exact ⟨x, List.mem_range.2 (by omega), decide_eq_true h⟩
theorem loudY_false {b : BoxD} {y : Nat} (h : ∀ x : Nat, (x : Int) < b.X → oneB b 1 x y = oneB b 1 0 y) : loudY b y = false := by
  unfold loudY
  rw [List.any_eq_false]
  intro x hx
  simp [h x (Int.lt_toNat.1 (List.mem_range.1 hx))]
theorem find_range {n i : Nat} {p : Nat → Bool} (hi : i < n) (hp : p i = true) (h : ∀ j, j < i → p j = false) : (List.range n).find? p = some i := by
  rw [List.find?_range_eq_some]
  exact ⟨hp, List.mem_range.2 hi, fun j hj => by simp [h j hj]⟩
theorem find_none {n : Nat} {p : Nat → Bool} (h : ∀ j, j < n → p j = false) : (List.range n).find? p = none := by
  rw [List.find?_range_eq_none]
  intro j hj
  simp [h j hj]
theorem loudF_x {b : BoxD} {x : Nat} (hx : (x : Int) < b.X) (h : loudX b x = true) (h0 : ∀ j, j < x → loudX b j = false) : loudF b = some (0, x) := by
  unfold loudF
  rw [find_range (by omega) h h0]
theorem loudF_y {b : BoxD} {y : Nat} (hX : ∀ j : Nat, (j : Int) < b.X → loudX b j = false) (hy : (y : Int) < b.Y) (h : loudY b y = true) (h0 : ∀ j, j < y → loudY b j = false) : loudF b = some (1, y) := by
  unfold loudF
  rw [find_none (fun j hj => hX j (Int.lt_toNat.1 hj)), find_range (by omega) h h0]
  rfl
theorem loudF_no {b : BoxD} (hX : ∀ j : Nat, (j : Int) < b.X → loudX b j = false) (hY : ∀ j : Nat, (j : Int) < b.Y → loudY b j = false) : loudF b = none := by
  unfold loudF
  rw [find_none (fun j hj => hX j (Int.lt_toNat.1 hj)), find_none (fun j hj => hY j (Int.lt_toNat.1 hj))]
  rfl

theorem cells4_at {w W : World} {b5 o5 : Nat} {p q r s : Int} (hB : Below w.heap.size w W)
    (h : w.cell? ⟨b5, o5, none⟩ = some (.int .i64 p) ∧ w.cell? ⟨b5, o5 + 1, none⟩ = some (.int .i64 q) ∧ w.cell? ⟨b5, o5 + 2, none⟩ = some (.int .i64 r) ∧ w.cell? ⟨b5, o5 + 3, none⟩ = some (.int .i64 s)) :
    W.cell? ⟨b5, o5, none⟩ = some (.int .i64 p) ∧ W.cell? ⟨b5, o5 + 1, none⟩ = some (.int .i64 q) ∧ W.cell? ⟨b5, o5 + 2, none⟩ = some (.int .i64 r) ∧ W.cell? ⟨b5, o5 + 3, none⟩ = some (.int .i64 s) :=
  ⟨keepCell hB h.1, keepCell hB h.2.1, keepCell hB h.2.2.1, keepCell hB h.2.2.2⟩

theorem l2Row_lit (v : Value) (b : BoxD) (i j : Nat) (i' j' : Int) (ei : (i : Int) = i') (ej : (j : Int) = j') (n : Nat) (p q r s : Int) (hn : (i : Int) * b.Y + (j : Int) = (n : Int)) (hm : 0 ≤ (i : Int) * b.Y ∧ (i : Int) * b.Y ≤ 6) (hn8 : n ≤ 8) (hlt : n < b.Rows.length) (hrow : b.Rows[n]? = some [p, q, r, s]) (w0 w : World) (h : RdII w0 v b.Rows) (hB : Below w0.heap.size w0 w) :
    Calls Try.prog 56 #[.agg #[.int .i64 b.X, .int .i64 b.Y, .int .i64 b.Whole, v], .int .i64 i', .int .i64 j'] w fun e w' => ∃ b2 o2 c2 : Nat, e = .returned (.slice (some ⟨b2, o2, none⟩) 4 c2) ∧
      (w0.cell? ⟨b2, o2, none⟩ = some (.int .i64 p) ∧ w0.cell? ⟨b2, o2 + 1, none⟩ = some (.int .i64 q) ∧ w0.cell? ⟨b2, o2 + 2, none⟩ = some (.int .i64 r) ∧ w0.cell? ⟨b2, o2 + 3, none⟩ = some (.int .i64 s)) ∧ Below w.heap.size w w' := by
  subst ei ej
  exact l2Row_any v b i j n p q r s hn hm hn8 hlt hrow w0 w h hB
def loudS (b : BoxD) : Int × Int := match loudF b with
  | some (p, q) => ((p : Int), (q : Int))
  | none => (-1, -1)

end Go.Proofs.Ytnmnmnpeoiblhaa
