/- Two valid boxes with as many questions; the cells that lead to a valid box's numbers. MixBoxes: contracts of the program's function. -/
import Derived.Test.YtadnjljpceeolaaGtao
import Derived.Test.YtadnjljpceeolaaGtar
set_option linter.unusedSimpArgs false
set_option linter.unusedVariables false
namespace Go.Proofs.Ytadnjljpceeolaa
open Go.RowKit

def sameB (a b : BoxD) : Bool := boxB a && (boxB b && (decide (a.X = b.X) && decide (a.Y = b.Y)))
theorem sameB_iff {a b : BoxD} : sameB a b = true ↔ boxB a = true ∧ boxB b = true ∧ a.X = b.X ∧ a.Y = b.Y := by
  unfold sameB
  rw [Bool.and_eq_true, Bool.and_eq_true, Bool.and_eq_true, decide_eq_true_iff, decide_eq_true_iff]

theorem keepAt {B : Nat} {w w' : World} {b o : Nat} {v : Value} (hB : Below B w w') (hb : b < B) (h : w.cell? ⟨b, o, none⟩ = some v) : w'.cell? ⟨b, o, none⟩ = some v :=
  (hB.cell (p := ⟨b, o, none⟩) hb).trans h

/-- The cells that lead to a valid box's number, by its places. -/
theorem boxB_path {b : BoxD} (hb : boxB b = true) {w : World} {v : Value} (h : RdII w v b.Rows) (k : Nat) (hk : k < b.Rows.length) :
    ∃ (ba off cap b2 o2 c2 : Nat), v = .slice (some ⟨ba, off, none⟩) b.Rows.length cap ∧ b.Rows.length ≤ 9 ∧ w.cell? ⟨ba, off + k, none⟩ = some (.slice (some ⟨b2, o2, none⟩) 4 c2) ∧ ba < w.heap.size ∧ b2 < w.heap.size ∧
      ∀ q, q < 4 → ∃ x : Int, w.cell? ⟨b2, o2 + q, none⟩ = some (.int .i64 x) ∧ (0 ≤ x ∧ x ≤ b.Whole) ∧ numB b ((k / b.Y.toNat : Nat) : Int) ((k % b.Y.toNat : Nat) : Int) ((q : Int) / 2) ((q : Int) % 2) = x ∧ cellAt b.Rows k q = x := by
  obtain ⟨av, ba, off, cap, rfl, hm, ha, hc⟩ := h
  obtain rfl := ha (by omega)
  obtain ⟨rs, x0, hrs, hl, hx0, _, _⟩ := boxB_cell hb k 0 hk (by omega)
  obtain ⟨v', hv', a2, b2, o2, c2, rfl, _, ha2, hc2⟩ := hc k rs hrs
  obtain rfl := ha2 (by omega)
  have l1 := World.block_lt_of_cell? _ _ hv'
  have l2 := World.block_lt_of_cell? _ _ (hc2 0 x0 hx0)
  rw [hl] at hv'
  refine ⟨ba, off, cap, b2, o2, c2, rfl, boxB_len hb, hv', l1, l2, fun q hq => ?_⟩
  obtain ⟨rs', x, hrs', _, hx, hb, hn⟩ := boxB_cell hb k q hk hq
  rw [hrs] at hrs'
  cases hrs'
  exact ⟨x, hc2 q x hx, hb, hn, cellAt_get hrs hx⟩

theorem mul_small {x k : Int} (h0 : 0 ≤ x) (h1 : x ≤ 1000) (k0 : 1 ≤ k) (k1 : k ≤ 1000) : 0 ≤ x * k ∧ x * k ≤ 1000000 := by
  refine ⟨Int.mul_nonneg h0 (by omega), ?_⟩
  have := Int.mul_le_mul h1 k1 (by omega) (by omega : (0 : Int) ≤ 1000)
  omega
theorem div_small {n d : Int} (h0 : 0 ≤ n) (h1 : n ≤ 1000000) (d0 : 1 ≤ d) : 0 ≤ n / d ∧ n / d ≤ 1000000 := by
  refine ⟨Int.ediv_nonneg h0 (by omega), ?_⟩
  have := Int.ediv_le_self d h0
  omega
theorem boxB_len1 {b : BoxD} (hb : boxB b = true) : 1 ≤ b.Rows.length := by
  obtain ⟨⟨⟨hx0, hx1⟩, hy0, hy1⟩, _⟩ := boxB_iff.1 hb
  rw [boxB_len2 hb]
  exact Nat.mul_le_mul (show 1 ≤ b.X.toNat by omega) (show 1 ≤ b.Y.toNat by omega)
end Go.Proofs.Ytadnjljpceeolaa
set_option linter.unusedSimpArgs false
set_option linter.unusedVariables false
namespace Go.Proofs.Ytadnjljpceeolaa
open Go.RowKit

def mixN (a b : BoxD) : Num := fun i j p q => numB a i j p q + numB b i j p q
def mixOk (a b : BoxD) : Bool := sameB a b && decide (a.Whole + b.Whole ≤ 1000)
def mixD (a b : BoxD) : BoxD := if mixOk a b then boxOf a.X a.Y (a.Whole + b.Whole) (mixN a b) else zeroD
theorem mixD_size (a b : BoxD) : (mixD a b).Rows.length + sumLen (mixD a b).Rows ≤ 4194304 := by
  unfold mixD
  split
  · rename_i h
    unfold mixOk at h
    rw [Bool.and_eq_true] at h
    exact boxOf_size _ _ _ _ (boxB_sizes (sameB_iff.1 h.1).1)
  · simp [zeroD, sumLen]
end Go.Proofs.Ytadnjljpceeolaa
