/- The worth of a play by places. -/
import Derived.Test.YtbleeakcmmpcgaaSpPlayBox
import Derived.Test.YtbleeakcmmpcgaaPlainE
set_option linter.unusedSimpArgs false
set_option linter.unusedVariables false
namespace Go.Proofs.Ytbleeakcmmpcgaa
open Go.RowKit

def playRows (x y : Int) (ps : List Int) : List (List Int) := rowsTo (playN x ps 1) y.toNat (x.toNat * y.toNat)
def playW (x y : Int) (f : List (List Int)) (ps : List Int) : Int := worthR f (playRows x y ps)
theorem playRows_len (x y : Int) (ps : List Int) : (playRows x y ps).length = x.toNat * y.toNat := by simp [playRows]
theorem wRow_one {X Y : Nat} {f : List (List Int)} {ps : List Int} {i k p q n : Nat} (hi : i < X) (hk : k < Y) (hp : ps[i]? = some (p : Int)) (hq : ps[X + k]? = some (q : Int)) (p2 : p < 2) (q2 : q < 2) (hn : i * Y + k = n) :
    wRow f (playRows X Y ps) n 4 = cellAt f n (2 * p + q) := by
  have hr : (playRows X Y ps)[n]? = some ((List.replicate 4 (0 : Int)).set (2 * p + q) 1) := by
    unfold playRows
    rw [← hn, Int.toNat_natCast, Int.toNat_natCast, rowsTo_get _ _ _ _ _ hk (by
      have : (i + 1) * Y ≤ X * Y := Nat.mul_le_mul_right Y hi
      rw [Nat.add_mul] at this
      omega)]
    rw [play_row (x := (X : Int)) hp hq p2 q2 rfl]
  have c : ∀ t, t < 4 → cellAt (playRows X Y ps) n t = if t = 2 * p + q then 1 else 0 := by
    intro t ht
    unfold cellAt
    rw [show (playRows X Y ps).getD n [] = (List.replicate 4 (0 : Int)).set (2 * p + q) 1 by rw [List.getD_eq_getElem?_getD, hr, Option.getD_some]]
    have hp' : p = 0 ∨ p = 1 := by omega
    have hq' : q = 0 ∨ q = 1 := by omega
    have ht' : t = 0 ∨ t = 1 ∨ t = 2 ∨ t = 3 := by omega
    rcases hp' with rfl | rfl <;> rcases hq' with rfl | rfl <;> rcases ht' with rfl | rfl | rfl | rfl <;> rfl
  rw [wRow_succ, wRow_succ, wRow_succ, wRow_succ, wRow_zero, c 0 (by omega), c 1 (by omega), c 2 (by omega), c 3 (by omega)]
  have hp' : p = 0 ∨ p = 1 := by omega
  have hq' : q = 0 ∨ q = 1 := by omega
  rcases hp' with rfl | rfl <;> rcases hq' with rfl | rfl <;> simp
theorem playW_eq {X Y : Nat} (f : List (List Int)) (ps : List Int) : playW X Y f ps = worthTo f (playRows X Y ps) (X * Y) := by
  unfold playW worthR; rw [playRows_len]; rfl
/-- The numbers of a play by places. -/
theorem bits_get {ps : List Int} {n : Int} (h : bitsB ps n = true) {j : Nat} (hj : (j : Int) < n) : ∃ p : Nat, ps[j]? = some (p : Int) ∧ p < 2 := by
  obtain ⟨h1, h2⟩ := bits_iff.1 h
  have hl : j < ps.length := by omega
  obtain ⟨k0, k1⟩ := allIn_get h1 (List.getElem?_eq_getElem hl)
  exact ⟨(ps[j]).toNat, by rw [List.getElem?_eq_getElem hl]; congr 1; omega, by omega⟩
end Go.Proofs.Ytbleeakcmmpcgaa
