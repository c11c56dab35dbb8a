/- PlaysOf: contracts of the program's and the reference's function. -/
import Derived.Test.YtbleeakcmmpcgaaFnPlays
set_option linter.unusedSimpArgs false
set_option linter.unusedVariables false
namespace Go.Proofs.Ytbleeakcmmpcgaa
open Go.RowKit

/-- A call handed back rows of its own and a bool. -/
def RowsRes (w : World) (rss : List (List Int)) (ok : Bool) (e : Ending) (w' : World) : Prop :=
  ∃ a c vs, e = .returned (.tuple #[.slice a rss.length c, .bool ok]) ∧ OwnII 31 3 w.heap.size w'.heap.size w' (.slice a rss.length c) rss vs ∧ Below w.heap.size w w'
theorem RowsRes.zero {w w' : World} (h : Below w.heap.size w w') : RowsRes w [] false (.returned (.tuple #[.slice none 0 0, .bool false])) w' :=
  ⟨none, 0, [], rfl, OwnII.nil _ _ _ _ _, h⟩

theorem sumLen_bound (rss : List (List Int)) (m : Nat) (h : ∀ (j : Nat) (rs : List Int), rss[j]? = some rs → rs.length ≤ m) : sumLen rss ≤ m * rss.length := by
  induction rss with
  | nil => simp [sumLen]
  | cons r t ih =>
    have h0 := h 0 r rfl
    have h1 := ih (fun j rs hj => h (j + 1) rs (by simpa using hj))
    simp only [sumLen, List.map_cons, List.sum_cons, List.length_cons] at h1 ⊢
    rw [Nat.mul_add, Nat.mul_one]
    omega

theorem playsTo_size (n k : Nat) (hn : n ≤ 6) (hk : k ≤ 64) : (playsTo n k).length + sumLen (playsTo n k) ≤ 4194304 := by
  have h1 := sumLen_bound (playsTo n k) 6 (fun j rs hj => by
    unfold playsTo at hj
    rw [List.getElem?_map] at hj
    obtain ⟨c, _, rfl⟩ := Option.map_eq_some_iff.1 hj
    simp [bitsTo]; omega)
  have h2 : (playsTo n k).length = k := by simp [playsTo]
  omega

end Go.Proofs.Ytbleeakcmmpcgaa
