/- Plain definitions and lemmas: boxes by their numbers. -/
import Derived.Test.YtcifpfdlkpddeaaDoorPlain
set_option linter.unusedSimpArgs false
set_option linter.unusedVariables false
namespace Go.Proofs.YtcifpfdlkpddeaaDoor

abbrev Num := Int → Int → Int → Int → Int
/-- The first q numbers of a row, by the answers. -/
def rowTo (num : Num) (i j : Int) (q : Nat) : List Int := List.map (fun p : Nat => num i j ((p : Int) / 2) ((p : Int) % 2)) (List.range q)
def rowOf (num : Num) (i j : Int) : List Int := [num i j 0 0, num i j 0 1, num i j 1 0, num i j 1 1]
theorem rowTo_four (num : Num) (i j : Int) : rowTo num i j 4 = rowOf num i j := by
  simp [rowTo, rowOf, List.range_succ]
theorem rowTo_succ (num : Num) (i j : Int) (q : Nat) : rowTo num i j (q + 1) = rowTo num i j q ++ [num i j ((q : Int) / 2) ((q : Int) % 2)] := by
  simp [rowTo, List.range_succ]
@[simp] theorem rowTo_length (num : Num) (i j : Int) (q : Nat) : (rowTo num i j q).length = q := by simp [rowTo]

/-- The first n rows of a box with Y questions of the second player. -/
def rowsTo (num : Num) (Y n : Nat) : List (List Int) := List.map (fun p : Nat => rowOf num ((p / Y : Nat) : Int) ((p % Y : Nat) : Int)) (List.range n)
@[simp] theorem rowsTo_length (num : Num) (Y n : Nat) : (rowsTo num Y n).length = n := by simp [rowsTo]
theorem rowsTo_succ (num : Num) (Y i j : Nat) (hj : j < Y) : rowsTo num Y (i * Y + j + 1) = rowsTo num Y (i * Y + j) ++ [rowOf num (i : Int) (j : Int)] := by
  have h1 : (i * Y + j) / Y = i := by
    rw [Nat.add_comm, Nat.add_mul_div_right _ _ (by omega), Nat.div_eq_of_lt hj, Nat.zero_add]
  have h2 : (i * Y + j) % Y = j := by
    rw [Nat.add_comm, Nat.add_mul_mod_self_right, Nat.mod_eq_of_lt hj]
  unfold rowsTo
  rw [List.range_succ, List.map_append, List.map_cons, List.map_nil, h1, h2]
theorem rowsTo_get (num : Num) (Y n i j : Nat) (hj : j < Y) (hn : i * Y + j < n) : (rowsTo num Y n)[i * Y + j]? = some (rowOf num (i : Int) (j : Int)) := by
  have h1 : (i * Y + j) / Y = i := by
    rw [Nat.add_comm, Nat.add_mul_div_right _ _ (by omega), Nat.div_eq_of_lt hj, Nat.zero_add]
  have h2 : (i * Y + j) % Y = j := by
    rw [Nat.add_comm, Nat.add_mul_mod_self_right, Nat.mod_eq_of_lt hj]
  unfold rowsTo
  rw [List.getElem?_map, List.getElem?_range hn, Option.map_some, h1, h2]

end Go.Proofs.YtcifpfdlkpddeaaDoor
