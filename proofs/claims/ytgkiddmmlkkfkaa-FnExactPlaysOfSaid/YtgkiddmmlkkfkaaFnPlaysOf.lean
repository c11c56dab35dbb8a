/- PlaysOf: contracts of the program's and the reference's function. -/
import Derived.Test.YtgkiddmmlkkfkaaFnPlays
set_option linter.unusedSimpArgs false
set_option linter.unusedVariables false
namespace Go.Proofs.Ytgkiddmmlkkfkaa
open Go.RowKit

/-- A call handed back rows of its own and a bool. -/
def RowsRes (w : World) (rss : List (List Int)) (ok : Bool) (e : Ending) (w' : World) : Prop :=
  ∃ a c vs, e = .returned (.tuple #[.slice a rss.length c, .bool ok]) ∧ OwnII 27 3 w.heap.size w'.heap.size w' (.slice a rss.length c) rss vs ∧ Below w.heap.size w w'
theorem RowsRes.zero {w w' : World} (h : Below w.heap.size w w') : RowsRes w [] false (.returned (.tuple #[.slice none 0 0, .bool false])) w' :=
  ⟨none, 0, [], rfl, OwnII.nil _ _ _ _ _, h⟩

theorem sumLen_bound (rss : List (List Int)) (m : Nat) (h : ∀ (j : Nat) (rs : List Int), rss[j]? = some rs → rs.length ≤ m) : sumLen rss ≤ m * rss.length := by
  induction rss with
  | nil => simp [sumLen]
  | cons r t ih =>
    have h0 := h 0 r rfl
    have h1 := ih (fun j rs hj => h (j + 1) rs (by simpa using hj))
    simp only [sumLen, List.map_cons, List.sum_cons, List.length_cons] at h1 ⊢
    rw [Nat.mul_add, Nat.mul_one]
    omega

theorem playsTo_size (n k : Nat) (hn : n ≤ 6) (hk : k ≤ 64) : (playsTo n k).length + sumLen (playsTo n k) ≤ 4194304 := by
  have h1 := sumLen_bound (playsTo n k) 6 (fun j rs hj => by
    unfold playsTo at hj
    rw [List.getElem?_map] at hj
    obtain ⟨c, _, rfl⟩ := Option.map_eq_some_iff.1 hj
    simp [bitsTo]; omega)
  have h2 : (playsTo n k).length = k := by simp [playsTo]
  omega

def playsOfD (x y : Int) : List (List Int) := if sizesB x y then playsTo (x.toNat + y.toNat) (2 ^ (x.toNat + y.toNat)) else []
theorem playsOfD_size (x y : Int) : (playsOfD x y).length + sumLen (playsOfD x y) ≤ 4194304 := by
  unfold playsOfD
  split
  · rename_i h
    have := sizesB_iff.1 h
    apply playsTo_size _ _ (by omega)
    exact Nat.le_trans (Nat.pow_le_pow_right (by omega) (show x.toNat + y.toNat ≤ 6 by omega)) (by decide)
  · simp [sumLen]

set_option maxHeartbeats 400000 in
theorem implPlaysOf_any (x y : Int) (w : World) :
    Calls Try.prog 27 #[.int .i64 x, .int .i64 y] w (RowsRes w (playsOfD x y) (sizesB x y)) := by
  rcases Bool.eq_false_or_eq_true (sizesB x y) with h1 | h1
  · obtain ⟨⟨hx0, hx1⟩, hy0, hy1⟩ := sizesB_iff.1 h1
    obtain ⟨X, rfl⟩ := Int.eq_ofNat_of_zero_le (show 0 ≤ x by omega)
    obtain ⟨Y, rfl⟩ := Int.eq_ofNat_of_zero_le (show 0 ≤ y by omega)
    have hD : playsOfD X Y = playsTo (X + Y) (2 ^ (X + Y)) := by unfold playsOfD; rw [h1]; simp
    have HD := Lib.hid hD
    clear hD
    go_enter Try.func27, Try.ntmps27
    go_wp2_with (go_at_call 54; refine (areQuestions_any _ _ _).mono ?_; rintro e w' ⟨rfl, rfl⟩)
    refine (plays_any X Y ⟨by omega, by omega⟩ ⟨by omega, by omega⟩ _).mono ?_
    rintro e w1 ⟨a, c, vs, rfl, o1, b1⟩
    generalize playsTo (X + Y) (2 ^ (X + Y)) = D at *
    have HO := Lib.hid o1
    clear o1
    go_wp2
    go_ret2
    rw [HD.out]
    exact ⟨a, c, vs, by rw [h1]; rfl, HO.out, b1⟩
  · have hD : playsOfD x y = [] := by unfold playsOfD; rw [h1]; simp
    have HD := Lib.hid hD
    clear hD
    go_enter Try.func27, Try.ntmps27
    go_wp2_with (go_at_call 54; refine (areQuestions_any _ _ _).mono ?_; rintro e w' ⟨rfl, rfl⟩)
    go_ret2
    rw [HD.out, h1]
    exact RowsRes.zero (by repeat' (first | with_reducible exact Below.refl _ _ | with_reducible assumption | with_reducible apply Below.alloc | with_reducible apply Below.setCell | with_reducible apply Below.drew | exact Nat.le_refl _ | omega | (simp only [World.size_alloc, World.size_setCell]; omega)))

set_option maxHeartbeats 400000 in
theorem specPlaysOf_any (x y : Int) (w : World) :
    Calls Try.prog 26 #[.int .i64 x, .int .i64 y] w (RowsRes w (playsOfD x y) (sizesB x y)) := by
  rcases Bool.eq_false_or_eq_true (sizesB x y) with h1 | h1
  · obtain ⟨⟨hx0, hx1⟩, hy0, hy1⟩ := sizesB_iff.1 h1
    obtain ⟨X, rfl⟩ := Int.eq_ofNat_of_zero_le (show 0 ≤ x by omega)
    obtain ⟨Y, rfl⟩ := Int.eq_ofNat_of_zero_le (show 0 ≤ y by omega)
    have hD : playsOfD X Y = playsTo (X + Y) (2 ^ (X + Y)) := by unfold playsOfD; rw [h1]; simp
    have HD := Lib.hid hD
    clear hD
    go_enter Try.func26, Try.ntmps26
    go_wp2_with (go_at_call 52; refine (l2Sizes_any _ _ _).mono ?_; rintro e w' ⟨rfl, rfl⟩)
    refine (l2Plays_any X Y ⟨by omega, by omega⟩ ⟨by omega, by omega⟩ _).mono ?_
    rintro e w1 ⟨a, c, vs, rfl, o1, b1⟩
    generalize playsTo (X + Y) (2 ^ (X + Y)) = D at *
    have HO := Lib.hid o1
    clear o1
    go_wp2
    go_ret2
    rw [HD.out]
    exact ⟨a, c, vs, by rw [h1]; rfl, HO.out, b1⟩
  · have hD : playsOfD x y = [] := by unfold playsOfD; rw [h1]; simp
    have HD := Lib.hid hD
    clear hD
    go_enter Try.func26, Try.ntmps26
    go_wp2_with (go_at_call 52; refine (l2Sizes_any _ _ _).mono ?_; rintro e w' ⟨rfl, rfl⟩)
    go_ret2
    rw [HD.out, h1]
    exact ⟨some ⟨w.heap.size, 0, none⟩, 0, [], rfl, (OwnII.empty 27 3 w).weaken (Nat.le_refl _) (by first | exact Nat.le_refl _ | omega | (simp only [World.size_alloc, World.size_setCell]; omega)), (by repeat' (first | with_reducible exact Below.refl _ _ | with_reducible assumption | with_reducible apply Below.alloc | with_reducible apply Below.setCell | with_reducible apply Below.drew | exact Nat.le_refl _ | omega | (simp only [World.size_alloc, World.size_setCell]; omega)))⟩
end Go.Proofs.Ytgkiddmmlkkfkaa
