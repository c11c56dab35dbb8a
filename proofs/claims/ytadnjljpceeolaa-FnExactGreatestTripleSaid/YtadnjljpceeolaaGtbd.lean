/- Sums for the answer 1: contracts of the program's and the reference's function. -/
import Derived.Test.YtadnjljpceeolaaGtau
set_option linter.unusedSimpArgs false
set_option linter.unusedVariables false
namespace Go.Proofs.Ytadnjljpceeolaa
open Go.RowKit

/-- The sum for the answer 1 of a player, at the questions x and y. -/
def oneB (b : BoxD) (pl : Nat) (x y : Nat) : Int := if pl = 0 then numB b x y 1 0 + numB b x y 1 1 else numB b x y 0 1 + numB b x y 1 1
theorem oneB_0 (b : BoxD) (x y : Nat) : oneB b 0 x y = numB b x y 1 0 + numB b x y 1 1 := rfl
theorem oneB_1 (b : BoxD) (x y : Nat) : oneB b 1 x y = numB b x y 0 1 + numB b x y 1 1 := rfl
theorem oneB_bd {b : BoxD} (hb : boxB b = true) (pl x y : Nat) (hx : (x : Int) < b.X) (hy : (y : Int) < b.Y) : 0 ≤ oneB b pl x y ∧ oneB b pl x y ≤ b.Whole := by
  obtain ⟨h0, h1, h2, h3, h4⟩ := boxB_four hb x y hx hy
  unfold oneB
  split <;> omega

set_option maxHeartbeats 800000 in
theorem l2One0_any (b5 o5 c5 : Nat) (p q r s : Int) (hr : 0 ≤ r ∧ r ≤ 1000) (hs : 0 ≤ s ∧ s ≤ 1000) (w : World)
    (h : w.cell? ⟨b5, o5, none⟩ = some (.int .i64 p) ∧ w.cell? ⟨b5, o5 + 1, none⟩ = some (.int .i64 q) ∧ w.cell? ⟨b5, o5 + 2, none⟩ = some (.int .i64 r) ∧ w.cell? ⟨b5, o5 + 3, none⟩ = some (.int .i64 s)) :
    Calls Try.prog 120 #[.slice (some ⟨b5, o5, none⟩) 4 c5, .int .i64 0] w fun e w' => e = .returned (.int .i64 (r + s)) ∧ Drw w w' := by
  obtain ⟨k0, k1, k2, k3⟩ := h
  have hw := wrap_in (r + s) (by omega) (by omega)
  clear hr hs
  go_enter Try.func120, Try.ntmps120
  go_wp2
  go_quiet (fail)
  go_wp2
  go_ret
  exact ⟨rfl, Drw.mk _ _⟩
set_option maxHeartbeats 800000 in
theorem l2One1_any (b5 o5 c5 : Nat) (p q r s : Int) (hr : 0 ≤ q ∧ q ≤ 1000) (hs : 0 ≤ s ∧ s ≤ 1000) (w : World)
    (h : w.cell? ⟨b5, o5, none⟩ = some (.int .i64 p) ∧ w.cell? ⟨b5, o5 + 1, none⟩ = some (.int .i64 q) ∧ w.cell? ⟨b5, o5 + 2, none⟩ = some (.int .i64 r) ∧ w.cell? ⟨b5, o5 + 3, none⟩ = some (.int .i64 s)) :
    Calls Try.prog 120 #[.slice (some ⟨b5, o5, none⟩) 4 c5, .int .i64 1] w fun e w' => e = .returned (.int .i64 (q + s)) ∧ Drw w w' := by
  obtain ⟨k0, k1, k2, k3⟩ := h
  have hw := wrap_in (q + s) (by omega) (by omega)
  clear hr hs
  go_enter Try.func120, Try.ntmps120
  go_wp2
  go_quiet (fail)
  go_wp2
  go_ret
  exact ⟨rfl, Drw.mk _ _⟩
theorem at_lit (v : Value) (b : BoxD) (hb : boxB b = true) (i j a c : Nat) (a' c' : Int) (ea : (a : Int) = a') (ec : (c : Int) = c') (hi : (i : Int) < b.X) (hj : (j : Int) < b.Y) (ha : a < 2) (hc : c < 2) (w : World) (h : RdII w v b.Rows) :
    Calls Try.prog 153 #[.agg #[.int .i64 b.X, .int .i64 b.Y, .int .i64 b.Whole, v], .int .i64 i, .int .i64 j, .int .i64 a', .int .i64 c'] w fun e w' => e = .returned (.int .i64 (numB b i j a' c')) ∧ Below w.heap.size w w' := by
  subst ea ec
  exact at_any v b hb i j a c hi hj ha hc w h
set_option maxHeartbeats 1600000 in
theorem ones0_any (v : Value) (b : BoxD) (hb : boxB b = true) (x y : Nat) (hx : (x : Int) < b.X) (hy : (y : Int) < b.Y) (w : World) (h : RdII w v b.Rows) :
    Calls Try.prog 117 #[.agg #[.int .i64 b.X, .int .i64 b.Y, .int .i64 b.Whole, v], .int .i64 0, .int .i64 x, .int .i64 y] w fun e w' => e = .returned (.int .i64 (oneB b 0 x y)) ∧ Below w.heap.size w w' := by
  have n0 := numB_bound hb x y hx hy 1 0 (by omega) (by omega)
  have n1 := numB_bound hb x y hx hy 1 1 (by omega) (by omega)
  have hwb := (boxB_iff.1 hb).2.1
  have hw := wrap_in (numB b x y ((1 : Nat) : Int) ((0 : Nat) : Int) + numB b x y ((1 : Nat) : Int) ((1 : Nat) : Int)) (by omega) (by omega)
  have hw2 : IntKind.i64.wrap (numB b x y 1 0 + numB b x y 1 1) = numB b x y 1 0 + numB b x y 1 1 := hw
  rw [oneB_0]
  have A0 : BoxAt (w.alloc (.cells #[.int .i64 b.X, .int .i64 b.Y, .int .i64 b.Whole, v] 44)) w.heap.size b.X b.Y b.Whole v := BoxAt.top rfl
  have B0 : Below w.heap.size w (w.alloc (.cells #[.int .i64 b.X, .int .i64 b.Y, .int .i64 b.Whole, v] 44)) := (by repeat' (first | with_reducible exact Below.refl _ _ | with_reducible assumption | with_reducible apply Below.alloc | with_reducible apply Below.setCell | with_reducible apply Below.drew | exact Nat.le_refl _ | omega | (simp only [World.size_alloc, World.size_setCell]; omega)))
  clear n0 n1 hwb hw
  go_enter Try.func117, Try.ntmps117
  go_wp2
  generalize hw1 : w.alloc (.cells #[.int .i64 b.X, .int .i64 b.Y, .int .i64 b.Whole, v] 44) = w1 at *
  have ra := h.kept (Nat.le_refl _) B0
  go_region_held3 (fun w' => Below w1.heap.size w1 w' ∧ w'.cell? ⟨w.heap.size, 0, none⟩ = some (.int .i64 b.X) ∧ w'.cell? ⟨w.heap.size, 1, none⟩ = some (.int .i64 b.Y) ∧ w'.cell? ⟨w.heap.size, 2, none⟩ = some (.int .i64 b.Whole) ∧ w'.cell? ⟨w.heap.size, 3, none⟩ = some v)
    (first | exact held1 (Below.refl _ _).drew A0 | exact held1 hBn A0)
    (first
      | (go_at_call 153; have hS := And.left (by assumption : Below w1.heap.size w1 _ ∧ _); (with_reducible refine (at_lit v b hb x y 1 0 1 0 rfl rfl hx hy (by omega) (by omega) _ (ra.kept (Nat.le_refl _) hS)).mono ?_); rintro e w2 ⟨rfl, b2⟩; have hBn : Below w1.heap.size w1 w2 := hS.trans (b2.mono hS.size))
      | (go_at_call 153; have hS := And.left (by assumption : Below w1.heap.size w1 _ ∧ _); (with_reducible refine (at_lit v b hb x y 1 1 1 1 rfl rfl hx hy (by omega) (by omega) _ (ra.kept (Nat.le_refl _) hS)).mono ?_); rintro e w2 ⟨rfl, b2⟩; have hBn : Below w1.heap.size w1 w2 := hS.trans (b2.mono hS.size)))
  all_goals
    go_wp2
    go_ret
    exact ⟨rfl, B0.trans (hBn.mono B0.size)⟩
set_option maxHeartbeats 1600000 in
theorem ones1_any (v : Value) (b : BoxD) (hb : boxB b = true) (x y : Nat) (hx : (x : Int) < b.X) (hy : (y : Int) < b.Y) (w : World) (h : RdII w v b.Rows) :
    Calls Try.prog 117 #[.agg #[.int .i64 b.X, .int .i64 b.Y, .int .i64 b.Whole, v], .int .i64 1, .int .i64 y, .int .i64 x] w fun e w' => e = .returned (.int .i64 (oneB b 1 x y)) ∧ Below w.heap.size w w' := by
  have n0 := numB_bound hb x y hx hy 0 1 (by omega) (by omega)
  have n1 := numB_bound hb x y hx hy 1 1 (by omega) (by omega)
  have hwb := (boxB_iff.1 hb).2.1
  have hw := wrap_in (numB b x y ((0 : Nat) : Int) ((1 : Nat) : Int) + numB b x y ((1 : Nat) : Int) ((1 : Nat) : Int)) (by omega) (by omega)
  have hw2 : IntKind.i64.wrap (numB b x y 0 1 + numB b x y 1 1) = numB b x y 0 1 + numB b x y 1 1 := hw
  rw [oneB_1]
  have A0 : BoxAt (w.alloc (.cells #[.int .i64 b.X, .int .i64 b.Y, .int .i64 b.Whole, v] 44)) w.heap.size b.X b.Y b.Whole v := BoxAt.top rfl
  have B0 : Below w.heap.size w (w.alloc (.cells #[.int .i64 b.X, .int .i64 b.Y, .int .i64 b.Whole, v] 44)) := (by repeat' (first | with_reducible exact Below.refl _ _ | with_reducible assumption | with_reducible apply Below.alloc | with_reducible apply Below.setCell | with_reducible apply Below.drew | exact Nat.le_refl _ | omega | (simp only [World.size_alloc, World.size_setCell]; omega)))
  clear n0 n1 hwb hw
  go_enter Try.func117, Try.ntmps117
  go_wp2
  generalize hw1 : w.alloc (.cells #[.int .i64 b.X, .int .i64 b.Y, .int .i64 b.Whole, v] 44) = w1 at *
  have ra := h.kept (Nat.le_refl _) B0
  go_region_held3 (fun w' => Below w1.heap.size w1 w' ∧ w'.cell? ⟨w.heap.size, 0, none⟩ = some (.int .i64 b.X) ∧ w'.cell? ⟨w.heap.size, 1, none⟩ = some (.int .i64 b.Y) ∧ w'.cell? ⟨w.heap.size, 2, none⟩ = some (.int .i64 b.Whole) ∧ w'.cell? ⟨w.heap.size, 3, none⟩ = some v)
    (first | exact held1 (Below.refl _ _).drew A0 | exact held1 hBn A0)
    (first
      | (go_at_call 153; have hS := And.left (by assumption : Below w1.heap.size w1 _ ∧ _); (with_reducible refine (at_lit v b hb x y 0 1 0 1 rfl rfl hx hy (by omega) (by omega) _ (ra.kept (Nat.le_refl _) hS)).mono ?_); rintro e w2 ⟨rfl, b2⟩; have hBn : Below w1.heap.size w1 w2 := hS.trans (b2.mono hS.size))
      | (go_at_call 153; have hS := And.left (by assumption : Below w1.heap.size w1 _ ∧ _); (with_reducible refine (at_lit v b hb x y 1 1 1 1 rfl rfl hx hy (by omega) (by omega) _ (ra.kept (Nat.le_refl _) hS)).mono ?_); rintro e w2 ⟨rfl, b2⟩; have hBn : Below w1.heap.size w1 w2 := hS.trans (b2.mono hS.size)))
  all_goals
    go_wp2
    go_ret
    exact ⟨rfl, B0.trans (hBn.mono B0.size)⟩
end Go.Proofs.Ytadnjljpceeolaa
