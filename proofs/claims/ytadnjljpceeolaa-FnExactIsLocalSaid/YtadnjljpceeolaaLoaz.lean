/- The greatest worth of a play. Sums for the answer 1: contracts of the program's and the reference's function. -/
import Derived.Test.YtadnjljpceeolaaLoaw
import Derived.Test.YtadnjljpceeolaaLoax
import Derived.Test.YtadnjljpceeolaaLoay
import Derived.Test.YtadnjljpceeolaaLoas
set_option linter.unusedSimpArgs false
set_option linter.unusedVariables false
namespace Go.Proofs.Ytadnjljpceeolaa
open Go.RowKit

def bestUp (g : Nat → Int) : Nat → Int
  | 0 => 0
  | n + 1 => if n = 0 ∨ bestUp g n < g n then g n else bestUp g n
theorem bestUp_new {g : Nat → Int} {n : Nat} {u z : Int} (hu : u = bestUp g n) (hz : z = g n) (h : n = 0 ∨ u < z) : z = bestUp g (n + 1) := by
  subst hu hz; show _ = if _ then _ else _; rw [if_pos h]
theorem bestUp_old {g : Nat → Int} {n : Nat} {u z : Int} (hu : u = bestUp g n) (hz : z = g n) (h : ¬ n = 0) (h2 : ¬ u < z) : u = bestUp g (n + 1) := by
  subst hu hz; show _ = if _ then _ else _; rw [if_neg (fun h' => h'.elim h h2)]
theorem bestUp_bd {g : Nat → Int} {B : Int} (hB : 0 ≤ B) (n : Nat) (h : ∀ k, k < n → -B ≤ g k ∧ g k ≤ B) : -B ≤ bestUp g n ∧ bestUp g n ≤ B := by
  induction n with
  | zero => unfold bestUp; omega
  | succ n ih =>
    have h1 := ih (fun k hk => h k (by omega))
    have h2 := h n (by omega)
    unfold bestUp
    split <;> assumption
def valP (x y : Int) (f : List (List Int)) (c : Nat) : Int := playW x y f (bitsTo (x.toNat + y.toNat) c (x.toNat + y.toNat))
def localV (x y : Int) (f : List (List Int)) : Int := bestUp (valP x y f) (2 ^ (x.toNat + y.toNat))
theorem bitsTo_len (n k j : Nat) : (bitsTo n k j).length = j := by simp [bitsTo]
theorem bitsTo_bits (n k : Nat) (m : Int) (hm : (n : Int) = m) : bitsB (bitsTo n k n) m = true := by
  refine bits_iff.2 ⟨allIn_true (fun j x hx => ?_), by rw [bitsTo_len]; exact hm⟩
  unfold bitsTo at hx
  rw [List.getElem?_map] at hx
  obtain ⟨c, _, rfl⟩ := Option.map_eq_some_iff.1 hx
  have := Nat.mod_lt (k / 2 ^ (n - 1 - c)) (show 0 < 2 by omega)
  exact inB_iff.2 ⟨by omega, by omega⟩
theorem playsTo_get {n M c : Nat} (h : c < M) : (playsTo n M)[c]? = some (bitsTo n c n) := by simp [playsTo, h]
theorem playsTo_len (n M : Nat) : (playsTo n M).length = M := by simp [playsTo]
/-- The way to a play of the list of all plays. -/
theorem plays_path {lo hi N M : Nat} {w : World} {a : Option Addr} {c : Nat} {vs : List Value} (o : OwnII 22 3 lo hi w (.slice a (playsTo N M).length c) (playsTo N M) vs) (hM : 0 < M) :
    ∃ g, a = some ⟨g, 0, none⟩ ∧ g < w.heap.size ∧ lo ≤ g ∧ ∀ n, n < M → ∃ a2 c2, vs[n]? = some (.slice a2 N c2) ∧ w.cell? ⟨g, n, none⟩ = some (.slice a2 N c2) ∧ RdI w (.slice a2 N c2) (bitsTo N n N) := by
  obtain ⟨a', g, cap, hv, hm, ha, hc, _⟩ := o.top.shape
  have hl : vs.length = M := by rw [o.len, playsTo_len]
  injection hv with e1 e2 e3
  obtain ⟨h1, h2, h3, h4⟩ := ha (by omega)
  refine ⟨g, by rw [e1, h1], h4, h2, fun n hn => ?_⟩
  have hvn : vs[n]? = some vs[n] := List.getElem?_eq_getElem (by omega)
  have hr := (o.row n _ _ hvn (playsTo_get hn)).rdI
  have hr' := hr
  obtain ⟨a2, _, _, c2, hv2, _⟩ := hr'
  rw [bitsTo_len] at hv2
  exact ⟨a2, c2, by rw [← hv2]; exact hvn, by rw [← hv2]; exact hc n _ hvn, by rw [← hv2]; exact hr⟩
theorem pow_M (X Y : Nat) (hX : X ≤ 3) (hY : Y ≤ 3) : 1 ≤ 2 ^ (X + Y) ∧ 2 ^ (X + Y) ≤ 64 :=
  ⟨Nat.two_pow_pos _, Nat.le_trans (Nat.pow_le_pow_right (by omega) (show X + Y ≤ 6 by omega)) (by decide)⟩
theorem playW_bd {x y : Int} {f : List (List Int)} {ps : List Int} (hf : funcB x y f = true) (hp : bitsB ps (x + y) = true) : -891 ≤ playW x y f ps ∧ playW x y f ps ≤ 891 := by
  obtain ⟨hs, hfl, hfa⟩ := funcB_iff.1 hf
  obtain ⟨⟨hx0, hx1⟩, hy0, hy1⟩ := sizesB_iff.1 hs
  obtain ⟨X, rfl⟩ := Int.eq_ofNat_of_zero_le (show 0 ≤ x by omega)
  obtain ⟨Y, rfl⟩ := Int.eq_ofNat_of_zero_le (show 0 ≤ y by omega)
  have hXY : X * Y ≤ 9 := Nat.mul_le_mul (show X ≤ 3 by omega) (show Y ≤ 3 by omega)
  have hfn : f.length = X * Y := by exact_mod_cast hfl
  have key : ∀ n, n ≤ X * Y → -(99 * (n : Int)) ≤ worthTo f (playRows X Y ps) n ∧ worthTo f (playRows X Y ps) n ≤ 99 * (n : Int) := by
    intro n
    induction n with
    | zero => intro _; rw [worthTo_zero]; omega
    | succ n ih =>
      intro hn
      have h1 := ih (by omega)
      obtain ⟨hi, hk⟩ := div_lt_of (show n < X * Y by omega)
      obtain ⟨p, hp1, p2⟩ := bits_get hp (j := n / Y) (by omega)
      obtain ⟨q, hq1, q2⟩ := bits_get hp (j := X + n % Y) (by omega)
      have hw := wRow_one (f := f) hi hk hp1 hq1 p2 q2 (n := n) (by rw [Nat.mul_comm]; exact Nat.div_add_mod n Y)
      rw [worthTo_succ, hw]
      have hrs : f[n]? = some f[n] := List.getElem?_eq_getElem (by omega)
      obtain ⟨p0, p1, p2', p3, hrow, h0, h1', h2, h3⟩ := funcRow_four (all_get hfa hrs)
      rw [hrow] at hrs
      have hc : -99 ≤ cellAt f n (2 * p + q) ∧ cellAt f n (2 * p + q) ≤ 99 := by
        have : p = 0 ∨ p = 1 := by omega
        have : q = 0 ∨ q = 1 := by omega
        rcases ‹p = 0 ∨ p = 1› with rfl | rfl <;> rcases ‹q = 0 ∨ q = 1› with rfl | rfl
        · rw [cellAt_get hrs rfl]; exact h0
        · rw [cellAt_get hrs rfl]; exact h1'
        · rw [cellAt_get hrs rfl]; exact h2
        · rw [cellAt_get hrs rfl]; exact h3
      push_cast
      omega
  have := key (X * Y) (Nat.le_refl _)
  rw [playW_eq]
  omega
theorem valP_bd {x y : Int} {f : List (List Int)} (hf : funcB x y f = true) (c : Nat) : -891 ≤ valP x y f c ∧ valP x y f c ≤ 891 := by
  obtain ⟨⟨hx0, hx1⟩, hy0, hy1⟩ := sizesB_iff.1 (funcB_iff.1 hf).1
  exact playW_bd hf (bitsTo_bits _ _ _ (by omega))
theorem localV_bd {x y : Int} {f : List (List Int)} (hf : funcB x y f = true) : -891 ≤ localV x y f ∧ localV x y f ≤ 891 :=
  bestUp_bd (by omega) _ (fun k _ => valP_bd hf k)
end Go.Proofs.Ytadnjljpceeolaa
set_option linter.unusedSimpArgs false
set_option linter.unusedVariables false
namespace Go.Proofs.Ytadnjljpceeolaa
open Go.RowKit

/-- The sum for the answer 1 of a player, at the questions x and y. -/
def oneB (b : BoxD) (pl : Nat) (x y : Nat) : Int := if pl = 0 then numB b x y 1 0 + numB b x y 1 1 else numB b x y 0 1 + numB b x y 1 1
theorem oneB_0 (b : BoxD) (x y : Nat) : oneB b 0 x y = numB b x y 1 0 + numB b x y 1 1 := rfl
theorem oneB_1 (b : BoxD) (x y : Nat) : oneB b 1 x y = numB b x y 0 1 + numB b x y 1 1 := rfl
theorem oneB_bd {b : BoxD} (hb : boxB b = true) (pl x y : Nat) (hx : (x : Int) < b.X) (hy : (y : Int) < b.Y) : 0 ≤ oneB b pl x y ∧ oneB b pl x y ≤ b.Whole := by
  obtain ⟨h0, h1, h2, h3, h4⟩ := boxB_four hb x y hx hy
  unfold oneB
  split <;> omega

set_option maxHeartbeats 800000 in
theorem l2One0_any (b5 o5 c5 : Nat) (p q r s : Int) (hr : 0 ≤ r ∧ r ≤ 1000) (hs : 0 ≤ s ∧ s ≤ 1000) (w : World)
    (h : w.cell? ⟨b5, o5, none⟩ = some (.int .i64 p) ∧ w.cell? ⟨b5, o5 + 1, none⟩ = some (.int .i64 q) ∧ w.cell? ⟨b5, o5 + 2, none⟩ = some (.int .i64 r) ∧ w.cell? ⟨b5, o5 + 3, none⟩ = some (.int .i64 s)) :
    Calls Try.prog 120 #[.slice (some ⟨b5, o5, none⟩) 4 c5, .int .i64 0] w fun e w' => e = .returned (.int .i64 (r + s)) ∧ Drw w w' := by
  obtain ⟨k0, k1, k2, k3⟩ := h
  have hw := wrap_in (r + s) (by omega) (by omega)
  clear hr hs
  go_enter Try.func120, Try.ntmps120
  go_wp2
  go_quiet (fail)
  go_wp2
  go_ret
  exact ⟨rfl, Drw.mk _ _⟩
set_option maxHeartbeats 800000 in
theorem l2One1_any (b5 o5 c5 : Nat) (p q r s : Int) (hr : 0 ≤ q ∧ q ≤ 1000) (hs : 0 ≤ s ∧ s ≤ 1000) (w : World)
    (h : w.cell? ⟨b5, o5, none⟩ = some (.int .i64 p) ∧ w.cell? ⟨b5, o5 + 1, none⟩ = some (.int .i64 q) ∧ w.cell? ⟨b5, o5 + 2, none⟩ = some (.int .i64 r) ∧ w.cell? ⟨b5, o5 + 3, none⟩ = some (.int .i64 s)) :
    Calls Try.prog 120 #[.slice (some ⟨b5, o5, none⟩) 4 c5, .int .i64 1] w fun e w' => e = .returned (.int .i64 (q + s)) ∧ Drw w w' := by
  obtain ⟨k0, k1, k2, k3⟩ := h
  have hw := wrap_in (q + s) (by omega) (by omega)
  clear hr hs
  go_enter Try.func120, Try.ntmps120
  go_wp2
  go_quiet (fail)
  go_wp2
  go_ret
  exact ⟨rfl, Drw.mk _ _⟩
theorem at_lit (v : Value) (b : BoxD) (hb : boxB b = true) (i j a c : Nat) (a' c' : Int) (ea : (a : Int) = a') (ec : (c : Int) = c') (hi : (i : Int) < b.X) (hj : (j : Int) < b.Y) (ha : a < 2) (hc : c < 2) (w : World) (h : RdII w v b.Rows) :
    Calls Try.prog 153 #[.agg #[.int .i64 b.X, .int .i64 b.Y, .int .i64 b.Whole, v], .int .i64 i, .int .i64 j, .int .i64 a', .int .i64 c'] w fun e w' => e = .returned (.int .i64 (numB b i j a' c')) ∧ Below w.heap.size w w' := by
  subst ea ec
  exact at_any v b hb i j a c hi hj ha hc w h
set_option maxHeartbeats 1600000 in
theorem ones0_any (v : Value) (b : BoxD) (hb : boxB b = true) (x y : Nat) (hx : (x : Int) < b.X) (hy : (y : Int) < b.Y) (w : World) (h : RdII w v b.Rows) :
    Calls Try.prog 117 #[.agg #[.int .i64 b.X, .int .i64 b.Y, .int .i64 b.Whole, v], .int .i64 0, .int .i64 x, .int .i64 y] w fun e w' => e = .returned (.int .i64 (oneB b 0 x y)) ∧ Below w.heap.size w w' := by
  have n0 := numB_bound hb x y hx hy 1 0 (by omega) (by omega)
  have n1 := numB_bound hb x y hx hy 1 1 (by omega) (by omega)
  have hwb := (boxB_iff.1 hb).2.1
  have hw := wrap_in (numB b x y ((1 : Nat) : Int) ((0 : Nat) : Int) + numB b x y ((1 : Nat) : Int) ((1 : Nat) : Int)) (by omega) (by omega)
  have hw2 : IntKind.i64.wrap (numB b x y 1 0 + numB b x y 1 1) = numB b x y 1 0 + numB b x y 1 1 := hw
  rw [oneB_0]
  have A0 : BoxAt (w.alloc (.cells #[.int .i64 b.X, .int .i64 b.Y, .int .i64 b.Whole, v] 44)) w.heap.size b.X b.Y b.Whole v := BoxAt.top rfl
  have B0 : Below w.heap.size w (w.alloc (.cells #[.int .i64 b.X, .int .i64 b.Y, .int .i64 b.Whole, v] 44)) := (by repeat' (first | with_reducible exact Below.refl _ _ | with_reducible assumption | with_reducible apply Below.alloc | with_reducible apply Below.setCell | with_reducible apply Below.drew | exact Nat.le_refl _ | omega | (simp only [World.size_alloc, World.size_setCell]; omega)))
  clear n0 n1 hwb hw
  go_enter Try.func117, Try.ntmps117
  go_wp2
  generalize hw1 : w.alloc (.cells #[.int .i64 b.X, .int .i64 b.Y, .int .i64 b.Whole, v] 44) = w1 at *
  have ra := h.kept (Nat.le_refl _) B0
  go_region_held3 (fun w' => Below w1.heap.size w1 w' ∧ w'.cell? ⟨w.heap.size, 0, none⟩ = some (.int .i64 b.X) ∧ w'.cell? ⟨w.heap.size, 1, none⟩ = some (.int .i64 b.Y) ∧ w'.cell? ⟨w.heap.size, 2, none⟩ = some (.int .i64 b.Whole) ∧ w'.cell? ⟨w.heap.size, 3, none⟩ = some v)
    (first | exact held1 (Below.refl _ _).drew A0 | exact held1 hBn A0)
    (first
      | (go_at_call 153; have hS := And.left (by assumption : Below w1.heap.size w1 _ ∧ _); (with_reducible refine (at_lit v b hb x y 1 0 1 0 rfl rfl hx hy (by omega) (by omega) _ (ra.kept (Nat.le_refl _) hS)).mono ?_); rintro e w2 ⟨rfl, b2⟩; have hBn : Below w1.heap.size w1 w2 := hS.trans (b2.mono hS.size))
      | (go_at_call 153; have hS := And.left (by assumption : Below w1.heap.size w1 _ ∧ _); (with_reducible refine (at_lit v b hb x y 1 1 1 1 rfl rfl hx hy (by omega) (by omega) _ (ra.kept (Nat.le_refl _) hS)).mono ?_); rintro e w2 ⟨rfl, b2⟩; have hBn : Below w1.heap.size w1 w2 := hS.trans (b2.mono hS.size)))
  all_goals
    go_wp2
    go_ret
    exact ⟨rfl, B0.trans (hBn.mono B0.size)⟩
set_option maxHeartbeats 1600000 in
theorem ones1_any (v : Value) (b : BoxD) (hb : boxB b = true) (x y : Nat) (hx : (x : Int) < b.X) (hy : (y : Int) < b.Y) (w : World) (h : RdII w v b.Rows) :
    Calls Try.prog 117 #[.agg #[.int .i64 b.X, .int .i64 b.Y, .int .i64 b.Whole, v], .int .i64 1, .int .i64 y, .int .i64 x] w fun e w' => e = .returned (.int .i64 (oneB b 1 x y)) ∧ Below w.heap.size w w' := by
  have n0 := numB_bound hb x y hx hy 0 1 (by omega) (by omega)
  have n1 := numB_bound hb x y hx hy 1 1 (by omega) (by omega)
  have hwb := (boxB_iff.1 hb).2.1
  have hw := wrap_in (numB b x y ((0 : Nat) : Int) ((1 : Nat) : Int) + numB b x y ((1 : Nat) : Int) ((1 : Nat) : Int)) (by omega) (by omega)
  have hw2 : IntKind.i64.wrap (numB b x y 0 1 + numB b x y 1 1) = numB b x y 0 1 + numB b x y 1 1 := hw
  rw [oneB_1]
  have A0 : BoxAt (w.alloc (.cells #[.int .i64 b.X, .int .i64 b.Y, .int .i64 b.Whole, v] 44)) w.heap.size b.X b.Y b.Whole v := BoxAt.top rfl
  have B0 : Below w.heap.size w (w.alloc (.cells #[.int .i64 b.X, .int .i64 b.Y, .int .i64 b.Whole, v] 44)) := (by repeat' (first | with_reducible exact Below.refl _ _ | with_reducible assumption | with_reducible apply Below.alloc | with_reducible apply Below.setCell | with_reducible apply Below.drew | exact Nat.le_refl _ | omega | (simp only [World.size_alloc, World.size_setCell]; omega)))
  clear n0 n1 hwb hw
  go_enter Try.func117, Try.ntmps117
  go_wp2
  generalize hw1 : w.alloc (.cells #[.int .i64 b.X, .int .i64 b.Y, .int .i64 b.Whole, v] 44) = w1 at *
  have ra := h.kept (Nat.le_refl _) B0
  go_region_held3 (fun w' => Below w1.heap.size w1 w' ∧ w'.cell? ⟨w.heap.size, 0, none⟩ = some (.int .i64 b.X) ∧ w'.cell? ⟨w.heap.size, 1, none⟩ = some (.int .i64 b.Y) ∧ w'.cell? ⟨w.heap.size, 2, none⟩ = some (.int .i64 b.Whole) ∧ w'.cell? ⟨w.heap.size, 3, none⟩ = some v)
    (first | exact held1 (Below.refl _ _).drew A0 | exact held1 hBn A0)
    (first
      | (go_at_call 153; have hS := And.left (by assumption : Below w1.heap.size w1 _ ∧ _); (with_reducible refine (at_lit v b hb x y 0 1 0 1 rfl rfl hx hy (by omega) (by omega) _ (ra.kept (Nat.le_refl _) hS)).mono ?_); rintro e w2 ⟨rfl, b2⟩; have hBn : Below w1.heap.size w1 w2 := hS.trans (b2.mono hS.size))
      | (go_at_call 153; have hS := And.left (by assumption : Below w1.heap.size w1 _ ∧ _); (with_reducible refine (at_lit v b hb x y 1 1 1 1 rfl rfl hx hy (by omega) (by omega) _ (ra.kept (Nat.le_refl _) hS)).mono ?_); rintro e w2 ⟨rfl, b2⟩; have hBn : Below w1.heap.size w1 w2 := hS.trans (b2.mono hS.size)))
  all_goals
    go_wp2
    go_ret
    exact ⟨rfl, B0.trans (hBn.mono B0.size)⟩
end Go.Proofs.Ytadnjljpceeolaa
