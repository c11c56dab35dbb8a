/- Boxes by other names: swapped, asked again, flipped. No program in sight. Sums for the answer 1: contracts of the program's and the reference's function. -/
import Derived.Test.YtnmnmnpeoiblhaaNbao
import Derived.Test.YtnmnmnpeoiblhaaNbap
import Derived.Test.YtnmnmnpeoiblhaaNbas
set_option linter.unusedSimpArgs false
set_option linter.unusedVariables false
namespace Go.Proofs.Ytnmnmnpeoiblhaa

theorem nat2 {a : Nat} (h : a < 2) : a = 0 ∨ a = 1 := by omega
theorem swapL_eq (b : BoxD) : swapL b = boxOf b.Y b.X b.Whole (swapN b) := rfl
theorem four_swap {b : BoxD} (hb : boxB b = true) (i j : Nat) (hi : (i : Int) < b.Y) (hj : (j : Int) < b.X) : FourN (swapN b) b.Whole i j := by
  obtain ⟨h0, h1, h2, h3, h4⟩ := boxB_four hb j i hj hi
  exact ⟨h0, h2, h1, h3, by show numB b j i 0 0 + numB b j i 1 0 + numB b j i 0 1 + numB b j i 1 1 = _; omega⟩
theorem boxB_in {b : BoxD} (hb : boxB b = true) : inB b.Whole 1 1000 = true := inB_iff.2 (boxB_iff.1 hb).2.1
theorem swapL_box {b : BoxD} (hb : boxB b = true) : boxB (swapL b) = true := by
  obtain ⟨hx, hy⟩ := (boxB_iff.1 hb).1
  rw [swapL_eq, boxOf_boxB _ _ _ _ (sizesB_iff.2 ⟨hy, hx⟩) (fun i j hi hj => four_swap hb i j hi hj)]
  exact boxB_in hb
theorem numB_swap {b : BoxD} (i j a c : Nat) (hi : (i : Int) < b.Y) (hj : (j : Int) < b.X) (ha : a < 2) (hc : c < 2) : numB (swapL b) i j a c = numB b j i c a := by
  rw [swapL_eq, numB_boxOf _ _ _ _ i j a c hi hj ha hc]; rfl
theorem box_ext {a b : BoxD} (ha : boxB a = true) (hb : boxB b = true) (hx : a.X = b.X) (hy : a.Y = b.Y) (hw : a.Whole = b.Whole)
    (h : ∀ i j p q : Nat, (i : Int) < b.X → (j : Int) < b.Y → p < 2 → q < 2 → numB a i j p q = numB b i j p q) : a = b := by
  rw [box_eq_boxOf ha, box_eq_boxOf hb, hx, hy, hw]
  refine boxOf_congr _ _ _ _ _ fun i j hi hj => ?_
  have := h i j
  have h0 := this 0 0 hi hj (by omega) (by omega)
  have h1 := this 0 1 hi hj (by omega) (by omega)
  have h2 := this 1 0 hi hj (by omega) (by omega)
  have h3 := this 1 1 hi hj (by omega) (by omega)
  rw [show ((0 : Nat) : Int) = 0 from rfl] at *
  rw [show ((1 : Nat) : Int) = 1 from rfl] at *
  unfold rowOf
  rw [h0, h1, h2, h3]
theorem swap_swap {b : BoxD} (hb : boxB b = true) : swapL (swapL b) = b := by
  refine box_ext (swapL_box (swapL_box hb)) hb rfl rfl rfl fun i j p q hi hj hp hq => ?_
  rw [numB_swap (b := swapL b) i j p q hi hj hp hq, numB_swap j i q p hj hi hq hp]

theorem mem_getD {fs : List Int} {lo hi : Int} (h : allIn fs lo hi = true) (i : Nat) (hi' : i < fs.length) : lo ≤ fs.getD i 0 ∧ fs.getD i 0 ≤ hi := by
  obtain ⟨f, hf⟩ : ∃ f, fs[i]? = some f := ⟨_, List.getElem?_eq_getElem hi'⟩
  have := allIn_get h hf
  rw [List.getD_eq_getElem?_getD, hf]
  exact this
theorem againB_iff {b : BoxD} {fs ss : List Int} : againB b fs ss = true ↔ ((1 ≤ (fs.length : Int) ∧ (fs.length : Int) ≤ 3) ∧ (1 ≤ (ss.length : Int) ∧ (ss.length : Int) ≤ 3)) ∧ allIn fs 0 (b.X - 1) = true ∧ allIn ss 0 (b.Y - 1) = true := by
  unfold againB
  rw [Bool.and_eq_true, Bool.and_eq_true, sizesB_iff]
/-- What a question of the box asked again is. -/
theorem again_at {b : BoxD} {fs ss : List Int} (hq : againB b fs ss = true) (i j : Nat) (hi : (i : Int) < fs.length) (hj : (j : Int) < ss.length) :
    ∃ i' j' : Nat, fs.getD i 0 = (i' : Int) ∧ ss.getD j 0 = (j' : Int) ∧ (i' : Int) < b.X ∧ (j' : Int) < b.Y := by
  obtain ⟨_, hf, hs⟩ := againB_iff.1 hq
  have h1 := mem_getD hf i (by omega)
  have h2 := mem_getD hs j (by omega)
  obtain ⟨i', e1⟩ := Int.eq_ofNat_of_zero_le h1.1
  obtain ⟨j', e2⟩ := Int.eq_ofNat_of_zero_le h2.1
  exact ⟨i', j', e1, e2, by omega, by omega⟩
theorem again_box {b : BoxD} {fs ss : List Int} (hb : boxB b = true) (hq : againB b fs ss = true) : boxB (againL b fs ss) = true := by
  obtain ⟨hx, hy⟩ := (againB_iff.1 hq).1
  unfold againL
  rw [boxOf_boxB _ _ _ _ (sizesB_iff.2 ⟨hx, hy⟩) (fun i j hi hj => ?_)]
  · exact boxB_in hb
  · obtain ⟨i', j', e1, e2, h1, h2⟩ := again_at hq i j hi hj
    have := boxB_four hb i' j' h1 h2
    unfold FourN againN
    simp only [Int.toNat_natCast, e1, e2]
    exact this
theorem numB_again {b : BoxD} {fs ss : List Int} (i j p q i' j' : Nat) (hi : (i : Int) < fs.length) (hj : (j : Int) < ss.length) (hp : p < 2) (hq : q < 2) (e1 : fs.getD i 0 = (i' : Int)) (e2 : ss.getD j 0 = (j' : Int)) :
    numB (againL b fs ss) i j p q = numB b i' j' p q := by
  unfold againL
  rw [numB_boxOf _ _ _ _ i j p q hi hj hp hq]
  unfold againN
  simp only [Int.toNat_natCast, e1, e2]

theorem bits_at {fl : List Int} {n : Int} (h : bitsB fl n = true) (i : Nat) (hi : (i : Int) < n) : ∃ f : Nat, fl.getD i 0 = (f : Int) ∧ f < 2 := by
  obtain ⟨hall, hlen⟩ := bits_iff.1 h
  have := mem_getD hall i (by omega)
  obtain ⟨f, e⟩ := Int.eq_ofNat_of_zero_le this.1
  exact ⟨f, e, by omega⟩
def xorN (a f : Nat) : Nat := if a = f then 0 else 1
theorem xorN_lt (a f : Nat) : xorN a f < 2 := by unfold xorN; split <;> omega
theorem xorN_xorN (a f : Nat) (ha : a < 2) (hf : f < 2) : xorN (xorN a f) f = a := by
  rcases nat2 ha with rfl | rfl <;> rcases nat2 hf with rfl | rfl <;> rfl
theorem xorB_n (a f : Nat) : xorB a f = (xorN a f : Int) := by
  unfold xorB xorN
  by_cases h : a = f
  · rw [if_pos h, if_pos (by omega)]; rfl
  · rw [if_neg h, if_neg (by omega)]; rfl
theorem numB_flipN {b : BoxD} {fl : List Int} (i j p q f g : Nat) (e1 : fl.getD i 0 = (f : Int)) (e2 : fl.getD (b.X.toNat + j) 0 = (g : Int)) : flipN b fl i j p q = numB b i j (xorN p f) (xorN q g) := by
  unfold flipN
  simp only [Int.toNat_natCast, e1, e2, xorB_n]
theorem flip_two {b : BoxD} {fl : List Int} (hb : boxB b = true) (hf : bitsB fl (b.X + b.Y) = true) (i j : Nat) (hi : (i : Int) < b.X) (hj : (j : Int) < b.Y) :
    ∃ f g : Nat, fl.getD i 0 = (f : Int) ∧ fl.getD (b.X.toNat + j) 0 = (g : Int) ∧ f < 2 ∧ g < 2 := by
  have hs := (boxB_iff.1 hb).1
  obtain ⟨f, e1, h1⟩ := bits_at hf i (by omega)
  obtain ⟨g, e2, h2⟩ := bits_at hf (b.X.toNat + j) (by omega)
  exact ⟨f, g, e1, e2, h1, h2⟩
theorem flip_four {b : BoxD} {fl : List Int} (hb : boxB b = true) (hf : bitsB fl (b.X + b.Y) = true) (i j : Nat) (hi : (i : Int) < b.X) (hj : (j : Int) < b.Y) : FourN (flipN b fl) b.Whole i j := by
  obtain ⟨f, g, e1, e2, h1, h2⟩ := flip_two hb hf i j hi hj
  have h := boxB_four hb i j hi hj
  have e : ∀ p q : Nat, flipN b fl i j p q = numB b i j (xorN p f) (xorN q g) := fun p q => numB_flipN i j p q f g e1 e2
  have e00 := e 0 0
  have e01 := e 0 1
  have e10 := e 1 0
  have e11 := e 1 1
  rw [show ((0 : Nat) : Int) = 0 from rfl] at *
  rw [show ((1 : Nat) : Int) = 1 from rfl] at *
  unfold FourN at *
  rw [e00, e01, e10, e11]
  rcases nat2 h1 with rfl | rfl <;> rcases nat2 h2 with rfl | rfl <;> simp only [show xorN 0 0 = 0 from rfl, show xorN 0 1 = 1 from rfl, show xorN 1 0 = 1 from rfl, show xorN 1 1 = 0 from rfl, show ((0 : Nat) : Int) = 0 from rfl, show ((1 : Nat) : Int) = 1 from rfl] <;> omega
theorem flip_box {b : BoxD} {fl : List Int} (hb : boxB b = true) (hf : bitsB fl (b.X + b.Y) = true) : boxB (flipBL b fl) = true := by
  obtain ⟨hx, hy⟩ := (boxB_iff.1 hb).1
  unfold flipBL
  rw [boxOf_boxB _ _ _ _ (sizesB_iff.2 ⟨hx, hy⟩) (fun i j hi hj => flip_four hb hf i j hi hj)]
  exact boxB_in hb
theorem numB_flip {b : BoxD} {fl : List Int} (i j p q f g : Nat) (hi : (i : Int) < b.X) (hj : (j : Int) < b.Y) (hp : p < 2) (hq : q < 2) (e1 : fl.getD i 0 = (f : Int)) (e2 : fl.getD (b.X.toNat + j) 0 = (g : Int)) :
    numB (flipBL b fl) i j p q = numB b i j (xorN p f) (xorN q g) := by
  unfold flipBL
  rw [numB_boxOf _ _ _ _ i j p q hi hj hp hq]
  exact numB_flipN i j p q f g e1 e2
theorem flip_flip {b : BoxD} {fl : List Int} (hb : boxB b = true) (hf : bitsB fl (b.X + b.Y) = true) : flipBL (flipBL b fl) fl = b := by
  refine box_ext (flip_box (b := flipBL b fl) (flip_box hb hf) hf) hb rfl rfl rfl fun i j p q hi hj hp hq => ?_
  obtain ⟨f, g, e1, e2, h1, h2⟩ := flip_two hb hf i j hi hj
  rw [numB_flip (b := flipBL b fl) i j p q f g hi hj hp hq e1 e2, numB_flip i j _ _ f g hi hj (xorN_lt _ _) (xorN_lt _ _) e1 e2, xorN_xorN p f hp h1, xorN_xorN q g hq h2]

/-! ### The greatest triple -/
def ords : List (List Int) := [[0, 1, 2], [0, 2, 1], [1, 0, 2], [1, 2, 0], [2, 0, 1], [2, 1, 0]]
def ordAt (i : Nat) : List Int := ords.getD i []
theorem ordAt_ok (i : Nat) (h : i < 6) : (ordAt i).length = 3 ∧ allIn (ordAt i) 0 2 = true := by
  have : i = 0 ∨ i = 1 ∨ i = 2 ∨ i = 3 ∨ i = 4 ∨ i = 5 := by omega
  rcases this with rfl | rfl | rfl | rfl | rfl | rfl <;> decide
end Go.Proofs.Ytnmnmnpeoiblhaa
set_option linter.unusedSimpArgs false
set_option linter.unusedVariables false
namespace Go.Proofs.Ytnmnmnpeoiblhaa
open Go.RowKit

/-- The sum for the answer 1 of a player, at the questions x and y. -/
def oneB (b : BoxD) (pl : Nat) (x y : Nat) : Int := if pl = 0 then numB b x y 1 0 + numB b x y 1 1 else numB b x y 0 1 + numB b x y 1 1
theorem oneB_0 (b : BoxD) (x y : Nat) : oneB b 0 x y = numB b x y 1 0 + numB b x y 1 1 := rfl
theorem oneB_1 (b : BoxD) (x y : Nat) : oneB b 1 x y = numB b x y 0 1 + numB b x y 1 1 := rfl
theorem oneB_bd {b : BoxD} (hb : boxB b = true) (pl x y : Nat) (hx : (x : Int) < b.X) (hy : (y : Int) < b.Y) : 0 ≤ oneB b pl x y ∧ oneB b pl x y ≤ b.Whole := by
  obtain ⟨h0, h1, h2, h3, h4⟩ := boxB_four hb x y hx hy
  unfold oneB
  split <;> omega

set_option maxHeartbeats 800000 in
theorem l2One0_any (b5 o5 c5 : Nat) (p q r s : Int) (hr : 0 ≤ r ∧ r ≤ 1000) (hs : 0 ≤ s ∧ s ≤ 1000) (w : World)
    (h : w.cell? ⟨b5, o5, none⟩ = some (.int .i64 p) ∧ w.cell? ⟨b5, o5 + 1, none⟩ = some (.int .i64 q) ∧ w.cell? ⟨b5, o5 + 2, none⟩ = some (.int .i64 r) ∧ w.cell? ⟨b5, o5 + 3, none⟩ = some (.int .i64 s)) :
    Calls Try.prog 77 #[.slice (some ⟨b5, o5, none⟩) 4 c5, .int .i64 0] w fun e w' => e = .returned (.int .i64 (r + s)) ∧ Drw w w' := by
  obtain ⟨k0, k1, k2, k3⟩ := h
  have hw := wrap_in (r + s) (by omega) (by omega)
  clear hr hs
  go_enter Try.func77, Try.ntmps77
  go_wp2
  go_quiet (fail)
  go_wp2
  go_ret
  exact ⟨rfl, Drw.mk _ _⟩
set_option maxHeartbeats 800000 in
theorem l2One1_any (b5 o5 c5 : Nat) (p q r s : Int) (hr : 0 ≤ q ∧ q ≤ 1000) (hs : 0 ≤ s ∧ s ≤ 1000) (w : World)
    (h : w.cell? ⟨b5, o5, none⟩ = some (.int .i64 p) ∧ w.cell? ⟨b5, o5 + 1, none⟩ = some (.int .i64 q) ∧ w.cell? ⟨b5, o5 + 2, none⟩ = some (.int .i64 r) ∧ w.cell? ⟨b5, o5 + 3, none⟩ = some (.int .i64 s)) :
    Calls Try.prog 77 #[.slice (some ⟨b5, o5, none⟩) 4 c5, .int .i64 1] w fun e w' => e = .returned (.int .i64 (q + s)) ∧ Drw w w' := by
  obtain ⟨k0, k1, k2, k3⟩ := h
  have hw := wrap_in (q + s) (by omega) (by omega)
  clear hr hs
  go_enter Try.func77, Try.ntmps77
  go_wp2
  go_quiet (fail)
  go_wp2
  go_ret
  exact ⟨rfl, Drw.mk _ _⟩
theorem at_lit (v : Value) (b : BoxD) (hb : boxB b = true) (i j a c : Nat) (a' c' : Int) (ea : (a : Int) = a') (ec : (c : Int) = c') (hi : (i : Int) < b.X) (hj : (j : Int) < b.Y) (ha : a < 2) (hc : c < 2) (w : World) (h : RdII w v b.Rows) :
    Calls Try.prog 103 #[.agg #[.int .i64 b.X, .int .i64 b.Y, .int .i64 b.Whole, v], .int .i64 i, .int .i64 j, .int .i64 a', .int .i64 c'] w fun e w' => e = .returned (.int .i64 (numB b i j a' c')) ∧ Below w.heap.size w w' := by
  subst ea ec
  exact at_any v b hb i j a c hi hj ha hc w h
set_option maxHeartbeats 1600000 in
theorem ones0_any (v : Value) (b : BoxD) (hb : boxB b = true) (x y : Nat) (hx : (x : Int) < b.X) (hy : (y : Int) < b.Y) (w : World) (h : RdII w v b.Rows) :
    Calls Try.prog 74 #[.agg #[.int .i64 b.X, .int .i64 b.Y, .int .i64 b.Whole, v], .int .i64 0, .int .i64 x, .int .i64 y] w fun e w' => e = .returned (.int .i64 (oneB b 0 x y)) ∧ Below w.heap.size w w' := by
  have n0 := numB_bound hb x y hx hy 1 0 (by omega) (by omega)
  have n1 := numB_bound hb x y hx hy 1 1 (by omega) (by omega)
  have hwb := (boxB_iff.1 hb).2.1
  have hw := wrap_in (numB b x y ((1 : Nat) : Int) ((0 : Nat) : Int) + numB b x y ((1 : Nat) : Int) ((1 : Nat) : Int)) (by omega) (by omega)
  have hw2 : IntKind.i64.wrap (numB b x y 1 0 + numB b x y 1 1) = numB b x y 1 0 + numB b x y 1 1 := hw
  rw [oneB_0]
  have A0 : BoxAt (w.alloc (.cells #[.int .i64 b.X, .int .i64 b.Y, .int .i64 b.Whole, v] 26)) w.heap.size b.X b.Y b.Whole v := BoxAt.top rfl
  have B0 : Below w.heap.size w (w.alloc (.cells #[.int .i64 b.X, .int .i64 b.Y, .int .i64 b.Whole, v] 26)) := (by repeat' (first | with_reducible exact Below.refl _ _ | with_reducible assumption | with_reducible apply Below.alloc | with_reducible apply Below.setCell | with_reducible apply Below.drew | exact Nat.le_refl _ | omega | (simp only [World.size_alloc, World.size_setCell]; omega)))
  clear n0 n1 hwb hw
  go_enter Try.func74, Try.ntmps74
  go_wp2
  generalize hw1 : w.alloc (.cells #[.int .i64 b.X, .int .i64 b.Y, .int .i64 b.Whole, v] 26) = w1 at *
  have ra := h.kept (Nat.le_refl _) B0
  go_region_held3 (fun w' => Below w1.heap.size w1 w' ∧ w'.cell? ⟨w.heap.size, 0, none⟩ = some (.int .i64 b.X) ∧ w'.cell? ⟨w.heap.size, 1, none⟩ = some (.int .i64 b.Y) ∧ w'.cell? ⟨w.heap.size, 2, none⟩ = some (.int .i64 b.Whole) ∧ w'.cell? ⟨w.heap.size, 3, none⟩ = some v)
    (first | exact held1 (Below.refl _ _).drew A0 | exact held1 hBn A0)
    (first
      | (go_at_call 103; have hS := And.left (by assumption : Below w1.heap.size w1 _ ∧ _); (with_reducible refine (at_lit v b hb x y 1 0 1 0 rfl rfl hx hy (by omega) (by omega) _ (ra.kept (Nat.le_refl _) hS)).mono ?_); rintro e w2 ⟨rfl, b2⟩; have hBn : Below w1.heap.size w1 w2 := hS.trans (b2.mono hS.size))
      | (go_at_call 103; have hS := And.left (by assumption : Below w1.heap.size w1 _ ∧ _); (with_reducible refine (at_lit v b hb x y 1 1 1 1 rfl rfl hx hy (by omega) (by omega) _ (ra.kept (Nat.le_refl _) hS)).mono ?_); rintro e w2 ⟨rfl, b2⟩; have hBn : Below w1.heap.size w1 w2 := hS.trans (b2.mono hS.size)))
  all_goals
    go_wp2
    go_ret
    exact ⟨rfl, B0.trans (hBn.mono B0.size)⟩
set_option maxHeartbeats 1600000 in
theorem ones1_any (v : Value) (b : BoxD) (hb : boxB b = true) (x y : Nat) (hx : (x : Int) < b.X) (hy : (y : Int) < b.Y) (w : World) (h : RdII w v b.Rows) :
    Calls Try.prog 74 #[.agg #[.int .i64 b.X, .int .i64 b.Y, .int .i64 b.Whole, v], .int .i64 1, .int .i64 y, .int .i64 x] w fun e w' => e = .returned (.int .i64 (oneB b 1 x y)) ∧ Below w.heap.size w w' := by
  have n0 := numB_bound hb x y hx hy 0 1 (by omega) (by omega)
  have n1 := numB_bound hb x y hx hy 1 1 (by omega) (by omega)
  have hwb := (boxB_iff.1 hb).2.1
  have hw := wrap_in (numB b x y ((0 : Nat) : Int) ((1 : Nat) : Int) + numB b x y ((1 : Nat) : Int) ((1 : Nat) : Int)) (by omega) (by omega)
  have hw2 : IntKind.i64.wrap (numB b x y 0 1 + numB b x y 1 1) = numB b x y 0 1 + numB b x y 1 1 := hw
  rw [oneB_1]
  have A0 : BoxAt (w.alloc (.cells #[.int .i64 b.X, .int .i64 b.Y, .int .i64 b.Whole, v] 26)) w.heap.size b.X b.Y b.Whole v := BoxAt.top rfl
  have B0 : Below w.heap.size w (w.alloc (.cells #[.int .i64 b.X, .int .i64 b.Y, .int .i64 b.Whole, v] 26)) := (by repeat' (first | with_reducible exact Below.refl _ _ | with_reducible assumption | with_reducible apply Below.alloc | with_reducible apply Below.setCell | with_reducible apply Below.drew | exact Nat.le_refl _ | omega | (simp only [World.size_alloc, World.size_setCell]; omega)))
  clear n0 n1 hwb hw
  go_enter Try.func74, Try.ntmps74
  go_wp2
  generalize hw1 : w.alloc (.cells #[.int .i64 b.X, .int .i64 b.Y, .int .i64 b.Whole, v] 26) = w1 at *
  have ra := h.kept (Nat.le_refl _) B0
  go_region_held3 (fun w' => Below w1.heap.size w1 w' ∧ w'.cell? ⟨w.heap.size, 0, none⟩ = some (.int .i64 b.X) ∧ w'.cell? ⟨w.heap.size, 1, none⟩ = some (.int .i64 b.Y) ∧ w'.cell? ⟨w.heap.size, 2, none⟩ = some (.int .i64 b.Whole) ∧ w'.cell? ⟨w.heap.size, 3, none⟩ = some v)
    (first | exact held1 (Below.refl _ _).drew A0 | exact held1 hBn A0)
    (first
      | (go_at_call 103; have hS := And.left (by assumption : Below w1.heap.size w1 _ ∧ _); (with_reducible refine (at_lit v b hb x y 0 1 0 1 rfl rfl hx hy (by omega) (by omega) _ (ra.kept (Nat.le_refl _) hS)).mono ?_); rintro e w2 ⟨rfl, b2⟩; have hBn : Below w1.heap.size w1 w2 := hS.trans (b2.mono hS.size))
      | (go_at_call 103; have hS := And.left (by assumption : Below w1.heap.size w1 _ ∧ _); (with_reducible refine (at_lit v b hb x y 1 1 1 1 rfl rfl hx hy (by omega) (by omega) _ (ra.kept (Nat.le_refl _) hS)).mono ?_); rintro e w2 ⟨rfl, b2⟩; have hBn : Below w1.heap.size w1 w2 := hS.trans (b2.mono hS.size)))
  all_goals
    go_wp2
    go_ret
    exact ⟨rfl, B0.trans (hBn.mono B0.size)⟩
end Go.Proofs.Ytnmnmnpeoiblhaa
