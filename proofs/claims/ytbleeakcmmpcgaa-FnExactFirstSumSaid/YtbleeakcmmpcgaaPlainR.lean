/- The greatest sum of a box, and the first that has it. No program in sight. -/
import Derived.Test.YtbleeakcmmpcgaaPairs
import Derived.Test.YtbleeakcmmpcgaaFnSumOf
set_option linter.unusedSimpArgs false
set_option linter.unusedVariables false
namespace Go.Proofs.Ytbleeakcmmpcgaa

structure Gr where
  best : Int
  F0 : Nat
  F1 : Nat
  S0 : Nat
  S1 : Nat
  m : Nat
  there : Bool
def Gr.zero : Gr := ⟨0, 0, 0, 0, 0, 0, false⟩
def absI (n : Int) : Int := if n < -n then -n else n
def grStep (b : BoxD) (p q : Nat × Nat) (g : Gr) (m : Nat) : Gr :=
  if (!g.there || decide (g.best < absI (sumB b p.1 p.2 q.1 q.2 m))) = true then ⟨absI (sumB b p.1 p.2 q.1 q.2 m), p.1, p.2, q.1, q.2, m, true⟩ else g
def gr4 (b : BoxD) (p q : Nat × Nat) (g : Gr) : Nat → Gr
  | 0 => g
  | k + 1 => grStep b p q (gr4 b p q g k) k
def grQ (b : BoxD) (p : Nat × Nat) (Q : List (Nat × Nat)) (g : Gr) : Nat → Gr
  | 0 => g
  | j + 1 => gr4 b p (Q.getD j (0, 0)) (grQ b p Q g j) 4
def grP (b : BoxD) (P Q : List (Nat × Nat)) : Nat → Gr
  | 0 => Gr.zero
  | i + 1 => grQ b (P.getD i (0, 0)) Q (grP b P Q i) Q.length
def great (b : BoxD) : Gr := grP b (pairsTo b.X.toNat b.X.toNat) (pairsTo b.Y.toNat b.Y.toNat) (pairsTo b.X.toNat b.X.toNat).length

theorem agB_bd {b : BoxD} (hb : boxB b = true) (i j : Nat) (hi : (i : Int) < b.X) (hj : (j : Int) < b.Y) : -2000 ≤ agB b i j ∧ agB b i j ≤ 2000 := by
  have hw := (boxB_iff.1 hb).2.1
  have h1 := numB_bound hb i j hi hj 0 0 (by omega) (by omega)
  have h2 := numB_bound hb i j hi hj 0 1 (by omega) (by omega)
  have h3 := numB_bound hb i j hi hj 1 0 (by omega) (by omega)
  have h4 := numB_bound hb i j hi hj 1 1 (by omega) (by omega)
  rw [show ((0 : Nat) : Int) = 0 from rfl] at *
  rw [show ((1 : Nat) : Int) = 1 from rfl] at *
  unfold agB
  omega
theorem sumB_bd {b : BoxD} (hb : boxB b = true) {F0 F1 S0 S1 : Nat} (m : Int) (hF : F0 < F1 ∧ (F1 : Int) < b.X) (hS : S0 < S1 ∧ (S1 : Int) < b.Y) : -8000 ≤ sumB b F0 F1 S0 S1 m ∧ sumB b F0 F1 S0 S1 m ≤ 8000 := by
  have key : ∀ k, -2000 ≤ agK b F0 F1 S0 S1 k ∧ agK b F0 F1 S0 S1 k ≤ 2000 := fun k => by
    unfold agK
    split <;> split <;> exact agB_bd hb _ _ (by omega) (by omega)
  have step : ∀ k : Nat, -(2000 * (k : Int)) ≤ sumUp (agK b F0 F1 S0 S1) m k ∧ sumUp (agK b F0 F1 S0 S1) m k ≤ 2000 * (k : Int) := by
    intro k
    induction k with
    | zero => exact ⟨Int.le_refl _, Int.le_refl _⟩
    | succ k ih =>
      have := key k
      unfold sumUp
      split <;> omega
  have := step 4
  unfold sumB
  omega
theorem absI_bd {n : Int} (h : -8000 ≤ n ∧ n ≤ 8000) : 0 ≤ absI n ∧ absI n ≤ 8000 := by unfold absI; split <;> omega

/-- What is known of a state: its greatest is small, its questions fit. -/
structure GrOk (b : BoxD) (g : Gr) : Prop where
  b0 : 0 ≤ g.best
  b1 : g.best ≤ 8000
  m3 : g.m ≤ 3
  f1 : g.F0 ≤ 3 ∧ g.F1 ≤ 3
  s1 : g.S0 ≤ 3 ∧ g.S1 ≤ 3
theorem GrOk.zero (b : BoxD) : GrOk b Gr.zero := ⟨by decide, by decide, by decide, by decide, by decide⟩
theorem GrOk.step {b : BoxD} {g : Gr} (h : GrOk b g) (hb : boxB b = true) {p q : Nat × Nat} {k : Nat} (hk : k ≤ 3) (hF : p.1 < p.2 ∧ (p.2 : Int) < b.X) (hS : q.1 < q.2 ∧ (q.2 : Int) < b.Y) : GrOk b (grStep b p q g k) := by
  have hx := (boxB_iff.1 hb).1
  have hs := absI_bd (sumB_bd hb (k : Int) hF hS)
  unfold grStep
  split
  · exact ⟨hs.1, hs.2, hk, ⟨by show p.1 ≤ 3; omega, by show p.2 ≤ 3; omega⟩, ⟨by show q.1 ≤ 3; omega, by show q.2 ≤ 3; omega⟩⟩
  · exact h
theorem grStep_yes {b : BoxD} {p q : Nat × Nat} {g : Gr} {m : Nat} {n c : Int} (hn : sumB b p.1 p.2 q.1 q.2 m = n) (hc : absI n = c) (h : g.there = false ∨ g.best < c) : grStep b p q g m = ⟨c, p.1, p.2, q.1, q.2, m, true⟩ := by
  subst hn hc
  unfold grStep
  rw [if_pos]
  rcases h with h | h <;> simp [h]
theorem grStep_no {b : BoxD} {p q : Nat × Nat} {g : Gr} {m : Nat} {n c : Int} (hn : sumB b p.1 p.2 q.1 q.2 m = n) (hc : absI n = c) (h : g.there = true) (h2 : ¬ g.best < c) : grStep b p q g m = g := by
  subst hn hc
  unfold grStep
  rw [if_neg]
  simp [h]; omega
theorem pair_fits {n : Int} {p : Nat × Nat} (hn : 1 ≤ n) (h : p ∈ pairsTo n.toNat n.toNat) : p.1 < p.2 ∧ (p.2 : Int) < n := by
  have := pairsTo_mem (Nat.le_refl _) h
  omega
end Go.Proofs.Ytbleeakcmmpcgaa
