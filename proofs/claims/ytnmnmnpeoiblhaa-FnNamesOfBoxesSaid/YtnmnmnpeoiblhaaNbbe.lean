/- The greatest sum of a box, and the first that has it. No program in sight. Boxes by other names: the law's own facts. No program in sight. What a law's row hands to its walk: arguments opened, and the row closed from the walk's contract. A law's bytes, read out of the row's data. -/
import Derived.Test.YtnmnmnpeoiblhaaNbbd
import Derived.Test.YtnmnmnpeoiblhaaNbay
import Derived.Test.YtnmnmnpeoiblhaaNbaa
import Derived.Test.YtnmnmnpeoiblhaaNbal
import Derived.Test.YtnmnmnpeoiblhaaRows
import Derived.Deep.Matrix
set_option linter.unusedSimpArgs false
set_option linter.unusedVariables false
namespace Go.Proofs.Ytnmnmnpeoiblhaa

structure Gr where
  best : Int
  F0 : Nat
  F1 : Nat
  S0 : Nat
  S1 : Nat
  m : Nat
  there : Bool
def Gr.zero : Gr := ⟨0, 0, 0, 0, 0, 0, false⟩
def absI (n : Int) : Int := if n < -n then -n else n
def grStep (b : BoxD) (p q : Nat × Nat) (g : Gr) (m : Nat) : Gr :=
  if (!g.there || decide (g.best < absI (sumB b p.1 p.2 q.1 q.2 m))) = true then ⟨absI (sumB b p.1 p.2 q.1 q.2 m), p.1, p.2, q.1, q.2, m, true⟩ else g
def gr4 (b : BoxD) (p q : Nat × Nat) (g : Gr) : Nat → Gr
  | 0 => g
  | k + 1 => grStep b p q (gr4 b p q g k) k
def grQ (b : BoxD) (p : Nat × Nat) (Q : List (Nat × Nat)) (g : Gr) : Nat → Gr
  | 0 => g
  | j + 1 => gr4 b p (Q.getD j (0, 0)) (grQ b p Q g j) 4
def grP (b : BoxD) (P Q : List (Nat × Nat)) : Nat → Gr
  | 0 => Gr.zero
  | i + 1 => grQ b (P.getD i (0, 0)) Q (grP b P Q i) Q.length
def great (b : BoxD) : Gr := grP b (pairsTo b.X.toNat b.X.toNat) (pairsTo b.Y.toNat b.Y.toNat) (pairsTo b.X.toNat b.X.toNat).length

theorem agB_bd {b : BoxD} (hb : boxB b = true) (i j : Nat) (hi : (i : Int) < b.X) (hj : (j : Int) < b.Y) : -2000 ≤ agB b i j ∧ agB b i j ≤ 2000 := by
  have hw := (boxB_iff.1 hb).2.1
  have h1 := numB_bound hb i j hi hj 0 0 (by omega) (by omega)
  have h2 := numB_bound hb i j hi hj 0 1 (by omega) (by omega)
  have h3 := numB_bound hb i j hi hj 1 0 (by omega) (by omega)
  have h4 := numB_bound hb i j hi hj 1 1 (by omega) (by omega)
  rw [show ((0 : Nat) : Int) = 0 from rfl] at *
  rw [show ((1 : Nat) : Int) = 1 from rfl] at *
  unfold agB
  omega
theorem sumB_bd {b : BoxD} (hb : boxB b = true) {F0 F1 S0 S1 : Nat} (m : Int) (hF : F0 < F1 ∧ (F1 : Int) < b.X) (hS : S0 < S1 ∧ (S1 : Int) < b.Y) : -8000 ≤ sumB b F0 F1 S0 S1 m ∧ sumB b F0 F1 S0 S1 m ≤ 8000 := by
  have key : ∀ k, -2000 ≤ agK b F0 F1 S0 S1 k ∧ agK b F0 F1 S0 S1 k ≤ 2000 := fun k => by
    unfold agK
    split <;> split <;> exact agB_bd hb _ _ (by omega) (by omega)
  have step : ∀ k : Nat, -(2000 * (k : Int)) ≤ sumUp (agK b F0 F1 S0 S1) m k ∧ sumUp (agK b F0 F1 S0 S1) m k ≤ 2000 * (k : Int) := by
    intro k
    induction k with
    | zero => exact ⟨Int.le_refl _, Int.le_refl _⟩
    | succ k ih =>
      have := key k
      unfold sumUp
      split <;> omega
  have := step 4
  unfold sumB
  omega
theorem absI_bd {n : Int} (h : -8000 ≤ n ∧ n ≤ 8000) : 0 ≤ absI n ∧ absI n ≤ 8000 := by unfold absI; split <;> omega

/-- What is known of a state: its greatest is small, its questions fit. -/
structure GrOk (b : BoxD) (g : Gr) : Prop where
  b0 : 0 ≤ g.best
  b1 : g.best ≤ 8000
  m3 : g.m ≤ 3
  f1 : g.F0 ≤ 3 ∧ g.F1 ≤ 3
  s1 : g.S0 ≤ 3 ∧ g.S1 ≤ 3
theorem GrOk.zero (b : BoxD) : GrOk b Gr.zero := ⟨by decide, by decide, by decide, by decide, by decide⟩
theorem GrOk.step {b : BoxD} {g : Gr} (h : GrOk b g) (hb : boxB b = true) {p q : Nat × Nat} {k : Nat} (hk : k ≤ 3) (hF : p.1 < p.2 ∧ (p.2 : Int) < b.X) (hS : q.1 < q.2 ∧ (q.2 : Int) < b.Y) : GrOk b (grStep b p q g k) := by
  have hx := (boxB_iff.1 hb).1
  have hs := absI_bd (sumB_bd hb (k : Int) hF hS)
  unfold grStep
  split
  · exact ⟨hs.1, hs.2, hk, ⟨by show p.1 ≤ 3; omega, by show p.2 ≤ 3; omega⟩, ⟨by show q.1 ≤ 3; omega, by show q.2 ≤ 3; omega⟩⟩
  · exact h
theorem grStep_yes {b : BoxD} {p q : Nat × Nat} {g : Gr} {m : Nat} {n c : Int} (hn : sumB b p.1 p.2 q.1 q.2 m = n) (hc : absI n = c) (h : g.there = false ∨ g.best < c) : grStep b p q g m = ⟨c, p.1, p.2, q.1, q.2, m, true⟩ := by
  subst hn hc
  unfold grStep
  rw [if_pos]
  rcases h with h | h <;> simp [h]
theorem grStep_no {b : BoxD} {p q : Nat × Nat} {g : Gr} {m : Nat} {n c : Int} (hn : sumB b p.1 p.2 q.1 q.2 m = n) (hc : absI n = c) (h : g.there = true) (h2 : ¬ g.best < c) : grStep b p q g m = g := by
  subst hn hc
  unfold grStep
  rw [if_neg]
  simp [h]; omega
theorem pair_fits {n : Int} {p : Nat × Nat} (hn : 1 ≤ n) (h : p ∈ pairsTo n.toNat n.toNat) : p.1 < p.2 ∧ (p.2 : Int) < n := by
  have := pairsTo_mem (Nat.le_refl _) h
  omega
end Go.Proofs.Ytnmnmnpeoiblhaa
set_option linter.unusedSimpArgs false
set_option linter.unusedVariables false
namespace Go.Proofs.Ytnmnmnpeoiblhaa

theorem names_one {b : BoxD} (h : boxB b = true) : boxB (swapD b) = true ∧ swapD (swapD b) = b := by
  have e : swapD b = swapL b := by unfold swapD; rw [if_pos h]
  rw [e]
  refine ⟨swapL_box h, ?_⟩
  unfold swapD
  rw [if_pos (swapL_box h), swap_swap h]
theorem names_two {b : BoxD} {fs ss : List Int} (h : askOk b fs ss = true) : boxB b = true ∧ boxB (askD b fs ss) = true ∧ (isQuietD b = true → isQuietD (askD b fs ss) = true) := by
  have e : askD b fs ss = againL b fs ss := by unfold askD; rw [if_pos h]
  obtain ⟨h1, h2⟩ : boxB b = true ∧ againB b fs ss = true := by unfold askOk at h; simpa using h
  rw [e]
  have h3 := again_box h1 h2
  refine ⟨h1, h3, fun hq => ?_⟩
  have hq' : quietB b = true := by unfold isQuietD at hq; rw [h1] at hq; simpa using hq
  unfold isQuietD
  rw [h3, again_quiet h1 h2 hq']
  rfl
theorem names_three {x y : Int} {ps fs : List Int} (h : flipOk x y ps fs = true) : playOk x y ps 2 = true ∧ flipBOk (playBoxD x y ps 2) fs = true ∧ playOfOk (flipBD (playBoxD x y ps 2) fs) = true ∧ playOfD (flipBD (playBoxD x y ps 2) fs) = flipD x y ps fs := by
  obtain ⟨h1, h2, h3⟩ : sizesB x y = true ∧ bitsB ps (x + y) = true ∧ bitsB fs (x + y) = true := by unfold flipOk at h; simpa using h
  have e1 : playOk x y ps 2 = true := by unfold playOk; rw [h1, h2]; decide
  have e2 : playBoxD x y ps 2 = boxOf x y 2 (playN x ps 2) := by unfold playBoxD; rw [if_pos e1]
  have e3 : flipBOk (boxOf x y 2 (playN x ps 2)) fs = true := by
    unfold flipBOk
    rw [playZ_box h1 h2 (by decide) (by decide)]
    exact h3
  have e4 : flipBD (boxOf x y 2 (playN x ps 2)) fs = boxOf x y 2 (playN x (flipL ps fs) 2) := by
    unfold flipBD
    rw [if_pos e3, flip_playbox h1 h2 h3 (by decide) (by decide)]
  have e5 : flipD x y ps fs = flipL ps fs := by unfold flipD; rw [if_pos h]
  obtain ⟨p1, p2⟩ := playOf_box (wh := 2) h1 (flipL_bits h2 h3) (by decide) (by decide)
  rw [e2]
  refine ⟨e1, e3, ?_, ?_⟩
  · rw [e4]; exact p1
  · rw [e4, p2, e5]
theorem names_four {b : BoxD} {fl : List Int} (h : flipBOk b fl = true) : boxB b = true ∧ boxB (flipBD b fl) = true ∧ flipBOk (flipBD b fl) fl = true ∧ flipBD (flipBD b fl) fl = b := by
  obtain ⟨h1, h2⟩ : boxB b = true ∧ bitsB fl (b.X + b.Y) = true := by unfold flipBOk at h; simpa using h
  have e : flipBD b fl = flipBL b fl := by unfold flipBD; rw [if_pos h]
  have h3 := flip_box h1 h2
  have h4 : flipBOk (flipBL b fl) fl = true := by
    unfold flipBOk
    rw [h3]
    exact h2
  rw [e]
  refine ⟨h1, h3, h4, ?_⟩
  unfold flipBD
  rw [if_pos h4, flip_flip h1 h2]
theorem tdiv_nat (k y : Nat) : (k : Int).tdiv (y : Int) = ((k / y : Nat) : Int) := by
  rw [Int.tdiv_eq_ediv_of_nonneg (by omega)]
  exact (Int.natCast_ediv k y).symm
theorem tmod_nat (k y : Nat) : (k : Int).tmod (y : Int) = ((k % y : Nat) : Int) := by
  rw [Int.tmod_eq_emod_of_nonneg (by omega)]
  exact (Int.natCast_emod k y).symm
/-- The numbers of one round of the law's loop. -/
theorem names_round {b : BoxD} {fl : List Int} (h : flipBOk b fl = true) : ∃ X Y L N : Nat, b.X = (X : Int) ∧ b.Y = (Y : Int) ∧ 1 ≤ X ∧ X ≤ 3 ∧ 1 ≤ Y ∧ Y ≤ 3 ∧ (agreeD b).length = L ∧ (agreeD (flipBD b fl)).length = L ∧ L ≤ 9 ∧ fl.length = N ∧ N ≤ 6 ∧
    ∀ k, k < L → ∃ (i j f g s : Nat) (m z : Int), (k : Int).tdiv (Y : Int) = (i : Int) ∧ (k : Int).tmod (Y : Int) = (j : Int) ∧ i < N ∧ X + j < N ∧ f < 2 ∧ g < 2 ∧ s < 2 ∧ ((f : Int) + (g : Int)).tmod 2 = (s : Int) ∧ fl[i]? = some (f : Int) ∧ fl[X + j]? = some (g : Int) ∧ (agreeD b)[k]? = some m ∧ (agreeD (flipBD b fl))[k]? = some z ∧ (1 - 2 * (s : Int)) * m = z ∧ -2000 ≤ z ∧ z ≤ 2000 := by
  obtain ⟨hb, hbf, _, _⟩ := names_four h
  obtain ⟨_, hf⟩ : boxB b = true ∧ bitsB fl (b.X + b.Y) = true := by unfold flipBOk at h; simpa using h
  have e : flipBD b fl = flipBL b fl := by unfold flipBD; rw [if_pos h]
  have hs := boxB_iff.1 hb
  have hl := (bits_iff.1 hf).2
  obtain ⟨X, hX⟩ := Int.eq_ofNat_of_zero_le (show 0 ≤ b.X by omega)
  obtain ⟨Y, hY⟩ := Int.eq_ofNat_of_zero_le (show 0 ≤ b.Y by omega)
  have tX : b.X.toNat = X := by omega
  have tY : b.Y.toNat = Y := by omega
  have n1 : (agreeD b).length = X * Y := by rw [agree_len hb, tX, tY]
  have n2 : (agreeD (flipBD b fl)).length = X * Y := by
    rw [agree_len hbf, e]
    show b.X.toNat * b.Y.toNat = _
    rw [tX, tY]
  refine ⟨X, Y, X * Y, X + Y, hX, hY, by omega, by omega, by omega, by omega, n1, n2, Nat.le_trans (Nat.mul_le_mul (show X ≤ 3 by omega) (show Y ≤ 3 by omega)) (by decide), by omega, by omega, fun k hk => ?_⟩
  have hY0 : 0 < Y := by omega
  have hi : k / Y < X := Nat.div_lt_of_lt_mul (by rw [Nat.mul_comm]; exact hk)
  have hj : k % Y < Y := Nat.mod_lt _ hY0
  obtain ⟨f, ef, f2⟩ := bits_at hf (k / Y) (by omega)
  obtain ⟨g, eg, g2⟩ := bits_at hf (b.X.toNat + k % Y) (by omega)
  have hget : ∀ (i n : Nat), i < fl.length → fl.getD i 0 = (n : Int) → fl[i]? = some (n : Int) := fun i n hi h => by
    have := List.getElem?_eq_getElem hi
    rw [List.getD_eq_getElem?_getD, this, Option.getD_some] at h
    rw [this, h]
  have a1 := agree_at hb k (by rw [tX, tY]; exact hk)
  have a2 := agree_at hbf k (by rw [e]; show k < b.X.toNat * b.Y.toNat; rw [tX, tY]; exact hk)
  have hxx : (flipBL b fl).Y.toNat = Y := tY
  rw [tY] at a1
  rw [e, hxx, agB_flip hb hf (k / Y) (k % Y) f g (by omega) (by omega) ef eg f2 g2] at a2
  obtain ⟨q1, q2⟩ := agB_bd hb (k / Y) (k % Y) (by omega) (by omega)
  refine ⟨k / Y, k % Y, f, g, (f + g) % 2, agB b (k / Y) (k % Y), _, tdiv_nat k Y, tmod_nat k Y, by omega, by omega, f2, g2, Nat.mod_lt _ (by decide), ?_, hget _ _ (by omega) ef, by rw [tX] at eg; exact hget _ _ (by omega) eg, a1, by rw [e]; exact a2, rfl, ?_⟩
  · have := tmod_nat (f + g) 2
    simpa using this
  · rcases nat2 f2 with rfl | rfl <;> rcases nat2 g2 with rfl | rfl <;> simp [flSign] <;> omega
end Go.Proofs.Ytnmnmnpeoiblhaa
set_option linter.unusedSimpArgs false
set_option linter.unusedVariables false
namespace Go.Proofs.Ytnmnmnpeoiblhaa
open Go.ChangeShapes Go.WideShapes Go.ChangeAt Go.RowKit
open Go.ChangeMaps (open_string shut_string)
open Go.Deep

theorem Try.own : ownKnob Try.prog.godebug = none := by kernel_rfl
theorem Try.laidOut : laidOutB Try.prog = true := by kernel_rfl

theorem Try.cellsInt : Try.prog.cellsOf 3 = 1 := by kernel_rfl
section
variable {H : Type} {enc : TypeId × Value → H} {P : Program} {w : World}

theorem rdI_of {t e : TypeId} {v : Value} {r : Reach} {b0 : Nat} {d : DataW H} {p : List MemPlace} (ht : P.underlying t = some (.slice e)) (he : P.underlying e = some (.int .i64)) (hc : P.cellsOf e = 1)
    (hval : Value.okWide P w r b0 t v) (h : DataW.Trod enc P w 0 (fun _ => true) true t v d p) : ∃ xs, RdI w v xs := by
  obtain ⟨a0, len, cap, rfl⟩ := okWide_slice ht hval
  obtain ⟨fuel, hf⟩ := h
  rcases open_ints ht he hc hf with ⟨hcs, hx⟩ | ⟨a, len', cap', zs, hcs, _, hl, hm, hz, hx, hcell, hwz⟩
  · simp [Value.cells] at hcs
    obtain ⟨rfl, rfl, rfl⟩ := hcs
    exact ⟨[], none, 0, 0, 0, rfl, Nat.zero_le _, fun h => by simp at h, fun j x hx => by simp at hx⟩
  · simp [Value.cells] at hcs
    obtain ⟨rfl, rfl, rfl⟩ := hcs
    simp only [if_true] at hz
    have hlen : (zs.take len).length = len := by simp; omega
    by_cases hp : 0 < zs.length
    · obtain ⟨b, off, rfl, hcc⟩ := ints_at hcell hp
      refine ⟨zs.take len, some ⟨b, off, none⟩, b, off, cap, by rw [hlen], by rw [hlen]; omega, fun _ => rfl, fun j x hx => ?_⟩
      rw [List.getElem?_take] at hx
      split at hx
      · have hj : j < zs.length := (List.getElem?_eq_some_iff.1 hx).1
        rw [hcc j hj, List.getD_eq_getElem?_getD, hx]; rfl
      · cases hx
    · have h0 : len = 0 := by omega
      subst h0
      exact ⟨[], some a, 0, 0, cap, rfl, Nat.zero_le _, fun h => by simp at h, fun j x hx => by simp at hx⟩

/-- The same of a value that is one cell of a struct. -/
theorem rdI_of_cell {t e : TypeId} {v : Value} {fuel : Nat} {x : DataW H × List MemPlace} (ht : P.underlying t = some (.slice e)) (he : P.underlying e = some (.int .i64)) (hc : P.cellsOf e = 1)
    (h : DataW.trod enc P w 0 (fun _ => true) true fuel t [v] = some x) : ∃ xs, RdI w v xs := by
  rcases open_ints ht he hc h with ⟨hcs, hx⟩ | ⟨a, len, cap, zs, hcs, _, hl, hm, hz, hx, hcell, hwz⟩
  · simp at hcs
    subst hcs
    exact ⟨[], none, 0, 0, 0, rfl, Nat.zero_le _, fun h => by simp at h, fun j x hx => by simp at hx⟩
  · simp at hcs
    subst hcs
    simp only [if_true] at hz
    have hlen : (zs.take len).length = len := by simp; omega
    by_cases hp : 0 < zs.length
    · obtain ⟨b, off, rfl, hcc⟩ := ints_at hcell hp
      refine ⟨zs.take len, some ⟨b, off, none⟩, b, off, cap, by rw [hlen], by rw [hlen]; omega, fun _ => rfl, fun j x hx => ?_⟩
      rw [List.getElem?_take] at hx
      split at hx
      · have hj : j < zs.length := (List.getElem?_eq_some_iff.1 hx).1
        rw [hcc j hj, List.getD_eq_getElem?_getD, hx]; rfl
      · cases hx
    · have h0 : len = 0 := by omega
      subst h0
      exact ⟨[], some a, 0, 0, cap, rfl, Nat.zero_le _, fun h => by simp at h, fun j x hx => by simp at hx⟩

theorem addr_spot {a : Addr} {v : Value} (h : w.cell? (a.add 0) = some v) : ∃ b off, a = ⟨b, off, none⟩ := by
  obtain ⟨b, off, spot⟩ := a
  have hspot : spot = none := by simpa [Addr.add] using World.cell?_spot h
  subst hspot
  exact ⟨b, off, rfl⟩

theorem rdII_of_cell {t e q : TypeId} {v : Value} {fuel : Nat} {x : DataW H × List MemPlace} (ht : P.underlying t = some (.slice e)) (he : P.underlying e = some (.slice q)) (hq : P.underlying q = some (.int .i64))
    (ce : P.cellsOf e = 1) (cq : P.cellsOf q = 1) (h : DataW.trod enc P w 0 (fun _ => true) true fuel t [v] = some x) : ∃ rss, RdII w v rss := by
  rcases open_int_rows ht he hq ce cq h with ⟨hcs, hx⟩ | ⟨a, len, cap, A, L, C, Z, hcs, _, hl, hm, hx, hrow⟩
  · simp at hcs
    subst hcs
    exact ⟨[], none, 0, 0, 0, rfl, Nat.zero_le _, fun h => by simp at h, fun j x hx => by simp at hx⟩
  · simp at hcs
    subst hcs
    have hlen : (List.map (fun r => (Z r).take (L r)) (List.range len)).length = len := by simp
    by_cases hp : 0 < len
    · obtain ⟨b, off, rfl⟩ := addr_spot (hrow 0 (by omega)).1
      refine ⟨List.map (fun r => (Z r).take (L r)) (List.range len), some ⟨b, off, none⟩, b, off, cap, by rw [hlen], by rw [hlen]; omega, fun _ => rfl, fun j rs hj => ?_⟩
      have hjl : j < len := by
        have := (List.getElem?_eq_some_iff.1 hj).1
        rw [hlen] at this; exact this
      simp [hjl] at hj
      subst hj
      obtain ⟨h1, h2, h3, h4, h5, h6, h7⟩ := hrow j (by omega)
      refine ⟨_, by rw [← add_plain]; exact h1, ?_⟩
      have hlen2 : ((Z j).take (L j)).length = L j := by simp; omega
      by_cases hpj : 0 < L j
      · cases hA : A j with
        | none => have := h6 hA; omega
        | some a' =>
          obtain ⟨h8, h9⟩ := h7 a' hA
          obtain ⟨b', off', rfl⟩ := addr_spot (h9 0 (by omega))
          refine ⟨some ⟨b', off', none⟩, b', off', C j, by rw [hlen2], by rw [hlen2]; omega, fun _ => rfl, fun i y hy => ?_⟩
          rw [List.getElem?_take] at hy
          split at hy
          · have hi : i < (Z j).length := (List.getElem?_eq_some_iff.1 hy).1
            have := h9 i (by omega)
            rw [add_plain] at this
            rw [this, List.getD_eq_getElem?_getD, hy]; rfl
          · cases hy
      · have h0 : L j = 0 := by omega
        rw [h0]
        exact ⟨A j, 0, 0, C j, by simp, by simp, fun h => by simp at h, fun i y hy => by simp at hy⟩
    · have h0 : len = 0 := by omega
      subst h0
      exact ⟨[], some a, 0, 0, cap, rfl, Nat.zero_le _, fun h => by simp at h, fun j x hx => by simp at hx⟩

theorem rdII_of {t e q : TypeId} {v : Value} {r : Reach} {b0 : Nat} {d : DataW H} {p : List MemPlace} (ht : P.underlying t = some (.slice e)) (he : P.underlying e = some (.slice q)) (hq : P.underlying q = some (.int .i64))
    (ce : P.cellsOf e = 1) (cq : P.cellsOf q = 1) (hval : Value.okWide P w r b0 t v) (h : DataW.Trod enc P w 0 (fun _ => true) true t v d p) : ∃ rss, RdII w v rss := by
  obtain ⟨a0, len, cap, rfl⟩ := okWide_slice ht hval
  obtain ⟨fuel, hf⟩ := h
  exact rdII_of_cell ht he hq ce cq (by simpa [Value.cells] using hf)
end

end Go.Proofs.Ytnmnmnpeoiblhaa
set_option linter.unusedSimpArgs false
set_option linter.unusedVariables false
namespace Go.Proofs.Ytnmnmnpeoiblhaa
open Go.ChangeShapes Go.WideShapes Go.ChangeAt Go.RowKit

theorem Try.cellsByte : Try.prog.cellsOf 5 = 1 := by kernel_rfl
theorem rdB_of {H : Type} {enc : TypeId × Value → H} {P : Program} {w : World} {t e : TypeId} {v : Value} {r : Reach} {b0 : Nat} {d : DataW H} {p : List MemPlace} (ht : P.underlying t = some (.slice e)) (he : P.underlying e = some (.int .u8)) (hc : P.cellsOf e = 1)
    (hval : Value.okWide P w r b0 t v) (h : DataW.Trod enc P w 0 (fun _ => true) true t v d p) : ∃ (a : Option Addr) (n cap : Nat), v = .slice a n cap ∧ n ≤ maxLen ∧ (n ≤ 65536 → RdB w (.slice a n cap) n) := by
  obtain ⟨a0, len, cap, rfl⟩ := okWide_slice ht hval
  obtain ⟨fuel, hf⟩ := h
  rcases open_ints ht he hc hf with ⟨hcs, hx⟩ | ⟨a, len', cap', zs, hcs, _, hl, hm, hz, hx, hcell, hwz⟩
  · simp [Value.cells] at hcs
    obtain ⟨rfl, rfl, rfl⟩ := hcs
    exact ⟨none, 0, 0, rfl, Nat.zero_le _, fun _ => ⟨none, 0, 0, 0, rfl, Nat.zero_le _, fun h => by omega, fun j hj => by omega⟩⟩
  · simp [Value.cells] at hcs
    obtain ⟨rfl, rfl, rfl⟩ := hcs
    simp only [if_true] at hz
    refine ⟨some a, len, cap, rfl, Nat.le_trans hl hm, fun hn => ?_⟩
    by_cases hp : 0 < zs.length
    · obtain ⟨b, off, rfl, hcc⟩ := ints_at hcell hp
      refine ⟨_, b, off, cap, rfl, hn, fun _ => rfl, fun j hj => ?_⟩
      have hj' : j < zs.length := by omega
      have hmem := hwz zs[j] (List.getElem_mem hj')
      have hb : 0 ≤ zs[j] ∧ zs[j] ≤ 255 := by simpa [Lit.wf, IntKind.min, IntKind.max, IntKind.signed, IntKind.bits] using hmem
      refine ⟨zs[j].toNat, by omega, ?_⟩
      rw [hcc j hj', List.getD_eq_getElem?_getD, List.getElem?_eq_getElem hj']
      simp only [Option.getD_some, Option.some.injEq, Value.int.injEq, true_and]
      omega
    · exact ⟨_, 0, 0, cap, rfl, hn, fun h => by omega, fun j hj => by omega⟩
end Go.Proofs.Ytnmnmnpeoiblhaa
