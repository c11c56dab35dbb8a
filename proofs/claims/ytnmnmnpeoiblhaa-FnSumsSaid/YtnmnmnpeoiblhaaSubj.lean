/- Sums: the greatest one bounds all, the functional of a sum is worth the sum, and has the value 2 for plays. No program in sight. What a law's row hands to its walk: arguments opened, and the row closed from the walk's contract. A law's bytes, read out of the row's data. A law's bytes, read out of the row's data, with the room of their slice. -/
import Derived.Test.YtnmnmnpeoiblhaaSuap
import Derived.Test.YtnmnmnpeoiblhaaSuaw
import Derived.Test.YtnmnmnpeoiblhaaSuaz
import Derived.Test.YtnmnmnpeoiblhaaSubf
import Derived.Test.YtnmnmnpeoiblhaaSubh
import Derived.Test.YtnmnmnpeoiblhaaSubi
import Derived.Test.YtnmnmnpeoiblhaaSuaa
import Derived.Test.YtnmnmnpeoiblhaaSuah
import Derived.Test.YtnmnmnpeoiblhaaRows
import Derived.Deep.Matrix
set_option linter.unusedSimpArgs false
set_option linter.unusedVariables false
namespace Go.Proofs.Ytnmnmnpeoiblhaa

theorem agB_whole {b : BoxD} (hb : boxB b = true) (i j : Nat) (hi : (i : Int) < b.X) (hj : (j : Int) < b.Y) : -b.Whole ≤ agB b i j ∧ agB b i j ≤ b.Whole := by
  obtain ⟨h1, h2, h3, h4, h5⟩ := boxB_four hb i j hi hj
  unfold agB
  omega
theorem sumB_whole {b : BoxD} (hb : boxB b = true) {F0 F1 S0 S1 : Nat} (m : Int) (hF : F0 < F1 ∧ (F1 : Int) < b.X) (hS : S0 < S1 ∧ (S1 : Int) < b.Y) : -(4 * b.Whole) ≤ sumB b F0 F1 S0 S1 m ∧ sumB b F0 F1 S0 S1 m ≤ 4 * b.Whole := by
  have key : ∀ k, -b.Whole ≤ agK b F0 F1 S0 S1 k ∧ agK b F0 F1 S0 S1 k ≤ b.Whole := fun k => by
    unfold agK
    split <;> split <;> exact agB_whole hb _ _ (by omega) (by omega)
  have h0 := key 0
  have h1 := key 1
  have h2 := key 2
  have h3 := key 3
  show -(4 * b.Whole) ≤ sumUp _ m 4 ∧ sumUp _ m 4 ≤ _
  unfold sumUp sumUp sumUp sumUp sumUp
  generalize agK b F0 F1 S0 S1 0 = a0 at *
  generalize agK b F0 F1 S0 S1 1 = a1 at *
  generalize agK b F0 F1 S0 S1 2 = a2 at *
  generalize agK b F0 F1 S0 S1 3 = a3 at *
  clear key
  split <;> split <;> split <;> split <;> omega
theorem absI_cases (n : Int) : absI n = n ∧ 0 ≤ n ∨ absI n = -n ∧ n < 0 := by unfold absI; split <;> omega
/-- What is known of a state of the search. -/
structure Fit (b : BoxD) (g : Gr) : Prop where
  no : g.there = false → g.best = 0
  pos : 0 ≤ g.best
  le : g.best ≤ 4 * b.Whole
  yes : g.there = true → ((g.F0 < g.F1 ∧ (g.F1 : Int) < b.X) ∧ (g.S0 < g.S1 ∧ (g.S1 : Int) < b.Y)) ∧ g.m ≤ 3 ∧ g.best = absI (sumB b g.F0 g.F1 g.S0 g.S1 g.m)
theorem Fit.zero {b : BoxD} (hb : boxB b = true) : Fit b Gr.zero := ⟨fun _ => rfl, Int.le_refl _, by have := (boxB_iff.1 hb).2.1; show (0 : Int) ≤ _; omega, fun h => by cases h⟩
theorem grStep_fit {b : BoxD} (hb : boxB b = true) {p q : Nat × Nat} {g : Gr} {m : Nat} (h : Fit b g) (hm : m ≤ 3) (hF : p.1 < p.2 ∧ (p.2 : Int) < b.X) (hS : q.1 < q.2 ∧ (q.2 : Int) < b.Y) :
    Fit b (grStep b p q g m) ∧ g.best ≤ (grStep b p q g m).best ∧ absI (sumB b p.1 p.2 q.1 q.2 m) ≤ (grStep b p q g m).best := by
  have hs := sumB_whole hb (m : Int) hF hS
  have ha : 0 ≤ absI (sumB b p.1 p.2 q.1 q.2 m) ∧ absI (sumB b p.1 p.2 q.1 q.2 m) ≤ 4 * b.Whole := by have := absI_cases (sumB b p.1 p.2 q.1 q.2 m); omega
  unfold grStep
  split
  · rename_i hc
    refine ⟨⟨fun h => (by cases h), ha.1, ha.2, fun _ => ⟨⟨hF, hS⟩, hm, rfl⟩⟩, ?_, Int.le_refl _⟩
    show g.best ≤ absI _
    cases e : g.there with
    | false => rw [h.no e]; exact ha.1
    | true => simp [e] at hc; omega
  · rename_i hc
    refine ⟨h, Int.le_refl _, ?_⟩
    simp at hc
    exact hc.2
theorem gr4_fit {b : BoxD} (hb : boxB b = true) {p q : Nat × Nat} {g : Gr} (h : Fit b g) (hF : p.1 < p.2 ∧ (p.2 : Int) < b.X) (hS : q.1 < q.2 ∧ (q.2 : Int) < b.Y) :
    ∀ k, k ≤ 4 → Fit b (gr4 b p q g k) ∧ g.best ≤ (gr4 b p q g k).best ∧ ∀ m : Nat, m < k → absI (sumB b p.1 p.2 q.1 q.2 m) ≤ (gr4 b p q g k).best
  | 0, _ => ⟨h, Int.le_refl _, fun m hm => absurd hm (by omega)⟩
  | k + 1, hk => by
    obtain ⟨h1, h2, h3⟩ := gr4_fit hb h hF hS k (by omega)
    obtain ⟨k1, k2, k3⟩ := grStep_fit hb (m := k) h1 (by omega) hF hS
    refine ⟨k1, Int.le_trans h2 k2, fun m hm => ?_⟩
    by_cases e : m = k
    · rw [e]; exact k3
    · exact Int.le_trans (h3 m (by omega)) k2
theorem grQ_fit {b : BoxD} (hb : boxB b = true) {p : Nat × Nat} {Q : List (Nat × Nat)} (hQ : ∀ q ∈ Q, q.1 < q.2 ∧ (q.2 : Int) < b.Y) {g : Gr} (h : Fit b g) (hF : p.1 < p.2 ∧ (p.2 : Int) < b.X) :
    ∀ j, j ≤ Q.length → Fit b (grQ b p Q g j) ∧ g.best ≤ (grQ b p Q g j).best ∧ ∀ i, i < j → ∀ m : Nat, m < 4 → absI (sumB b p.1 p.2 (Q.getD i (0, 0)).1 (Q.getD i (0, 0)).2 m) ≤ (grQ b p Q g j).best
  | 0, _ => ⟨h, Int.le_refl _, fun i hi => absurd hi (by omega)⟩
  | j + 1, hj => by
    obtain ⟨h1, h2, h3⟩ := grQ_fit hb hQ h hF j (by omega)
    have hq : Q.getD j (0, 0) ∈ Q := by
      rw [List.getD_eq_getElem?_getD, List.getElem?_eq_getElem (by omega : j < Q.length)]
      exact List.getElem_mem _
    obtain ⟨k1, k2, k3⟩ := gr4_fit hb h1 hF (hQ _ hq) 4 (Nat.le_refl _)
    refine ⟨k1, Int.le_trans h2 k2, fun i hi m hm => ?_⟩
    by_cases e : i = j
    · rw [e]; exact k3 m hm
    · exact Int.le_trans (h3 i (by omega) m hm) k2
theorem grP_fit {b : BoxD} (hb : boxB b = true) {P Q : List (Nat × Nat)} (hP : ∀ p ∈ P, p.1 < p.2 ∧ (p.2 : Int) < b.X) (hQ : ∀ q ∈ Q, q.1 < q.2 ∧ (q.2 : Int) < b.Y) :
    ∀ i, i ≤ P.length → Fit b (grP b P Q i) ∧ ∀ i', i' < i → ∀ j, j < Q.length → ∀ m : Nat, m < 4 → absI (sumB b (P.getD i' (0, 0)).1 (P.getD i' (0, 0)).2 (Q.getD j (0, 0)).1 (Q.getD j (0, 0)).2 m) ≤ (grP b P Q i).best
  | 0, _ => ⟨Fit.zero hb, fun i hi => absurd hi (by omega)⟩
  | i + 1, hi => by
    obtain ⟨h1, h3⟩ := grP_fit hb hP hQ i (by omega)
    have hp : P.getD i (0, 0) ∈ P := by
      rw [List.getD_eq_getElem?_getD, List.getElem?_eq_getElem (by omega : i < P.length)]
      exact List.getElem_mem _
    obtain ⟨k1, k2, k3⟩ := grQ_fit hb hQ h1 (hP _ hp) Q.length (Nat.le_refl _)
    refine ⟨k1, fun i' hi' j hj m hm => ?_⟩
    by_cases e : i' = i
    · rw [e]; exact k3 j hj m hm
    · exact Int.le_trans (h3 i' (by omega) j hj m hm) k2
theorem pairsTo_all (n : Int) (hn : 1 ≤ n ∧ n ≤ 3) (a c : Nat) (h : a < c ∧ (c : Int) < n) : ∃ i, i < (pairsTo n.toNat n.toNat).length ∧ (pairsTo n.toNat n.toNat).getD i (0, 0) = (a, c) := by
  have hm : (a, c) ∈ pairsTo n.toNat n.toNat := by
    have key : ∀ n : Fin 4, ∀ a : Fin 4, ∀ c : Fin 4, a.val < c.val → c.val < n.val → (a.val, c.val) ∈ pairsTo n.val n.val := by decide
    exact key ⟨n.toNat, by omega⟩ ⟨a, by omega⟩ ⟨c, by omega⟩ h.1 (by show c < n.toNat; omega)
  obtain ⟨i, hi⟩ := List.mem_iff_getElem?.1 hm
  obtain ⟨hl, _⟩ := List.getElem?_eq_some_iff.1 hi
  exact ⟨i, hl, by rw [List.getD_eq_getElem?_getD, hi]; rfl⟩
theorem great_fit {b : BoxD} (hb : boxB b = true) : Fit b (great b) ∧ ∀ (F0 F1 S0 S1 m : Nat), F0 < F1 → (F1 : Int) < b.X → S0 < S1 → (S1 : Int) < b.Y → m < 4 → absI (sumB b F0 F1 S0 S1 m) ≤ (great b).best := by
  have hx := (boxB_iff.1 hb).1
  obtain ⟨h1, h2⟩ := grP_fit hb (P := pairsTo b.X.toNat b.X.toNat) (Q := pairsTo b.Y.toNat b.Y.toNat) (fun p hp => pair_fits hx.1.1 hp) (fun q hq => pair_fits hx.2.1 hq) _ (Nat.le_refl _)
  refine ⟨h1, fun F0 F1 S0 S1 m f1 f2 s1 s2 hm => ?_⟩
  obtain ⟨i, hi, ei⟩ := pairsTo_all b.X hx.1 F0 F1 ⟨f1, f2⟩
  obtain ⟨j, hj, ej⟩ := pairsTo_all b.Y hx.2 S0 S1 ⟨s1, s2⟩
  have := h2 i hi j hj m hm
  rw [ei, ej] at this
  exact this

/-! ### What the law says of sums -/
theorem fs_none {b : BoxD} (h : boxB b = false) (fa fb sa sb m : Int) : sumOk b fa fb sa sb m = false ∧ (firstG b).there = false := by
  refine ⟨by unfold sumOk; rw [h]; rfl, ?_⟩
  unfold firstG
  rw [if_neg (by simp [h])]
  rfl
theorem fs_there {b : BoxD} (h : (firstG b).there = true) : sumOk b (firstG b).F0 (firstG b).F1 (firstG b).S0 (firstG b).S1 (firstG b).m = true ∧ absI (sumD b (firstG b).F0 (firstG b).F1 (firstG b).S0 (firstG b).S1 (firstG b).m) = greatD b := by
  have hb : boxB b = true := by
    cases e : boxB b with
    | true => rfl
    | false => rw [(fs_none e 0 0 0 0 0).2] at h; cases h
  rw [firstG_yes hb] at h ⊢
  obtain ⟨⟨⟨f1, f2⟩, s1, s2⟩, hm, he⟩ := (great_fit hb).1.yes h
  have hx := (boxB_iff.1 hb).1
  have ho : sumOk b (great b).F0 (great b).F1 (great b).S0 (great b).S1 (great b).m = true := by
    unfold sumOk
    rw [hb, isSumB_iff.2 ⟨by omega, by omega, f2, by omega, by omega, s2, by omega, by omega⟩]
    rfl
  refine ⟨ho, ?_⟩
  unfold sumD greatD
  rw [if_pos ho, if_pos hb, he]
  simp
theorem fs_bound {b : BoxD} (hb : boxB b = true) : greatD b ≤ 4 * b.Whole ∧ (localOk b = true → greatD b ≤ 2 * b.Whole) := by
  unfold greatD
  rw [if_pos hb]
  refine ⟨(great_fit hb).1.le, fun h => ?_⟩
  unfold localOk localB at h
  simp only [Bool.and_eq_true, decide_eq_true_eq] at h
  exact h.2.2.1

theorem fs_pos {b : BoxD} (hb : boxB b = true) : 0 ≤ greatD b := by
  unfold greatD
  rw [if_pos hb]
  exact (great_fit hb).1.pos

/-! ### The functional of a sum -/
theorem set_at {f : List (List Int)} {i j : Nat} {r : List Int} (hj : j < f.length) (q : Nat) : cellAt (f.set j r) i q = if i = j then r.getD q 0 else cellAt f i q := by
  unfold cellAt
  simp only [List.getD_eq_getElem?_getD, List.getElem?_set]
  by_cases e : j = i
  · subst e; simp [hj]
  · rw [if_neg e, if_neg (fun h => e h.symm)]
theorem wRow_set {f rows : List (List Int)} {i j : Nat} {r : List Int} (hj : j < f.length) : wRow (f.set j r) rows i 4 = if i = j then r.getD 0 0 * cellAt rows i 0 + r.getD 1 0 * cellAt rows i 1 + r.getD 2 0 * cellAt rows i 2 + r.getD 3 0 * cellAt rows i 3 else wRow f rows i 4 := by
  simp only [wRow_succ, wRow_zero, set_at hj]
  by_cases e : i = j <;> simp [e]
theorem worthTo_set {f rows : List (List Int)} {j : Nat} {r : List Int} (hj : j < f.length) (hz : wRow f rows j 4 = 0) :
    ∀ n, worthTo (f.set j r) rows n = worthTo f rows n + if j < n then r.getD 0 0 * cellAt rows j 0 + r.getD 1 0 * cellAt rows j 1 + r.getD 2 0 * cellAt rows j 2 + r.getD 3 0 * cellAt rows j 3 else 0
  | 0 => by simp [worthTo_zero]
  | n + 1 => by
    rw [worthTo_succ, worthTo_succ, worthTo_set hj hz n, wRow_set hj]
    by_cases e : n = j
    · subst e
      rw [if_pos rfl, if_neg (by omega), if_pos (by omega), hz]
    · rw [if_neg e]
      by_cases h : j < n
      · rw [if_pos h, if_pos (by omega)]; omega
      · rw [if_neg h, if_neg (by omega)]; omega
theorem setK_inj {Y F0 F1 S0 S1 : Nat} (hF : F0 < F1) (hS : S0 < S1) (hY : S1 < Y) {k k' : Nat} (hk : k < k') (hk' : k' < 4) : setK Y F0 F1 S0 S1 k ≠ setK Y F0 F1 S0 S1 k' := by
  have hm : F0 * Y + Y ≤ F1 * Y := by
    have := Nat.mul_le_mul_right Y (show F0 + 1 ≤ F1 by omega)
    rw [Nat.add_mul, Nat.one_mul] at this
    exact this
  have : (k = 0 ∧ (k' = 1 ∨ k' = 2 ∨ k' = 3)) ∨ (k = 1 ∧ (k' = 2 ∨ k' = 3)) ∨ (k = 2 ∧ k' = 3) := by omega
  rcases this with ⟨rfl, rfl | rfl | rfl⟩ | ⟨rfl, rfl | rfl⟩ | ⟨rfl, rfl⟩ <;> simp [setK] <;> omega
theorem setK_lt {X Y F0 F1 S0 S1 : Nat} (hF : F0 < F1) (hX : F1 < X) (hS : S0 < S1) (hY : S1 < Y) {k : Nat} : setK Y F0 F1 S0 S1 k < X * Y := by
  unfold setK
  generalize hf : (if k / 2 = 0 then F0 else F1) = f
  generalize hs : (if k % 2 = 0 then S0 else S1) = s
  have h1 : f < X := by rw [← hf]; split <;> omega
  have h2 : s < Y := by rw [← hs]; split <;> omega
  have := Nat.mul_le_mul_right Y (show f + 1 ≤ X by omega)
  rw [Nat.add_mul, Nat.one_mul] at this
  omega
theorem sumRows_zero {N Y F0 F1 S0 S1 : Nat} {m : Int} (hF : F0 < F1) (hS : S0 < S1) (hY : S1 < Y) (rows : List (List Int)) {k' : Nat} (hk' : k' < 4) (hN : ∀ k, setK Y F0 F1 S0 S1 k < N) :
    ∀ k, k ≤ k' → wRow (sumRows N Y F0 F1 S0 S1 m k) rows (setK Y F0 F1 S0 S1 k') 4 = 0
  | 0, _ => by
    have : ∀ q, cellAt (List.replicate N (List.replicate 4 (0 : Int))) (setK Y F0 F1 S0 S1 k') q = 0 := fun q => by
      unfold cellAt
      simp only [List.getD_eq_getElem?_getD, List.getElem?_replicate]
      rw [if_pos (hN k')]
      simp only [Option.getD_some, List.getElem?_replicate]
      split <;> rfl
    show wRow (List.replicate N (List.replicate 4 (0 : Int))) rows _ 4 = 0
    simp only [wRow_succ, wRow_zero, this]
    simp
  | k + 1, hk => by
    show wRow ((sumRows N Y F0 F1 S0 S1 m k).set _ _) rows _ 4 = 0
    rw [wRow_set (by rw [sumRows_len]; exact hN k), if_neg (fun h => setK_inj hF hS hY (show k < k' by omega) hk' h.symm)]
    exact sumRows_zero hF hS hY rows hk' hN k (by omega)
theorem setK_agree {b : BoxD} (hb : boxB b = true) {F0 F1 S0 S1 : Nat} (hF : F0 < F1) (hX : (F1 : Int) < b.X) (hS : S0 < S1) (hY : (S1 : Int) < b.Y) (k : Nat) :
    cellAt b.Rows (setK b.Y.toNat F0 F1 S0 S1 k) 0 - cellAt b.Rows (setK b.Y.toNat F0 F1 S0 S1 k) 1 - cellAt b.Rows (setK b.Y.toNat F0 F1 S0 S1 k) 2 + cellAt b.Rows (setK b.Y.toNat F0 F1 S0 S1 k) 3 = agK b F0 F1 S0 S1 k := by
  unfold agK setK
  generalize hf : (if k / 2 = 0 then F0 else F1) = f
  generalize hs : (if k % 2 = 0 then S0 else S1) = s
  rfl
theorem sumRows_worth {b : BoxD} (hb : boxB b = true) {F0 F1 S0 S1 : Nat} {m : Int} (hF : F0 < F1) (hX : (F1 : Int) < b.X) (hS : S0 < S1) (hY : (S1 : Int) < b.Y) :
    ∀ k, k ≤ 4 → worthTo (sumRows (b.X.toNat * b.Y.toNat) b.Y.toNat F0 F1 S0 S1 m k) b.Rows (b.X.toNat * b.Y.toNat) = sumUp (agK b F0 F1 S0 S1) m k
  | 0, _ => by
    have hw : ∀ i, wRow (List.replicate (b.X.toNat * b.Y.toNat) (List.replicate 4 (0 : Int))) b.Rows i 4 = 0 := fun i => by
      have : ∀ q, cellAt (List.replicate (b.X.toNat * b.Y.toNat) (List.replicate 4 (0 : Int))) i q = 0 := fun q => by
        unfold cellAt
        simp only [List.getD_eq_getElem?_getD, List.getElem?_replicate]
        split
        · simp only [Option.getD_some, List.getElem?_replicate]
          split <;> rfl
        · rfl
      simp only [wRow_succ, wRow_zero, this]
      simp
    have hz : ∀ n, worthTo (List.replicate (b.X.toNat * b.Y.toNat) (List.replicate 4 (0 : Int))) b.Rows n = 0 := fun n => by
      induction n with
      | zero => rfl
      | succ n ih => rw [worthTo_succ, ih, hw]; rfl
    exact hz _
  | k + 1, hk => by
    have hlt : ∀ k, setK b.Y.toNat F0 F1 S0 S1 k < b.X.toNat * b.Y.toNat := fun k => setK_lt hF (by omega) hS (by omega)
    have ih := sumRows_worth (m := m) hb hF hX hS hY k (by omega)
    have hz := sumRows_zero (N := b.X.toNat * b.Y.toNat) (m := m) hF hS (show S1 < b.Y.toNat by omega) b.Rows (show k < 4 by omega) hlt k (Nat.le_refl _)
    have ha := setK_agree hb hF hX hS hY k
    show worthTo ((sumRows _ _ _ _ _ _ m k).set _ _) b.Rows _ = _
    rw [worthTo_set (by rw [sumRows_len]; exact hlt k) hz, if_pos (hlt k), ih]
    show _ = sumUp (agK b F0 F1 S0 S1) m k + (if (k : Int) = m then -(agK b F0 F1 S0 S1 k) else agK b F0 F1 S0 S1 k)
    rw [← ha]
    unfold signRow
    split <;> simp <;> omega
theorem sum4_parts {x y fa fb sa sb m : Int} (h : sumFOk x y fa fb sa sb m = true) : sizesB x y = true ∧ ∃ F0 F1 S0 S1 M : Nat, fa = F0 ∧ fb = F1 ∧ sa = S0 ∧ sb = S1 ∧ m = M ∧ F0 < F1 ∧ (F1 : Int) < x ∧ S0 < S1 ∧ (S1 : Int) < y ∧ M < 4 := by
  unfold sumFOk sum4B at h
  rw [Bool.and_eq_true] at h
  obtain ⟨h1, h2⟩ := h
  obtain ⟨a1, a2, a3, a4, a5, a6, a7, a8⟩ := isSumB_iff.1 h2
  exact ⟨h1, fa.toNat, fb.toNat, sa.toNat, sb.toNat, m.toNat, by omega, by omega, by omega, by omega, by omega, by omega, by omega, by omega, by omega, by omega⟩
/-- All functionals of sums, looked at one after another. -/
def sumsGood : Bool := (List.range 4).all fun X => (List.range 4).all fun Y => (List.range X).all fun F1 => (List.range F1).all fun F0 => (List.range Y).all fun S1 => (List.range S1).all fun S0 => (List.range 4).all fun M =>
  funcB X Y (sumRows (X * Y) Y F0 F1 S0 S1 M 4) && ((List.range (2 ^ (X + Y))).all (fun c => decide (valP X Y (sumRows (X * Y) Y F0 F1 S0 S1 M 4) c ≤ 2)) && (List.range (2 ^ (X + Y))).any (fun c => decide (valP X Y (sumRows (X * Y) Y F0 F1 S0 S1 M 4) c = 2)))
set_option maxRecDepth 100000 in
theorem sumsGood_holds : sumsGood = true := by decide +kernel
theorem fs_one {x y fa fb sa sb m : Int} (h : sumFOk x y fa fb sa sb m = true) : funcB x y (sumFD x y fa fb sa sb m) = true ∧ localD x y (sumFD x y fa fb sa sb m) = 2 := by
  obtain ⟨hs, F0, F1, S0, S1, M, rfl, rfl, rfl, rfl, rfl, f1, f2, s1, s2, hM⟩ := sum4_parts h
  obtain ⟨hx, hy⟩ := sizesB_iff.1 hs
  obtain ⟨X, rfl⟩ := Int.eq_ofNat_of_zero_le (show 0 ≤ x by omega)
  obtain ⟨Y, rfl⟩ := Int.eq_ofNat_of_zero_le (show 0 ≤ y by omega)
  have hg := sumsGood_holds
  unfold sumsGood at hg
  simp only [List.all_eq_true, List.mem_range] at hg
  have hg := hg X (by omega) Y (by omega) F1 (by omega) F0 f1 S1 (by omega) S0 s1 M hM
  have e : sumFD X Y F0 F1 S0 S1 M = sumRows (X * Y) Y F0 F1 S0 S1 M 4 := by unfold sumFD; rw [if_pos h]; rfl
  rw [e]
  simp only [Bool.and_eq_true, List.all_eq_true, List.any_eq_true, List.mem_range, decide_eq_true_eq] at hg
  obtain ⟨g1, g2, c, hc, g3⟩ := hg
  refine ⟨g1, ?_⟩
  unfold localD
  rw [if_pos g1]
  show bestUp (valP X Y _) (2 ^ (X + Y)) = 2
  obtain ⟨n, hn⟩ : ∃ n, 2 ^ (X + Y) = n + 1 := ⟨2 ^ (X + Y) - 1, by have := Nat.two_pow_pos (X + Y); omega⟩
  rw [hn] at g2 hc ⊢
  have h1 := (bestUp_le (g := valP X Y (sumRows (X * Y) Y F0 F1 S0 S1 M 4)) (m := 2) n).2 g2
  have h2 := (bestUp_le (g := valP X Y (sumRows (X * Y) Y F0 F1 S0 S1 M 4)) (m := bestUp (valP X Y (sumRows (X * Y) Y F0 F1 S0 S1 M 4)) (n + 1)) n).1 (Int.le_refl _) c hc
  omega
theorem fs_sum {b : BoxD} {fa fb sa sb m : Int} (h : sumOk b fa fb sa sb m = true) : boxB b = true ∧ absI (sumD b fa fb sa sb m) ≤ greatD b ∧ sumFOk b.X b.Y fa fb sa sb m = true ∧ worthOk (sumFD b.X b.Y fa fb sa sb m) b = true ∧ worthD (sumFD b.X b.Y fa fb sa sb m) b = sumD b fa fb sa sb m := by
  have h' := h
  unfold sumOk at h'
  rw [Bool.and_eq_true] at h'
  obtain ⟨hb, hi⟩ := h'
  have hs : sizesB b.X b.Y = true := sizesB_iff.2 (boxB_iff.1 hb).1
  have hf : sumFOk b.X b.Y fa fb sa sb m = true := by unfold sumFOk sum4B; rw [hs, hi]; rfl
  obtain ⟨g1, _⟩ := fs_one hf
  have hw : worthOk (sumFD b.X b.Y fa fb sa sb m) b = true := by unfold worthOk; rw [hb, g1]; rfl
  obtain ⟨_, F0, F1, S0, S1, M, rfl, rfl, rfl, rfl, rfl, f1, f2, s1, s2, hM⟩ := sum4_parts hf
  have hv : sumD b F0 F1 S0 S1 M = sumB b F0 F1 S0 S1 M := by unfold sumD; rw [if_pos h]; rfl
  refine ⟨hb, ?_, hf, hw, ?_⟩
  · rw [hv]
    unfold greatD
    rw [if_pos hb]
    exact (great_fit hb).2 F0 F1 S0 S1 M f1 f2 s1 s2 hM
  · rw [hv]
    unfold worthD
    rw [if_pos hw]
    have e : sumFD b.X b.Y F0 F1 S0 S1 M = sumRows (b.X.toNat * b.Y.toNat) b.Y.toNat F0 F1 S0 S1 M 4 := by unfold sumFD; rw [if_pos hf]; rfl
    rw [e]
    have hl : b.Rows.length = b.X.toNat * b.Y.toNat := by
      have := boxB_len2 hb
      exact this
    show worthTo _ b.Rows b.Rows.length = _
    rw [hl]
    exact sumRows_worth hb f1 f2 s1 s2 4 (Nat.le_refl _)
end Go.Proofs.Ytnmnmnpeoiblhaa
set_option linter.unusedSimpArgs false
set_option linter.unusedVariables false
namespace Go.Proofs.Ytnmnmnpeoiblhaa
open Go.ChangeShapes Go.WideShapes Go.ChangeAt Go.RowKit
open Go.ChangeMaps (open_string shut_string)
open Go.Deep

theorem Try.own : ownKnob Try.prog.godebug = none := by kernel_rfl
theorem Try.laidOut : laidOutB Try.prog = true := by kernel_rfl

theorem Try.cellsInt : Try.prog.cellsOf 3 = 1 := by kernel_rfl
section
variable {H : Type} {enc : TypeId × Value → H} {P : Program} {w : World}

theorem rdI_of {t e : TypeId} {v : Value} {r : Reach} {b0 : Nat} {d : DataW H} {p : List MemPlace} (ht : P.underlying t = some (.slice e)) (he : P.underlying e = some (.int .i64)) (hc : P.cellsOf e = 1)
    (hval : Value.okWide P w r b0 t v) (h : DataW.Trod enc P w 0 (fun _ => true) true t v d p) : ∃ xs, RdI w v xs := by
  obtain ⟨a0, len, cap, rfl⟩ := okWide_slice ht hval
  obtain ⟨fuel, hf⟩ := h
  rcases open_ints ht he hc hf with ⟨hcs, hx⟩ | ⟨a, len', cap', zs, hcs, _, hl, hm, hz, hx, hcell, hwz⟩
  · simp [Value.cells] at hcs
    obtain ⟨rfl, rfl, rfl⟩ := hcs
    exact ⟨[], none, 0, 0, 0, rfl, Nat.zero_le _, fun h => by simp at h, fun j x hx => by simp at hx⟩
  · simp [Value.cells] at hcs
    obtain ⟨rfl, rfl, rfl⟩ := hcs
    simp only [if_true] at hz
    have hlen : (zs.take len).length = len := by simp; omega
    by_cases hp : 0 < zs.length
    · obtain ⟨b, off, rfl, hcc⟩ := ints_at hcell hp
      refine ⟨zs.take len, some ⟨b, off, none⟩, b, off, cap, by rw [hlen], by rw [hlen]; omega, fun _ => rfl, fun j x hx => ?_⟩
      rw [List.getElem?_take] at hx
      split at hx
      · have hj : j < zs.length := (List.getElem?_eq_some_iff.1 hx).1
        rw [hcc j hj, List.getD_eq_getElem?_getD, hx]; rfl
      · cases hx
    · have h0 : len = 0 := by omega
      subst h0
      exact ⟨[], some a, 0, 0, cap, rfl, Nat.zero_le _, fun h => by simp at h, fun j x hx => by simp at hx⟩

/-- The same of a value that is one cell of a struct. -/
theorem rdI_of_cell {t e : TypeId} {v : Value} {fuel : Nat} {x : DataW H × List MemPlace} (ht : P.underlying t = some (.slice e)) (he : P.underlying e = some (.int .i64)) (hc : P.cellsOf e = 1)
    (h : DataW.trod enc P w 0 (fun _ => true) true fuel t [v] = some x) : ∃ xs, RdI w v xs := by
  rcases open_ints ht he hc h with ⟨hcs, hx⟩ | ⟨a, len, cap, zs, hcs, _, hl, hm, hz, hx, hcell, hwz⟩
  · simp at hcs
    subst hcs
    exact ⟨[], none, 0, 0, 0, rfl, Nat.zero_le _, fun h => by simp at h, fun j x hx => by simp at hx⟩
  · simp at hcs
    subst hcs
    simp only [if_true] at hz
    have hlen : (zs.take len).length = len := by simp; omega
    by_cases hp : 0 < zs.length
    · obtain ⟨b, off, rfl, hcc⟩ := ints_at hcell hp
      refine ⟨zs.take len, some ⟨b, off, none⟩, b, off, cap, by rw [hlen], by rw [hlen]; omega, fun _ => rfl, fun j x hx => ?_⟩
      rw [List.getElem?_take] at hx
      split at hx
      · have hj : j < zs.length := (List.getElem?_eq_some_iff.1 hx).1
        rw [hcc j hj, List.getD_eq_getElem?_getD, hx]; rfl
      · cases hx
    · have h0 : len = 0 := by omega
      subst h0
      exact ⟨[], some a, 0, 0, cap, rfl, Nat.zero_le _, fun h => by simp at h, fun j x hx => by simp at hx⟩

theorem addr_spot {a : Addr} {v : Value} (h : w.cell? (a.add 0) = some v) : ∃ b off, a = ⟨b, off, none⟩ := by
  obtain ⟨b, off, spot⟩ := a
  have hspot : spot = none := by simpa [Addr.add] using World.cell?_spot h
  subst hspot
  exact ⟨b, off, rfl⟩

theorem rdII_of_cell {t e q : TypeId} {v : Value} {fuel : Nat} {x : DataW H × List MemPlace} (ht : P.underlying t = some (.slice e)) (he : P.underlying e = some (.slice q)) (hq : P.underlying q = some (.int .i64))
    (ce : P.cellsOf e = 1) (cq : P.cellsOf q = 1) (h : DataW.trod enc P w 0 (fun _ => true) true fuel t [v] = some x) : ∃ rss, RdII w v rss := by
  rcases open_int_rows ht he hq ce cq h with ⟨hcs, hx⟩ | ⟨a, len, cap, A, L, C, Z, hcs, _, hl, hm, hx, hrow⟩
  · simp at hcs
    subst hcs
    exact ⟨[], none, 0, 0, 0, rfl, Nat.zero_le _, fun h => by simp at h, fun j x hx => by simp at hx⟩
  · simp at hcs
    subst hcs
    have hlen : (List.map (fun r => (Z r).take (L r)) (List.range len)).length = len := by simp
    by_cases hp : 0 < len
    · obtain ⟨b, off, rfl⟩ := addr_spot (hrow 0 (by omega)).1
      refine ⟨List.map (fun r => (Z r).take (L r)) (List.range len), some ⟨b, off, none⟩, b, off, cap, by rw [hlen], by rw [hlen]; omega, fun _ => rfl, fun j rs hj => ?_⟩
      have hjl : j < len := by
        have := (List.getElem?_eq_some_iff.1 hj).1
        rw [hlen] at this; exact this
      simp [hjl] at hj
      subst hj
      obtain ⟨h1, h2, h3, h4, h5, h6, h7⟩ := hrow j (by omega)
      refine ⟨_, by rw [← add_plain]; exact h1, ?_⟩
      have hlen2 : ((Z j).take (L j)).length = L j := by simp; omega
      by_cases hpj : 0 < L j
      · cases hA : A j with
        | none => have := h6 hA; omega
        | some a' =>
          obtain ⟨h8, h9⟩ := h7 a' hA
          obtain ⟨b', off', rfl⟩ := addr_spot (h9 0 (by omega))
          refine ⟨some ⟨b', off', none⟩, b', off', C j, by rw [hlen2], by rw [hlen2]; omega, fun _ => rfl, fun i y hy => ?_⟩
          rw [List.getElem?_take] at hy
          split at hy
          · have hi : i < (Z j).length := (List.getElem?_eq_some_iff.1 hy).1
            have := h9 i (by omega)
            rw [add_plain] at this
            rw [this, List.getD_eq_getElem?_getD, hy]; rfl
          · cases hy
      · have h0 : L j = 0 := by omega
        rw [h0]
        exact ⟨A j, 0, 0, C j, by simp, by simp, fun h => by simp at h, fun i y hy => by simp at hy⟩
    · have h0 : len = 0 := by omega
      subst h0
      exact ⟨[], some a, 0, 0, cap, rfl, Nat.zero_le _, fun h => by simp at h, fun j x hx => by simp at hx⟩

theorem rdII_of {t e q : TypeId} {v : Value} {r : Reach} {b0 : Nat} {d : DataW H} {p : List MemPlace} (ht : P.underlying t = some (.slice e)) (he : P.underlying e = some (.slice q)) (hq : P.underlying q = some (.int .i64))
    (ce : P.cellsOf e = 1) (cq : P.cellsOf q = 1) (hval : Value.okWide P w r b0 t v) (h : DataW.Trod enc P w 0 (fun _ => true) true t v d p) : ∃ rss, RdII w v rss := by
  obtain ⟨a0, len, cap, rfl⟩ := okWide_slice ht hval
  obtain ⟨fuel, hf⟩ := h
  exact rdII_of_cell ht he hq ce cq (by simpa [Value.cells] using hf)
end

end Go.Proofs.Ytnmnmnpeoiblhaa
set_option linter.unusedSimpArgs false
set_option linter.unusedVariables false
namespace Go.Proofs.Ytnmnmnpeoiblhaa
open Go.ChangeShapes Go.WideShapes Go.ChangeAt Go.RowKit

theorem Try.cellsByte : Try.prog.cellsOf 5 = 1 := by kernel_rfl
theorem rdB_of {H : Type} {enc : TypeId × Value → H} {P : Program} {w : World} {t e : TypeId} {v : Value} {r : Reach} {b0 : Nat} {d : DataW H} {p : List MemPlace} (ht : P.underlying t = some (.slice e)) (he : P.underlying e = some (.int .u8)) (hc : P.cellsOf e = 1)
    (hval : Value.okWide P w r b0 t v) (h : DataW.Trod enc P w 0 (fun _ => true) true t v d p) : ∃ (a : Option Addr) (n cap : Nat), v = .slice a n cap ∧ n ≤ maxLen ∧ (n ≤ 65536 → RdB w (.slice a n cap) n) := by
  obtain ⟨a0, len, cap, rfl⟩ := okWide_slice ht hval
  obtain ⟨fuel, hf⟩ := h
  rcases open_ints ht he hc hf with ⟨hcs, hx⟩ | ⟨a, len', cap', zs, hcs, _, hl, hm, hz, hx, hcell, hwz⟩
  · simp [Value.cells] at hcs
    obtain ⟨rfl, rfl, rfl⟩ := hcs
    exact ⟨none, 0, 0, rfl, Nat.zero_le _, fun _ => ⟨none, 0, 0, 0, rfl, Nat.zero_le _, fun h => by omega, fun j hj => by omega⟩⟩
  · simp [Value.cells] at hcs
    obtain ⟨rfl, rfl, rfl⟩ := hcs
    simp only [if_true] at hz
    refine ⟨some a, len, cap, rfl, Nat.le_trans hl hm, fun hn => ?_⟩
    by_cases hp : 0 < zs.length
    · obtain ⟨b, off, rfl, hcc⟩ := ints_at hcell hp
      refine ⟨_, b, off, cap, rfl, hn, fun _ => rfl, fun j hj => ?_⟩
      have hj' : j < zs.length := by omega
      have hmem := hwz zs[j] (List.getElem_mem hj')
      have hb : 0 ≤ zs[j] ∧ zs[j] ≤ 255 := by simpa [Lit.wf, IntKind.min, IntKind.max, IntKind.signed, IntKind.bits] using hmem
      refine ⟨zs[j].toNat, by omega, ?_⟩
      rw [hcc j hj', List.getD_eq_getElem?_getD, List.getElem?_eq_getElem hj']
      simp only [Option.getD_some, Option.some.injEq, Value.int.injEq, true_and]
      omega
    · exact ⟨_, 0, 0, cap, rfl, hn, fun h => by omega, fun j hj => by omega⟩
end Go.Proofs.Ytnmnmnpeoiblhaa
set_option linter.unusedSimpArgs false
set_option linter.unusedVariables false
namespace Go.Proofs.Ytnmnmnpeoiblhaa
open Go.ChangeShapes Go.WideShapes Go.ChangeAt Go.RowKit

theorem code_of {H : Type} {enc : TypeId × Value → H} {P : Program} {w : World} {t e : TypeId} {v : Value} {r : Reach} {b0 : Nat} {d : DataW H} {p : List MemPlace} (ht : P.underlying t = some (.slice e)) (he : P.underlying e = some (.int .u8)) (hc : P.cellsOf e = 1)
    (hval : Value.okWide P w r b0 t v) (h : DataW.Trod enc P w 0 (fun _ => true) true t v d p) : ∃ (a : Option Addr) (n cap : Nat), v = .slice a n cap ∧ n ≤ maxLen ∧ (n ≤ 65536 → Code w a n cap) := by
  obtain ⟨a1, n1, c1, e1, h1, h2⟩ := rdB_of ht he hc hval h
  obtain ⟨a0, len, cap, rfl⟩ := okWide_slice ht hval
  injection e1 with q1 q2 q3
  subst q1 q2 q3
  refine ⟨a0, len, cap, rfl, h1, fun hn => ?_⟩
  obtain ⟨fuel, hf⟩ := h
  rcases open_ints ht he hc hf with ⟨hcs, hx⟩ | ⟨a, len', cap', zs, hcs, _, hl, _⟩
  · simp [Value.cells] at hcs
    obtain ⟨rfl, rfl, rfl⟩ := hcs
    exact ⟨h2 hn, Nat.le_refl _, fun _ => rfl⟩
  · simp [Value.cells] at hcs
    obtain ⟨rfl, rfl, rfl⟩ := hcs
    exact ⟨h2 hn, hl, fun h => by cases h⟩
end Go.Proofs.Ytnmnmnpeoiblhaa
