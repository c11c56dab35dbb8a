/- The first greatest sum: when there is one. No program in sight. -/
import Derived.Test.YtbleeakcmmpcgaaPlainR
set_option linter.unusedSimpArgs false
set_option linter.unusedVariables false
namespace Go.Proofs.Ytbleeakcmmpcgaa

def firstG (b : BoxD) : Gr := if boxB b = true then great b else Gr.zero
theorem grStep_there (b : BoxD) (p q : Nat × Nat) (g : Gr) (m : Nat) : (grStep b p q g m).there = true := by
  unfold grStep
  split
  · rfl
  · rename_i h
    cases e : g.there with
    | true => rfl
    | false => exact absurd (by simp [e]) h
theorem gr4_there (b : BoxD) (p q : Nat × Nat) (g : Gr) (k : Nat) : (gr4 b p q g (k + 1)).there = true := grStep_there _ _ _ _ _
theorem grQ_there (b : BoxD) (p : Nat × Nat) (Q : List (Nat × Nat)) (g : Gr) (j : Nat) : (grQ b p Q g (j + 1)).there = true := gr4_there _ _ _ _ 3
theorem grP_there (b : BoxD) (P Q : List (Nat × Nat)) (hQ : 1 ≤ Q.length) (i : Nat) : (grP b P Q (i + 1)).there = true := by
  show (grQ b _ Q _ Q.length).there = true
  obtain ⟨j, hj⟩ : ∃ j, Q.length = j + 1 := ⟨Q.length - 1, by omega⟩
  rw [hj]
  exact grQ_there _ _ _ _ _
theorem grP_none (b : BoxD) (P : List (Nat × Nat)) : ∀ i, grP b P [] i = Gr.zero
  | 0 => rfl
  | i + 1 => by
    show grP b P [] i = Gr.zero
    exact grP_none b P i
theorem pairs_some {n : Int} (h : 2 ≤ n ∧ n ≤ 3) : 1 ≤ (pairsTo n.toNat n.toNat).length := by
  have : n.toNat = 2 ∨ n.toNat = 3 := by omega
  rcases this with e | e <;> rw [e] <;> decide
theorem pairs_none {n : Int} (h : 1 ≤ n) (h2 : n < 2) : pairsTo n.toNat n.toNat = [] := by
  have : n.toNat = 1 := by omega
  rw [this]; rfl
theorem great_there {b : BoxD} (hb : boxB b = true) (hx : 2 ≤ b.X) (hy : 2 ≤ b.Y) : (great b).there = true := by
  have hs := (boxB_iff.1 hb).1
  unfold great
  have h1 := pairs_some (n := b.X) ⟨hx, hs.1.2⟩
  have h2 := pairs_some (n := b.Y) ⟨hy, hs.2.2⟩
  obtain ⟨j, hj⟩ : ∃ j, (pairsTo b.X.toNat b.X.toNat).length = j + 1 := ⟨(pairsTo b.X.toNat b.X.toNat).length - 1, by omega⟩
  rw [hj]
  exact grP_there _ _ _ h2 _
theorem great_x {b : BoxD} (hb : boxB b = true) (hx : b.X < 2) : great b = Gr.zero := by
  have hs := (boxB_iff.1 hb).1
  unfold great
  rw [pairs_none hs.1.1 hx]
  rfl
theorem great_y {b : BoxD} (hb : boxB b = true) (hy : b.Y < 2) : great b = Gr.zero := by
  have hs := (boxB_iff.1 hb).1
  unfold great
  rw [pairs_none hs.2.1 hy]
  exact grP_none _ _ _
theorem firstG_no {b : BoxD} (h : boxB b = true → b.X < 2 ∨ b.Y < 2) : firstG b = Gr.zero := by
  unfold firstG
  split
  · rename_i hb
    rcases h hb with h | h
    · exact great_x hb h
    · exact great_y hb h
  · rfl
theorem firstG_yes {b : BoxD} (h : boxB b = true) : firstG b = great b := by unfold firstG; rw [if_pos h]
end Go.Proofs.Ytbleeakcmmpcgaa
