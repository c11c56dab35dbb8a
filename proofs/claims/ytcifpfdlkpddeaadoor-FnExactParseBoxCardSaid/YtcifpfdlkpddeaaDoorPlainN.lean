/- Plain lemmas on decimal texts: reading a number's own text gives it back, and nothing else does. No program in sight. -/
import Derived.Test.YtcifpfdlkpddeaaDoorPlainS
import Derived.Lib.Atoi
import Derived.Lib.ItoaMem
set_option linter.unusedSimpArgs false
set_option linter.unusedVariables false
namespace Go.Proofs.YtcifpfdlkpddeaaDoor

theorem decFrom_append (l r : List UInt8) : ∀ acc : Nat, Lib.decFrom acc (l ++ r) = (Lib.decFrom acc l).bind fun m => Lib.decFrom m r := by
  induction l with
  | nil => intro acc; rfl
  | cons b l ih =>
    intro acc
    rw [List.cons_append, Lib.decFrom, Lib.decFrom]
    cases Lib.digitVal b with
    | none => rfl
    | some d => exact ih _
theorem digitVal_of {r : Nat} (h : r < 10) : Lib.digitVal (UInt8.ofNat (48 + r)) = some r := by
  have e : (UInt8.ofNat (48 + r)).toNat = 48 + r := by rw [UInt8.toNat_ofNat']; omega
  unfold Lib.digitVal
  rw [e, if_pos (by omega)]
  simp
theorem decFrom_digits (k : Nat) : ∀ u : Nat, u ≤ k → Lib.decFrom 0 (Lib.decDigits u) = some u := by
  induction k with
  | zero =>
    intro u hu
    rw [Lib.decDigits_one (by omega), Lib.decFrom, digitVal_of (by omega)]
    simp [Lib.decFrom]
  | succ k ih =>
    intro u hu
    by_cases h : u < 10
    · rw [Lib.decDigits_one h, Lib.decFrom, digitVal_of h]
      simp [Lib.decFrom]
    · have e : Lib.decDigits u = Lib.decDigits (u / 10) ++ [UInt8.ofNat (48 + u % 10)] := by rw [Lib.decDigits, dif_neg h]
      rw [e, decFrom_append, ih _ (by omega), Option.bind_some, Lib.decFrom, digitVal_of (by omega)]
      simp only [Lib.decFrom, Option.some.injEq]
      omega
theorem decDigits_ne (u : Nat) : Lib.decDigits u ≠ [] := by
  intro h
  have h1 := Lib.decDigits_length u
  have h2 := Lib.nDigits_pos u
  rw [h] at h1
  simp at h1
  omega
theorem decDigits_head (u : Nat) {b : UInt8} (h : (Lib.decDigits u)[0]? = some b) : 48 ≤ b.toNat ∧ b.toNat ≤ 57 := by
  obtain ⟨d, hd⟩ := Lib.digit_of_decFrom _ _ _ (decFrom_digits u u (Nat.le_refl _)) 0 b h
  have := Lib.digitVal_eq hd
  omega
theorem decDigits_len6 {u : Nat} (h : u ≤ 999999) : (Lib.decDigits u).length ≤ 6 := by
  rw [Lib.decDigits_length]
  by_cases hc : Lib.nDigits u ≤ 6
  · exact hc
  · exfalso
    obtain ⟨k, hk⟩ : ∃ k, Lib.nDigits u = k + 7 := ⟨Lib.nDigits u - 7, by omega⟩
    have : ∀ (n v : Nat), v < 10 ^ n → 1 ≤ n → Lib.nDigits v ≤ n := by
      intro n
      induction n with
      | zero => intro v _ h; omega
      | succ n ih =>
        intro v hv _
        by_cases h10 : v < 10
        · rw [Lib.nDigits_small h10]; omega
        · rw [Lib.nDigits_big h10]
          by_cases hn : n = 0
          · subst hn; omega
          · have := ih (v / 10) (by rw [Nat.pow_succ] at hv; omega) (by omega)
            omega
    have := this 6 u (by omega) (by omega)
    omega

/-- A text without its sign. -/
def tailOf (l : List UInt8) : List UInt8 := if 1 < l.length ∧ l[0]? = some 45 then l.drop 1 else l
theorem tailOf_neg {l : List UInt8} (h : 1 < l.length ∧ l[0]? = some 45) : tailOf l = l.drop 1 := by unfold tailOf; rw [if_pos h]
theorem tailOf_plain {l : List UInt8} (h : ¬ (1 < l.length ∧ l[0]? = some 45)) : tailOf l = l := by unfold tailOf; rw [if_neg h]
theorem tailOf_itoa (n : Int) : tailOf (Lib.itoa n) = Lib.decDigits n.natAbs ∧ (n < 0 ↔ (Lib.decDigits n.natAbs).length < (Lib.itoa n).length) := by
  by_cases hn : n < 0
  · have e : Lib.itoa n = 45 :: Lib.decDigits n.natAbs := by unfold Lib.itoa; rw [if_pos hn]
    have := List.length_pos_iff.2 (decDigits_ne n.natAbs)
    rw [e, tailOf_neg ⟨by simp; omega, rfl⟩]
    exact ⟨rfl, by simp [hn]⟩
  · have e : Lib.itoa n = Lib.decDigits n.natAbs := by unfold Lib.itoa; rw [if_neg hn]; congr 1; omega
    rw [e, tailOf_plain]
    · exact ⟨rfl, by simp; omega⟩
    · rintro ⟨_, h⟩
      have := decDigits_head _ h
      simp at this

/-- The number whose own text this is, where it lies between the bounds. -/
def valI (l : List UInt8) (m : Nat) : Int := if (tailOf l).length < l.length then -(m : Int) else (m : Int)
def keepI (l : List UInt8) (n : Int) : Option Int := if inB n (-999999) 999999 = true ∧ Lib.itoa n = l then some n else none
def readI (l : List UInt8) : Option Int := (Lib.decFrom 0 (tailOf l)).bind fun m => keepI l (valI l m)
theorem valI_itoa (n : Int) : valI (Lib.itoa n) n.natAbs = n := by
  obtain ⟨h1, h2⟩ := tailOf_itoa n
  unfold valI
  rw [h1]
  by_cases hn : n < 0
  · rw [if_pos (h2.1 hn)]; omega
  · rw [if_neg (fun hh => hn (h2.2 hh))]; omega
theorem readI_itoa {n : Int} (h : inB n (-999999) 999999 = true) : readI (Lib.itoa n) = some n := by
  obtain ⟨h1, h2⟩ := tailOf_itoa n
  unfold readI
  rw [h1, decFrom_digits _ _ (Nat.le_refl _), Option.bind_some, valI_itoa]
  unfold keepI
  rw [if_pos ⟨h, rfl⟩]
theorem keepI_some {l : List UInt8} {m n : Int} (h : keepI l m = some n) : m = n ∧ inB n (-999999) 999999 = true ∧ Lib.itoa n = l := by
  unfold keepI at h
  split at h
  · rename_i hc
    cases h
    exact ⟨rfl, hc⟩
  · cases h
theorem readI_some {l : List UInt8} {n : Int} (h : readI l = some n) : inB n (-999999) 999999 = true ∧ Lib.itoa n = l := by
  unfold readI at h
  cases hd : Lib.decFrom 0 (tailOf l) with
  | none => rw [hd] at h; cases h
  | some m =>
    rw [hd, Option.bind_some] at h
    exact (keepI_some h).2
theorem readI_shape {l : List UInt8} {n : Int} (h : readI l = some n) : 1 ≤ (tailOf l).length ∧ (tailOf l).length ≤ 6 ∧ l.length ≤ 7 ∧ Lib.decFrom 0 (tailOf l) = some n.natAbs ∧ (n < 0 ↔ (tailOf l).length < l.length) := by
  obtain ⟨h1, rfl⟩ := readI_some h
  obtain ⟨h2, h3⟩ := tailOf_itoa n
  have h4 := inB_iff.1 h1
  have h5 := decDigits_len6 (u := n.natAbs) (by omega)
  have h6 := List.length_pos_iff.2 (decDigits_ne n.natAbs)
  rw [h2]
  refine ⟨by omega, h5, ?_, decFrom_digits _ _ (Nat.le_refl _), h3⟩
  unfold Lib.itoa
  split
  · simp; omega
  · rename_i hn
    have : n.toNat = n.natAbs := by omega
    rw [this]; omega
/-- What ParseInt hands back. -/
def readV (s : ByteArray) : Int := (readI s.data.toList).getD 0
def readOk (s : ByteArray) : Bool := (readI s.data.toList).isSome
theorem read_none {s : ByteArray} (h : readI s.data.toList = none) : readV s = 0 ∧ readOk s = false := by simp [readV, readOk, h]
theorem read_some {s : ByteArray} {n : Int} (h : readI s.data.toList = some n) : readV s = n ∧ readOk s = true := by simp [readV, readOk, h]

theorem atoi_itoa (n : Int) : Lib.atoi (Lib.itoa n) = some n := by
  have hd : ∀ u : Nat, Lib.decNat (Lib.decDigits u) = some u := by
    intro u
    unfold Lib.decNat
    rw [if_neg (by simpa using decDigits_ne u)]
    exact decFrom_digits u u (Nat.le_refl _)
  by_cases hn : n < 0
  · have e : Lib.itoa n = 45 :: Lib.decDigits n.natAbs := by unfold Lib.itoa; rw [if_pos hn]
    rw [e, Lib.atoi, if_pos (by decide), hd]
    simp only [Option.map_some, Option.some.injEq]; omega
  · have e : Lib.itoa n = Lib.decDigits n.natAbs := by unfold Lib.itoa; rw [if_neg hn]; congr 1; omega
    rw [e]
    have hq := hd n.natAbs
    have hh := @decDigits_head n.natAbs
    have hne := decDigits_ne n.natAbs
    generalize Lib.decDigits n.natAbs = D at *
    cases D with
    | nil => exact absurd rfl hne
    | cons b r =>
      have := hh (b := b) rfl
      have h1 : ¬ (b == 45) = true := by intro h; rw [beq_iff_eq] at h; subst h; simp at this
      have h2 : ¬ (b == 43) = true := by intro h; rw [beq_iff_eq] at h; subst h; simp at this
      rw [Lib.atoi, if_neg h1, if_neg h2, hq]
      simp only [Option.map_some, Option.some.injEq]; omega
/-- Where the library reads a number whose own text the text is. -/
theorem readI_atoi {l : List UInt8} {n : Int} (h : Lib.atoi l = some n) : readI l = if inB n (-999999) 999999 && decide (Lib.itoa n = l) then some n else none := by
  split
  · rename_i hc
    rw [Bool.and_eq_true, decide_eq_true_eq] at hc
    rw [← hc.2]
    exact readI_itoa hc.1
  · rename_i hc
    cases hr : readI l with
    | none => rfl
    | some m =>
      exfalso
      obtain ⟨h1, h2⟩ := readI_some hr
      rw [← h2, atoi_itoa] at h
      cases h
      exact hc (by rw [h1, h2]; simp)
theorem readI_atoi_none {l : List UInt8} (h : Lib.atoi l = none) : readI l = none := by
  cases hr : readI l with
  | none => rfl
  | some m =>
    obtain ⟨h1, h2⟩ := readI_some hr
    rw [← h2, atoi_itoa] at h
    cases h
end Go.Proofs.YtcifpfdlkpddeaaDoor
