/- Plain lemmas on bytes: which byte stands in a text, its pieces between bytes, and what a number's text is. No program in sight. -/
import Derived.Test.YtcifpfdlkpddeaaDoorPlain
import Derived.Lib.SplitLaws
import Derived.Lib.ItoaNum
import Derived.Lib.ItoaLen
set_option linter.unusedSimpArgs false
set_option linter.unusedVariables false
namespace Go.Proofs.YtcifpfdlkpddeaaDoor

/-- A byte stands in a text. -/
def hasC (l : List UInt8) (c : UInt8) : Bool := l.contains c
theorem hasC_index (l : List UInt8) (c : UInt8) : decide (0 ≤ Lib.indexByte l c) = hasC l c := by
  unfold hasC
  induction l with
  | nil => rfl
  | cons b l ih =>
    rw [Lib.indexByte, List.contains_cons]
    by_cases hb : b = c
    · subst hb; simp
    · rw [if_neg (by simpa using hb), ← ih]
      have hg := Lib.indexByte_ge l c
      have hcb : (c == b) = false := by simpa using fun e => hb e.symm
      rw [hcb, Bool.false_or]
      by_cases h1 : Lib.indexByte l c = -1
      · rw [if_pos (by simpa using h1), h1]
      · rw [if_neg (by simpa using h1)]
        simp; omega
theorem hasC_true {l : List UInt8} {c : UInt8} {k : Nat} (h : l[k]? = some c) : hasC l c = true := by
  simpa [hasC] using List.mem_of_getElem? h
theorem hasC_false {l : List UInt8} {c : UInt8} (h : ∀ k : Nat, l[k]? ≠ some c) : hasC l c = false := by
  unfold hasC
  rw [Bool.eq_false_iff]
  intro hh
  obtain ⟨k, hk⟩ := List.mem_iff_getElem?.1 (by simpa using hh)
  exact h k hk

/-- The pieces of a text between the bytes c. -/
def pieces (c : UInt8) : List UInt8 → List (List UInt8)
  | [] => [[]]
  | b :: l => if b = c then [] :: pieces c l else (pieces c l).modifyHead (b :: ·)
theorem pieces_ne (c : UInt8) (l : List UInt8) : pieces c l ≠ [] := by
  induction l with
  | nil => simp [pieces]
  | cons b l ih =>
    unfold pieces
    split
    · simp
    · simpa using ih
theorem pieces_none {c : UInt8} : ∀ {l : List UInt8}, (∀ k : Nat, l[k]? ≠ some c) → pieces c l = [l]
  | [], _ => rfl
  | b :: l, h => by
    have hb : ¬ b = c := fun e => h 0 (by simp [e])
    rw [pieces, if_neg hb, pieces_none (l := l) (fun k hk => h (k + 1) (by simpa using hk))]
    rfl
theorem pieces_hit {c : UInt8} : ∀ {l : List UInt8} {i : Nat}, l[i]? = some c → (∀ k : Nat, k < i → l[k]? ≠ some c) → pieces c l = l.take i :: pieces c (l.drop (i + 1))
  | [], i, h, _ => by simp at h
  | b :: l, 0, h, _ => by
    have hb : b = c := by simpa using h
    rw [pieces, if_pos hb]
    rfl
  | b :: l, i + 1, h, hn => by
    have hb : ¬ b = c := fun e => hn 0 (by omega) (by simp [e])
    rw [pieces, if_neg hb, pieces_hit (l := l) (i := i) (by simpa using h) (fun k hk he => hn (k + 1) (by omega) (by simpa using he))]
    rfl
theorem pieces_length (c : UInt8) (l : List UInt8) : (pieces c l).length ≤ l.length + 1 := by
  induction l with
  | nil => simp [pieces]
  | cons b l ih =>
    unfold pieces
    split
    · simp; omega
    · rw [List.length_modifyHead]; simp; omega
theorem index_one (c : UInt8) : ∀ l : List UInt8, Lib.index l [c] = Lib.indexByte l c
  | [] => rfl
  | b :: l => by
    by_cases hb : b = c
    · subst hb; simp [Lib.index, Lib.indexByte]
    · have hcb : ¬ c = b := fun e => hb e.symm
      simp [Lib.index, Lib.indexByte, index_one c l, hb, hcb]
theorem splitK_pieces (c : UInt8) (n : Nat) : ∀ l : List UInt8, l.length ≤ n → Lib.splitK [c] 0 (Lib.count l [c]) l = pieces c l := by
  induction n with
  | zero =>
    intro l hl
    obtain rfl : l = [] := List.length_eq_zero_iff.1 (by omega)
    rfl
  | succ n ih =>
    intro l hl
    by_cases hx : Lib.index l [c] = -1
    · rw [Lib.count_miss hx, Lib.splitK, pieces_none]
      rw [index_one] at hx
      exact Lib.indexByte_none hx
    · obtain ⟨i, hi⟩ : ∃ i : Nat, Lib.index l [c] = i := ⟨(Lib.index l [c]).toNat, by have := Lib.index_ge l [c]; omega⟩
      have hi' := hi
      rw [index_one] at hi'
      obtain ⟨a, b⟩ := Lib.indexByte_some hi'
      have hil := (List.getElem?_eq_some_iff.1 a).1
      rw [Lib.count_hit (by simp) hi, Nat.add_comm 1, Lib.splitK, if_neg (by rw [hi]; simp), pieces_hit a b]
      have e : (Lib.index l [c]).toNat = i := by omega
      rw [e, Nat.add_zero, List.length_singleton, ih _ (by simp; omega)]
theorem splitB_pieces (c : UInt8) (s : ByteArray) : (Lib.splitB ⟨#[c]⟩ 0 (Lib.countB s ⟨#[c]⟩) s).map (·.data.toList) = pieces c s.data.toList := by
  rw [Lib.splitB_data]
  exact splitK_pieces c _ _ (Nat.le_refl _)
theorem cut_pieces (c : UInt8) (l : List UInt8) : (pieces c l).head? = some (Lib.cut l [c]).1 := by
  unfold Lib.cut
  by_cases hx : Lib.index l [c] = -1
  · rw [if_neg (by omega), pieces_none]
    · rfl
    · rw [index_one] at hx
      exact Lib.indexByte_none hx
  · obtain ⟨i, hi⟩ : ∃ i : Nat, Lib.index l [c] = i := ⟨(Lib.index l [c]).toNat, by have := Lib.index_ge l [c]; omega⟩
    have hi' := hi
    rw [index_one] at hi'
    obtain ⟨a, b⟩ := Lib.indexByte_some hi'
    rw [if_pos (by omega), pieces_hit a b, hi]
    simp

/-- A text with its checksum. -/
def sealB (s : ByteArray) : ByteArray := s ++ ⟨#[35]⟩ ++ ⟨(Lib.itoa (csum s.data.toList)).toArray⟩
theorem csum_len (l : List UInt8) : (Lib.itoa (csum l)).length ≤ 20 := by
  have hb := csum_bound l
  obtain ⟨u, hu⟩ : ∃ u : Nat, csum l = (u : Int) := ⟨(csum l).toNat, by omega⟩
  rw [hu, Lib.itoa_nonneg, Lib.decDigits_length]
  exact Lib.nDigits_le20 _ (by omega)
theorem sealB_size (s : ByteArray) : (sealB s).size = s.size + 1 + (Lib.itoa (csum s.data.toList)).length := by
  unfold sealB
  simp [ByteArray.size_append]
  rfl
/-- What AppendChecksum hands back. -/
def sealOk (s : ByteArray) : Bool := decide (s.size ≤ 4000) && (!(hasC s.data.toList 35) && decide ((sealB s).size ≤ 4000))
def sealR (s : ByteArray) : ByteArray := if sealOk s then sealB s else ⟨#[]⟩
theorem sealR_ok {s : ByteArray} (h : sealOk s = true) : sealR s = sealB s := by unfold sealR; rw [if_pos h]
theorem sealR_not {s : ByteArray} (h : sealOk s = false) : sealR s = ⟨#[]⟩ := by unfold sealR; rw [if_neg (by simp [h])]
end Go.Proofs.YtcifpfdlkpddeaaDoor
