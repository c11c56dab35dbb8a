/- Plain lemmas on bytes: which byte stands in a text, its pieces between bytes, and what a number's text is. No program in sight. Plain lemmas on decimal texts: reading a number's own text gives it back, and nothing else does. No program in sight. Slices of texts: readings, and the laws' own helpers over one slice of texts: copy, compare, size, mark, ask. -/
import Derived.Test.YtcifpfdlkpddeaaGreatDoorQxab
import Derived.Test.YtcifpfdlkpddeaaGreatDoorQxac
import Derived.Lib.SplitLaws
import Derived.Lib.ItoaNum
import Derived.Lib.ItoaLen
import Derived.Lib.Atoi
import Derived.Lib.ItoaMem
import Derived.Deep.RegionHeld3
import Derived.Laws.IdiomStrings
set_option linter.unusedSimpArgs false
set_option linter.unusedVariables false
namespace Go.Proofs.YtcifpfdlkpddeaaGreatDoor

/-- A byte stands in a text. -/
def hasC (l : List UInt8) (c : UInt8) : Bool := l.contains c
theorem hasC_index (l : List UInt8) (c : UInt8) : decide (0 ≤ Lib.indexByte l c) = hasC l c := by
  unfold hasC
  induction l with
  | nil => rfl
  | cons b l ih =>
    rw [Lib.indexByte, List.contains_cons]
    by_cases hb : b = c
    · subst hb; simp
    · rw [if_neg (by simpa using hb), ← ih]
      have hg := Lib.indexByte_ge l c
      have hcb : (c == b) = false := by simpa using fun e => hb e.symm
      rw [hcb, Bool.false_or]
      by_cases h1 : Lib.indexByte l c = -1
      · rw [if_pos (by simpa using h1), h1]
      · rw [if_neg (by simpa using h1)]
        simp; omega
theorem hasC_true {l : List UInt8} {c : UInt8} {k : Nat} (h : l[k]? = some c) : hasC l c = true := by
  simpa [hasC] using List.mem_of_getElem? h
theorem hasC_false {l : List UInt8} {c : UInt8} (h : ∀ k : Nat, l[k]? ≠ some c) : hasC l c = false := by
  unfold hasC
  rw [Bool.eq_false_iff]
  intro hh
  obtain ⟨k, hk⟩ := List.mem_iff_getElem?.1 (by simpa using hh)
  exact h k hk

/-- The pieces of a text between the bytes c. -/
def pieces (c : UInt8) : List UInt8 → List (List UInt8)
  | [] => [[]]
  | b :: l => if b = c then [] :: pieces c l else (pieces c l).modifyHead (b :: ·)
theorem pieces_ne (c : UInt8) (l : List UInt8) : pieces c l ≠ [] := by
  induction l with
  | nil => simp [pieces]
  | cons b l ih =>
    unfold pieces
    split
    · simp
    · simpa using ih
theorem pieces_none {c : UInt8} : ∀ {l : List UInt8}, (∀ k : Nat, l[k]? ≠ some c) → pieces c l = [l]
  | [], _ => rfl
  | b :: l, h => by
    have hb : ¬ b = c := fun e => h 0 (by simp [e])
    rw [pieces, if_neg hb, pieces_none (l := l) (fun k hk => h (k + 1) (by simpa using hk))]
    rfl
theorem pieces_hit {c : UInt8} : ∀ {l : List UInt8} {i : Nat}, l[i]? = some c → (∀ k : Nat, k < i → l[k]? ≠ some c) → pieces c l = l.take i :: pieces c (l.drop (i + 1))
  | [], i, h, _ => by simp at h
  | b :: l, 0, h, _ => by
    have hb : b = c := by simpa using h
    rw [pieces, if_pos hb]
    rfl
  | b :: l, i + 1, h, hn => by
    have hb : ¬ b = c := fun e => hn 0 (by omega) (by simp [e])
    rw [pieces, if_neg hb, pieces_hit (l := l) (i := i) (by simpa using h) (fun k hk he => hn (k + 1) (by omega) (by simpa using he))]
    rfl
theorem pieces_length (c : UInt8) (l : List UInt8) : (pieces c l).length ≤ l.length + 1 := by
  induction l with
  | nil => simp [pieces]
  | cons b l ih =>
    unfold pieces
    split
    · simp; omega
    · rw [List.length_modifyHead]; simp; omega
theorem index_one (c : UInt8) : ∀ l : List UInt8, Lib.index l [c] = Lib.indexByte l c
  | [] => rfl
  | b :: l => by
    by_cases hb : b = c
    · subst hb; simp [Lib.index, Lib.indexByte]
    · have hcb : ¬ c = b := fun e => hb e.symm
      simp [Lib.index, Lib.indexByte, index_one c l, hb, hcb]
theorem splitK_pieces (c : UInt8) (n : Nat) : ∀ l : List UInt8, l.length ≤ n → Lib.splitK [c] 0 (Lib.count l [c]) l = pieces c l := by
  induction n with
  | zero =>
    intro l hl
    obtain rfl : l = [] := List.length_eq_zero_iff.1 (by omega)
    rfl
  | succ n ih =>
    intro l hl
    by_cases hx : Lib.index l [c] = -1
    · rw [Lib.count_miss hx, Lib.splitK, pieces_none]
      rw [index_one] at hx
      exact Lib.indexByte_none hx
    · obtain ⟨i, hi⟩ : ∃ i : Nat, Lib.index l [c] = i := ⟨(Lib.index l [c]).toNat, by have := Lib.index_ge l [c]; omega⟩
      have hi' := hi
      rw [index_one] at hi'
      obtain ⟨a, b⟩ := Lib.indexByte_some hi'
      have hil := (List.getElem?_eq_some_iff.1 a).1
      rw [Lib.count_hit (by simp) hi, Nat.add_comm 1, Lib.splitK, if_neg (by rw [hi]; simp), pieces_hit a b]
      have e : (Lib.index l [c]).toNat = i := by omega
      rw [e, Nat.add_zero, List.length_singleton, ih _ (by simp; omega)]
theorem splitB_pieces (c : UInt8) (s : ByteArray) : (Lib.splitB ⟨#[c]⟩ 0 (Lib.countB s ⟨#[c]⟩) s).map (·.data.toList) = pieces c s.data.toList := by
  rw [Lib.splitB_data]
  exact splitK_pieces c _ _ (Nat.le_refl _)
theorem cut_pieces (c : UInt8) (l : List UInt8) : (pieces c l).head? = some (Lib.cut l [c]).1 := by
  unfold Lib.cut
  by_cases hx : Lib.index l [c] = -1
  · rw [if_neg (by omega), pieces_none]
    · rfl
    · rw [index_one] at hx
      exact Lib.indexByte_none hx
  · obtain ⟨i, hi⟩ : ∃ i : Nat, Lib.index l [c] = i := ⟨(Lib.index l [c]).toNat, by have := Lib.index_ge l [c]; omega⟩
    have hi' := hi
    rw [index_one] at hi'
    obtain ⟨a, b⟩ := Lib.indexByte_some hi'
    rw [if_pos (by omega), pieces_hit a b, hi]
    simp

/-- A text with its checksum. -/
def sealB (s : ByteArray) : ByteArray := s ++ ⟨#[35]⟩ ++ ⟨(Lib.itoa (csum s.data.toList)).toArray⟩
theorem csum_len (l : List UInt8) : (Lib.itoa (csum l)).length ≤ 20 := by
  have hb := csum_bound l
  obtain ⟨u, hu⟩ : ∃ u : Nat, csum l = (u : Int) := ⟨(csum l).toNat, by omega⟩
  rw [hu, Lib.itoa_nonneg, Lib.decDigits_length]
  exact Lib.nDigits_le20 _ (by omega)
theorem sealB_size (s : ByteArray) : (sealB s).size = s.size + 1 + (Lib.itoa (csum s.data.toList)).length := by
  unfold sealB
  simp [ByteArray.size_append]
  rfl
/-- What AppendChecksum hands back. -/
def sealOk (s : ByteArray) : Bool := decide (s.size ≤ 4000) && (!(hasC s.data.toList 35) && decide ((sealB s).size ≤ 4000))
def sealR (s : ByteArray) : ByteArray := if sealOk s then sealB s else ⟨#[]⟩
theorem sealR_ok {s : ByteArray} (h : sealOk s = true) : sealR s = sealB s := by unfold sealR; rw [if_pos h]
theorem sealR_not {s : ByteArray} (h : sealOk s = false) : sealR s = ⟨#[]⟩ := by unfold sealR; rw [if_neg (by simp [h])]
end Go.Proofs.YtcifpfdlkpddeaaGreatDoor
set_option linter.unusedSimpArgs false
set_option linter.unusedVariables false
namespace Go.Proofs.YtcifpfdlkpddeaaGreatDoor

theorem decFrom_append (l r : List UInt8) : ∀ acc : Nat, Lib.decFrom acc (l ++ r) = (Lib.decFrom acc l).bind fun m => Lib.decFrom m r := by
  induction l with
  | nil => intro acc; rfl
  | cons b l ih =>
    intro acc
    rw [List.cons_append, Lib.decFrom, Lib.decFrom]
    cases Lib.digitVal b with
    | none => rfl
    | some d => exact ih _
theorem digitVal_of {r : Nat} (h : r < 10) : Lib.digitVal (UInt8.ofNat (48 + r)) = some r := by
  have e : (UInt8.ofNat (48 + r)).toNat = 48 + r := by rw [UInt8.toNat_ofNat']; omega
  unfold Lib.digitVal
  rw [e, if_pos (by omega)]
  simp
theorem decFrom_digits (k : Nat) : ∀ u : Nat, u ≤ k → Lib.decFrom 0 (Lib.decDigits u) = some u := by
  induction k with
  | zero =>
    intro u hu
    rw [Lib.decDigits_one (by omega), Lib.decFrom, digitVal_of (by omega)]
    simp [Lib.decFrom]
  | succ k ih =>
    intro u hu
    by_cases h : u < 10
    · rw [Lib.decDigits_one h, Lib.decFrom, digitVal_of h]
      simp [Lib.decFrom]
    · have e : Lib.decDigits u = Lib.decDigits (u / 10) ++ [UInt8.ofNat (48 + u % 10)] := by rw [Lib.decDigits, dif_neg h]
      rw [e, decFrom_append, ih _ (by omega), Option.bind_some, Lib.decFrom, digitVal_of (by omega)]
      simp only [Lib.decFrom, Option.some.injEq]
      omega
theorem decDigits_ne (u : Nat) : Lib.decDigits u ≠ [] := by
  intro h
  have h1 := Lib.decDigits_length u
  have h2 := Lib.nDigits_pos u
  rw [h] at h1
  simp at h1
  omega
theorem decDigits_head (u : Nat) {b : UInt8} (h : (Lib.decDigits u)[0]? = some b) : 48 ≤ b.toNat ∧ b.toNat ≤ 57 := by
  obtain ⟨d, hd⟩ := Lib.digit_of_decFrom _ _ _ (decFrom_digits u u (Nat.le_refl _)) 0 b h
  have := Lib.digitVal_eq hd
  omega
theorem decDigits_len6 {u : Nat} (h : u ≤ 999999) : (Lib.decDigits u).length ≤ 6 := by
  rw [Lib.decDigits_length]
  by_cases hc : Lib.nDigits u ≤ 6
  · exact hc
  · exfalso
    obtain ⟨k, hk⟩ : ∃ k, Lib.nDigits u = k + 7 := ⟨Lib.nDigits u - 7, by omega⟩
    have : ∀ (n v : Nat), v < 10 ^ n → 1 ≤ n → Lib.nDigits v ≤ n := by
      intro n
      induction n with
      | zero => intro v _ h; omega
      | succ n ih =>
        intro v hv _
        by_cases h10 : v < 10
        · rw [Lib.nDigits_small h10]; omega
        · rw [Lib.nDigits_big h10]
          by_cases hn : n = 0
          · subst hn; omega
          · have := ih (v / 10) (by rw [Nat.pow_succ] at hv; omega) (by omega)
            omega
    have := this 6 u (by omega) (by omega)
    omega

/-- A text without its sign. -/
def tailOf (l : List UInt8) : List UInt8 := if 1 < l.length ∧ l[0]? = some 45 then l.drop 1 else l
theorem tailOf_neg {l : List UInt8} (h : 1 < l.length ∧ l[0]? = some 45) : tailOf l = l.drop 1 := by unfold tailOf; rw [if_pos h]
theorem tailOf_plain {l : List UInt8} (h : ¬ (1 < l.length ∧ l[0]? = some 45)) : tailOf l = l := by unfold tailOf; rw [if_neg h]
theorem tailOf_itoa (n : Int) : tailOf (Lib.itoa n) = Lib.decDigits n.natAbs ∧ (n < 0 ↔ (Lib.decDigits n.natAbs).length < (Lib.itoa n).length) := by
  by_cases hn : n < 0
  · have e : Lib.itoa n = 45 :: Lib.decDigits n.natAbs := by unfold Lib.itoa; rw [if_pos hn]
    have := List.length_pos_iff.2 (decDigits_ne n.natAbs)
    rw [e, tailOf_neg ⟨by simp; omega, rfl⟩]
    exact ⟨rfl, by simp [hn]⟩
  · have e : Lib.itoa n = Lib.decDigits n.natAbs := by unfold Lib.itoa; rw [if_neg hn]; congr 1; omega
    rw [e, tailOf_plain]
    · exact ⟨rfl, by simp; omega⟩
    · rintro ⟨_, h⟩
      have := decDigits_head _ h
      simp at this

/-- The number whose own text this is, where it lies between the bounds. -/
def valI (l : List UInt8) (m : Nat) : Int := if (tailOf l).length < l.length then -(m : Int) else (m : Int)
def keepI (l : List UInt8) (n : Int) : Option Int := if inB n (-999999) 999999 = true ∧ Lib.itoa n = l then some n else none
def readI (l : List UInt8) : Option Int := (Lib.decFrom 0 (tailOf l)).bind fun m => keepI l (valI l m)
theorem valI_itoa (n : Int) : valI (Lib.itoa n) n.natAbs = n := by
  obtain ⟨h1, h2⟩ := tailOf_itoa n
  unfold valI
  rw [h1]
  by_cases hn : n < 0
  · rw [if_pos (h2.1 hn)]; omega
  · rw [if_neg (fun hh => hn (h2.2 hh))]; omega
theorem readI_itoa {n : Int} (h : inB n (-999999) 999999 = true) : readI (Lib.itoa n) = some n := by
  obtain ⟨h1, h2⟩ := tailOf_itoa n
  unfold readI
  rw [h1, decFrom_digits _ _ (Nat.le_refl _), Option.bind_some, valI_itoa]
  unfold keepI
  rw [if_pos ⟨h, rfl⟩]
theorem keepI_some {l : List UInt8} {m n : Int} (h : keepI l m = some n) : m = n ∧ inB n (-999999) 999999 = true ∧ Lib.itoa n = l := by
  unfold keepI at h
  split at h
  · rename_i hc
    cases h
    exact ⟨rfl, hc⟩
  · cases h
theorem readI_some {l : List UInt8} {n : Int} (h : readI l = some n) : inB n (-999999) 999999 = true ∧ Lib.itoa n = l := by
  unfold readI at h
  cases hd : Lib.decFrom 0 (tailOf l) with
  | none => rw [hd] at h; cases h
  | some m =>
    rw [hd, Option.bind_some] at h
    exact (keepI_some h).2
theorem readI_shape {l : List UInt8} {n : Int} (h : readI l = some n) : 1 ≤ (tailOf l).length ∧ (tailOf l).length ≤ 6 ∧ l.length ≤ 7 ∧ Lib.decFrom 0 (tailOf l) = some n.natAbs ∧ (n < 0 ↔ (tailOf l).length < l.length) := by
  obtain ⟨h1, rfl⟩ := readI_some h
  obtain ⟨h2, h3⟩ := tailOf_itoa n
  have h4 := inB_iff.1 h1
  have h5 := decDigits_len6 (u := n.natAbs) (by omega)
  have h6 := List.length_pos_iff.2 (decDigits_ne n.natAbs)
  rw [h2]
  refine ⟨by omega, h5, ?_, decFrom_digits _ _ (Nat.le_refl _), h3⟩
  unfold Lib.itoa
  split
  · simp; omega
  · rename_i hn
    have : n.toNat = n.natAbs := by omega
    rw [this]; omega
/-- What ParseInt hands back. -/
def readV (s : ByteArray) : Int := (readI s.data.toList).getD 0
def readOk (s : ByteArray) : Bool := (readI s.data.toList).isSome
theorem read_none {s : ByteArray} (h : readI s.data.toList = none) : readV s = 0 ∧ readOk s = false := by simp [readV, readOk, h]
theorem read_some {s : ByteArray} {n : Int} (h : readI s.data.toList = some n) : readV s = n ∧ readOk s = true := by simp [readV, readOk, h]

theorem atoi_itoa (n : Int) : Lib.atoi (Lib.itoa n) = some n := by
  have hd : ∀ u : Nat, Lib.decNat (Lib.decDigits u) = some u := by
    intro u
    unfold Lib.decNat
    rw [if_neg (by simpa using decDigits_ne u)]
    exact decFrom_digits u u (Nat.le_refl _)
  by_cases hn : n < 0
  · have e : Lib.itoa n = 45 :: Lib.decDigits n.natAbs := by unfold Lib.itoa; rw [if_pos hn]
    rw [e, Lib.atoi, if_pos (by decide), hd]
    simp only [Option.map_some, Option.some.injEq]; omega
  · have e : Lib.itoa n = Lib.decDigits n.natAbs := by unfold Lib.itoa; rw [if_neg hn]; congr 1; omega
    rw [e]
    have hq := hd n.natAbs
    have hh := @decDigits_head n.natAbs
    have hne := decDigits_ne n.natAbs
    generalize Lib.decDigits n.natAbs = D at *
    cases D with
    | nil => exact absurd rfl hne
    | cons b r =>
      have := hh (b := b) rfl
      have h1 : ¬ (b == 45) = true := by intro h; rw [beq_iff_eq] at h; subst h; simp at this
      have h2 : ¬ (b == 43) = true := by intro h; rw [beq_iff_eq] at h; subst h; simp at this
      rw [Lib.atoi, if_neg h1, if_neg h2, hq]
      simp only [Option.map_some, Option.some.injEq]; omega
/-- Where the library reads a number whose own text the text is. -/
theorem readI_atoi {l : List UInt8} {n : Int} (h : Lib.atoi l = some n) : readI l = if inB n (-999999) 999999 && decide (Lib.itoa n = l) then some n else none := by
  split
  · rename_i hc
    rw [Bool.and_eq_true, decide_eq_true_eq] at hc
    rw [← hc.2]
    exact readI_itoa hc.1
  · rename_i hc
    cases hr : readI l with
    | none => rfl
    | some m =>
      exfalso
      obtain ⟨h1, h2⟩ := readI_some hr
      rw [← h2, atoi_itoa] at h
      cases h
      exact hc (by rw [h1, h2]; simp)
theorem readI_atoi_none {l : List UInt8} (h : Lib.atoi l = none) : readI l = none := by
  cases hr : readI l with
  | none => rfl
  | some m =>
    obtain ⟨h1, h2⟩ := readI_some hr
    rw [← h2, atoi_itoa] at h
    cases h
end Go.Proofs.YtcifpfdlkpddeaaGreatDoor
set_option linter.unusedSimpArgs false
set_option linter.unusedVariables false
namespace Go.Proofs.YtcifpfdlkpddeaaGreatDoor
open Go.RowKit Go.WideShapes

theorem wrapIn64 (x : Int) (h0 : -9223372036854775808 ≤ x) (h1 : x ≤ 9223372036854775807) : IntKind.i64.wrap x = x := IntWalk.i64_in _ (by omega)
def strs (ss : List ByteArray) : List Value := ss.map Value.string
@[simp] theorem strs_length (ss : List ByteArray) : (strs ss).length = ss.length := by simp [strs]
theorem strs_get (ss : List ByteArray) (j : Nat) : (strs ss)[j]? = ss[j]?.map Value.string := by simp [strs]

/-- A slice of texts that reads as ss, wherever it lies. -/
def RdS (w : World) (v : Value) (ss : List ByteArray) : Prop :=
  ∃ (a : Option Addr) (b off cap : Nat), v = .slice a ss.length cap ∧ ss.length ≤ maxLen ∧ (0 < ss.length → a = some ⟨b, off, none⟩) ∧ ∀ (j : Nat) (x : ByteArray), ss[j]? = some x → w.cell? ⟨b, off + j, none⟩ = some (.string x)
theorem RdS.kept {w w' : World} {v : Value} {ss : List ByteArray} (h : RdS w v ss) {B : Nat} (hB : w.heap.size ≤ B) (hb : Below B w w') : RdS w' v ss := by
  obtain ⟨a, b, off, cap, hv, hm, ha, hc⟩ := h
  refine ⟨a, b, off, cap, hv, hm, ha, fun j x hx => ?_⟩
  have h1 := hc j x hx
  have h2 := World.block_lt_of_cell? _ _ h1
  rw [hb.cell (p := ⟨b, off + j, none⟩) (Nat.lt_of_lt_of_le h2 hB)]
  exact h1
theorem OwnV.rdS {T lo hi : Nat} {w : World} {v : Value} {ss : List ByteArray} (h : OwnV T lo hi w v (strs ss)) : RdS w v ss := by
  obtain ⟨a, g, cap, hv, hm, ha, hc, _⟩ := h.shape
  rw [strs_length] at hv hm ha
  exact ⟨a, g, 0, cap, hv, hm, fun hp => (ha hp).1, fun j x hx => by rw [Nat.zero_add]; exact hc j _ (by simp [strs, hx])⟩

theorem Tryz.infoStr : (Tryz.prog.info? 9).map (fun i => (i.zero, i.size, i.bytes)) = some (some (.string ⟨#[]⟩), 1, 16) := by kernel_rfl

def sumSz (ss : List ByteArray) : Nat := (ss.map ByteArray.size).sum
theorem sumSz_take (ss : List ByteArray) (k : Nat) (x : ByteArray) (h : ss[k]? = some x) : sumSz (ss.take (k + 1)) = sumSz (ss.take k) + x.size := by
  simp [sumSz, List.take_add_one, h]
theorem sumSz_take_le (ss : List ByteArray) (k : Nat) : sumSz (ss.take k) ≤ sumSz ss := by
  have h : sumSz ss = sumSz (ss.take k) + sumSz (ss.drop k) := by
    have : ss = ss.take k ++ ss.drop k := (List.take_append_drop k ss).symm
    unfold sumSz
    rw [← List.sum_append, ← List.map_append, ← this]
  omega
theorem sumSz_get {ss : List ByteArray} {k : Nat} {x : ByteArray} (h : ss[k]? = some x) : x.size ≤ sumSz ss := by
  have h1 := sumSz_take ss k x h
  have h2 := sumSz_take_le ss (k + 1)
  omega

end Go.Proofs.YtcifpfdlkpddeaaGreatDoor
