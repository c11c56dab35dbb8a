/- The box of a text: what both readers compute. No program in sight. -/
import Derived.Test.YtcifpfdlkpddeaaDoorFnText
import Derived.Test.YtcifpfdlkpddeaaDoorFnSplit
import Derived.Test.YtcifpfdlkpddeaaDoorFnNoise
set_option linter.unusedSimpArgs false
set_option linter.unusedVariables false
namespace Go.Proofs.YtcifpfdlkpddeaaDoor

theorem pieces_size2 (c : UInt8) : ∀ (l x : List UInt8), x ∈ pieces c l → x.length + (pieces c l).length ≤ l.length + 1
  | [], x, h => by
    have : x = [] := by simpa [pieces] using h
    subst this
    simp [pieces]
  | b :: l, x, h => by
    have hpl := pieces_length c l
    unfold pieces at h ⊢
    split at h
    · rename_i hb
      rw [if_pos hb, List.length_cons, List.length_cons]
      rcases List.mem_cons.1 h with rfl | h
      · simp; omega
      · have := pieces_size2 c l x h
        omega
    · rename_i hb
      rw [if_neg hb, List.length_modifyHead, List.length_cons]
      have hne := pieces_ne c l
      cases hp : pieces c l with
      | nil => exact absurd hp hne
      | cons y ys =>
        rw [hp] at h
        simp only [List.modifyHead_cons, List.mem_cons] at h
        rcases h with rfl | h
        · have := pieces_size2 c l y (by rw [hp]; exact List.mem_cons_self ..)
          rw [hp] at this
          simp at this ⊢; omega
        · have := pieces_size2 c l x (by rw [hp]; exact List.mem_cons_of_mem _ h)
          rw [hp] at this
          omega
theorem pieces_size (c : UInt8) (l x : List UInt8) (h : x ∈ pieces c l) : x.length ≤ l.length := by
  have := pieces_size2 c l x h
  have h2 : 1 ≤ (pieces c l).length := List.length_pos_iff.2 (pieces_ne c l)
  omega
theorem piecesB_size2 {c : UInt8} {s x : ByteArray} (h : x ∈ piecesB c s) : x.size + (piecesB c s).length ≤ s.size + 1 := by
  unfold piecesB at h ⊢
  obtain ⟨l, hl, rfl⟩ := List.mem_map.1 h
  have h2 := pieces_size2 c _ _ hl
  rw [List.length_map]
  show l.length + _ ≤ s.size + 1
  simpa using h2
theorem piecesB_size {c : UInt8} {s x : ByteArray} (h : x ∈ piecesB c s) : x.size ≤ s.size := by
  unfold piecesB at h
  obtain ⟨l, hl, rfl⟩ := List.mem_map.1 h
  have h2 : l.length ≤ s.data.toList.length := pieces_size c _ _ hl
  show l.length ≤ s.size
  simpa using h2
theorem piecesB_pos (c : UInt8) (s : ByteArray) : 1 ≤ (piecesB c s).length := by
  unfold piecesB
  rw [List.length_map]
  exact List.length_pos_iff.2 (pieces_ne c _)

/-- The numbers of a word. -/
def numsL (t : ByteArray) : List Int := (piecesB 44 t).map readV
def numsOk (t : ByteArray) : Bool := (piecesB 44 t).all readOk
def numsR (t : ByteArray) : List Int := if numsOk t then numsL t else []
/-- The four numbers of a word, as the reference reads them. -/
def rowOk (t : ByteArray) : Bool := ((piecesB 44 t).take 5).all readOk && decide (((piecesB 44 t).take 5).length = 4)
def rowR (t : ByteArray) : List Int := if ((piecesB 44 t).take 5).all readOk then ((piecesB 44 t).take 5).map readV else []
theorem readV_bd (s : ByteArray) : -999999 ≤ readV s ∧ readV s ≤ 999999 := by
  unfold readV
  cases h : readI s.data.toList with
  | none => simp
  | some n => exact inB_iff.1 (readI_some h).1
theorem rowOk_iff (t : ByteArray) : rowOk t = true ↔ numsOk t = true ∧ (numsL t).length = 4 := by
  unfold rowOk numsOk numsL
  rw [Bool.and_eq_true, decide_eq_true_eq, List.length_map, List.length_take]
  constructor
  · rintro ⟨h1, h2⟩
    have h4 : (piecesB 44 t).length = 4 := by omega
    rw [List.take_of_length_le (by omega)] at h1
    exact ⟨h1, h4⟩
  · rintro ⟨h1, h2⟩
    rw [List.take_of_length_le (by omega)]
    exact ⟨h1, by omega⟩
theorem rowR_ok {t : ByteArray} (h : rowOk t = true) : rowR t = numsL t := by
  obtain ⟨h1, h2⟩ := (rowOk_iff t).1 h
  unfold rowR numsL at *
  rw [List.length_map] at h2
  unfold numsOk at h1
  rw [List.take_of_length_le (by omega), if_pos h1]

def wordsB (s : ByteArray) : List ByteArray := piecesB 32 s
def word (s : ByteArray) (k : Nat) : ByteArray := (wordsB s).getD k ⟨#[]⟩
/-- The box that a text may tell. -/
def candB (s : ByteArray) : BoxD := ⟨readV (word s 0), readV (word s 1), (numsL (word s 2)).sum, ((wordsB s).drop 2).map numsL⟩
def parseOk (s : ByteArray) : Bool := decide (3 ≤ (wordsB s).length ∧ (wordsB s).length ≤ 11) && (readOk (word s 0) && (readOk (word s 1) && (((wordsB s).drop 2).all numsOk && (boxB (candB s) && decide (txtB (candB s) = s)))))
def parseD (s : ByteArray) : BoxD := if parseOk s then candB s else zeroD
theorem parse_no {s : ByteArray} (h : parseOk s = false) : parseD s = zeroD := by unfold parseD; rw [if_neg (by simp [h])]
theorem parse_yes {s : ByteArray} (h : parseOk s = true) : parseD s = candB s := by unfold parseD; rw [if_pos h]
theorem parse_len {s : ByteArray} (h : ¬ (3 ≤ (wordsB s).length ∧ (wordsB s).length ≤ 11)) : parseOk s = false := by unfold parseOk; rw [decide_eq_false h]; rfl
theorem parse_one {s : ByteArray} (h : readOk (word s 0) = false ∨ readOk (word s 1) = false) : parseOk s = false := by unfold parseOk; rcases h with h | h <;> simp [h]
theorem parse_row {s : ByteArray} {k : Nat} {t : ByteArray} (hk : ((wordsB s).drop 2)[k]? = some t) (h : numsOk t = false) : parseOk s = false := by
  have : ((wordsB s).drop 2).all numsOk = false := by
    rw [List.all_eq_false]
    exact ⟨t, List.mem_of_getElem? hk, by simp [h]⟩
  unfold parseOk
  simp [this]
theorem parse_four {s : ByteArray} {k : Nat} {t : ByteArray} (hk : ((wordsB s).drop 2)[k]? = some t) (h : rowOk t = false) : parseOk s = false := by
  cases hp : parseOk s with
  | false => rfl
  | true =>
    exfalso
    unfold parseOk at hp
    simp only [Bool.and_eq_true, decide_eq_true_eq] at hp
    obtain ⟨_, _, _, h4, h5, _⟩ := hp
    have hr : (candB s).Rows[k]? = some (numsL t) := by show (((wordsB s).drop 2).map numsL)[k]? = _; rw [List.getElem?_map, hk]; rfl
    have h4' : numsOk t = true := List.all_eq_true.1 h4 t (List.mem_of_getElem? hk)
    have := (boxB_row4 h5 k _ hr).1
    rw [(rowOk_iff t).2 ⟨h4', this⟩] at h
    cases h
theorem parse_rest {s : ByteArray} (h1 : 3 ≤ (wordsB s).length ∧ (wordsB s).length ≤ 11) (h2 : readOk (word s 0) = true) (h3 : readOk (word s 1) = true) (h4 : ∀ (k : Nat) (t : ByteArray), ((wordsB s).drop 2)[k]? = some t → numsOk t = true) : parseOk s = (boxB (candB s) && decide (txtB (candB s) = s)) := by
  have : ((wordsB s).drop 2).all numsOk = true := List.all_eq_true.2 fun t ht => by
    obtain ⟨k, hk⟩ := List.mem_iff_getElem?.1 ht
    exact h4 k t hk
  unfold parseOk
  rw [decide_eq_true h1, h2, h3, this]
  rfl
theorem boxB_rowS {b : BoxD} (hb : boxB b = true) (k : Nat) (rs : List Int) (hr : b.Rows[k]? = some rs) : rs.sum = b.Whole := by
  obtain ⟨_, _, _, h4⟩ := boxB_iff.1 hb
  exact (fourB_iff.1 (rowsB_get h4 hr)).2.2
/-- The whole of any row decides alike. -/
theorem parse_whole {b : BoxD} {k : Nat} {rs r0 : List Int} (hk : b.Rows[k]? = some rs) (h0 : b.Rows[0]? = some r0) (hw : b.Whole = r0.sum) : boxB { b with Whole := rs.sum } = true → boxB b = true ∧ rs.sum = r0.sum := by
  intro h
  have e0 : r0.sum = rs.sum := boxB_rowS h 0 r0 h0
  have : ({ b with Whole := rs.sum } : BoxD) = b := by rw [← e0, ← hw]
  rw [this] at h
  exact ⟨h, e0.symm⟩
theorem parse_whole2 {b : BoxD} {k : Nat} {rs : List Int} (hk : b.Rows[k]? = some rs) (h : boxB b = true) : ({ b with Whole := rs.sum } : BoxD) = b := by
  have := boxB_rowS h k rs hk
  rw [this]
end Go.Proofs.YtcifpfdlkpddeaaDoor
