/- The pieces of a text: what the reference's l1Split and the program's library calls hand back. The box of a text: what both readers compute. No program in sight. Changing one byte of a text with its checksum is always seen. No program in sight. -/
import Derived.Test.YtcifpfdlkpddeaaGreatDoorQxak
import Derived.Test.YtcifpfdlkpddeaaGreatDoorQxap
import Derived.Test.YtcifpfdlkpddeaaGreatDoorQxan
import Derived.Test.YtcifpfdlkpddeaaGreatDoorQxag
set_option linter.unusedSimpArgs false
set_option linter.unusedVariables false
namespace Go.Proofs.YtcifpfdlkpddeaaGreatDoor
open Go.RowKit Go.WideShapes

/-- The pieces, as texts. -/
def piecesB (b : UInt8) (s : ByteArray) : List ByteArray := (pieces b s.data.toList).map fun l => ⟨l.toArray⟩
theorem piecesB_length (b : UInt8) (s : ByteArray) : (piecesB b s).length ≤ s.size + 1 := by
  have := pieces_length b s.data.toList
  simpa [piecesB] using this
theorem extract_mk (s : ByteArray) (f k : Nat) (h : f ≤ k) : s.extract f k = ⟨((s.data.toList.drop f).take (k - f)).toArray⟩ := by
  apply bytes_inj
  rw [Lib.extract_data]
theorem piecesB_start (b : UInt8) (s : ByteArray) : piecesB b s = [] ++ (pieces b (s.data.toList.drop 0)).map fun l => (⟨l.toArray⟩ : ByteArray) := rfl
theorem piecesB_hit {b : UInt8} {s : ByteArray} {D : List ByteArray} {f k : Nat} (h : piecesB b s = D ++ (pieces b (s.data.toList.drop f)).map fun l => (⟨l.toArray⟩ : ByteArray)) (hf : f ≤ k) (hk : s.data.toList[k]? = some b) (hno : ∀ j : Nat, f ≤ j → j < k → s.data.toList[j]? ≠ some b) :
    piecesB b s = (D ++ [s.extract f k]) ++ (pieces b (s.data.toList.drop (k + 1))).map fun l => (⟨l.toArray⟩ : ByteArray) := by
  rw [h, pieces_hit (i := k - f) (by rw [List.getElem?_drop]; rw [show f + (k - f) = k by omega]; exact hk) (fun j hj => by rw [List.getElem?_drop]; exact hno (f + j) (by omega) (by omega)),
    List.map_cons, List.drop_drop, show f + (k - f + 1) = k + 1 by omega, extract_mk s f k hf]
  simp
theorem piecesB_end {b : UInt8} {s : ByteArray} {D : List ByteArray} {f : Nat} (h : piecesB b s = D ++ (pieces b (s.data.toList.drop f)).map fun l => (⟨l.toArray⟩ : ByteArray)) (hf : f ≤ s.size) (hno : ∀ j : Nat, f ≤ j → s.data.toList[j]? ≠ some b) :
    piecesB b s = D ++ [s.extract f s.size] := by
  rw [h, pieces_none (fun j => by rw [List.getElem?_drop]; exact hno (f + j) (by omega)), extract_mk s f s.size hf]
  have : (s.data.toList.drop f).take (s.size - f) = s.data.toList.drop f := List.take_of_length_le (by simp)
  rw [this]
  rfl

set_option maxHeartbeats 1000000 in
theorem l1Split_any (s : ByteArray) (b : UInt8) (w : World) (hs : s.size ≤ 1048576) :
    Calls Tryz.prog 55 #[.string s, .int .u8 b.toNat] w fun e w' => ∃ a c, e = .returned (.slice a (piecesB b s).length c) ∧ OwnV 9 w.heap.size w'.heap.size w' (.slice a (piecesB b s).length c) (strs (piecesB b s)) ∧ Below w.heap.size w w' := by
  have hE := OwnV.empty 9 w
  have hS := Lib.hid (piecesB_start b s)
  have hB0 : Below w.heap.size w (w.alloc (.cells #[] 9)) := (Below.refl _ _).alloc (Nat.le_refl _) _
  obtain ⟨lo, hlo⟩ : ∃ lo, lo = w.heap.size := ⟨_, rfl⟩
  go_enter Tryz.func55, Tryz.ntmps55
  go_wp2
  go_loopw [5, 6, 7] (fun s5 s6 s7 wr => ∃ (k f : Nat) (D : List ByteArray), k ≤ s.size ∧ f ≤ k ∧ D.length ≤ k ∧ s7 = .int .i64 k ∧ s6 = .int .i64 f ∧ Hid (piecesB b s = D ++ (pieces b (s.data.toList.drop f)).map fun l => (⟨l.toArray⟩ : ByteArray)) ∧
      Hid (∀ j : Nat, f ≤ j → j < k → s.data.toList[j]? ≠ some b) ∧ ∃ a4 c4, s5 = .slice a4 D.length c4 ∧ OwnV 9 lo wr.heap.size wr (.slice a4 D.length c4) (strs D) ∧ Below lo w wr) (fun _ _ s7 _ => s.size - (intOf s7).toNat)
  case atStart => exact ⟨0, 0, [], by omega, by omega, by simp, rfl, rfl, hS, Lib.hid (fun j h1 h2 => by omega), _, _, rfl, by rw [hlo]; simpa [strs] using hE, by rw [hlo]; exact hB0⟩
  case round =>
    obtain ⟨k, f, D, hk, hf, hD, rfl, rfl, HP, HN, a4, c4, rfl, hO, hB⟩ := hrel
    have hz := hB.size
    by_cases hlt : k < s.size
    · have hg := byte_get hlt
      by_cases he : s[k] = b
      · have hez := byte_eq_true he
        have HP2 := Lib.hid (piecesB_hit HP.out hf (hg.trans (by rw [he])) HN.out)
        obtain ⟨x, hx⟩ : ∃ x, s.extract f k = x := ⟨_, rfl⟩
        rw [hx] at HP2
        clear hg HP HN hE hB0
        have hdl : (strs D).length ≤ 4194304 := by rw [strs_length]; omega
        go_wp2_with (at_builtin; refine append1_own rfl _ _ 66 9 rfl Tryz.underlying66 Tryz.infoStr rfl hO rfl rfl rfl hdl (by omega) (by omega) ?_)
        intro a2 c2 w2 hO3 hg2
        have hBn : Below lo w w2 := hB.grown hg2 (by omega) (fun g hg => (hO.lt g hg).1)
        clear hO
        go_wp2
        go_roundw
        case rel => exact ⟨k + 1, k + 1, D ++ [x], by omega, by omega, by simp; omega, by go_num, by go_num, HP2, Lib.hid (fun j h1 h2 => by omega), a2, c2, by simp [strs_length], by rw [hlo]; simpa [strs] using hO3, hBn⟩
        case measure => simp [intOf]; omega
      · have hez := byte_eq_false he
        have HG := Lib.hid hg
        have HE := Lib.hid he
        clear hg he hE hB0
        go_wp2
        go_roundw
        case rel => exact ⟨k + 1, f, D, by omega, by omega, by omega, by go_num, rfl, HP, Lib.hid (fun j h1 h2 => by
          by_cases e : j = k
          · subst e; rw [HG.out]; intro h; exact HE.out (Option.some.inj h)
          · exact HN.out j h1 (by omega)), a4, c4, rfl, hO, hB⟩
        case measure => simp [intOf]; omega
    · have HP2 := piecesB_end HP.out (by omega) (fun j hj => by
        by_cases h : j < k
        · exact HN.out j hj h
        · rw [List.getElem?_eq_none (by simp; omega)]; simp)
      obtain ⟨x, hx⟩ : ∃ x, s.extract f s.size = x := ⟨_, rfl⟩
      rw [hx] at HP2
      have HQ := Lib.hid HP2
      clear HP HN hE hB0 HP2 hS
      have hdl : (strs D).length ≤ 4194304 := by rw [strs_length]; omega
      go_wp2_with (at_builtin; refine append1_own rfl _ _ 66 9 rfl Tryz.underlying66 Tryz.infoStr rfl hO rfl rfl rfl hdl (by omega) (by omega) ?_)
      intro a2 c2 w2 hO3 hg2
      have hBn : Below lo w w2 := hB.grown hg2 (by omega) (fun g hg => (hO.lt g hg).1)
      clear hO
      go_wp2
      go_ret
      refine ⟨a2, c2, by rw [HQ.out]; simp [strs_length], ?_, by rw [← hlo]; exact hBn⟩
      rw [HQ.out]
      simpa [strs] using hO3
end Go.Proofs.YtcifpfdlkpddeaaGreatDoor
set_option linter.unusedSimpArgs false
set_option linter.unusedVariables false
namespace Go.Proofs.YtcifpfdlkpddeaaGreatDoor

theorem pieces_size2 (c : UInt8) : ∀ (l x : List UInt8), x ∈ pieces c l → x.length + (pieces c l).length ≤ l.length + 1
  | [], x, h => by
    have : x = [] := by simpa [pieces] using h
    subst this
    simp [pieces]
  | b :: l, x, h => by
    have hpl := pieces_length c l
    unfold pieces at h ⊢
    split at h
    · rename_i hb
      rw [if_pos hb, List.length_cons, List.length_cons]
      rcases List.mem_cons.1 h with rfl | h
      · simp; omega
      · have := pieces_size2 c l x h
        omega
    · rename_i hb
      rw [if_neg hb, List.length_modifyHead, List.length_cons]
      have hne := pieces_ne c l
      cases hp : pieces c l with
      | nil => exact absurd hp hne
      | cons y ys =>
        rw [hp] at h
        simp only [List.modifyHead_cons, List.mem_cons] at h
        rcases h with rfl | h
        · have := pieces_size2 c l y (by rw [hp]; exact List.mem_cons_self ..)
          rw [hp] at this
          simp at this ⊢; omega
        · have := pieces_size2 c l x (by rw [hp]; exact List.mem_cons_of_mem _ h)
          rw [hp] at this
          omega
theorem pieces_size (c : UInt8) (l x : List UInt8) (h : x ∈ pieces c l) : x.length ≤ l.length := by
  have := pieces_size2 c l x h
  have h2 : 1 ≤ (pieces c l).length := List.length_pos_iff.2 (pieces_ne c l)
  omega
theorem piecesB_size2 {c : UInt8} {s x : ByteArray} (h : x ∈ piecesB c s) : x.size + (piecesB c s).length ≤ s.size + 1 := by
  unfold piecesB at h ⊢
  obtain ⟨l, hl, rfl⟩ := List.mem_map.1 h
  have h2 := pieces_size2 c _ _ hl
  rw [List.length_map]
  show l.length + _ ≤ s.size + 1
  simpa using h2
theorem piecesB_size {c : UInt8} {s x : ByteArray} (h : x ∈ piecesB c s) : x.size ≤ s.size := by
  unfold piecesB at h
  obtain ⟨l, hl, rfl⟩ := List.mem_map.1 h
  have h2 : l.length ≤ s.data.toList.length := pieces_size c _ _ hl
  show l.length ≤ s.size
  simpa using h2
theorem piecesB_pos (c : UInt8) (s : ByteArray) : 1 ≤ (piecesB c s).length := by
  unfold piecesB
  rw [List.length_map]
  exact List.length_pos_iff.2 (pieces_ne c _)

/-- The numbers of a word. -/
def numsL (t : ByteArray) : List Int := (piecesB 44 t).map readV
def numsOk (t : ByteArray) : Bool := (piecesB 44 t).all readOk
def numsR (t : ByteArray) : List Int := if numsOk t then numsL t else []
/-- The four numbers of a word, as the reference reads them. -/
def rowOk (t : ByteArray) : Bool := ((piecesB 44 t).take 5).all readOk && decide (((piecesB 44 t).take 5).length = 4)
def rowR (t : ByteArray) : List Int := if ((piecesB 44 t).take 5).all readOk then ((piecesB 44 t).take 5).map readV else []
theorem readV_bd (s : ByteArray) : -999999 ≤ readV s ∧ readV s ≤ 999999 := by
  unfold readV
  cases h : readI s.data.toList with
  | none => simp
  | some n => exact inB_iff.1 (readI_some h).1
theorem rowOk_iff (t : ByteArray) : rowOk t = true ↔ numsOk t = true ∧ (numsL t).length = 4 := by
  unfold rowOk numsOk numsL
  rw [Bool.and_eq_true, decide_eq_true_eq, List.length_map, List.length_take]
  constructor
  · rintro ⟨h1, h2⟩
    have h4 : (piecesB 44 t).length = 4 := by omega
    rw [List.take_of_length_le (by omega)] at h1
    exact ⟨h1, h4⟩
  · rintro ⟨h1, h2⟩
    rw [List.take_of_length_le (by omega)]
    exact ⟨h1, by omega⟩
theorem rowR_ok {t : ByteArray} (h : rowOk t = true) : rowR t = numsL t := by
  obtain ⟨h1, h2⟩ := (rowOk_iff t).1 h
  unfold rowR numsL at *
  rw [List.length_map] at h2
  unfold numsOk at h1
  rw [List.take_of_length_le (by omega), if_pos h1]

def wordsB (s : ByteArray) : List ByteArray := piecesB 32 s
def word (s : ByteArray) (k : Nat) : ByteArray := (wordsB s).getD k ⟨#[]⟩
/-- The box that a text may tell. -/
def candB (s : ByteArray) : BoxD := ⟨readV (word s 0), readV (word s 1), (numsL (word s 2)).sum, ((wordsB s).drop 2).map numsL⟩
def parseOk (s : ByteArray) : Bool := decide (3 ≤ (wordsB s).length ∧ (wordsB s).length ≤ 11) && (readOk (word s 0) && (readOk (word s 1) && (((wordsB s).drop 2).all numsOk && (boxB (candB s) && decide (txtB (candB s) = s)))))
def parseD (s : ByteArray) : BoxD := if parseOk s then candB s else zeroD
theorem parse_no {s : ByteArray} (h : parseOk s = false) : parseD s = zeroD := by unfold parseD; rw [if_neg (by simp [h])]
theorem parse_yes {s : ByteArray} (h : parseOk s = true) : parseD s = candB s := by unfold parseD; rw [if_pos h]
theorem parse_len {s : ByteArray} (h : ¬ (3 ≤ (wordsB s).length ∧ (wordsB s).length ≤ 11)) : parseOk s = false := by unfold parseOk; rw [decide_eq_false h]; rfl
theorem parse_one {s : ByteArray} (h : readOk (word s 0) = false ∨ readOk (word s 1) = false) : parseOk s = false := by unfold parseOk; rcases h with h | h <;> simp [h]
theorem parse_row {s : ByteArray} {k : Nat} {t : ByteArray} (hk : ((wordsB s).drop 2)[k]? = some t) (h : numsOk t = false) : parseOk s = false := by
  have : ((wordsB s).drop 2).all numsOk = false := by
    rw [List.all_eq_false]
    exact ⟨t, List.mem_of_getElem? hk, by simp [h]⟩
  unfold parseOk
  simp [this]
theorem parse_four {s : ByteArray} {k : Nat} {t : ByteArray} (hk : ((wordsB s).drop 2)[k]? = some t) (h : rowOk t = false) : parseOk s = false := by
  cases hp : parseOk s with
  | false => rfl
  | true =>
    exfalso
    unfold parseOk at hp
    simp only [Bool.and_eq_true, decide_eq_true_eq] at hp
    obtain ⟨_, _, _, h4, h5, _⟩ := hp
    have hr : (candB s).Rows[k]? = some (numsL t) := by show (((wordsB s).drop 2).map numsL)[k]? = _; rw [List.getElem?_map, hk]; rfl
    have h4' : numsOk t = true := List.all_eq_true.1 h4 t (List.mem_of_getElem? hk)
    have := (boxB_row4 h5 k _ hr).1
    rw [(rowOk_iff t).2 ⟨h4', this⟩] at h
    cases h
theorem parse_rest {s : ByteArray} (h1 : 3 ≤ (wordsB s).length ∧ (wordsB s).length ≤ 11) (h2 : readOk (word s 0) = true) (h3 : readOk (word s 1) = true) (h4 : ∀ (k : Nat) (t : ByteArray), ((wordsB s).drop 2)[k]? = some t → numsOk t = true) : parseOk s = (boxB (candB s) && decide (txtB (candB s) = s)) := by
  have : ((wordsB s).drop 2).all numsOk = true := List.all_eq_true.2 fun t ht => by
    obtain ⟨k, hk⟩ := List.mem_iff_getElem?.1 ht
    exact h4 k t hk
  unfold parseOk
  rw [decide_eq_true h1, h2, h3, this]
  rfl
theorem boxB_rowS {b : BoxD} (hb : boxB b = true) (k : Nat) (rs : List Int) (hr : b.Rows[k]? = some rs) : rs.sum = b.Whole := by
  obtain ⟨_, _, _, h4⟩ := boxB_iff.1 hb
  exact (fourB_iff.1 (rowsB_get h4 hr)).2.2
/-- The whole of any row decides alike. -/
theorem parse_whole {b : BoxD} {k : Nat} {rs r0 : List Int} (hk : b.Rows[k]? = some rs) (h0 : b.Rows[0]? = some r0) (hw : b.Whole = r0.sum) : boxB { b with Whole := rs.sum } = true → boxB b = true ∧ rs.sum = r0.sum := by
  intro h
  have e0 : r0.sum = rs.sum := boxB_rowS h 0 r0 h0
  have : ({ b with Whole := rs.sum } : BoxD) = b := by rw [← e0, ← hw]
  rw [this] at h
  exact ⟨h, e0.symm⟩
theorem parse_whole2 {b : BoxD} {k : Nat} {rs : List Int} (hk : b.Rows[k]? = some rs) (h : boxB b = true) : ({ b with Whole := rs.sum } : BoxD) = b := by
  have := boxB_rowS h k rs hk
  rw [this]
end Go.Proofs.YtcifpfdlkpddeaaGreatDoor
set_option linter.unusedSimpArgs false
set_option linter.unusedVariables false
namespace Go.Proofs.YtcifpfdlkpddeaaGreatDoor

theorem csum_step_inj {h1 h2 c : Int} (a1 : 0 ≤ h1) (b1 : h1 < 999979) (a2 : 0 ≤ h2) (b2 : h2 < 999979) (h : (41 * h1 + c + 1) % 999979 = (41 * h2 + c + 1) % 999979) : h1 = h2 := by omega
theorem csum_fold_inj (t : List UInt8) : ∀ h1 h2 : Int, 0 ≤ h1 → h1 < 999979 → 0 ≤ h2 → h2 < 999979 →
    t.foldl (fun h c => (41 * h + (c.toNat : Int) + 1) % 999979) h1 = t.foldl (fun h c => (41 * h + (c.toNat : Int) + 1) % 999979) h2 → h1 = h2 := by
  induction t with
  | nil => intro h1 h2 _ _ _ _ h; exact h
  | cons c t ih =>
    intro h1 h2 a1 b1 a2 b2 h
    rw [List.foldl_cons, List.foldl_cons] at h
    exact csum_step_inj a1 b1 a2 b2 (ih _ _ (by omega) (by omega) (by omega) (by omega) h)
theorem csum_set {l : List UInt8} {k : Nat} {b c : UInt8} (hc : l[k]? = some c) (h : csum (l.set k b) = csum l) : b = c := by
  obtain ⟨hk, hc'⟩ := List.getElem?_eq_some_iff.1 hc
  have e1 : l = l.take k ++ c :: l.drop (k + 1) := by
    rw [← hc']
    simp
  have e2 : l.set k b = l.take k ++ b :: l.drop (k + 1) := List.set_eq_take_append_cons_drop.trans (by rw [if_pos hk])
  have hb := csum_fold (l.take k) 7 (by omega)
  unfold csum at h
  rw [e2] at h
  conv at h => rhs; rw [e1]
  rw [List.foldl_append, List.foldl_append, List.foldl_cons, List.foldl_cons] at h
  generalize (l.take k).foldl (fun h c => (41 * h + (c.toNat : Int) + 1) % 999979) 7 = H at *
  have hb1 := byte_bound b
  have hb2 := byte_bound c
  have := csum_fold_inj (l.drop (k + 1)) _ _ (by omega) (by omega) (by omega) (by omega) h
  exact UInt8.toNat_inj.1 (by omega)
theorem itoa_inj {a b : Int} (h : Lib.itoa a = Lib.itoa b) : a = b := by
  have h1 := atoi_itoa a
  rw [h, atoi_itoa] at h1
  exact (Option.some.inj h1).symm
theorem itoa_no35 (l : List UInt8) (j : Nat) : (Lib.itoa (csum l))[j]? ≠ some 35 := by
  intro h
  have hb := csum_bound l
  obtain ⟨u, hu⟩ : ∃ u : Nat, csum l = (u : Int) := ⟨(csum l).toNat, by omega⟩
  rw [hu, Lib.itoa_nonneg] at h
  obtain ⟨d, hd⟩ := Lib.digit_of_decFrom _ _ _ (decFrom_digits u u (Nat.le_refl _)) j 35 h
  have := Lib.digitVal_eq hd
  simp at this
/-- A text's bytes with its checksum. -/
def sealL (l : List UInt8) : List UInt8 := l ++ 35 :: Lib.itoa (csum l)
theorem only35 {l D : List UInt8} (hl : ∀ j : Nat, l[j]? ≠ some 35) (hD : ∀ j : Nat, D[j]? ≠ some 35) {i : Nat} (h : (l ++ 35 :: D)[i]? = some 35) : i = l.length := by
  rcases Nat.lt_or_ge i l.length with h1 | h1
  · rw [List.getElem?_append_left h1] at h
    exact absurd h (hl i)
  · rw [List.getElem?_append_right h1] at h
    cases hj : i - l.length with
    | zero => omega
    | succ j =>
      rw [hj, List.getElem?_cons_succ] at h
      exact absurd h (hD j)
theorem mark_at (l D : List UInt8) : (l ++ 35 :: D)[l.length]? = some 35 := by
  rw [List.getElem?_append_right (Nat.le_refl _), Nat.sub_self]; rfl
theorem seal_changed {l h : List UInt8} {k : Nat} {b c : UInt8} (hl : ∀ j : Nat, l[j]? ≠ some 35) (hh : ∀ j : Nat, h[j]? ≠ some 35) (hk : (sealL l)[k]? = some c) (hb : b ≠ c) : sealL h ≠ (sealL l).set k b := by
  intro he
  unfold sealL at he hk
  have hD := itoa_no35 l
  have hE := itoa_no35 h
  have hkl := (List.getElem?_eq_some_iff.1 hk).1
  by_cases hlen : h.length = l.length
  · rcases Nat.lt_trichotomy k l.length with h1 | h1 | h1
    · rw [List.set_append_left _ _ h1] at he
      obtain ⟨e1, e2⟩ := List.append_inj he (by rw [List.length_set]; exact hlen)
      have e3 := itoa_inj (List.cons.inj e2).2
      rw [e1] at e3
      rw [List.getElem?_append_left h1] at hk
      exact hb (csum_set hk e3)
    · have h2 := mark_at h (Lib.itoa (csum h))
      rw [he, hlen, ← h1, List.getElem?_set_self hkl] at h2
      rw [h1, mark_at] at hk
      have e1 := Option.some.inj h2
      have e2 := Option.some.inj hk
      exact hb (e1.trans e2)
    · obtain ⟨j, hj⟩ : ∃ j, k - l.length = j + 1 := ⟨k - l.length - 1, by omega⟩
      rw [List.set_append_right _ _ (by omega), hj, List.set_cons_succ] at he
      obtain ⟨e1, e2⟩ := List.append_inj he hlen
      have e3 := (List.cons.inj e2).2
      rw [e1] at e3
      rw [List.getElem?_append_right (by omega), hj, List.getElem?_cons_succ] at hk
      have hjl := (List.getElem?_eq_some_iff.1 hk).1
      rw [e3, List.getElem?_set_self hjl] at hk
      exact hb (Option.some.inj hk)
  · have h2 := mark_at h (Lib.itoa (csum h))
    rw [he] at h2
    by_cases hkh : k = h.length
    · have h3 : ((l ++ 35 :: Lib.itoa (csum l)).set k b)[l.length]? = some 35 := by
        rw [List.getElem?_set_ne (by omega)]
        exact mark_at _ _
      rw [← he] at h3
      exact hlen (only35 hh hE h3).symm
    · rw [List.getElem?_set_ne hkh] at h2
      exact hlen (only35 hl hD h2)
end Go.Proofs.YtcifpfdlkpddeaaGreatDoor
