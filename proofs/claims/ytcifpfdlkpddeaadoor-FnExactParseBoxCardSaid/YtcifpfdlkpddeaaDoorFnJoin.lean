/- Joining texts: what the reference's and the program's JoinStrings hand back. -/
import Derived.Test.YtcifpfdlkpddeaaDoorHarS
import Derived.Test.YtcifpfdlkpddeaaDoorFnStands
import Derived.Lib.Join
set_option linter.unusedSimpArgs false
set_option linter.unusedVariables false
namespace Go.Proofs.YtcifpfdlkpddeaaDoor
open Go.RowKit Go.WideShapes

theorem join_snoc (sep : List UInt8) : ∀ (xs : List (List UInt8)) (x : List UInt8), Lib.join (xs ++ [x]) sep = if xs = [] then x else Lib.join xs sep ++ sep ++ x
  | [], x => by rw [if_pos rfl]; exact Lib.join_one x sep
  | y :: r, x => by
    rw [if_neg (by simp), List.cons_append, Lib.join_cons, Lib.join_cons]
    simp [Lib.joinTail]
/-- The texts, joined. -/
def joinB (c : UInt8) (ss : List ByteArray) : ByteArray := ⟨(Lib.join (ss.map (·.data.toList)) [c]).toArray⟩
theorem joinB_first (c : UInt8) {ss : List ByteArray} {x : ByteArray} (h : ss[0]? = some x) : joinB c (ss.take 1) = x := by
  have e : ss.take 1 = [x] := by
    cases ss with
    | nil => cases h
    | cons y r => cases h; rfl
  rw [e]
  exact bytes_inj (by simp [joinB, Lib.join_one])
theorem joinB_next (c : UInt8) {ss : List ByteArray} {k : Nat} {x : ByteArray} (hk : 0 < k) (h : ss[k]? = some x) : joinB c (ss.take (k + 1)) = joinB c (ss.take k) ++ ⟨#[c]⟩ ++ x := by
  have e : ss.take (k + 1) = ss.take k ++ [x] := by simp [List.take_add_one, h]
  have hkl := (List.getElem?_eq_some_iff.1 h).1
  have hne : ¬ (ss.take k).map (·.data.toList) = [] := by
    intro h0
    have := congrArg List.length h0
    simp only [List.length_map, List.length_take, List.length_nil] at this
    omega
  apply bytes_inj
  unfold joinB
  rw [e, List.map_append, List.map_singleton, join_snoc, if_neg hne]
  simp [ByteArray.data_append]
theorem joinB_size (c : UInt8) {ss : List ByteArray} {k : Nat} (hk : k < ss.length) : (joinB c (ss.take (k + 1))).size = sumSz (ss.take (k + 1)) + k := by
  induction k with
  | zero =>
    have h := List.getElem?_eq_getElem hk
    rw [joinB_first c h, sumSz_take ss 0 _ h]
    simp [sumSz]
  | succ k ih =>
    have h := List.getElem?_eq_getElem hk
    rw [joinB_next c (by omega) h, sumSz_take ss (k + 1) _ h, ByteArray.size_append, ByteArray.size_append, ih (by omega)]
    show _ + 1 + _ = _
    omega
/-- What JoinStrings hands back. -/
def jOkC (c : UInt8) (ss : List ByteArray) : Bool := ss.all fun s => !(hasC s.data.toList c)
def jOk (ss : List ByteArray) (sep : ByteArray) : Bool := decide (sep.size = 1) && (decide (ss ≠ []) && (jOkC (sep.data.toList.headD 0) ss && decide (sumSz ss + (ss.length - 1) ≤ 4000)))
def jR (ss : List ByteArray) (sep : ByteArray) : ByteArray := if jOk ss sep then joinB (sep.data.toList.headD 0) ss else ⟨#[]⟩
theorem jR_ok {ss : List ByteArray} {sep : ByteArray} (h : jOk ss sep = true) : jR ss sep = joinB (sep.data.toList.headD 0) ss := by unfold jR; rw [if_pos h]
theorem jR_not {ss : List ByteArray} {sep : ByteArray} (h : jOk ss sep = false) : jR ss sep = ⟨#[]⟩ := by unfold jR; rw [if_neg (by simp [h])]
theorem jOk_sep {ss : List ByteArray} {sep : ByteArray} (h : ¬ sep.size = 1) : jOk ss sep = false := by unfold jOk; simp [h]
theorem jOk_nil (sep : ByteArray) : jOk [] sep = false := by unfold jOk; simp
theorem jOk_has {ss : List ByteArray} {c : UInt8} {k : Nat} {x : ByteArray} (h : ss[k]? = some x) (hx : hasC x.data.toList c = true) : jOk ss ⟨#[c]⟩ = false := by
  have : jOkC c ss = false := by
    unfold jOkC
    rw [List.all_eq_false]
    exact ⟨x, List.mem_of_getElem? h, by simp [hx]⟩
  unfold jOk
  show (_ && (_ && (jOkC c ss && _))) = _
  rw [this]; simp
theorem jOk_long {ss : List ByteArray} {c : UInt8} (h : 4000 < sumSz ss + (ss.length - 1)) : jOk ss ⟨#[c]⟩ = false := by
  unfold jOk
  have : decide (sumSz ss + (ss.length - 1) ≤ 4000) = false := by simp; omega
  rw [this]; simp
theorem jOk_all {ss : List ByteArray} {c : UInt8} (hne : 0 < ss.length) (h : ∀ (k : Nat) (x : ByteArray), ss[k]? = some x → hasC x.data.toList c = false) (hl : sumSz ss + (ss.length - 1) ≤ 4000) : jOk ss ⟨#[c]⟩ = true := by
  have h1 : jOkC c ss = true := by
    unfold jOkC
    rw [List.all_eq_true]
    intro x hx
    obtain ⟨k, hk⟩ := List.mem_iff_getElem?.1 hx
    rw [h k x hk]; rfl
  unfold jOk
  show (_ && (_ && (jOkC c ss && _))) = _
  rw [h1]
  have : ss ≠ [] := List.length_pos_iff.1 hne
  simp [this, hl]
  rfl
theorem one_byteJ {sep : ByteArray} (h : sep.size = 1) : ∃ c : UInt8, sep = ⟨#[c]⟩ := by
  obtain ⟨⟨l⟩⟩ := sep
  have : l.length = 1 := by simpa [ByteArray.size] using h
  obtain ⟨c, rfl⟩ := List.length_eq_one_iff.1 this
  exact ⟨c, rfl⟩

end Go.Proofs.YtcifpfdlkpddeaaDoor
