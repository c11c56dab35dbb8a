/- SplitString: what the reference's and the program's call of the library hand back. -/
import Derived.Test.YtcifpfdlkpddeaaDoorFnSplit
import Derived.Test.YtcifpfdlkpddeaaDoorRowS
set_option linter.unusedSimpArgs false
set_option linter.unusedVariables false
namespace Go.Proofs.YtcifpfdlkpddeaaDoor
open Go.RowKit Go.WideShapes

/-- What SplitString hands back. -/
def splOk (s sep : ByteArray) : Bool := decide (s.size ≤ 4000) && decide (sep.size = 1)
def splR (s sep : ByteArray) : List ByteArray := if splOk s sep then piecesB (sep.data.toList.headD 0) s else []
theorem splR_size (s sep : ByteArray) : (splR s sep).length ≤ 4001 := by
  unfold splR
  split
  · rename_i h
    unfold splOk at h
    rw [Bool.and_eq_true, decide_eq_true_eq] at h
    have := piecesB_length (sep.data.toList.headD 0) s
    omega
  · simp
theorem one_byte {sep : ByteArray} (h : sep.size = 1) : ∃ c : UInt8, sep = ⟨#[c]⟩ := by
  obtain ⟨⟨l⟩⟩ := sep
  have : l.length = 1 := by simpa [ByteArray.size] using h
  obtain ⟨c, rfl⟩ := List.length_eq_one_iff.1 this
  exact ⟨c, rfl⟩
theorem splitB_own (c : UInt8) (s : ByteArray) : Lib.splitB ⟨#[c]⟩ 0 (Lib.countB s ⟨#[c]⟩) s = piecesB c s ∧ Lib.countB s ⟨#[c]⟩ + 1 = (piecesB c s).length := by
  have h := splitB_pieces c s
  have h1 : Lib.splitB ⟨#[c]⟩ 0 (Lib.countB s ⟨#[c]⟩) s = piecesB c s := by
    unfold piecesB
    rw [← h, List.map_map]
    symm
    conv => rhs; rw [← List.map_id (Lib.splitB ⟨#[c]⟩ 0 (Lib.countB s ⟨#[c]⟩) s)]
    apply List.map_congr_left
    intro x _
    exact bytes_inj (by simp)
  refine ⟨h1, ?_⟩
  rw [← h1]
  exact (Lib.splitB_all ⟨#[c]⟩ (Nat.le_refl 1) 0 _ s rfl).symm

theorem split_any (s : ByteArray) (c : UInt8) (w : World) (hs : s.size ≤ 1048576) (hm : Max w) :
    Calls Tryd.prog 14 #[.string s, .string ⟨#[c]⟩] w fun e w' => ∃ a c', e = .returned (.slice a (piecesB c s).length c') ∧ OwnV 9 w.heap.size w'.heap.size w' (.slice a (piecesB c s).length c') (strs (piecesB c s)) ∧ Below w.heap.size w w' := by
  obtain ⟨m, hm⟩ := hm
  obtain ⟨h1, h2⟩ := splitB_own c s
  refine (Tryd.strings_Split s ⟨#[c]⟩ m w (by omega) hm (Nat.le_refl 1)).mono ?_
  rintro e w' ⟨rfl, rfl⟩
  rw [h1, h2]
  refine ⟨_, _, rfl, ?_, (Below.refl _ _).alloc (Nat.le_refl _) _⟩
  have hl : (piecesB c s).length ≤ maxLen := by have := piecesB_length c s; unfold maxLen; omega
  have hr : (w.alloc (.cells ((piecesB c s).map Value.string).toArray 9)).rowIs w.heap.size 9 (strs (piecesB c s)).length (fun j => (strs (piecesB c s)).getD j .nilIface) := by
    refine ⟨((piecesB c s).map Value.string).toArray, by show (w.heap.push _)[w.heap.size]? = _; simp, by simp [strs], fun j hj => ?_⟩
    show _ = some ((strs (piecesB c s)).getD j .nilIface)
    rw [List.getD_eq_getElem?_getD, List.getElem?_eq_getElem hj]
    simp [strs, List.getElem?_eq_getElem (by simpa using hj)]
  have := ownV_of_rowIs (lo := w.heap.size) hr (Nat.le_refl _) (fun j u hu => by rw [List.getD_eq_getElem?_getD, hu]; rfl) (by rw [strs_length]; exact hl)
  rw [strs_length] at this
  rw [World.size_alloc]
  exact this

end Go.Proofs.YtcifpfdlkpddeaaDoor
