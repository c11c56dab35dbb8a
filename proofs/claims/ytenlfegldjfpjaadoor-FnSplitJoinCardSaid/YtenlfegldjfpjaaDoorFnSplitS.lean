/- SplitString: what the reference's and the program's call of the library hand back. -/
import Derived.Test.YtenlfegldjfpjaaDoorFnSplit
import Derived.Test.YtenlfegldjfpjaaDoorRowS
set_option linter.unusedSimpArgs false
set_option linter.unusedVariables false
namespace Go.Proofs.YtenlfegldjfpjaaDoor
open Go.RowKit Go.WideShapes

/-- What SplitString hands back. -/
def splOk (s sep : ByteArray) : Bool := decide (s.size ≤ 4000) && decide (sep.size = 1)
def splR (s sep : ByteArray) : List ByteArray := if splOk s sep then piecesB (sep.data.toList.headD 0) s else []
theorem splR_size (s sep : ByteArray) : (splR s sep).length ≤ 4001 := by
  unfold splR
  split
  · rename_i h
    unfold splOk at h
    rw [Bool.and_eq_true, decide_eq_true_eq] at h
    have := piecesB_length (sep.data.toList.headD 0) s
    omega
  · simp
theorem one_byte {sep : ByteArray} (h : sep.size = 1) : ∃ c : UInt8, sep = ⟨#[c]⟩ := by
  obtain ⟨⟨l⟩⟩ := sep
  have : l.length = 1 := by simpa [ByteArray.size] using h
  obtain ⟨c, rfl⟩ := List.length_eq_one_iff.1 this
  exact ⟨c, rfl⟩
theorem splitB_own (c : UInt8) (s : ByteArray) : Lib.splitB ⟨#[c]⟩ 0 (Lib.countB s ⟨#[c]⟩) s = piecesB c s ∧ Lib.countB s ⟨#[c]⟩ + 1 = (piecesB c s).length := by
  have h := splitB_pieces c s
  have h1 : Lib.splitB ⟨#[c]⟩ 0 (Lib.countB s ⟨#[c]⟩) s = piecesB c s := by
    unfold piecesB
    rw [← h, List.map_map]
    symm
    conv => rhs; rw [← List.map_id (Lib.splitB ⟨#[c]⟩ 0 (Lib.countB s ⟨#[c]⟩) s)]
    apply List.map_congr_left
    intro x _
    exact bytes_inj (by simp)
  refine ⟨h1, ?_⟩
  rw [← h1]
  exact (Lib.splitB_all ⟨#[c]⟩ (Nat.le_refl 1) 0 _ s rfl).symm

theorem split_any (s : ByteArray) (c : UInt8) (w : World) (hs : s.size ≤ 1048576) (hm : Max w) :
    Calls Tryd.prog 66 #[.string s, .string ⟨#[c]⟩] w fun e w' => ∃ a c', e = .returned (.slice a (piecesB c s).length c') ∧ OwnV 9 w.heap.size w'.heap.size w' (.slice a (piecesB c s).length c') (strs (piecesB c s)) ∧ Below w.heap.size w w' := by
  obtain ⟨m, hm⟩ := hm
  obtain ⟨h1, h2⟩ := splitB_own c s
  refine (Tryd.strings_Split s ⟨#[c]⟩ m w (by omega) hm (Nat.le_refl 1)).mono ?_
  rintro e w' ⟨rfl, rfl⟩
  rw [h1, h2]
  refine ⟨_, _, rfl, ?_, (Below.refl _ _).alloc (Nat.le_refl _) _⟩
  have hl : (piecesB c s).length ≤ maxLen := by have := piecesB_length c s; unfold maxLen; omega
  have hr : (w.alloc (.cells ((piecesB c s).map Value.string).toArray 9)).rowIs w.heap.size 9 (strs (piecesB c s)).length (fun j => (strs (piecesB c s)).getD j .nilIface) := by
    refine ⟨((piecesB c s).map Value.string).toArray, by show (w.heap.push _)[w.heap.size]? = _; simp, by simp [strs], fun j hj => ?_⟩
    show _ = some ((strs (piecesB c s)).getD j .nilIface)
    rw [List.getD_eq_getElem?_getD, List.getElem?_eq_getElem hj]
    simp [strs, List.getElem?_eq_getElem (by simpa using hj)]
  have := ownV_of_rowIs (lo := w.heap.size) hr (Nat.le_refl _) (fun j u hu => by rw [List.getD_eq_getElem?_getD, hu]; rfl) (by rw [strs_length]; exact hl)
  rw [strs_length] at this
  rw [World.size_alloc]
  exact this

theorem specSplit_any (s sep : ByteArray) (w : World) (hs : s.size ≤ 1048576) (hp : sep.size ≤ 1048576) :
    Calls Tryd.prog 29 #[.string s, .string sep] w fun e w' => ∃ a c, e = .returned (.tuple #[.slice a (splR s sep).length c, .bool (splOk s sep)]) ∧ OwnV 9 w.heap.size w'.heap.size w' (.slice a (splR s sep).length c) (strs (splR s sep)) ∧ Below w.heap.size w w' := by
  have hE := OwnV.empty 9 w
  rw [← World.size_alloc w (.cells #[] 9)] at hE
  have hB : Below w.heap.size w (w.alloc (.cells #[] 9)) := (Below.refl _ _).alloc (Nat.le_refl _) _
  by_cases h1 : sep.size = 1
  · obtain ⟨c, rfl⟩ := one_byte h1
    by_cases h2 : (4000 : Int) < s.size
    · have e1 : splOk s ⟨#[c]⟩ = false := by unfold splOk; simp; omega
      have e2 : splR s ⟨#[c]⟩ = [] := by unfold splR; rw [if_neg (by simp [e1])]
      rw [e1, e2]
      clear h1
      go_enter Tryd.func29, Tryd.ntmps29
      go_wp2
      go_ret2
      exact ⟨_, _, rfl, hE, hB⟩
    · have e1 : splOk s ⟨#[c]⟩ = true := by unfold splOk; simp; exact ⟨by omega, rfl⟩
      have e2 : splR s ⟨#[c]⟩ = piecesB c s := by unfold splR; rw [if_pos e1]; rfl
      rw [e1, e2]
      have C := l1Split_any s c w hs
      clear h1 hE hB
      go_enter Tryd.func29, Tryd.ntmps29
      go_wp2_with (go_at_call 62; refine C.mono ?_; rintro e w' ⟨a, c', rfl, hO, hb⟩)
      go_ret2
      exact ⟨_, _, rfl, hO, hb⟩
  · have e1 : splOk s sep = false := by unfold splOk; simp [h1]
    have e2 : splR s sep = [] := by unfold splR; rw [if_neg (by simp [e1])]
    rw [e1, e2]
    have h1' : ((sep.size : Int) != 1) = true := by simp; omega
    go_enter Tryd.func29, Tryd.ntmps29
    go_wp2
    go_ret2
    exact ⟨_, _, rfl, hE, hB⟩

theorem implSplit_any (s sep : ByteArray) (w : World) (hs : s.size ≤ 1048576) (hp : sep.size ≤ 1048576) (hm : Max w) :
    Calls Tryd.prog 30 #[.string s, .string sep] w fun e w' => ∃ a c, e = .returned (.tuple #[.slice a (splR s sep).length c, .bool (splOk s sep)]) ∧ OwnV 9 w.heap.size w'.heap.size w' (.slice a (splR s sep).length c) (strs (splR s sep)) ∧ Below w.heap.size w w' := by
  have hE := OwnV.nil 9 w.heap.size w.heap.size w
  by_cases h2 : (4000 : Int) < s.size
  · have e1 : splOk s sep = false := by unfold splOk; simp; omega
    have e2 : splR s sep = [] := by unfold splR; rw [if_neg (by simp [e1])]
    rw [e1, e2]
    go_enter Tryd.func30, Tryd.ntmps30
    go_wp2
    go_ret2
    exact ⟨_, _, rfl, hE, Below.refl _ _⟩
  · by_cases h1 : sep.size = 1
    · obtain ⟨c, rfl⟩ := one_byte h1
      have e1 : splOk s ⟨#[c]⟩ = true := by unfold splOk; simp; exact ⟨by omega, rfl⟩
      have e2 : splR s ⟨#[c]⟩ = piecesB c s := by unfold splR; rw [if_pos e1]; rfl
      rw [e1, e2]
      have C := split_any s c w hs hm
      clear h1 hE
      go_enter Tryd.func30, Tryd.ntmps30
      go_wp2_with (go_at_call 66; refine C.mono ?_; rintro e w' ⟨a, c', rfl, hO, hb⟩)
      go_ret2
      exact ⟨_, _, rfl, hO, hb⟩
    · have e1 : splOk s sep = false := by unfold splOk; simp [h1]
      have e2 : splR s sep = [] := by unfold splR; rw [if_neg (by simp [e1])]
      rw [e1, e2]
      have h1' : ((sep.size : Int) != 1) = true := by simp; omega
      go_enter Tryd.func30, Tryd.ntmps30
      go_wp2
      go_ret2
      exact ⟨_, _, rfl, hE, Below.refl _ _⟩
end Go.Proofs.YtenlfegldjfpjaaDoor
