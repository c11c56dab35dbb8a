/- A text with its checksum: what the reference's and the program's AppendChecksum hand back. -/
import Derived.Test.YtenlfegldjfpjaaDoorFnSum
import Derived.Test.YtenlfegldjfpjaaDoorFnNum
import Derived.Test.YtenlfegldjfpjaaDoorPlainN
import Derived.Test.YtenlfegldjfpjaaDoorFnStands
set_option linter.unusedSimpArgs false
set_option linter.unusedVariables false
namespace Go.Proofs.YtenlfegldjfpjaaDoor
open Go.RowKit

theorem contains_any (s : ByteArray) (w : World) :
    Calls Tryd.prog 57 #[.string s, .string ⟨#[35]⟩] w fun e w' => e = .returned (.bool (hasC s.data.toList 35)) ∧ w' = w := containsC_any s 35 w

theorem l1Seal_any (s : ByteArray) (w : World) (hs : s.size ≤ 1048576) :
    Calls Tryd.prog 60 #[.string s] w fun e w' => e = .returned (.string (sealB s)) ∧ Drw w w' := by
  have hm : s.size ≤ maxLen := by unfold maxLen; omega
  have hb := csum_bound s.data.toList
  have hl := csum_len s.data.toList
  have C1 := fun W => l1Sum_any s W hm
  have C2 := fun W => l1Num_any (csum s.data.toList) W (by omega) (by omega)
  unfold sealB
  generalize csum s.data.toList = c at *
  generalize Lib.itoa c = D at *
  have hl3 : ¬ (9223372036854775807 < s.size + 1) := by omega
  have hl4 : ¬ (9223372036854775807 < s.size + 1 + D.length) := by omega
  clear hm
  go_enter Tryd.func60, Tryd.ntmps60
  go_wp2_with (first | (go_at_call 83; refine (C1 _).mono ?_; rintro e w' ⟨rfl, rfl⟩) | (go_at_call 51; refine (C2 _).mono ?_; rintro e w' ⟨rfl, hd⟩))
  go_ret
  exact ⟨rfl, by assumption⟩

theorem specAppend_any (s : ByteArray) (w : World) (hs : s.size ≤ 1048576) :
    Calls Tryd.prog 21 #[.string s] w fun e w' => e = .returned (.tuple #[.string (sealR s), .bool (sealOk s)]) ∧ Drw w w' := by
  have hm : s.size ≤ maxLen := by unfold maxLen; omega
  have C1 := fun W => l1Stands_any s 35 W hm
  have C2 := fun W => l1Seal_any s W hs
  have hz := sealB_size s
  have hl := csum_len s.data.toList
  by_cases h1 : (4000 : Int) < s.size
  · have e1 : sealOk s = false := by unfold sealOk; simp; omega
    rw [sealR_not e1, e1]
    go_enter Tryd.func21, Tryd.ntmps21
    go_wp2
    go_ret2
    exact ⟨rfl, Drw.refl _⟩
  · cases h2 : hasC s.data.toList 35 with
    | true =>
      have e1 : sealOk s = false := by unfold sealOk; simp [h2]
      rw [sealR_not e1, e1]
      rw [h2] at C1
      go_enter Tryd.func21, Tryd.ntmps21
      go_wp2_with (go_at_call 59; refine (C1 _).mono ?_; rintro e w' ⟨rfl, rfl⟩)
      go_ret2
      exact ⟨rfl, Drw.refl _⟩
    | false =>
      rw [h2] at C1
      by_cases h3 : (4000 : Int) < (sealB s).size
      · have e1 : sealOk s = false := by unfold sealOk; simp; omega
        rw [sealR_not e1, e1]
        generalize sealB s = t at *
        go_enter Tryd.func21, Tryd.ntmps21
        go_wp2_with (first | (go_at_call 59; refine (C1 _).mono ?_; rintro e w' ⟨rfl, rfl⟩) | (go_at_call 60; refine (C2 _).mono ?_; rintro e w' ⟨rfl, hd⟩))
        go_ret2
        exact ⟨rfl, by assumption⟩
      · have e1 : sealOk s = true := by unfold sealOk; simp [h2]; omega
        rw [sealR_ok e1, e1]
        generalize sealB s = t at *
        have hacc := Drw.refl w
        go_enter Tryd.func21, Tryd.ntmps21
        go_wp2_with (first | (go_at_call 59; refine (C1 _).mono ?_; rintro e w' ⟨rfl, rfl⟩) | (go_at_call 60; refine (C2 _).mono ?_; rintro e w1 ⟨rfl, hd1⟩; replace hacc := hacc.trans hd1; clear hd1))
        go_ret2
        exact ⟨rfl, hacc⟩

theorem implAppend_any (s : ByteArray) (w : World) (hs : s.size ≤ 1048576) (ht : Tab w) :
    Calls Tryd.prog 20 #[.string s] w fun e w' => e = .returned (.tuple #[.string (sealR s), .bool (sealOk s)]) ∧ Below w.heap.size w w' := by
  have hm : s.size ≤ maxLen := by unfold maxLen; omega
  have C1 := fun W => contains_any s W
  have C2 := fun W => checksum_any s W hm
  have hb := csum_bound s.data.toList
  have C3 := fun W h => itoa_any (csum s.data.toList) W (by omega) (by omega) h
  have hz := sealB_size s
  have hl := csum_len s.data.toList
  by_cases h1 : (4000 : Int) < s.size
  · have e1 : sealOk s = false := by unfold sealOk; simp; omega
    rw [sealR_not e1, e1]
    go_enter Tryd.func20, Tryd.ntmps20
    go_wp2
    go_ret2
    exact ⟨rfl, Below.refl _ _⟩
  · cases h2 : hasC s.data.toList 35 with
    | true =>
      have e1 : sealOk s = false := by unfold sealOk; simp [h2]
      rw [sealR_not e1, e1]
      rw [h2] at C1
      go_enter Tryd.func20, Tryd.ntmps20
      go_wp2_with (go_at_call 57; refine (C1 _).mono ?_; rintro e w' ⟨rfl, rfl⟩)
      go_ret2
      exact ⟨rfl, Below.refl _ _⟩
    | false =>
      rw [h2] at C1
      by_cases h3 : (4000 : Int) < (sealB s).size
      · have e1 : sealOk s = false := by unfold sealOk; simp; omega
        rw [sealR_not e1, e1]
        have hz2 := hz
        unfold sealB at hz2 h3
        generalize csum s.data.toList = c at *
        generalize Lib.itoa c = D at *
        have hl3 : ¬ (9223372036854775807 < s.size + 1) := by omega
        have hl4 : ¬ (9223372036854775807 < s.size + 1 + D.length) := by omega
        have h4 : (4000 : Int) < s.size + 1 + D.length := by omega
        clear hm
        go_enter Tryd.func20, Tryd.ntmps20
        go_wp2_with (first | (go_at_call 57; refine (C1 _).mono ?_; rintro e w' ⟨rfl, rfl⟩) | (go_at_call 58; refine (C2 _).mono ?_; rintro e w' ⟨rfl, rfl⟩) | (go_at_call 49; refine (C3 _ ht).mono ?_; rintro e w' ⟨rfl, hd⟩))
        go_ret2
        exact ⟨rfl, by assumption⟩
      · have e1 : sealOk s = true := by unfold sealOk; simp [h2]; omega
        rw [sealR_ok e1, e1]
        have hz2 := hz
        unfold sealB at hz2 h3 ⊢
        generalize csum s.data.toList = c at *
        generalize Lib.itoa c = D at *
        have hl3 : ¬ (9223372036854775807 < s.size + 1) := by omega
        have hl4 : ¬ (9223372036854775807 < s.size + 1 + D.length) := by omega
        have h4 : ¬ (4000 : Int) < s.size + 1 + D.length := by omega
        clear hm
        go_enter Tryd.func20, Tryd.ntmps20
        go_wp2_with (first | (go_at_call 57; refine (C1 _).mono ?_; rintro e w' ⟨rfl, rfl⟩) | (go_at_call 58; refine (C2 _).mono ?_; rintro e w' ⟨rfl, rfl⟩) | (go_at_call 49; refine (C3 _ ht).mono ?_; rintro e w' ⟨rfl, hd⟩))
        go_ret2
        exact ⟨rfl, by assumption⟩
end Go.Proofs.YtenlfegldjfpjaaDoor
