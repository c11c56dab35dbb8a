/- Which byte stands in a text: the reference's loop and the program's call of the library. -/
import Derived.Test.YtenlfegldjfpjaaDoorHarA
import Derived.Test.YtenlfegldjfpjaaDoorPlainN
import Derived.Test.YtenlfegldjfpjaaDoorShelf
set_option linter.unusedSimpArgs false
set_option linter.unusedVariables false
namespace Go.Proofs.YtenlfegldjfpjaaDoor
open Go.RowKit

theorem byte_eq_true {a b : UInt8} (h : a = b) : ((a.toNat : Int) == (b.toNat : Int)) = true := by subst h; simp
theorem byte_eq_false {a b : UInt8} (h : ¬ a = b) : ((a.toNat : Int) == (b.toNat : Int)) = false := by
  rw [beq_eq_false_iff_ne]
  intro e
  exact h (UInt8.toNat_inj.1 (by omega))
theorem byte_get {s : ByteArray} {k : Nat} (h : k < s.size) : s.data.toList[k]? = some s[k] := by
  rw [List.getElem?_eq_getElem (by simpa using h)]; rfl

theorem l1Stands_any (s : ByteArray) (b : UInt8) (w : World) (hs : s.size ≤ maxLen) :
    Calls Tryd.prog 59 #[.string s, .int .u8 b.toNat] w fun e w' => e = .returned (.bool (hasC s.data.toList b)) ∧ w = w' := by
  unfold maxLen at hs
  go_enter Tryd.func59, Tryd.ntmps59
  go_wp2
  go_loop [5] (fun i => ∃ k : Nat, k ≤ s.size ∧ i = .int .i64 k ∧ ∀ j : Nat, j < k → s.data.toList[j]? ≠ some b) (fun i => s.size - (intOf i).toNat)
  case atStart => exact ⟨0, Nat.zero_le _, rfl, fun j hj => by omega⟩
  case round =>
    obtain ⟨k, hk, rfl, hno⟩ := hrel
    by_cases hlt : k < s.size
    · have hg := byte_get hlt
      by_cases he : s[k] = b
      · have hez := byte_eq_true he
        have HR := hasC_true (hg.trans (by rw [he]))
        clear hg
        go_wp2
        go_ret
        exact ⟨rfl, rfl⟩
      · have hez := byte_eq_false he
        have HG := Lib.hid hg
        have HE := Lib.hid he
        clear hg he
        go_wp2
        go_round
        case rel => exact ⟨k + 1, by omega, by go_num, fun j hj => by
          by_cases e : j = k
          · subst e; rw [HG.out]; intro h; exact HE.out (Option.some.inj h)
          · exact hno j (by omega)⟩
        case measure => simp [intOf]; omega
    · have HR : hasC s.data.toList b = false := hasC_false fun j hj => by
        have := (List.getElem?_eq_some_iff.1 hj).1
        exact hno j (by simp at this; omega) hj
      clear hno
      go_wp2
      go_ret
      exact ⟨rfl, rfl⟩

theorem containsC_any (s : ByteArray) (c : UInt8) (w : World) :
    Calls Tryd.prog 57 #[.string s, .string ⟨#[c]⟩] w fun e w' => e = .returned (.bool (hasC s.data.toList c)) ∧ w' = w := by
  rw [← hasC_index]
  exact Tryd.strings_Contains_one s c w
end Go.Proofs.YtenlfegldjfpjaaDoor
