/- Which byte stands in a text: the reference's loop and the program's call of the library. -/
import Derived.Test.YtcifpfdlkpddeaaDoorHarA
import Derived.Test.YtcifpfdlkpddeaaDoorPlainN
import Derived.Test.YtcifpfdlkpddeaaDoorShelf
set_option linter.unusedSimpArgs false
set_option linter.unusedVariables false
namespace Go.Proofs.YtcifpfdlkpddeaaDoor
open Go.RowKit

theorem byte_eq_true {a b : UInt8} (h : a = b) : ((a.toNat : Int) == (b.toNat : Int)) = true := by subst h; simp
theorem byte_eq_false {a b : UInt8} (h : ¬ a = b) : ((a.toNat : Int) == (b.toNat : Int)) = false := by
  rw [beq_eq_false_iff_ne]
  intro e
  exact h (UInt8.toNat_inj.1 (by omega))
theorem byte_get {s : ByteArray} {k : Nat} (h : k < s.size) : s.data.toList[k]? = some s[k] := by
  rw [List.getElem?_eq_getElem (by simpa using h)]; rfl

end Go.Proofs.YtcifpfdlkpddeaaDoor
