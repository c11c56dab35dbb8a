/- Slices of texts: readings, and the laws' own helpers over one slice of texts: copy, compare, size, mark, ask. -/
import Derived.Test.YtcifpfdlkpddeaaDoorHarA
import Derived.Test.YtcifpfdlkpddeaaDoorPlainN
import Derived.Test.YtcifpfdlkpddeaaDoorApp
import Derived.Deep.RegionHeld3
import Derived.Laws.IdiomStrings
set_option linter.unusedSimpArgs false
set_option linter.unusedVariables false
namespace Go.Proofs.YtcifpfdlkpddeaaDoor
open Go.RowKit Go.WideShapes

theorem wrapIn64 (x : Int) (h0 : -9223372036854775808 ≤ x) (h1 : x ≤ 9223372036854775807) : IntKind.i64.wrap x = x := IntWalk.i64_in _ (by omega)
def strs (ss : List ByteArray) : List Value := ss.map Value.string
@[simp] theorem strs_length (ss : List ByteArray) : (strs ss).length = ss.length := by simp [strs]
theorem strs_get (ss : List ByteArray) (j : Nat) : (strs ss)[j]? = ss[j]?.map Value.string := by simp [strs]

/-- A slice of texts that reads as ss, wherever it lies. -/
def RdS (w : World) (v : Value) (ss : List ByteArray) : Prop :=
  ∃ (a : Option Addr) (b off cap : Nat), v = .slice a ss.length cap ∧ ss.length ≤ maxLen ∧ (0 < ss.length → a = some ⟨b, off, none⟩) ∧ ∀ (j : Nat) (x : ByteArray), ss[j]? = some x → w.cell? ⟨b, off + j, none⟩ = some (.string x)
theorem RdS.kept {w w' : World} {v : Value} {ss : List ByteArray} (h : RdS w v ss) {B : Nat} (hB : w.heap.size ≤ B) (hb : Below B w w') : RdS w' v ss := by
  obtain ⟨a, b, off, cap, hv, hm, ha, hc⟩ := h
  refine ⟨a, b, off, cap, hv, hm, ha, fun j x hx => ?_⟩
  have h1 := hc j x hx
  have h2 := World.block_lt_of_cell? _ _ h1
  rw [hb.cell (p := ⟨b, off + j, none⟩) (Nat.lt_of_lt_of_le h2 hB)]
  exact h1
theorem OwnV.rdS {T lo hi : Nat} {w : World} {v : Value} {ss : List ByteArray} (h : OwnV T lo hi w v (strs ss)) : RdS w v ss := by
  obtain ⟨a, g, cap, hv, hm, ha, hc, _⟩ := h.shape
  rw [strs_length] at hv hm ha
  exact ⟨a, g, 0, cap, hv, hm, fun hp => (ha hp).1, fun j x hx => by rw [Nat.zero_add]; exact hc j _ (by simp [strs, hx])⟩

theorem Tryd.infoStr : (Tryd.prog.info? 9).map (fun i => (i.zero, i.size, i.bytes)) = some (some (.string ⟨#[]⟩), 1, 16) := by kernel_rfl

def sumSz (ss : List ByteArray) : Nat := (ss.map ByteArray.size).sum
theorem sumSz_take (ss : List ByteArray) (k : Nat) (x : ByteArray) (h : ss[k]? = some x) : sumSz (ss.take (k + 1)) = sumSz (ss.take k) + x.size := by
  simp [sumSz, List.take_add_one, h]
theorem sumSz_take_le (ss : List ByteArray) (k : Nat) : sumSz (ss.take k) ≤ sumSz ss := by
  have h : sumSz ss = sumSz (ss.take k) + sumSz (ss.drop k) := by
    have : ss = ss.take k ++ ss.drop k := (List.take_append_drop k ss).symm
    unfold sumSz
    rw [← List.sum_append, ← List.map_append, ← this]
  omega
theorem sumSz_get {ss : List ByteArray} {k : Nat} {x : ByteArray} (h : ss[k]? = some x) : x.size ≤ sumSz ss := by
  have h1 := sumSz_take ss k x h
  have h2 := sumSz_take_le ss (k + 1)
  omega

end Go.Proofs.YtcifpfdlkpddeaaDoor
