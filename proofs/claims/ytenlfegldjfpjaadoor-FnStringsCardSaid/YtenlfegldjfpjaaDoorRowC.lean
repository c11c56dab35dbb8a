/- A law's bytes, read out of the row's data. -/
import Derived.Test.YtenlfegldjfpjaaDoorRow
import Derived.Test.YtenlfegldjfpjaaDoorDraw
set_option linter.unusedSimpArgs false
set_option linter.unusedVariables false
namespace Go.Proofs.YtenlfegldjfpjaaDoor
open Go.ChangeShapes Go.WideShapes Go.ChangeAt Go.RowKit

theorem Tryd.cellsByte : Tryd.prog.cellsOf 5 = 1 := by kernel_rfl
theorem rdB_of {H : Type} {enc : TypeId × Value → H} {P : Program} {w : World} {t e : TypeId} {v : Value} {r : Reach} {b0 : Nat} {d : DataW H} {p : List MemPlace} (ht : P.underlying t = some (.slice e)) (he : P.underlying e = some (.int .u8)) (hc : P.cellsOf e = 1)
    (hval : Value.okWide P w r b0 t v) (h : DataW.Trod enc P w 0 (fun _ => true) true t v d p) : ∃ (a : Option Addr) (n cap : Nat), v = .slice a n cap ∧ n ≤ maxLen ∧ (n ≤ 65536 → RdB w (.slice a n cap) n) := by
  obtain ⟨a0, len, cap, rfl⟩ := okWide_slice ht hval
  obtain ⟨fuel, hf⟩ := h
  rcases open_ints ht he hc hf with ⟨hcs, hx⟩ | ⟨a, len', cap', zs, hcs, _, hl, hm, hz, hx, hcell, hwz⟩
  · simp [Value.cells] at hcs
    obtain ⟨rfl, rfl, rfl⟩ := hcs
    exact ⟨none, 0, 0, rfl, Nat.zero_le _, fun _ => ⟨none, 0, 0, 0, rfl, Nat.zero_le _, fun h => by omega, fun j hj => by omega⟩⟩
  · simp [Value.cells] at hcs
    obtain ⟨rfl, rfl, rfl⟩ := hcs
    simp only [if_true] at hz
    refine ⟨some a, len, cap, rfl, Nat.le_trans hl hm, fun hn => ?_⟩
    by_cases hp : 0 < zs.length
    · obtain ⟨b, off, rfl, hcc⟩ := ints_at hcell hp
      refine ⟨_, b, off, cap, rfl, hn, fun _ => rfl, fun j hj => ?_⟩
      have hj' : j < zs.length := by omega
      have hmem := hwz zs[j] (List.getElem_mem hj')
      have hb : 0 ≤ zs[j] ∧ zs[j] ≤ 255 := by simpa [Lit.wf, IntKind.min, IntKind.max, IntKind.signed, IntKind.bits] using hmem
      refine ⟨zs[j].toNat, by omega, ?_⟩
      rw [hcc j hj', List.getD_eq_getElem?_getD, List.getElem?_eq_getElem hj']
      simp only [Option.getD_some, Option.some.injEq, Value.int.injEq, true_and]
      omega
    · exact ⟨_, 0, 0, cap, rfl, hn, fun h => by omega, fun j hj => by omega⟩
end Go.Proofs.YtenlfegldjfpjaaDoor
