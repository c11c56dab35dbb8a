/- Contracts of the laws' own helpers over one slice of ints: copy, compare, mark, ask. -/
import Derived.Test.YtenlfegldjfpjaaChecked
import Derived.Test.YtenlfegldjfpjaaPlain
import Derived.Deep.QuietTactic
import Derived.BigQuiet
import Derived.StillTailTactics
set_option linter.unusedSimpArgs false
set_option linter.unusedVariables false
namespace Go.Proofs.Ytenlfegldjfpjaa
open Go.RowKit

theorem Try.infoInt : (Try.prog.info? 3).map (fun i => (i.zero, i.size, i.bytes)) = some (some (.int .i64 0), 1, 8) := by kernel_rfl


/-- A row that is known whole is the call's own. -/
theorem ownV_of_rowIs {T lo : Nat} {w : World} {g : Nat} {vs : List Value} {f : Nat → Value} (h : w.rowIs g T vs.length f) (hlo : lo ≤ g) (hf : ∀ j u, vs[j]? = some u → f j = u) (hm : vs.length ≤ maxLen) :
    OwnV T lo (g + 1) w (.slice (some ⟨g, 0, none⟩) vs.length vs.length) vs := by
  obtain ⟨c, hh, hs, hc⟩ := h
  refine ⟨⟨by omega, Or.inr ⟨g, vs.length, c, rfl, hlo, hh, Nat.le_refl _, hm, by omega, ?_⟩⟩, fun g' hg => by simp [Value.ownBlock] at hg; omega⟩
  apply List.ext_getElem?
  intro j
  rw [List.getElem?_take]
  by_cases hj : j < vs.length
  · rw [if_pos (by omega)]
    have h1 := hc j (by omega)
    rw [hf j _ (List.getElem?_eq_getElem hj)] at h1
    rw [List.getElem?_eq_getElem hj]
    simpa using h1
  · rw [if_neg (by omega), List.getElem?_eq_none (by omega)]

end Go.Proofs.Ytenlfegldjfpjaa
