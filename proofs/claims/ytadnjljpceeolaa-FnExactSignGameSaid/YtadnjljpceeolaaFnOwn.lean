/- The reference's copy of a list: contract. -/
import Derived.Test.YtadnjljpceeolaaHarC
import Derived.Test.YtadnjljpceeolaaBoxRel
set_option linter.unusedSimpArgs false
set_option linter.unusedVariables false
namespace Go.Proofs.Ytadnjljpceeolaa
open Go.RowKit

set_option maxHeartbeats 400000 in
theorem l1Own_any (v : Value) (xs : List Int) (w : World) (h : RdI w v xs) (hcap : ∀ c : Nat, v = .slice none 0 c → c = 0) (hn : xs.length ≤ 1048576) :
    Calls Try.prog 83 #[v] w fun e w' => ∃ a c, e = .returned (.slice a xs.length c) ∧ OwnV 3 w.heap.size w'.heap.size w' (.slice a xs.length c) (ints xs) ∧ Below w.heap.size w w' := by
  have hE := OwnV.empty 3 w
  have hr := h.kept (Nat.le_refl _) (show Below w.heap.size w (w.alloc (.cells #[] 3)) from (by repeat' (first | with_reducible exact Below.refl _ _ | with_reducible assumption | with_reducible apply Below.alloc | with_reducible apply Below.setCell | with_reducible apply Below.drew | exact Nat.le_refl _ | omega | (simp only [World.size_alloc, World.size_setCell]; omega))))
  have hlo : w.heap.size ≤ (w.alloc (.cells #[] 3)).heap.size := (by first | exact Nat.le_refl _ | omega | (simp only [World.size_alloc, World.size_setCell]; omega))
  obtain ⟨av, cv, hv⟩ : ∃ a c, v = .slice a xs.length c := by obtain ⟨a, _, _, c, hv, _⟩ := h; exact ⟨a, c, hv⟩
  subst hv
  go_enter Try.func83, Try.ntmps83
  go_wp2_with (at_builtin; refine appendAll_own (vx := .slice av xs.length cv) rfl _ _ 22 3 rfl Try.underlying22 Try.infoInt hE rfl rfl hr (by simp only [List.length_nil]; omega) (by omega) hlo hcap ?_)
  intro a2 c2 w2 hO hg
  have hB : Below w.heap.size w w2 := Below.grown (by repeat' (first | with_reducible exact Below.refl _ _ | with_reducible assumption | with_reducible apply Below.alloc | with_reducible apply Below.setCell | with_reducible apply Below.drew | exact Nat.le_refl _ | omega | (simp only [World.size_alloc, World.size_setCell]; omega))) hg hlo (fun g hg' => (hE.lt g hg').1)
  go_wp2
  go_ret
  exact ⟨a2, c2, rfl, hO, hB⟩
end Go.Proofs.Ytadnjljpceeolaa
