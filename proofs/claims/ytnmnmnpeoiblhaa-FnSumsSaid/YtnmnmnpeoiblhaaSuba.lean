/- The reference's copy of a list: contract. ProductBox: contracts of the program's and the reference's function. -/
import Derived.Test.YtnmnmnpeoiblhaaSuab
import Derived.Test.YtnmnmnpeoiblhaaSuad
import Derived.Test.YtnmnmnpeoiblhaaSuaf
set_option linter.unusedSimpArgs false
set_option linter.unusedVariables false
namespace Go.Proofs.Ytnmnmnpeoiblhaa
open Go.RowKit

set_option maxHeartbeats 400000 in
theorem l1Own_any (v : Value) (xs : List Int) (w : World) (h : RdI w v xs) (hcap : ∀ c : Nat, v = .slice none 0 c → c = 0) (hn : xs.length ≤ 1048576) :
    Calls Try.prog 65 #[v] w fun e w' => ∃ a c, e = .returned (.slice a xs.length c) ∧ OwnV 3 w.heap.size w'.heap.size w' (.slice a xs.length c) (ints xs) ∧ Below w.heap.size w w' := by
  have hE := OwnV.empty 3 w
  have hr := h.kept (Nat.le_refl _) (show Below w.heap.size w (w.alloc (.cells #[] 3)) from (by repeat' (first | with_reducible exact Below.refl _ _ | with_reducible assumption | with_reducible apply Below.alloc | with_reducible apply Below.setCell | with_reducible apply Below.drew | exact Nat.le_refl _ | omega | (simp only [World.size_alloc, World.size_setCell]; omega))))
  have hlo : w.heap.size ≤ (w.alloc (.cells #[] 3)).heap.size := (by first | exact Nat.le_refl _ | omega | (simp only [World.size_alloc, World.size_setCell]; omega))
  obtain ⟨av, cv, hv⟩ : ∃ a c, v = .slice a xs.length c := by obtain ⟨a, _, _, c, hv, _⟩ := h; exact ⟨a, c, hv⟩
  subst hv
  go_enter Try.func65, Try.ntmps65
  go_wp2_with (at_builtin; refine appendAll_own (vx := .slice av xs.length cv) rfl _ _ 27 3 rfl Try.underlying27 Try.infoInt hE rfl rfl hr (by simp only [List.length_nil]; omega) (by omega) hlo hcap ?_)
  intro a2 c2 w2 hO hg
  have hB : Below w.heap.size w w2 := Below.grown (by repeat' (first | with_reducible exact Below.refl _ _ | with_reducible assumption | with_reducible apply Below.alloc | with_reducible apply Below.setCell | with_reducible apply Below.drew | exact Nat.le_refl _ | omega | (simp only [World.size_alloc, World.size_setCell]; omega))) hg hlo (fun g hg' => (hE.lt g hg').1)
  go_wp2
  go_ret
  exact ⟨a2, c2, rfl, hO, hB⟩
end Go.Proofs.Ytnmnmnpeoiblhaa
set_option linter.unusedSimpArgs false
set_option linter.unusedVariables false
namespace Go.Proofs.Ytnmnmnpeoiblhaa
open Go.RowKit

def chancesB (xs : List Int) (m : Int) : Bool := allIn xs 0 m && inB xs.length 1 3
set_option maxHeartbeats 400000 in
theorem l2Chances_any (v : Value) (xs : List Int) (m : Int) (w : World) (h : RdI w v xs) :
    Calls Try.prog 110 #[v, .int .i64 m] w fun e w' => e = .returned (.bool (chancesB xs m)) ∧ w = w' := by
  obtain ⟨a, b, off, cap, rfl, hm, ha, hc⟩ := h
  unfold maxLen at hm
  go_enter Try.func110, Try.ntmps110
  go_wp2
  go_loop [5] (fun i => ∃ k : Nat, k ≤ xs.length ∧ i = .int .i64 k ∧ ∀ (j : Nat) (x : Int), j < k → xs[j]? = some x → inB x 0 m = true) (fun i => xs.length - (intOf i).toNat)
  case atStart => exact ⟨0, by omega, rfl, fun j x hj => by omega⟩
  case round =>
    obtain ⟨k, hk, rfl, hall⟩ := hrel
    have HA := Lib.hid hall
    clear hall
    by_cases hlt : k < xs.length
    · obtain rfl := ha (by omega)
      obtain ⟨x, hx⟩ : ∃ x, xs[k]? = some x := ⟨_, List.getElem?_eq_getElem hlt⟩
      have hcell := hc k x hx
      have HX := Lib.hid hx
      clear hc hx
      rcases Bool.eq_false_or_eq_true (inB x 0 m) with h1 | h1
      · go_wp2_with (go_at_call 104; refine (l1In_any _ _ _ _).mono ?_; rintro e w' ⟨rfl, rfl⟩)
        go_round
        case rel => exact ⟨k + 1, by omega, by go_num, fun j x' hj hx' => by
          by_cases e : j = k
          · subst e; rw [HX.out] at hx'; cases hx'; exact h1
          · exact HA.out j x' (by omega) hx'⟩
        case measure => simp [intOf]; omega
      · go_wp2_with (go_at_call 104; refine (l1In_any _ _ _ _).mono ?_; rintro e w' ⟨rfl, rfl⟩)
        go_ret
        exact ⟨ret_bool (by unfold chancesB; rw [allIn_false HX.out h1]; rfl), rfl⟩
    · go_wp2_with (go_at_call 104; refine (l1In_any _ _ _ _).mono ?_; rintro e w' ⟨rfl, rfl⟩)
      go_ret
      obtain rfl : k = xs.length := by omega
      refine ⟨ret_bool ?_, rfl⟩
      unfold chancesB
      rw [allIn_true (fun j x hx => HA.out j x (List.getElem?_eq_some_iff.1 hx).1 hx)]
      rw [Bool.true_and]
end Go.Proofs.Ytnmnmnpeoiblhaa
