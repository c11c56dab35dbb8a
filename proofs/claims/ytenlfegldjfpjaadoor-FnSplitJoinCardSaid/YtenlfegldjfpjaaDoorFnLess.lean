/- Comparing texts, and joining what was split. -/
import Derived.Test.YtenlfegldjfpjaaDoorFnSplitS
import Derived.Test.YtenlfegldjfpjaaDoorFnText
set_option linter.unusedSimpArgs false
set_option linter.unusedVariables false
namespace Go.Proofs.YtenlfegldjfpjaaDoor
open Go.RowKit Go.WideShapes

def lessB (a b : ByteArray) : Bool := Op.bytesLess a.toList b.toList
theorem bytesLess_asymm : ∀ (x y : List UInt8), Op.bytesLess x y = true → Op.bytesLess y x = false
  | _, [], h => by simp [Op.bytesLess] at h
  | [], _ :: _, _ => rfl
  | a :: x, b :: y, h => by
    simp only [Op.bytesLess, Bool.or_eq_true, Bool.and_eq_true, decide_eq_true_eq, beq_iff_eq] at h
    have hab : ∀ (p q : UInt8), p < q ↔ p.toNat < q.toNat := fun p q => UInt8.lt_iff_toNat_lt
    rcases h with h | ⟨rfl, h⟩
    · have h1 := (hab a b).1 h
      simp only [Op.bytesLess, Bool.or_eq_false_iff, Bool.and_eq_false_iff, decide_eq_false_iff_not, beq_eq_false_iff_ne]
      exact ⟨fun h2 => by have := (hab b a).1 h2; omega, Or.inl (fun e => by subst e; omega)⟩
    · have ih := bytesLess_asymm x y h
      simp only [Op.bytesLess, ih, Bool.and_false, Bool.or_false, decide_eq_false_iff_not]
      intro h2
      have := (hab a a).1 h2
      omega
theorem lessB_asymm {a b : ByteArray} (h : lessB a b = true) : lessB b a = false := bytesLess_asymm _ _ h
theorem implLess_any (a b : ByteArray) (w : World) :
    Calls Tryd.prog 40 #[.string a, .string b] w fun e w' => e = .returned (.bool (lessB a b)) ∧ w = w' := by
  unfold lessB
  go_enter Tryd.func40, Tryd.ntmps40
  go_wp2
  go_ret
  exact ⟨rfl, rfl⟩
theorem specLess_any (a b : ByteArray) (w : World) :
    Calls Tryd.prog 41 #[.string a, .string b] w fun e w' => e = .returned (.bool (lessB a b)) ∧ w = w' := by
  unfold lessB
  go_enter Tryd.func41, Tryd.ntmps41
  go_wp2
  go_ret
  exact ⟨rfl, rfl⟩

theorem join_pieces (c : UInt8) : ∀ l : List UInt8, Lib.join (pieces c l) [c] = l
  | [] => rfl
  | b :: l => by
    have ih := join_pieces c l
    unfold pieces
    cases hp : pieces c l with
    | nil => exact absurd hp (pieces_ne c l)
    | cons h t =>
      rw [hp] at ih
      rw [Lib.join_cons] at ih
      by_cases hb : b = c
      · rw [if_pos hb, Lib.join_cons, hb]
        have : Lib.joinTail [c] (h :: t) = [c] ++ (h ++ Lib.joinTail [c] t) := by simp [Lib.joinTail]
        rw [this, ih]
        rfl
      · rw [if_neg hb]
        show Lib.join ((b :: h) :: t) [c] = b :: l
        rw [Lib.join_cons]
        show b :: (h ++ _) = b :: l
        rw [ih]
theorem pieces_no (c : UInt8) : ∀ (l : List UInt8), ∀ p ∈ pieces c l, hasC p c = false
  | [], p, hp => by
    obtain rfl : p = [] := by simpa [pieces] using hp
    rfl
  | b :: l, p, hp => by
    have ih := pieces_no c l
    unfold pieces at hp
    by_cases hb : b = c
    · rw [if_pos hb] at hp
      rcases List.mem_cons.1 hp with rfl | hp
      · rfl
      · exact ih p hp
    · rw [if_neg hb] at hp
      cases hq : pieces c l with
      | nil => exact absurd hq (pieces_ne c l)
      | cons h t =>
        rw [hq] at hp ih
        rcases List.mem_cons.1 hp with rfl | hp
        · have h1 := ih h (List.mem_cons_self ..)
          unfold hasC at h1 ⊢
          rw [List.contains_cons, h1, Bool.or_false]
          simpa using fun e => hb e.symm
        · exact ih p (List.mem_cons_of_mem _ hp)
/-- What is split by a byte joins to what it was. -/
theorem join_back {s : ByteArray} {c : UInt8} (hs : s.size ≤ 4000) : jOk (piecesB c s) ⟨#[c]⟩ = true ∧ jR (piecesB c s) ⟨#[c]⟩ = s := by
  have hj : joinB c (piecesB c s) = s := by
    apply bytes_inj
    show Lib.join ((piecesB c s).map (·.data.toList)) [c] = s.data.toList
    have : (piecesB c s).map (·.data.toList) = pieces c s.data.toList := by
      unfold piecesB
      rw [List.map_map]
      conv => rhs; rw [← List.map_id (pieces c s.data.toList)]
      exact List.map_congr_left fun x _ => rfl
    rw [this]
    exact join_pieces c _
  have hne : 0 < (piecesB c s).length := by
    unfold piecesB
    rw [List.length_map]
    exact List.length_pos_iff.2 (pieces_ne c _)
  have hsz := joinB_all c hne
  rw [hj] at hsz
  have hok : jOk (piecesB c s) ⟨#[c]⟩ = true := jOk_all hne (fun k x hx => by
    obtain ⟨p, hp, rfl⟩ := List.mem_map.1 (List.mem_of_getElem? hx)
    exact pieces_no c _ p hp) (by omega)
  exact ⟨hok, (jR_ok hok).trans hj⟩
end Go.Proofs.YtenlfegldjfpjaaDoor
