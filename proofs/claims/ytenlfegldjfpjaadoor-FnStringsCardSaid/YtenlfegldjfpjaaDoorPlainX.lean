/- Changing one byte of a text with its checksum is always seen. No program in sight. -/
import Derived.Test.YtenlfegldjfpjaaDoorPlainN
set_option linter.unusedSimpArgs false
set_option linter.unusedVariables false
namespace Go.Proofs.YtenlfegldjfpjaaDoor

theorem csum_step_inj {h1 h2 c : Int} (a1 : 0 ≤ h1) (b1 : h1 < 999979) (a2 : 0 ≤ h2) (b2 : h2 < 999979) (h : (41 * h1 + c + 1) % 999979 = (41 * h2 + c + 1) % 999979) : h1 = h2 := by omega
theorem csum_fold_inj (t : List UInt8) : ∀ h1 h2 : Int, 0 ≤ h1 → h1 < 999979 → 0 ≤ h2 → h2 < 999979 →
    t.foldl (fun h c => (41 * h + (c.toNat : Int) + 1) % 999979) h1 = t.foldl (fun h c => (41 * h + (c.toNat : Int) + 1) % 999979) h2 → h1 = h2 := by
  induction t with
  | nil => intro h1 h2 _ _ _ _ h; exact h
  | cons c t ih =>
    intro h1 h2 a1 b1 a2 b2 h
    rw [List.foldl_cons, List.foldl_cons] at h
    exact csum_step_inj a1 b1 a2 b2 (ih _ _ (by omega) (by omega) (by omega) (by omega) h)
theorem csum_set {l : List UInt8} {k : Nat} {b c : UInt8} (hc : l[k]? = some c) (h : csum (l.set k b) = csum l) : b = c := by
  obtain ⟨hk, hc'⟩ := List.getElem?_eq_some_iff.1 hc
  have e1 : l = l.take k ++ c :: l.drop (k + 1) := by
    rw [← hc']
    simp
  have e2 : l.set k b = l.take k ++ b :: l.drop (k + 1) := List.set_eq_take_append_cons_drop.trans (by rw [if_pos hk])
  have hb := csum_fold (l.take k) 7 (by omega)
  unfold csum at h
  rw [e2] at h
  conv at h => rhs; rw [e1]
  rw [List.foldl_append, List.foldl_append, List.foldl_cons, List.foldl_cons] at h
  generalize (l.take k).foldl (fun h c => (41 * h + (c.toNat : Int) + 1) % 999979) 7 = H at *
  have hb1 := byte_bound b
  have hb2 := byte_bound c
  have := csum_fold_inj (l.drop (k + 1)) _ _ (by omega) (by omega) (by omega) (by omega) h
  exact UInt8.toNat_inj.1 (by omega)
theorem itoa_inj {a b : Int} (h : Lib.itoa a = Lib.itoa b) : a = b := by
  have h1 := atoi_itoa a
  rw [h, atoi_itoa] at h1
  exact (Option.some.inj h1).symm
theorem itoa_no35 (l : List UInt8) (j : Nat) : (Lib.itoa (csum l))[j]? ≠ some 35 := by
  intro h
  have hb := csum_bound l
  obtain ⟨u, hu⟩ : ∃ u : Nat, csum l = (u : Int) := ⟨(csum l).toNat, by omega⟩
  rw [hu, Lib.itoa_nonneg] at h
  obtain ⟨d, hd⟩ := Lib.digit_of_decFrom _ _ _ (decFrom_digits u u (Nat.le_refl _)) j 35 h
  have := Lib.digitVal_eq hd
  simp at this
/-- A text's bytes with its checksum. -/
def sealL (l : List UInt8) : List UInt8 := l ++ 35 :: Lib.itoa (csum l)
theorem only35 {l D : List UInt8} (hl : ∀ j : Nat, l[j]? ≠ some 35) (hD : ∀ j : Nat, D[j]? ≠ some 35) {i : Nat} (h : (l ++ 35 :: D)[i]? = some 35) : i = l.length := by
  rcases Nat.lt_or_ge i l.length with h1 | h1
  · rw [List.getElem?_append_left h1] at h
    exact absurd h (hl i)
  · rw [List.getElem?_append_right h1] at h
    cases hj : i - l.length with
    | zero => omega
    | succ j =>
      rw [hj, List.getElem?_cons_succ] at h
      exact absurd h (hD j)
theorem mark_at (l D : List UInt8) : (l ++ 35 :: D)[l.length]? = some 35 := by
  rw [List.getElem?_append_right (Nat.le_refl _), Nat.sub_self]; rfl
theorem seal_changed {l h : List UInt8} {k : Nat} {b c : UInt8} (hl : ∀ j : Nat, l[j]? ≠ some 35) (hh : ∀ j : Nat, h[j]? ≠ some 35) (hk : (sealL l)[k]? = some c) (hb : b ≠ c) : sealL h ≠ (sealL l).set k b := by
  intro he
  unfold sealL at he hk
  have hD := itoa_no35 l
  have hE := itoa_no35 h
  have hkl := (List.getElem?_eq_some_iff.1 hk).1
  by_cases hlen : h.length = l.length
  · rcases Nat.lt_trichotomy k l.length with h1 | h1 | h1
    · rw [List.set_append_left _ _ h1] at he
      obtain ⟨e1, e2⟩ := List.append_inj he (by rw [List.length_set]; exact hlen)
      have e3 := itoa_inj (List.cons.inj e2).2
      rw [e1] at e3
      rw [List.getElem?_append_left h1] at hk
      exact hb (csum_set hk e3)
    · have h2 := mark_at h (Lib.itoa (csum h))
      rw [he, hlen, ← h1, List.getElem?_set_self hkl] at h2
      rw [h1, mark_at] at hk
      have e1 := Option.some.inj h2
      have e2 := Option.some.inj hk
      exact hb (e1.trans e2)
    · obtain ⟨j, hj⟩ : ∃ j, k - l.length = j + 1 := ⟨k - l.length - 1, by omega⟩
      rw [List.set_append_right _ _ (by omega), hj, List.set_cons_succ] at he
      obtain ⟨e1, e2⟩ := List.append_inj he hlen
      have e3 := (List.cons.inj e2).2
      rw [e1] at e3
      rw [List.getElem?_append_right (by omega), hj, List.getElem?_cons_succ] at hk
      have hjl := (List.getElem?_eq_some_iff.1 hk).1
      rw [e3, List.getElem?_set_self hjl] at hk
      exact hb (Option.some.inj hk)
  · have h2 := mark_at h (Lib.itoa (csum h))
    rw [he] at h2
    by_cases hkh : k = h.length
    · have h3 : ((l ++ 35 :: Lib.itoa (csum l)).set k b)[l.length]? = some 35 := by
        rw [List.getElem?_set_ne (by omega)]
        exact mark_at _ _
      rw [← he] at h3
      exact hlen (only35 hh hE h3).symm
    · rw [List.getElem?_set_ne hkh] at h2
      exact hlen (only35 hl hD h2)
end Go.Proofs.YtenlfegldjfpjaaDoor
