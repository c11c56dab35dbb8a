/- newBox for whole numbers; the end of a function that hands a box back. -/
import Derived.Test.YtadnjljpceeolaaFnNew
import Derived.Test.YtadnjljpceeolaaBoxRel
set_option linter.unusedSimpArgs false
set_option linter.unusedVariables false
namespace Go.Proofs.Ytadnjljpceeolaa
open Go.RowKit

theorem OwnII.set4 {T2 T1 lo hi : Nat} {w : World} {v : Value} {rss : List (List Int)} {vs : List Value} (o : OwnII T2 T1 lo hi w v rss vs) {g : Nat} (hg : g < lo) (x y z u : Value) :
    OwnII T2 T1 lo hi ((((w.setCell ⟨g, 0, none⟩ x).setCell ⟨g, 1, none⟩ y).setCell ⟨g, 2, none⟩ z).setCell ⟨g, 3, none⟩ u) v rss vs :=
  (((o.setCell_off (p := ⟨g, 0, none⟩) (Or.inl hg) x).setCell_off (p := ⟨g, 1, none⟩) (Or.inl hg) y).setCell_off (p := ⟨g, 2, none⟩) (Or.inl hg) z).setCell_off (p := ⟨g, 3, none⟩) (Or.inl hg) u

theorem newBoxZ_any (x y : Int) (hx : 1 ≤ x ∧ x ≤ 3) (hy : 1 ≤ y ∧ y ≤ 3) (whole : Int) (k : Nat) (caps : Array Value) (num : Num) (w : World)
    (hk : ∀ (args : Array Value) (w : World), (callFunc k args).run Try.prog w = .ok (.enter k args) w)
    (hcall : ∀ wr : World, Below w.heap.size w wr → ∀ i j a c : Nat, (i : Int) < x → (j : Int) < y → a < 2 → c < 2 →
      Calls Try.prog k (#[.int .i64 i, .int .i64 j, .int .i64 a, .int .i64 c] ++ caps) wr fun e w' => e = .returned (.int .i64 (num i j a c)) ∧ Below wr.heap.size wr w') :
    Calls Try.prog 151 #[.int .i64 x, .int .i64 y, .int .i64 whole, .func (.func k) #[] caps] w fun e w' => ∃ a c vs, e = .returned (.agg #[.int .i64 x, .int .i64 y, .int .i64 whole, .slice a (x.toNat * y.toNat) c]) ∧
      OwnII 22 3 w.heap.size w'.heap.size w' (.slice a (x.toNat * y.toNat) c) (rowsTo num y.toNat (x.toNat * y.toNat)) vs ∧ Below w.heap.size w w' := by
  obtain ⟨X, rfl⟩ := Int.eq_ofNat_of_zero_le (show 0 ≤ x by omega)
  obtain ⟨Y, rfl⟩ := Int.eq_ofNat_of_zero_le (show 0 ≤ y by omega)
  refine (newBox_any X Y ⟨by omega, by omega⟩ ⟨by omega, by omega⟩ whole k caps num w hk ?_).mono ?_
  · intro wr hB i j a c hi0 hi1 hj0 hj1 ha0 ha1 hc0 hc1
    obtain ⟨i, rfl⟩ := Int.eq_ofNat_of_zero_le hi0
    obtain ⟨j, rfl⟩ := Int.eq_ofNat_of_zero_le hj0
    obtain ⟨a, rfl⟩ := Int.eq_ofNat_of_zero_le ha0
    obtain ⟨c, rfl⟩ := Int.eq_ofNat_of_zero_le hc0
    exact hcall wr hB i j a c hi1 hj1 (by omega) (by omega)
  · rintro e w' ⟨a, c, vs, rfl, o, b⟩
    rw [rowsTo_length] at o
    exact ⟨a, c, vs, by rw [rowsTo_length]; simp, by simpa using o, b⟩
/-- A box variable begun in a world of some age. -/
theorem BoxRel.start2 (w1 W3 : World) (x y whole : Int)
    (hW : W3 = ((w1.alloc (.cells #[] 22)).alloc (.cells #[.int .i64 x, .int .i64 y, .int .i64 whole, .slice (some ⟨w1.heap.size, 0, none⟩) 0 0] 44))) :
    BoxRel W3 w1.heap.size (w1.heap.size + 1) w1.heap.size W3 x y whole [] (some ⟨w1.heap.size, 0, none⟩) 0 [] ∧ Below w1.heap.size w1 W3 ∧ W3.heap.size = w1.heap.size + 1 + 1 := by
  subst hW
  have hE := OwnII.empty 22 3 w1
  have hE2 := (hE.kept (B := w1.heap.size + 1) (w' := ((w1.alloc (.cells #[] 22)).alloc (.cells #[.int .i64 x, .int .i64 y, .int .i64 whole, .slice (some ⟨w1.heap.size, 0, none⟩) 0 0] 44))) (by repeat' (first | with_reducible exact Below.refl _ _ | with_reducible assumption | with_reducible apply Below.alloc | with_reducible apply Below.setCell | with_reducible apply Below.drew | exact Nat.le_refl _ | omega | (simp only [World.size_alloc, World.size_setCell]; omega))) (Nat.le_refl _)).weaken (hi' := w1.heap.size + 1 + 1) (Nat.le_refl _) (by omega)
  refine ⟨⟨Below.refl _ _, by omega, Nat.le_refl _, by simp only [World.size_alloc]; omega, by simp only [World.size_alloc]; omega, ?_, by simpa only [World.size_alloc, List.length_nil] using hE2⟩, (by repeat' (first | with_reducible exact Below.refl _ _ | with_reducible assumption | with_reducible apply Below.alloc | with_reducible apply Below.setCell | with_reducible apply Below.drew | exact Nat.le_refl _ | omega | (simp only [World.size_alloc, World.size_setCell]; omega))), by simp only [World.size_alloc]⟩
  show ((w1.heap.push _).push _)[w1.heap.size + 1]? = _
  rw [Array.getElem?_push, if_pos (by simp)]
  rfl
end Go.Proofs.Ytadnjljpceeolaa
