/- Contracts of the laws' own helpers over boxes. -/
import Derived.Test.YtadnjljpceeolaaLoae
set_option linter.unusedSimpArgs false
set_option linter.unusedVariables false
namespace Go.Proofs.Ytadnjljpceeolaa
open Go.RowKit

set_option maxHeartbeats 400000 in
theorem szBox_any (vr : Value) (x y z : Int) (rss : List (List Int)) (left : Int) (w : World) (h : RdII w vr rss) (h0 : 0 ≤ left) (h1 : left ≤ 1048576) :
    Calls Try.prog 23 #[.agg #[.int .i64 x, .int .i64 y, .int .i64 z, vr], .int .i64 left] w fun e w' => (∃ r, e = .returned (.int .i64 r) ∧ SzLeft left r (rss.length + sumLen rss)) ∧ Below w.heap.size w w' := by
  have hk := h.kept (Nat.le_refl _) ((Below.refl w.heap.size w).alloc (Nat.le_refl _) (.cells #[.int .i64 x, .int .i64 y, .int .i64 z, vr] 41))
  go_enter Try.func23, Try.ntmps23
  go_wp2_with fail
  refine (szIntSS_any vr rss left _ hk h0 h1).mono ?_
  rintro e w1 ⟨⟨r, rfl, hr⟩, rfl⟩
  by_cases hneg : r < 0
  · go_wp2
    go_ret
    refine ⟨⟨_, rfl, Or.inl rfl⟩, (Below.refl _ _).alloc (Nat.le_refl _) _⟩
  · go_wp2
    go_ret
    refine ⟨⟨_, rfl, hr⟩, (Below.refl _ _).alloc (Nat.le_refl _) _⟩

set_option maxHeartbeats 400000 in
theorem toBox_any (vr : Value) (x y z : Int) (rss : List (List Int)) (w : World) (h : RdII w vr rss) (hn : rss.length + sumLen rss ≤ 1048576) :
    Calls Try.prog 25 #[.agg #[.int .i64 x, .int .i64 y, .int .i64 z, vr]] w fun e w' => ∃ a c vs, e = .returned (.agg #[.int .i64 x, .int .i64 y, .int .i64 z, .slice a rss.length c]) ∧ OwnII 22 3 w.heap.size w'.heap.size w' (.slice a rss.length c) rss vs ∧ Below w.heap.size w w' := by
  go_enter Try.func25, Try.ntmps25
  go_wp2_with fail
  refine (toIntSS_any vr rss _ (h.kept (Nat.le_refl _) (by repeat' (first | with_reducible exact Below.refl _ _ | with_reducible assumption | with_reducible apply Below.alloc | with_reducible apply Below.setCell | with_reducible apply Below.drew | exact Nat.le_refl _ | omega | (simp only [World.size_alloc, World.size_setCell]; omega)))) hn).mono ?_
  rintro e w1 ⟨a, c, vs, rfl, ho, hb⟩
  have hB : Below w.heap.size w w1 := Below.trans (by repeat' (first | with_reducible exact Below.refl _ _ | with_reducible assumption | with_reducible apply Below.alloc | with_reducible apply Below.setCell | with_reducible apply Below.drew | exact Nat.le_refl _ | omega | (simp only [World.size_alloc, World.size_setCell]; omega))) (hb.mono (by first | exact Nat.le_refl _ | omega | (simp only [World.size_alloc, World.size_setCell]; omega)))
  obtain ⟨hc, hf⟩ := bcell hb
  have hz := hb.size
  simp only [World.size_alloc] at hc hf hz ho
  have hend : OwnII 22 3 w.heap.size (w1.heap.size) (((((w1.setCell ⟨w.heap.size + 1 + 1, 3, none⟩ (.slice a rss.length c)).setCell ⟨w.heap.size + 1, 0, none⟩ (.int .i64 x)).setCell ⟨w.heap.size + 1, 1, none⟩ (.int .i64 y)).setCell ⟨w.heap.size + 1, 2, none⟩ (.int .i64 z)).setCell ⟨w.heap.size + 1, 3, none⟩ (.slice a rss.length c)) (.slice a rss.length c) rss vs :=
    OwnII.weaken (((((ho.setCell_off (Or.inl (by simp only []; omega)) _).setCell_off (Or.inl (by simp only []; omega)) _).setCell_off (Or.inl (by simp only []; omega)) _).setCell_off (Or.inl (by simp only []; omega)) _).setCell_off (Or.inl (by simp only []; omega)) _) (by omega) (by omega)
  go_wp2
  have hB2 : Below w.heap.size w (((((w1.setCell ⟨w.heap.size + 1 + 1, 3, none⟩ (.slice a rss.length c)).setCell ⟨w.heap.size + 1, 0, none⟩ (.int .i64 x)).setCell ⟨w.heap.size + 1, 1, none⟩ (.int .i64 y)).setCell ⟨w.heap.size + 1, 2, none⟩ (.int .i64 z)).setCell ⟨w.heap.size + 1, 3, none⟩ (.slice a rss.length c)) := (by repeat' (first | with_reducible exact Below.refl _ _ | with_reducible assumption | with_reducible apply Below.alloc | with_reducible apply Below.setCell | with_reducible apply Below.drew | exact Nat.le_refl _ | omega | (simp only [World.size_alloc, World.size_setCell]; omega)))
  refine bodyPost_ret (v := .agg #[.int .i64 x, .int .i64 y, .int .i64 z, .slice a rss.length c]) ?_ rfl ?_
  · simp [results, Try.results25, go_sem, hc]
  · exact ⟨a, c, vs, rfl, by simpa only [World.size_setCell] using hend, hB2⟩

set_option maxHeartbeats 400000 in
theorem eqBox_any (va vb : Value) (a b : BoxD) (w : World) (ha : RdII w va a.Rows) (hb : RdII w vb b.Rows) :
    Calls Try.prog 27 #[.agg #[.int .i64 a.X, .int .i64 a.Y, .int .i64 a.Whole, va], .agg #[.int .i64 b.X, .int .i64 b.Y, .int .i64 b.Whole, vb]] w fun e w' => e = .returned (.bool (decide (a = b))) ∧ Below w.heap.size w w' := by
  by_cases h1 : a.X = b.X
  · have h1z : (a.X != b.X) = false := by simp [h1]
    have H1 := Lib.hid h1
    clear h1
    by_cases h2 : a.Y = b.Y
    · have h2z : (a.Y != b.Y) = false := by simp [h2]
      have H2 := Lib.hid h2
      clear h2
      by_cases h3 : a.Whole = b.Whole
      · have h3z : (a.Whole != b.Whole) = false := by simp [h3]
        have H3 := Lib.hid h3
        clear h3
        go_enter Try.func27, Try.ntmps27
        go_wp2_with fail
        refine (eqIntSS_any va vb a.Rows b.Rows _ (ha.kept (Nat.le_refl _) (by repeat' (first | with_reducible exact Below.refl _ _ | with_reducible assumption | with_reducible apply Below.alloc | with_reducible apply Below.setCell | with_reducible apply Below.drew | exact Nat.le_refl _ | omega | (simp only [World.size_alloc, World.size_setCell]; omega)))) (hb.kept (Nat.le_refl _) (by repeat' (first | with_reducible exact Below.refl _ _ | with_reducible assumption | with_reducible apply Below.alloc | with_reducible apply Below.setCell | with_reducible apply Below.drew | exact Nat.le_refl _ | omega | (simp only [World.size_alloc, World.size_setCell]; omega))))).mono ?_
        rintro e w1 ⟨rfl, hd⟩
        have hB : Below w.heap.size w w1 := Below.trans (by repeat' (first | with_reducible exact Below.refl _ _ | with_reducible assumption | with_reducible apply Below.alloc | with_reducible apply Below.setCell | with_reducible apply Below.drew | exact Nat.le_refl _ | omega | (simp only [World.size_alloc, World.size_setCell]; omega))) (hd.below _)
        by_cases h4 : a.Rows = b.Rows
        · have h4z : decide (a.Rows = b.Rows) = true := by simp [h4]
          have H4 := Lib.hid h4z
          clear h4
          go_wp2
          go_ret
          exact ⟨ret_bool (by rw [← BoxD.eq_of H1.out H2.out H3.out, H4.out]), hB⟩
        · have h4z : decide (a.Rows = b.Rows) = false := by simp [h4]
          have H4 := Lib.hid h4z
          clear h4
          go_wp2
          go_ret
          exact ⟨ret_bool (by rw [← BoxD.eq_of H1.out H2.out H3.out, H4.out]), hB⟩
      · have h3z : (a.Whole != b.Whole) = true := by simp [h3]
        have H3 := Lib.hid h3
        clear h3
        go_enter Try.func27, Try.ntmps27
        go_wp2
        go_ret
        exact ⟨ret_bool (BoxD.ne_W H3.out), (by repeat' (first | with_reducible exact Below.refl _ _ | with_reducible assumption | with_reducible apply Below.alloc | with_reducible apply Below.setCell | with_reducible apply Below.drew | exact Nat.le_refl _ | omega | (simp only [World.size_alloc, World.size_setCell]; omega)))⟩
    · have h2z : (a.Y != b.Y) = true := by simp [h2]
      have H2 := Lib.hid h2
      clear h2
      go_enter Try.func27, Try.ntmps27
      go_wp2
      go_ret
      exact ⟨ret_bool (BoxD.ne_Y H2.out), (by repeat' (first | with_reducible exact Below.refl _ _ | with_reducible assumption | with_reducible apply Below.alloc | with_reducible apply Below.setCell | with_reducible apply Below.drew | exact Nat.le_refl _ | omega | (simp only [World.size_alloc, World.size_setCell]; omega)))⟩
  · have h1z : (a.X != b.X) = true := by simp [h1]
    have H1 := Lib.hid h1
    clear h1
    go_enter Try.func27, Try.ntmps27
    go_wp2
    go_ret
    exact ⟨ret_bool (BoxD.ne_X H1.out), (by repeat' (first | with_reducible exact Below.refl _ _ | with_reducible assumption | with_reducible apply Below.alloc | with_reducible apply Below.setCell | with_reducible apply Below.drew | exact Nat.le_refl _ | omega | (simp only [World.size_alloc, World.size_setCell]; omega)))⟩


end Go.Proofs.Ytadnjljpceeolaa
