/- Contracts of the laws' own helpers over boxes. -/
import Derived.Test.YtcifpfdlkpddeaaDoorHarB
set_option linter.unusedSimpArgs false
set_option linter.unusedVariables false
namespace Go.Proofs.YtcifpfdlkpddeaaDoor
open Go.RowKit



set_option maxHeartbeats 400000 in
theorem eqBox_any (va vb : Value) (a b : BoxD) (w : World) (ha : RdII w va a.Rows) (hb : RdII w vb b.Rows) :
    Calls Tryd.prog 6 #[.agg #[.int .i64 a.X, .int .i64 a.Y, .int .i64 a.Whole, va], .agg #[.int .i64 b.X, .int .i64 b.Y, .int .i64 b.Whole, vb]] w fun e w' => e = .returned (.bool (decide (a = b))) ∧ Below w.heap.size w w' := by
  by_cases h1 : a.X = b.X
  · have h1z : (a.X != b.X) = false := by simp [h1]
    have H1 := Lib.hid h1
    clear h1
    by_cases h2 : a.Y = b.Y
    · have h2z : (a.Y != b.Y) = false := by simp [h2]
      have H2 := Lib.hid h2
      clear h2
      by_cases h3 : a.Whole = b.Whole
      · have h3z : (a.Whole != b.Whole) = false := by simp [h3]
        have H3 := Lib.hid h3
        clear h3
        go_enter Tryd.func6, Tryd.ntmps6
        go_wp2_with fail
        refine (eqIntSS_any va vb a.Rows b.Rows _ (ha.kept (Nat.le_refl _) (by repeat' (first | with_reducible exact Below.refl _ _ | with_reducible assumption | with_reducible apply Below.alloc | with_reducible apply Below.setCell | with_reducible apply Below.drew | exact Nat.le_refl _ | omega | (simp only [World.size_alloc, World.size_setCell]; omega)))) (hb.kept (Nat.le_refl _) (by repeat' (first | with_reducible exact Below.refl _ _ | with_reducible assumption | with_reducible apply Below.alloc | with_reducible apply Below.setCell | with_reducible apply Below.drew | exact Nat.le_refl _ | omega | (simp only [World.size_alloc, World.size_setCell]; omega))))).mono ?_
        rintro e w1 ⟨rfl, hd⟩
        have hB : Below w.heap.size w w1 := Below.trans (by repeat' (first | with_reducible exact Below.refl _ _ | with_reducible assumption | with_reducible apply Below.alloc | with_reducible apply Below.setCell | with_reducible apply Below.drew | exact Nat.le_refl _ | omega | (simp only [World.size_alloc, World.size_setCell]; omega))) (hd.below _)
        by_cases h4 : a.Rows = b.Rows
        · have h4z : decide (a.Rows = b.Rows) = true := by simp [h4]
          have H4 := Lib.hid h4z
          clear h4
          go_wp2
          go_ret
          exact ⟨ret_bool (by rw [← BoxD.eq_of H1.out H2.out H3.out, H4.out]), hB⟩
        · have h4z : decide (a.Rows = b.Rows) = false := by simp [h4]
          have H4 := Lib.hid h4z
          clear h4
          go_wp2
          go_ret
          exact ⟨ret_bool (by rw [← BoxD.eq_of H1.out H2.out H3.out, H4.out]), hB⟩
      · have h3z : (a.Whole != b.Whole) = true := by simp [h3]
        have H3 := Lib.hid h3
        clear h3
        go_enter Tryd.func6, Tryd.ntmps6
        go_wp2
        go_ret
        exact ⟨ret_bool (BoxD.ne_W H3.out), (by repeat' (first | with_reducible exact Below.refl _ _ | with_reducible assumption | with_reducible apply Below.alloc | with_reducible apply Below.setCell | with_reducible apply Below.drew | exact Nat.le_refl _ | omega | (simp only [World.size_alloc, World.size_setCell]; omega)))⟩
    · have h2z : (a.Y != b.Y) = true := by simp [h2]
      have H2 := Lib.hid h2
      clear h2
      go_enter Tryd.func6, Tryd.ntmps6
      go_wp2
      go_ret
      exact ⟨ret_bool (BoxD.ne_Y H2.out), (by repeat' (first | with_reducible exact Below.refl _ _ | with_reducible assumption | with_reducible apply Below.alloc | with_reducible apply Below.setCell | with_reducible apply Below.drew | exact Nat.le_refl _ | omega | (simp only [World.size_alloc, World.size_setCell]; omega)))⟩
  · have h1z : (a.X != b.X) = true := by simp [h1]
    have H1 := Lib.hid h1
    clear h1
    go_enter Tryd.func6, Tryd.ntmps6
    go_wp2
    go_ret
    exact ⟨ret_bool (BoxD.ne_X H1.out), (by repeat' (first | with_reducible exact Below.refl _ _ | with_reducible assumption | with_reducible apply Below.alloc | with_reducible apply Below.setCell | with_reducible apply Below.drew | exact Nat.le_refl _ | omega | (simp only [World.size_alloc, World.size_setCell]; omega)))⟩

set_option maxHeartbeats 400000 in
theorem markBox_any (T2 T1 lo hi : Nat) (vr : Value) (x y z : Int) (rss : List (List Int)) (vs : List Value) (k : Int) (w : World) (h : OwnII T2 T1 lo hi w vr rss vs) (hh : hi ≤ w.heap.size) (hn : rss.length + sumLen rss ≤ 4194304) (h0 : 0 ≤ k) (hk : k ≤ 1073741824) :
    Calls Tryd.prog 7 #[.agg #[.int .i64 x, .int .i64 y, .int .i64 z, vr], .int .i64 k] w fun e w' => e = .returned (.int .i64 (k + (sumLen rss : Int))) ∧ OwnII T2 T1 lo hi w' vr (markRows k rss) vs ∧ Mid lo hi w w' := by
  have h' := h.kept (B := w.heap.size) ((Below.refl _ _).alloc (Nat.le_refl _) (.cells #[.int .i64 x, .int .i64 y, .int .i64 z, vr] 24)) hh
  go_enter Tryd.func7, Tryd.ntmps7
  go_wp2_with fail
  refine (markIntSS_any T2 T1 lo hi vr rss vs k _ h' hn h0 hk).mono ?_
  rintro e w1 ⟨rfl, ho, hm⟩
  have hm2 : Mid lo hi w w1 := (Mid.of_below (B := w.heap.size) (by repeat' (first | with_reducible exact Below.refl _ _ | with_reducible assumption | with_reducible apply Below.alloc | with_reducible apply Below.setCell | with_reducible apply Below.drew | exact Nat.le_refl _ | omega | (simp only [World.size_alloc, World.size_setCell]; omega))) (Nat.le_refl _)).trans hm
  go_wp2
  go_ret
  exact ⟨rfl, ho, hm2⟩

set_option maxHeartbeats 400000 in
theorem heldBox_any (vr : Value) (x y z : Int) (rss : List (List Int)) (k : Int) (w : World) (h : RdII w vr (markRows k rss)) (hn : rss.length + sumLen rss ≤ 4194304) (h0 : 0 ≤ k) (hk : k ≤ 1073741824) :
    Calls Tryd.prog 8 #[.agg #[.int .i64 x, .int .i64 y, .int .i64 z, vr], .int .i64 k] w fun e w' => e = .returned (.int .i64 (k + (sumLen rss : Int))) ∧ Below w.heap.size w w' := by
  go_enter Tryd.func8, Tryd.ntmps8
  go_wp2_with fail
  refine (heldIntSS_any vr rss k _ (h.kept (Nat.le_refl _) (by repeat' (first | with_reducible exact Below.refl _ _ | with_reducible assumption | with_reducible apply Below.alloc | with_reducible apply Below.setCell | with_reducible apply Below.drew | exact Nat.le_refl _ | omega | (simp only [World.size_alloc, World.size_setCell]; omega)))) hn h0 hk).mono ?_
  rintro e w1 ⟨rfl, rfl⟩
  go_wp2
  go_ret
  exact ⟨rfl, (by repeat' (first | with_reducible exact Below.refl _ _ | with_reducible assumption | with_reducible apply Below.alloc | with_reducible apply Below.setCell | with_reducible apply Below.drew | exact Nat.le_refl _ | omega | (simp only [World.size_alloc, World.size_setCell]; omega)))⟩
end Go.Proofs.YtcifpfdlkpddeaaDoor
