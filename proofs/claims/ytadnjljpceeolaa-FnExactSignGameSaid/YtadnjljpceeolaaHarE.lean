/- Contracts of the laws' own helpers over pairs and games. -/
import Derived.Test.YtadnjljpceeolaaHarC
import Derived.Test.YtadnjljpceeolaaBoxOut
import Derived.Test.YtadnjljpceeolaaGameD
set_option linter.unusedSimpArgs false
set_option linter.unusedVariables false
namespace Go.Proofs.Ytadnjljpceeolaa
open Go.RowKit

set_option maxHeartbeats 400000 in
theorem toIntA2_any (a b : Int) (w : World) :
    Calls Try.prog 69 #[.agg #[.int .i64 a, .int .i64 b]] w fun e w' => e = .returned (.agg #[.int .i64 a, .int .i64 b]) ∧ Below w.heap.size w w' := by
  go_enter Try.func69, Try.ntmps69
  go_wp2
  go_loopw [4] (fun s wr => (s = .int .i64 0 ∧ wr = ((w.alloc (.cells #[.int .i64 a, .int .i64 b] 67)).alloc (.cells #[.int .i64 0, .int .i64 0] 67)).alloc (.cells #[.int .i64 0, .int .i64 0] 67)) ∨
    (s = .int .i64 1 ∧ wr = ((w.alloc (.cells #[.int .i64 a, .int .i64 b] 67)).alloc (.cells #[.int .i64 0, .int .i64 0] 67)).alloc (.cells #[.int .i64 a, .int .i64 0] 67)) ∨
    (s = .int .i64 2 ∧ wr = ((w.alloc (.cells #[.int .i64 a, .int .i64 b] 67)).alloc (.cells #[.int .i64 0, .int .i64 0] 67)).alloc (.cells #[.int .i64 a, .int .i64 b] 67))) (fun s _ => 2 - (intOf s).toNat)
  case atStart => exact Or.inl ⟨rfl, rfl⟩
  case round =>
    rcases hrel with ⟨rfl, rfl⟩ | ⟨rfl, rfl⟩ | ⟨rfl, rfl⟩
    · go_wp2
      go_roundw
      case rel => exact Or.inr (Or.inl ⟨by first | rfl | trivial, by first | rfl | trivial⟩)
      case measure => simp [intOf]
    · go_wp2
      go_roundw
      case rel => exact Or.inr (Or.inr ⟨by first | rfl | trivial, by first | rfl | trivial⟩)
      case measure => simp [intOf]
    · go_wp2
      refine bodyPost_ret (v := .agg #[.int .i64 a, .int .i64 b]) ?_ rfl ?_
      · simp [results, Try.results69, go_sem]
      · exact ⟨rfl, (by repeat' (first | with_reducible exact Below.refl _ _ | with_reducible assumption | with_reducible apply Below.alloc | with_reducible apply Below.setCell | with_reducible apply Below.drew | exact Nat.le_refl _ | omega | (simp only [World.size_alloc, World.size_setCell]; omega)))⟩
def SmallGame (g : GameD) : Prop := g.Weights.length + (g.Wins.length + sumLen g.Wins) ≤ 1048576
theorem GameD.eq_of {a b : GameD} (h1 : a.X = b.X) (h2 : a.Y = b.Y) : (a = b) ↔ (a.Weights = b.Weights ∧ a.Wins = b.Wins) := by
  cases a; cases b; simp_all
set_option maxHeartbeats 400000 in
theorem szGame_any (u v : Value) (g : GameD) (left : Int) (w : World) (hu : RdI w u g.Weights) (hv : RdII w v g.Wins) (h0 : 0 ≤ left) (h1 : left ≤ 1048576) :
    Calls Try.prog 11 #[.agg #[.int .i64 g.X, .int .i64 g.Y, u, v], .int .i64 left] w fun e w' => (∃ r, e = .returned (.int .i64 r) ∧ SzLeft left r (g.Weights.length + (g.Wins.length + sumLen g.Wins))) ∧ Below w.heap.size w w' := by
  go_enter Try.func11, Try.ntmps11
  go_wp2_with fail
  refine (szIntS_any u g.Weights left _ (hu.kept (Nat.le_refl _) (by repeat' (first | with_reducible exact Below.refl _ _ | with_reducible assumption | with_reducible apply Below.alloc | with_reducible apply Below.setCell | with_reducible apply Below.drew | exact Nat.le_refl _ | omega | (simp only [World.size_alloc, World.size_setCell]; omega)))) h0 h1).mono ?_
  rintro e w1 ⟨rfl, rfl⟩
  by_cases hlt : left < g.Weights.length
  · rw [if_pos hlt]
    go_wp2
    go_ret
    exact ⟨⟨_, rfl, Or.inl rfl⟩, (by repeat' (first | with_reducible exact Below.refl _ _ | with_reducible assumption | with_reducible apply Below.alloc | with_reducible apply Below.setCell | with_reducible apply Below.drew | exact Nat.le_refl _ | omega | (simp only [World.size_alloc, World.size_setCell]; omega)))⟩
  · rw [if_neg hlt]
    obtain ⟨l1, hl1⟩ : ∃ l1 : Int, left - g.Weights.length = l1 := ⟨_, rfl⟩
    rw [hl1]
    have h2 : ¬ l1 < 0 := by omega
    go_wp2_with fail
    refine (szIntSS_any v g.Wins l1 _ (hv.kept (Nat.le_refl _) (by repeat' (first | with_reducible exact Below.refl _ _ | with_reducible assumption | with_reducible apply Below.alloc | with_reducible apply Below.setCell | with_reducible apply Below.drew | exact Nat.le_refl _ | omega | (simp only [World.size_alloc, World.size_setCell]; omega)))) (by omega) (by omega)).mono ?_
    rintro e w1 ⟨⟨r, rfl, hr⟩, rfl⟩
    by_cases hneg : r < 0
    · go_wp2
      go_ret
      exact ⟨⟨_, rfl, Or.inl rfl⟩, (by repeat' (first | with_reducible exact Below.refl _ _ | with_reducible assumption | with_reducible apply Below.alloc | with_reducible apply Below.setCell | with_reducible apply Below.drew | exact Nat.le_refl _ | omega | (simp only [World.size_alloc, World.size_setCell]; omega)))⟩
    · go_wp2
      go_ret
      refine ⟨⟨_, rfl, ?_⟩, (by repeat' (first | with_reducible exact Below.refl _ _ | with_reducible assumption | with_reducible apply Below.alloc | with_reducible apply Below.setCell | with_reducible apply Below.drew | exact Nat.le_refl _ | omega | (simp only [World.size_alloc, World.size_setCell]; omega)))⟩
      unfold SzLeft at hr ⊢
      omega
set_option maxHeartbeats 800000 in
theorem toGame_any (u v : Value) (g : GameD) (w : World) (hu : RdI w u g.Weights) (hv : RdII w v g.Wins) (hs : SmallGame g) :
    Calls Try.prog 13 #[.agg #[.int .i64 g.X, .int .i64 g.Y, u, v]] w fun e w' => ∃ a c d f vs, e = .returned (.agg #[.int .i64 g.X, .int .i64 g.Y, .slice a g.Weights.length c, .slice d g.Wins.length f]) ∧ OwnV 3 w.heap.size w'.heap.size w' (.slice a g.Weights.length c) (ints g.Weights) ∧ OwnII 22 3 w.heap.size w'.heap.size w' (.slice d g.Wins.length f) g.Wins vs ∧ Below w.heap.size w w' := by
  unfold SmallGame at hs
  go_enter Try.func13, Try.ntmps13
  go_wp2_with fail
  refine (toIntS_any u g.Weights _ (hu.kept (Nat.le_refl _) (by repeat' (first | with_reducible exact Below.refl _ _ | with_reducible assumption | with_reducible apply Below.alloc | with_reducible apply Below.setCell | with_reducible apply Below.drew | exact Nat.le_refl _ | omega | (simp only [World.size_alloc, World.size_setCell]; omega)))) (by omega)).mono ?_
  rintro e w1 ⟨a, c, rfl, op, b1⟩
  have B1 : Below w.heap.size w w1 := Below.trans (by repeat' (first | with_reducible exact Below.refl _ _ | with_reducible assumption | with_reducible apply Below.alloc | with_reducible apply Below.setCell | with_reducible apply Below.drew | exact Nat.le_refl _ | omega | (simp only [World.size_alloc, World.size_setCell]; omega))) (b1.mono (by first | exact Nat.le_refl _ | omega | (simp only [World.size_alloc, World.size_setCell]; omega)))
  obtain ⟨hc, hf⟩ := bcell b1
  have hz := b1.size
  simp only [World.size_alloc] at hc hf hz op
  clear b1
  go_wp2_with fail
  refine (toIntSS_any v g.Wins _ (hv.kept (Nat.le_refl _) (B1.setCell (p := ⟨w.heap.size + 1 + 1, 2, none⟩) (by show w.heap.size ≤ w.heap.size + 1 + 1; omega) (.slice a g.Weights.length c))) (by omega)).mono ?_
  rintro e w2 ⟨d, f, vs, rfl, oo, b2⟩
  have B2 : Below w.heap.size w w2 := Below.trans (B1.setCell (p := ⟨w.heap.size + 1 + 1, 2, none⟩) (by show w.heap.size ≤ w.heap.size + 1 + 1; omega) (.slice a g.Weights.length c)) (b2.mono (by simp only [World.size_setCell]; omega))
  have op2 := (op.setCell_off (p := ⟨w.heap.size + 1 + 1, 2, none⟩) (Or.inl (by simp only []; omega)) (.slice a g.Weights.length c)).kept b2 (by simp only [World.size_setCell]; exact Nat.le_refl _)
  obtain ⟨hc2, hf2⟩ := bcell b2
  have hz2 := b2.size
  simp only [World.size_setCell] at hc2 hf2 hz2 oo
  clear b2
  have hg2 : w.heap.size + 1 + 1 < w.heap.size + 1 + 1 + 1 := by omega
  have hg1 : w.heap.size + 1 < w.heap.size + 1 + 1 + 1 := by omega
  have k0 : w2.cell? ⟨w.heap.size + 1 + 1, 0, none⟩ = some (.int .i64 g.X) := by rw [hc2 _ _ (by omega), World.cell?_setCell_other _ _ _ _ (by simp), hc _ _ hg2]; exact (by repeat' (first | with_reducible assumption | (refine cell_top ?_ rfl; first | with_reducible rfl | (simp only [World.size_alloc, World.size_setCell]; done)) | (refine cell_under ?_ ?_; (first | omega | (simp only [World.size_alloc, World.size_setCell]; omega))) | refine cell_drew ?_))
  have k1 : w2.cell? ⟨w.heap.size + 1 + 1, 1, none⟩ = some (.int .i64 g.Y) := by rw [hc2 _ _ (by omega), World.cell?_setCell_other _ _ _ _ (by simp), hc _ _ hg2]; exact (by repeat' (first | with_reducible assumption | (refine cell_top ?_ rfl; first | with_reducible rfl | (simp only [World.size_alloc, World.size_setCell]; done)) | (refine cell_under ?_ ?_; (first | omega | (simp only [World.size_alloc, World.size_setCell]; omega))) | refine cell_drew ?_))
  have k2 : w2.cell? ⟨w.heap.size + 1 + 1, 2, none⟩ = some (.slice a g.Weights.length c) := by rw [hc2 _ _ (by omega)]; exact World.cell?_setCell_same _ _ _ (u := .slice none 0 0) (by rw [hc _ _ hg2]; exact (by repeat' (first | with_reducible assumption | (refine cell_top ?_ rfl; first | with_reducible rfl | (simp only [World.size_alloc, World.size_setCell]; done)) | (refine cell_under ?_ ?_; (first | omega | (simp only [World.size_alloc, World.size_setCell]; omega))) | refine cell_drew ?_)))
  have k3 : w2.cell? ⟨w.heap.size + 1 + 1, 3, none⟩ = some (.slice none 0 0) := by rw [hc2 _ _ (by omega), World.cell?_setCell_other _ _ _ _ (by simp), hc _ _ hg2]; exact (by repeat' (first | with_reducible assumption | (refine cell_top ?_ rfl; first | with_reducible rfl | (simp only [World.size_alloc, World.size_setCell]; done)) | (refine cell_under ?_ ?_; (first | omega | (simp only [World.size_alloc, World.size_setCell]; omega))) | refine cell_drew ?_))
  have r0 : w2.cell? ⟨w.heap.size + 1, 0, none⟩ = some (.int .i64 0) := by rw [hc2 _ _ (by omega), World.cell?_setCell_other _ _ _ _ (by simp), hc _ _ hg1]; exact (by repeat' (first | with_reducible assumption | (refine cell_top ?_ rfl; first | with_reducible rfl | (simp only [World.size_alloc, World.size_setCell]; done)) | (refine cell_under ?_ ?_; (first | omega | (simp only [World.size_alloc, World.size_setCell]; omega))) | refine cell_drew ?_))
  have r1 : w2.cell? ⟨w.heap.size + 1, 1, none⟩ = some (.int .i64 0) := by rw [hc2 _ _ (by omega), World.cell?_setCell_other _ _ _ _ (by simp), hc _ _ hg1]; exact (by repeat' (first | with_reducible assumption | (refine cell_top ?_ rfl; first | with_reducible rfl | (simp only [World.size_alloc, World.size_setCell]; done)) | (refine cell_under ?_ ?_; (first | omega | (simp only [World.size_alloc, World.size_setCell]; omega))) | refine cell_drew ?_))
  have r2 : w2.cell? ⟨w.heap.size + 1, 2, none⟩ = some (.slice none 0 0) := by rw [hc2 _ _ (by omega), World.cell?_setCell_other _ _ _ _ (by simp), hc _ _ hg1]; exact (by repeat' (first | with_reducible assumption | (refine cell_top ?_ rfl; first | with_reducible rfl | (simp only [World.size_alloc, World.size_setCell]; done)) | (refine cell_under ?_ ?_; (first | omega | (simp only [World.size_alloc, World.size_setCell]; omega))) | refine cell_drew ?_))
  have r3 : w2.cell? ⟨w.heap.size + 1, 3, none⟩ = some (.slice none 0 0) := by rw [hc2 _ _ (by omega), World.cell?_setCell_other _ _ _ _ (by simp), hc _ _ hg1]; exact (by repeat' (first | with_reducible assumption | (refine cell_top ?_ rfl; first | with_reducible rfl | (simp only [World.size_alloc, World.size_setCell]; done)) | (refine cell_under ?_ ?_; (first | omega | (simp only [World.size_alloc, World.size_setCell]; omega))) | refine cell_drew ?_))
  have z2 : ∀ j, w2.frozen? ⟨w.heap.size + 1 + 1, j, none⟩ = false := fun j => by rw [hf2 _ _ (by omega)]; simp [hf _ _ hg2, go_sem]
  have z1 : ∀ j, w2.frozen? ⟨w.heap.size + 1, j, none⟩ = false := fun j => by rw [hf2 _ _ (by omega)]; simp [hf _ _ hg1, go_sem]
  clear hc hf hc2 hf2
  have hendV : OwnV 3 w.heap.size w2.heap.size (((((w2.setCell ⟨w.heap.size + 1 + 1, 3, none⟩ (.slice d g.Wins.length f)).setCell ⟨w.heap.size + 1, 0, none⟩ (.int .i64 g.X)).setCell ⟨w.heap.size + 1, 1, none⟩ (.int .i64 g.Y)).setCell ⟨w.heap.size + 1, 2, none⟩ (.slice a g.Weights.length c)).setCell ⟨w.heap.size + 1, 3, none⟩ (.slice d g.Wins.length f)) (.slice a g.Weights.length c) (ints g.Weights) := OwnV.weaken (((((op2.setCell_off (Or.inl (by simp only []; omega)) _).setCell_off (Or.inl (by simp only []; omega)) _).setCell_off (Or.inl (by simp only []; omega)) _).setCell_off (Or.inl (by simp only []; omega)) _).setCell_off (Or.inl (by simp only []; omega)) _) (by omega) (by omega)
  have hendR : OwnII 22 3 w.heap.size w2.heap.size (((((w2.setCell ⟨w.heap.size + 1 + 1, 3, none⟩ (.slice d g.Wins.length f)).setCell ⟨w.heap.size + 1, 0, none⟩ (.int .i64 g.X)).setCell ⟨w.heap.size + 1, 1, none⟩ (.int .i64 g.Y)).setCell ⟨w.heap.size + 1, 2, none⟩ (.slice a g.Weights.length c)).setCell ⟨w.heap.size + 1, 3, none⟩ (.slice d g.Wins.length f)) (.slice d g.Wins.length f) g.Wins vs := OwnII.weaken (((((oo.setCell_off (Or.inl (by simp only []; omega)) _).setCell_off (Or.inl (by simp only []; omega)) _).setCell_off (Or.inl (by simp only []; omega)) _).setCell_off (Or.inl (by simp only []; omega)) _).setCell_off (Or.inl (by simp only []; omega)) _) (by omega) (by omega)
  go_wp2
  have hB2 : Below w.heap.size w (((((w2.setCell ⟨w.heap.size + 1 + 1, 3, none⟩ (.slice d g.Wins.length f)).setCell ⟨w.heap.size + 1, 0, none⟩ (.int .i64 g.X)).setCell ⟨w.heap.size + 1, 1, none⟩ (.int .i64 g.Y)).setCell ⟨w.heap.size + 1, 2, none⟩ (.slice a g.Weights.length c)).setCell ⟨w.heap.size + 1, 3, none⟩ (.slice d g.Wins.length f)) := (by repeat' (first | with_reducible exact Below.refl _ _ | with_reducible assumption | with_reducible apply Below.alloc | with_reducible apply Below.setCell | with_reducible apply Below.drew | exact Nat.le_refl _ | omega | (simp only [World.size_alloc, World.size_setCell]; omega)))
  refine bodyPost_ret (v := .agg #[.int .i64 g.X, .int .i64 g.Y, .slice a g.Weights.length c, .slice d g.Wins.length f]) ?_ rfl ?_
  · simp [results, Try.results13, go_sem, k0, k1, k2, k3, r0, r1, r2, r3]
  · exact ⟨a, c, d, f, vs, rfl, by simpa only [World.size_setCell] using hendV, by simpa only [World.size_setCell] using hendR, hB2⟩
set_option maxHeartbeats 800000 in
theorem eqGame_any (ua va ub vb : Value) (a b : GameD) (w : World) (hua : RdI w ua a.Weights) (hva : RdII w va a.Wins) (hub : RdI w ub b.Weights) (hvb : RdII w vb b.Wins) :
    Calls Try.prog 15 #[.agg #[.int .i64 a.X, .int .i64 a.Y, ua, va], .agg #[.int .i64 b.X, .int .i64 b.Y, ub, vb]] w fun e w' => e = .returned (.bool (decide (a = b))) ∧ Below w.heap.size w w' := by
  by_cases h1 : a.X = b.X
  · have h1z : (a.X != b.X) = false := by simp [h1]
    by_cases h2 : a.Y = b.Y
    · have h2z : (a.Y != b.Y) = false := by simp [h2]
      have HE := Lib.hid (GameD.eq_of h1 h2)
      clear h1 h2
      go_enter Try.func15, Try.ntmps15
      go_wp2_with fail
      refine (eqIntS_any ua ub a.Weights b.Weights _ (hua.kept (Nat.le_refl _) (by repeat' (first | with_reducible exact Below.refl _ _ | with_reducible assumption | with_reducible apply Below.alloc | with_reducible apply Below.setCell | with_reducible apply Below.drew | exact Nat.le_refl _ | omega | (simp only [World.size_alloc, World.size_setCell]; omega)))) (hub.kept (Nat.le_refl _) (by repeat' (first | with_reducible exact Below.refl _ _ | with_reducible assumption | with_reducible apply Below.alloc | with_reducible apply Below.setCell | with_reducible apply Below.drew | exact Nat.le_refl _ | omega | (simp only [World.size_alloc, World.size_setCell]; omega))))).mono ?_
      rintro e w1 ⟨rfl, hd⟩
      have hB : Below w.heap.size w w1 := Below.trans (by repeat' (first | with_reducible exact Below.refl _ _ | with_reducible assumption | with_reducible apply Below.alloc | with_reducible apply Below.setCell | with_reducible apply Below.drew | exact Nat.le_refl _ | omega | (simp only [World.size_alloc, World.size_setCell]; omega))) (hd.below _)
      have hw1 : Below (w.heap.size + 1 + 1) ((w.alloc (.cells #[.int .i64 a.X, .int .i64 a.Y, ua, va] 29)).alloc (.cells #[.int .i64 b.X, .int .i64 b.Y, ub, vb] 29)) w1 := hd.below _
      obtain ⟨hc, hf⟩ := bcell hw1
      by_cases h3 : a.Weights = b.Weights
      · have h3z : decide (a.Weights = b.Weights) = true := decide_eq_true h3
        rw [h3z]
        have H3 := Lib.hid h3
        clear h3 h3z hd hw1
        have k3 : w1.cell? ⟨w.heap.size, 3, none⟩ = some va := by rw [hc _ _ (by omega)]; exact (by repeat' (first | with_reducible assumption | (refine cell_top ?_ rfl; first | with_reducible rfl | (simp only [World.size_alloc, World.size_setCell]; done)) | (refine cell_under ?_ ?_; (first | omega | (simp only [World.size_alloc, World.size_setCell]; omega))) | refine cell_drew ?_))
        have k4 : w1.cell? ⟨w.heap.size + 1, 3, none⟩ = some vb := by rw [hc _ _ (by omega)]; exact (by repeat' (first | with_reducible assumption | (refine cell_top ?_ rfl; first | with_reducible rfl | (simp only [World.size_alloc, World.size_setCell]; done)) | (refine cell_under ?_ ?_; (first | omega | (simp only [World.size_alloc, World.size_setCell]; omega))) | refine cell_drew ?_))
        clear hc hf
        go_wp2_with fail
        refine (eqIntSS_any va vb a.Wins b.Wins _ (hva.kept (Nat.le_refl _) hB) (hvb.kept (Nat.le_refl _) hB)).mono ?_
        rintro e w2 ⟨rfl, hd⟩
        have hB2 := hB.trans (hd.below _)
        by_cases h4 : a.Wins = b.Wins
        · have h4z : decide (a.Wins = b.Wins) = true := decide_eq_true h4
          have H4 := Lib.hid h4
          rw [h4z]
          clear h4 h4z
          go_wp2
          go_ret
          exact ⟨ret_bool (decide_eq_true (HE.out.2 ⟨H3.out, H4.out⟩)).symm, hB2⟩
        · have h4z : decide (a.Wins = b.Wins) = false := decide_eq_false h4
          have H4 := Lib.hid h4
          rw [h4z]
          clear h4 h4z
          go_wp2
          go_ret
          exact ⟨ret_bool (decide_eq_false (fun h => H4.out (HE.out.1 h).2)).symm, hB2⟩
      · have h3z : decide (a.Weights = b.Weights) = false := decide_eq_false h3
        rw [h3z]
        have H3 := Lib.hid h3
        clear h3 h3z
        go_wp2
        go_ret
        exact ⟨ret_bool (decide_eq_false (fun h => H3.out (HE.out.1 h).1)).symm, hB⟩
    · have h2z : (a.Y != b.Y) = true := by simp [h2]
      have HD := Lib.hid (decide_eq_false (fun h : a = b => h2 (by rw [h])))
      clear h1 h2
      go_enter Try.func15, Try.ntmps15
      go_wp2
      go_ret
      exact ⟨ret_bool HD.out.symm, (by repeat' (first | with_reducible exact Below.refl _ _ | with_reducible assumption | with_reducible apply Below.alloc | with_reducible apply Below.setCell | with_reducible apply Below.drew | exact Nat.le_refl _ | omega | (simp only [World.size_alloc, World.size_setCell]; omega)))⟩
  · have h1z : (a.X != b.X) = true := by simp [h1]
    have HD := Lib.hid (decide_eq_false (fun h : a = b => h1 (by rw [h])))
    clear h1
    go_enter Try.func15, Try.ntmps15
    go_wp2
    go_ret
    exact ⟨ret_bool HD.out.symm, (by repeat' (first | with_reducible exact Below.refl _ _ | with_reducible assumption | with_reducible apply Below.alloc | with_reducible apply Below.setCell | with_reducible apply Below.drew | exact Nat.le_refl _ | omega | (simp only [World.size_alloc, World.size_setCell]; omega)))⟩
end Go.Proofs.Ytadnjljpceeolaa
