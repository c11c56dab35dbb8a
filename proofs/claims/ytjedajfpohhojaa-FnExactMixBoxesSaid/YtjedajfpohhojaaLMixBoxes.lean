/- MixBoxes: the program's answer is the reference's, for all arguments; nothing is shared. -/
import Derived.Test.YtjedajfpohhojaaSpMix
import Derived.Test.YtjedajfpohhojaaBoxCut
import Derived.Test.YtjedajfpohhojaaRowB
import Derived.Test.YtjedajfpohhojaaHarD
set_option linter.unusedSimpArgs false
set_option linter.unusedVariables false
namespace Go.Proofs.Ytjedajfpohhojaa
open Go.ChangeShapes Go.WideShapes Go.ChangeAt Go.RowKit
open Go.ChangeMaps (open_string shut_string)

set_option maxRecDepth 100000 in
set_option maxHeartbeats 3000000 in
theorem fnExactMixBoxes_walk (va : Value) (ba : BoxD) (vb : Value) (bb : BoxD) (w : World) (ha : RdII w va ba.Rows) (hb : RdII w vb bb.Rows) :
    Calls Try.prog 5 #[.agg #[.int .i64 ba.X, .int .i64 ba.Y, .int .i64 ba.Whole, va], .agg #[.int .i64 bb.X, .int .i64 bb.Y, .int .i64 bb.Whole, vb]] w fun e w' => e = .returned (.bool true) ∧ Below w.heap.size w w' := by
  have hw0 : w.heap.size ≤ w.heap.size := Nat.le_refl _
  go_enter Try.func5, Try.ntmps5
  go_wp2_with fail
  refine (szBox_any va ba.X ba.Y ba.Whole ba.Rows 1048576 ((w.alloc (.cells #[.int .i64 ba.X, .int .i64 ba.Y, .int .i64 ba.Whole, va] 40)).alloc (.cells #[.int .i64 bb.X, .int .i64 bb.Y, .int .i64 bb.Whole, vb] 40)) (ha.kept (Nat.le_refl _) (by repeat' (first | with_reducible exact Below.refl _ _ | with_reducible assumption | with_reducible apply Below.alloc | with_reducible apply Below.setCell | with_reducible apply Below.drew | exact Nat.le_refl _ | omega | (simp only [World.size_alloc, World.size_setCell]; omega)))) (by omega) (by omega)).mono ?_
  rintro e w1 ⟨⟨la, rfl, hsa⟩, bw1⟩
  have BB : Below w.heap.size w w1 := Below.trans (by repeat' (first | with_reducible exact Below.refl _ _ | with_reducible assumption | with_reducible apply Below.alloc | with_reducible apply Below.setCell | with_reducible apply Below.drew | exact Nat.le_refl _ | omega | (simp only [World.size_alloc, World.size_setCell]; omega))) (bw1.mono (by first | exact Nat.le_refl _ | omega | (simp only [World.size_alloc, World.size_setCell]; omega)))
  have sw1 : w.heap.size ≤ w1.heap.size := BB.size
  have tw1 := bw1.size
  simp only [World.size_alloc] at tw1
  obtain ⟨pa0, pa1, pa2, pa3⟩ : w1.cell? ⟨w.heap.size, 0, none⟩ = some (.int .i64 ba.X) ∧ w1.cell? ⟨w.heap.size, 1, none⟩ = some (.int .i64 ba.Y) ∧ w1.cell? ⟨w.heap.size, 2, none⟩ = some (.int .i64 ba.Whole) ∧ w1.cell? ⟨w.heap.size, 3, none⟩ = some (va) := by
    obtain ⟨hc, _⟩ := bcell bw1
    refine ⟨?_, ?_, ?_, ?_⟩ <;> (rw [hc _ _ (by simp only [World.size_alloc]; omega)]; first | (simp; done) | exact (by repeat' (first | with_reducible assumption | (refine cell_top ?_ rfl; first | with_reducible rfl | (simp only [World.size_alloc, World.size_setCell]; done)) | (refine cell_under ?_ ?_; (first | omega | (simp only [World.size_alloc, World.size_setCell]; omega))) | refine cell_drew ?_)))
  obtain ⟨pb0, pb1, pb2, pb3⟩ : w1.cell? ⟨w.heap.size + 1, 0, none⟩ = some (.int .i64 bb.X) ∧ w1.cell? ⟨w.heap.size + 1, 1, none⟩ = some (.int .i64 bb.Y) ∧ w1.cell? ⟨w.heap.size + 1, 2, none⟩ = some (.int .i64 bb.Whole) ∧ w1.cell? ⟨w.heap.size + 1, 3, none⟩ = some (vb) := by
    obtain ⟨hc, _⟩ := bcell bw1
    refine ⟨?_, ?_, ?_, ?_⟩ <;> (rw [hc _ _ (by simp only [World.size_alloc]; omega)]; first | (simp; done) | exact (by repeat' (first | with_reducible assumption | (refine cell_top ?_ rfl; first | with_reducible rfl | (simp only [World.size_alloc, World.size_setCell]; done)) | (refine cell_under ?_ ?_; (first | omega | (simp only [World.size_alloc, World.size_setCell]; omega))) | refine cell_drew ?_)))
  replace hw0 : w.heap.size ≤ w1.heap.size := by omega
  have Bw1 : Below w.heap.size w w1 := BB
  clear BB
  have lpaw1 : w.heap.size < w1.heap.size := by omega
  have lpbw1 : w.heap.size + 1 < w1.heap.size := by omega
  by_cases hna : la < 0
  · go_wp2
    go_ret
    exact ⟨rfl, Bw1⟩
  obtain ⟨hsa, hqa⟩ : ba.Rows.length + sumLen ba.Rows ≤ 1048576 ∧ la ≤ 1048576 := by unfold SzLeft at hsa; omega
  go_wp2_with fail
  refine (szBox_any vb bb.X bb.Y bb.Whole bb.Rows la w1 (hb.kept (Nat.le_refl _) Bw1) (by omega) (by omega)).mono ?_
  rintro e w2 ⟨⟨lb, rfl, hsb⟩, bw2⟩
  have BB : Below w1.heap.size w1 w2 := bw2
  have sw2 : w1.heap.size ≤ w2.heap.size := BB.size
  replace hw0 : w.heap.size ≤ w2.heap.size := by omega
  have tq := cells4_kept BB (by omega) pa0 pa1 pa2 pa3
  clear pa0 pa1 pa2 pa3
  obtain ⟨pa0, pa1, pa2, pa3⟩ := tq
  have tq := cells4_kept BB (by omega) pb0 pb1 pb2 pb3
  clear pb0 pb1 pb2 pb3
  obtain ⟨pb0, pb1, pb2, pb3⟩ := tq
  have Bw2 : Below w.heap.size w w2 := Bw1.trans (BB.mono Bw1.size)
  clear BB
  have lpaw2 : w.heap.size < w2.heap.size := by omega
  have lpbw2 : w.heap.size + 1 < w2.heap.size := by omega
  by_cases hnb : lb < 0
  · go_wp2
    go_ret
    exact ⟨rfl, Bw2⟩
  obtain ⟨hsb, hqb⟩ : bb.Rows.length + sumLen bb.Rows ≤ 1048576 ∧ lb ≤ 1048576 := by unfold SzLeft at hsb; omega
  go_wp2_with fail
  go_cut [6, 7] (fun sa sb wx => sb = .bool (mixOk ba bb) ∧ BoxMade w2 (mixD ba bb) sa wx)
  case first =>
    have KSc := Lib.hid (fun (V : World) (h : Below w2.heap.size w2 V) => And.intro h (And.intro (keepCell h pa0) (And.intro (keepCell h pa1) (And.intro (keepCell h pa2) (And.intro (keepCell h pa3) (And.intro (keepCell h pb0) (And.intro (keepCell h pb1) (And.intro (keepCell h pb2) (keepCell h pb3)))))))))
    have hsz : w2.heap.size ≤ w2.heap.size := Nat.le_refl _
    go_region_held3 (fun V => Below w2.heap.size w2 V ∧ V.cell? ⟨w.heap.size, 0, none⟩ = some (.int .i64 ba.X) ∧ V.cell? ⟨w.heap.size, 1, none⟩ = some (.int .i64 ba.Y) ∧ V.cell? ⟨w.heap.size, 2, none⟩ = some (.int .i64 ba.Whole) ∧ V.cell? ⟨w.heap.size, 3, none⟩ = some (va) ∧ V.cell? ⟨w.heap.size + 1, 0, none⟩ = some (.int .i64 bb.X) ∧ V.cell? ⟨w.heap.size + 1, 1, none⟩ = some (.int .i64 bb.Y) ∧ V.cell? ⟨w.heap.size + 1, 2, none⟩ = some (.int .i64 bb.Whole) ∧ V.cell? ⟨w.heap.size + 1, 3, none⟩ = some (vb))
      (first | exact KSc.out _ (Below.refl _ _).drew | exact KSc.out _ ((Below.refl _ _).drew.alloc (Nat.le_refl _) _) | exact KSc.out _ hBn | exact KSc.out _ (hBn.alloc hBn.size _) | exact KSc.out _ (by repeat' (first | with_reducible exact Below.refl _ _ | with_reducible assumption | with_reducible apply Below.alloc | with_reducible apply Below.setCell | with_reducible apply Below.drew | exact Nat.le_refl _ | omega | (simp only [World.size_alloc, World.size_setCell]; omega))))
      (first
        | (go_at_call 30; have hS := And.left (by assumption : Below w2.heap.size w2 _ ∧ _); (with_reducible refine (toBox_any va ba.X ba.Y ba.Whole ba.Rows _ (ha.kept (Nat.le_refl _) (Bw2.trans (hS.mono Bw2.size))) hsa).mono ?_); rintro e vwa ⟨aaa, caa, zaa, rfl, oaa, qa⟩; have hBn : Below w2.heap.size w2 vwa := hS.trans (qa.mono hS.size); have hzwa := hBn.size)
        | (go_at_call 30; have hS := And.left (by assumption : Below w2.heap.size w2 _ ∧ _); (with_reducible refine (toBox_any vb bb.X bb.Y bb.Whole bb.Rows _ (hb.kept (Nat.le_refl _) (Bw2.trans (hS.mono Bw2.size))) hsb).mono ?_); rintro e vwb ⟨aab, cab, zab, rfl, oab, qb⟩; have hBn : Below w2.heap.size w2 vwb := hS.trans (qb.mono hS.size); have hzwb := hBn.size; have Kb : Below vwa.heap.size vwa vwb := Below.trans (by repeat' (first | with_reducible exact Below.refl _ _ | with_reducible assumption | with_reducible apply Below.alloc | with_reducible apply Below.setCell | with_reducible apply Below.drew | exact Nat.le_refl _ | omega | (simp only [World.size_alloc, World.size_setCell]; omega))) (qb.mono (by first | exact Nat.le_refl _ | omega | (simp only [World.size_alloc, World.size_setCell]; omega))))
        | (go_at_call 29; have hS := And.left (by assumption : Below w2.heap.size w2 _ ∧ _); (with_reducible refine (specMixBoxes_any _ ba _ bb _ (oaa.rdII.kept (Nat.le_refl _) (Kb.trans (Below.mono (by repeat' (first | with_reducible exact Below.refl _ _ | with_reducible assumption | with_reducible apply Below.alloc | with_reducible apply Below.setCell | with_reducible apply Below.drew | exact Nat.le_refl _ | omega | (simp only [World.size_alloc, World.size_setCell]; omega))) Kb.size))) (oab.rdII.kept (Nat.le_refl _) (by repeat' (first | with_reducible exact Below.refl _ _ | with_reducible assumption | with_reducible apply Below.alloc | with_reducible apply Below.setCell | with_reducible apply Below.drew | exact Nat.le_refl _ | omega | (simp only [World.size_alloc, World.size_setCell]; omega))))).mono ?_); rintro e w3 ⟨aR, cR, zR, rfl, oR, b3⟩; have hBn : Below w2.heap.size w2 w3 := hS.trans (b3.mono hS.size); have hz3 := hBn.size; (first | (refine retThen (g := vwb.heap.size) (retTop b3) ?_; intro r0 r1 r2 r3 rf) | (refine retThen (g := vwa.heap.size) (RetAt.call b3 (retTop qb)) ?_; intro r0 r1 r2 r3 rf) | (refine retThen (g := w2.heap.size) (RetAt.call b3 (RetAt.call qb (retTopD qa))) ?_; intro r0 r1 r2 r3 rf) | skip)))
    all_goals
      have hlo : w2.heap.size ≤ vwb.heap.size := hzwb
      try simp only [World.size_alloc] at oR
      go_wp2_with fail
      go_meet
      first
        | with_reducible exact ⟨rfl, boxMade_new hBn hzwb oR⟩
        | with_reducible exact ⟨rfl, boxMade_old hBn (by omega) (by omega) (retTop b3) oR⟩
        | with_reducible exact ⟨rfl, boxMade_old hBn (by have := retSize qb; omega) (by omega) (RetAt.call b3 (retTop qb)) oR⟩
        | with_reducible exact ⟨rfl, boxMade_old hBn (by have := retSizeD qa; have := qb.size; omega) (Nat.le_refl _) (RetAt.call b3 (RetAt.call qb (retTopD qa))) oR⟩
  case rest =>
    obtain ⟨rfl, gR, aR, cR, zR, rfl, hg0R, hg1R, ⟨R0, R1, R2, R3⟩, oR, BB⟩ := hcut
    obtain ⟨w3, rfl⟩ : ∃ W : World, W = wc := ⟨_, rfl⟩
    have dw3 := BB
    clear BB
    have BB : Below w2.heap.size w2 w3 := dw3
    have sw3 : w2.heap.size ≤ w3.heap.size := BB.size
    replace hw0 : w.heap.size ≤ w3.heap.size := by omega
    have tq := cells4_kept BB (by omega) pa0 pa1 pa2 pa3
    clear pa0 pa1 pa2 pa3
    obtain ⟨pa0, pa1, pa2, pa3⟩ := tq
    have tq := cells4_kept BB (by omega) pb0 pb1 pb2 pb3
    clear pb0 pb1 pb2 pb3
    obtain ⟨pb0, pb1, pb2, pb3⟩ := tq
    have Bw3 : Below w.heap.size w w3 := Bw2.trans (BB.mono Bw2.size)
    clear BB
    have lpaw3 : w.heap.size < w3.heap.size := by omega
    have lpbw3 : w.heap.size + 1 < w3.heap.size := by omega
    go_wp2_with fail
    refine (toBox_any va ba.X ba.Y ba.Whole ba.Rows w3 (ha.kept (Nat.le_refl _) Bw3) hsa).mono ?_
    rintro e w4 ⟨axa, cxa, zxa, rfl, oxa, bw4⟩
    have BB : Below w3.heap.size w3 w4 := bw4
    have sw4 : w3.heap.size ≤ w4.heap.size := BB.size
    replace hw0 : w.heap.size ≤ w4.heap.size := by omega
    have tq := cells4_kept BB (by omega) pa0 pa1 pa2 pa3
    clear pa0 pa1 pa2 pa3
    obtain ⟨pa0, pa1, pa2, pa3⟩ := tq
    have tq := cells4_kept BB (by omega) pb0 pb1 pb2 pb3
    clear pb0 pb1 pb2 pb3
    obtain ⟨pb0, pb1, pb2, pb3⟩ := tq
    have tq := cells4_kept BB (by omega) R0 R1 R2 R3
    clear R0 R1 R2 R3
    obtain ⟨R0, R1, R2, R3⟩ := tq
    replace oR := oR.kept BB (by omega)
    have Bw4 : Below w.heap.size w w4 := Bw3.trans (BB.mono Bw3.size)
    clear BB
    have lpaw4 : w.heap.size < w4.heap.size := by omega
    have lpbw4 : w.heap.size + 1 < w4.heap.size := by omega
    have lRw4 : gR < w4.heap.size := by omega
    go_wp2_with fail
    refine (toBox_any vb bb.X bb.Y bb.Whole bb.Rows (w4.alloc (.cells #[.int .i64 ba.X, .int .i64 ba.Y, .int .i64 ba.Whole, .slice axa ba.Rows.length cxa] 25)) ((hb.kept (Nat.le_refl _) Bw4).kept (Nat.le_refl _) (by repeat' (first | with_reducible exact Below.refl _ _ | with_reducible assumption | with_reducible apply Below.alloc | with_reducible apply Below.setCell | with_reducible apply Below.drew | exact Nat.le_refl _ | omega | (simp only [World.size_alloc, World.size_setCell]; omega)))) hsb).mono ?_
    rintro e w5 ⟨axb, cxb, zxb, rfl, oxb, bw5⟩
    simp only [World.size_alloc] at oxb
    have BB : Below w4.heap.size w4 w5 := Below.trans (by repeat' (first | with_reducible exact Below.refl _ _ | with_reducible assumption | with_reducible apply Below.alloc | with_reducible apply Below.setCell | with_reducible apply Below.drew | exact Nat.le_refl _ | omega | (simp only [World.size_alloc, World.size_setCell]; omega))) (bw5.mono (by first | exact Nat.le_refl _ | omega | (simp only [World.size_alloc, World.size_setCell]; omega)))
    have sw5 : w4.heap.size ≤ w5.heap.size := BB.size
    have tw5 := bw5.size
    simp only [World.size_alloc] at tw5
    obtain ⟨xa0, xa1, xa2, xa3⟩ : w5.cell? ⟨w4.heap.size, 0, none⟩ = some (.int .i64 ba.X) ∧ w5.cell? ⟨w4.heap.size, 1, none⟩ = some (.int .i64 ba.Y) ∧ w5.cell? ⟨w4.heap.size, 2, none⟩ = some (.int .i64 ba.Whole) ∧ w5.cell? ⟨w4.heap.size, 3, none⟩ = some (.slice axa ba.Rows.length cxa) := by
      obtain ⟨hc, _⟩ := bcell bw5
      refine ⟨?_, ?_, ?_, ?_⟩ <;> (rw [hc _ _ (by simp only [World.size_alloc]; omega)]; first | (simp; done) | exact (by repeat' (first | with_reducible assumption | (refine cell_top ?_ rfl; first | with_reducible rfl | (simp only [World.size_alloc, World.size_setCell]; done)) | (refine cell_under ?_ ?_; (first | omega | (simp only [World.size_alloc, World.size_setCell]; omega))) | refine cell_drew ?_)))
    replace hw0 : w.heap.size ≤ w5.heap.size := by omega
    have tq := cells4_kept BB (by omega) pa0 pa1 pa2 pa3
    clear pa0 pa1 pa2 pa3
    obtain ⟨pa0, pa1, pa2, pa3⟩ := tq
    have tq := cells4_kept BB (by omega) pb0 pb1 pb2 pb3
    clear pb0 pb1 pb2 pb3
    obtain ⟨pb0, pb1, pb2, pb3⟩ := tq
    have tq := cells4_kept BB (by omega) R0 R1 R2 R3
    clear R0 R1 R2 R3
    obtain ⟨R0, R1, R2, R3⟩ := tq
    replace oR := oR.kept BB (by omega)
    replace oxa := oxa.kept BB (by omega)
    have Bw5 : Below w.heap.size w w5 := Bw4.trans (BB.mono Bw4.size)
    clear BB
    have lpaw5 : w.heap.size < w5.heap.size := by omega
    have lpbw5 : w.heap.size + 1 < w5.heap.size := by omega
    have lRw5 : gR < w5.heap.size := by omega
    have lxaw5 : w4.heap.size < w5.heap.size := by omega
    go_wp2_with fail
    refine (implMixBoxes_any _ ba _ bb (w5.alloc (.cells #[.int .i64 bb.X, .int .i64 bb.Y, .int .i64 bb.Whole, .slice axb bb.Rows.length cxb] 25)) ((oxa.rdII.kept (Nat.le_refl _) (by repeat' (first | with_reducible exact Below.refl _ _ | with_reducible assumption | with_reducible apply Below.alloc | with_reducible apply Below.setCell | with_reducible apply Below.drew | exact Nat.le_refl _ | omega | (simp only [World.size_alloc, World.size_setCell]; omega))))) ((oxb.rdII.kept (Nat.le_refl _) (by repeat' (first | with_reducible exact Below.refl _ _ | with_reducible assumption | with_reducible apply Below.alloc | with_reducible apply Below.setCell | with_reducible apply Below.drew | exact Nat.le_refl _ | omega | (simp only [World.size_alloc, World.size_setCell]; omega)))))).mono ?_
    rintro e w6 ⟨aI, cI, zI, rfl, oI, bw6⟩
    simp only [World.size_alloc] at oI
    have BB : Below w5.heap.size w5 w6 := Below.trans (by repeat' (first | with_reducible exact Below.refl _ _ | with_reducible assumption | with_reducible apply Below.alloc | with_reducible apply Below.setCell | with_reducible apply Below.drew | exact Nat.le_refl _ | omega | (simp only [World.size_alloc, World.size_setCell]; omega))) (bw6.mono (by first | exact Nat.le_refl _ | omega | (simp only [World.size_alloc, World.size_setCell]; omega)))
    have sw6 : w5.heap.size ≤ w6.heap.size := BB.size
    have tw6 := bw6.size
    simp only [World.size_alloc] at tw6
    obtain ⟨xb0, xb1, xb2, xb3⟩ : w6.cell? ⟨w5.heap.size, 0, none⟩ = some (.int .i64 bb.X) ∧ w6.cell? ⟨w5.heap.size, 1, none⟩ = some (.int .i64 bb.Y) ∧ w6.cell? ⟨w5.heap.size, 2, none⟩ = some (.int .i64 bb.Whole) ∧ w6.cell? ⟨w5.heap.size, 3, none⟩ = some (.slice axb bb.Rows.length cxb) := by
      obtain ⟨hc, _⟩ := bcell bw6
      refine ⟨?_, ?_, ?_, ?_⟩ <;> (rw [hc _ _ (by simp only [World.size_alloc]; omega)]; first | (simp; done) | exact (by repeat' (first | with_reducible assumption | (refine cell_top ?_ rfl; first | with_reducible rfl | (simp only [World.size_alloc, World.size_setCell]; done)) | (refine cell_under ?_ ?_; (first | omega | (simp only [World.size_alloc, World.size_setCell]; omega))) | refine cell_drew ?_)))
    replace hw0 : w.heap.size ≤ w6.heap.size := by omega
    have tq := cells4_kept BB (by omega) pa0 pa1 pa2 pa3
    clear pa0 pa1 pa2 pa3
    obtain ⟨pa0, pa1, pa2, pa3⟩ := tq
    have tq := cells4_kept BB (by omega) pb0 pb1 pb2 pb3
    clear pb0 pb1 pb2 pb3
    obtain ⟨pb0, pb1, pb2, pb3⟩ := tq
    have tq := cells4_kept BB (by omega) R0 R1 R2 R3
    clear R0 R1 R2 R3
    obtain ⟨R0, R1, R2, R3⟩ := tq
    have tq := cells4_kept BB (by omega) xa0 xa1 xa2 xa3
    clear xa0 xa1 xa2 xa3
    obtain ⟨xa0, xa1, xa2, xa3⟩ := tq
    replace oR := oR.kept BB (by omega)
    replace oxa := oxa.kept BB (by omega)
    replace oxb := oxb.kept BB (by omega)
    have Bw6 : Below w.heap.size w w6 := Bw5.trans (BB.mono Bw5.size)
    clear BB
    have lpaw6 : w.heap.size < w6.heap.size := by omega
    have lpbw6 : w.heap.size + 1 < w6.heap.size := by omega
    have lRw6 : gR < w6.heap.size := by omega
    have lxaw6 : w4.heap.size < w6.heap.size := by omega
    have lxbw6 : w5.heap.size < w6.heap.size := by omega
    have hz0 := mixD_size ba bb
    have e1 : ((mixOk ba bb) != (mixOk ba bb)) = false := by simp
    go_wp2_with fail
    refine (eqBox_any _ _ (mixD ba bb) (mixD ba bb) (w6.alloc (.cells #[.int .i64 (mixD ba bb).X, .int .i64 (mixD ba bb).Y, .int .i64 (mixD ba bb).Whole, .slice aI (mixD ba bb).Rows.length cI] 25)) ((oI.rdII.kept (Nat.le_refl _) (by repeat' (first | with_reducible exact Below.refl _ _ | with_reducible assumption | with_reducible apply Below.alloc | with_reducible apply Below.setCell | with_reducible apply Below.drew | exact Nat.le_refl _ | omega | (simp only [World.size_alloc, World.size_setCell]; omega))))) ((oR.rdII.kept (Nat.le_refl _) (by repeat' (first | with_reducible exact Below.refl _ _ | with_reducible assumption | with_reducible apply Below.alloc | with_reducible apply Below.setCell | with_reducible apply Below.drew | exact Nat.le_refl _ | omega | (simp only [World.size_alloc, World.size_setCell]; omega)))))).mono ?_
    rintro e w7 ⟨rfl, dw7⟩
    have BB : Below w6.heap.size w6 w7 := Below.trans (by repeat' (first | with_reducible exact Below.refl _ _ | with_reducible assumption | with_reducible apply Below.alloc | with_reducible apply Below.setCell | with_reducible apply Below.drew | exact Nat.le_refl _ | omega | (simp only [World.size_alloc, World.size_setCell]; omega))) (dw7.mono (by first | exact Nat.le_refl _ | omega | (simp only [World.size_alloc, World.size_setCell]; omega)))
    have sw7 : w6.heap.size ≤ w7.heap.size := BB.size
    have tw7 := dw7.size
    simp only [World.size_alloc] at tw7
    obtain ⟨I0, I1, I2, I3⟩ : w7.cell? ⟨w6.heap.size, 0, none⟩ = some (.int .i64 (mixD ba bb).X) ∧ w7.cell? ⟨w6.heap.size, 1, none⟩ = some (.int .i64 (mixD ba bb).Y) ∧ w7.cell? ⟨w6.heap.size, 2, none⟩ = some (.int .i64 (mixD ba bb).Whole) ∧ w7.cell? ⟨w6.heap.size, 3, none⟩ = some (.slice aI (mixD ba bb).Rows.length cI) := by
      obtain ⟨hc, _⟩ := bcell dw7
      refine ⟨?_, ?_, ?_, ?_⟩ <;> (rw [hc _ _ (by simp only [World.size_alloc]; omega)]; first | (simp; done) | exact (by repeat' (first | with_reducible assumption | (refine cell_top ?_ rfl; first | with_reducible rfl | (simp only [World.size_alloc, World.size_setCell]; done)) | (refine cell_under ?_ ?_; (first | omega | (simp only [World.size_alloc, World.size_setCell]; omega))) | refine cell_drew ?_)))
    replace hw0 : w.heap.size ≤ w7.heap.size := by omega
    have tq := cells4_kept BB (by omega) pa0 pa1 pa2 pa3
    clear pa0 pa1 pa2 pa3
    obtain ⟨pa0, pa1, pa2, pa3⟩ := tq
    have tq := cells4_kept BB (by omega) pb0 pb1 pb2 pb3
    clear pb0 pb1 pb2 pb3
    obtain ⟨pb0, pb1, pb2, pb3⟩ := tq
    have tq := cells4_kept BB (by omega) R0 R1 R2 R3
    clear R0 R1 R2 R3
    obtain ⟨R0, R1, R2, R3⟩ := tq
    have tq := cells4_kept BB (by omega) xa0 xa1 xa2 xa3
    clear xa0 xa1 xa2 xa3
    obtain ⟨xa0, xa1, xa2, xa3⟩ := tq
    have tq := cells4_kept BB (by omega) xb0 xb1 xb2 xb3
    clear xb0 xb1 xb2 xb3
    obtain ⟨xb0, xb1, xb2, xb3⟩ := tq
    replace oR := oR.kept BB (by omega)
    replace oxa := oxa.kept BB (by omega)
    replace oxb := oxb.kept BB (by omega)
    replace oI := oI.kept BB (by omega)
    have Bw7 : Below w.heap.size w w7 := Bw6.trans (BB.mono Bw6.size)
    clear BB
    have lpaw7 : w.heap.size < w7.heap.size := by omega
    have lpbw7 : w.heap.size + 1 < w7.heap.size := by omega
    have lRw7 : gR < w7.heap.size := by omega
    have lxaw7 : w4.heap.size < w7.heap.size := by omega
    have lxbw7 : w5.heap.size < w7.heap.size := by omega
    have lIw7 : w6.heap.size < w7.heap.size := by omega
    go_wp2_with fail
    go_region_held3 (fun w' => w'.cell? ⟨w4.heap.size, 0, none⟩ = some (.int .i64 ba.X) ∧ w'.cell? ⟨w4.heap.size, 1, none⟩ = some (.int .i64 ba.Y) ∧ w'.cell? ⟨w4.heap.size, 2, none⟩ = some (.int .i64 ba.Whole) ∧ w'.cell? ⟨w4.heap.size, 3, none⟩ = some (.slice axa ba.Rows.length cxa) ∧ w'.cell? ⟨w.heap.size, 0, none⟩ = some (.int .i64 ba.X) ∧ w'.cell? ⟨w.heap.size, 1, none⟩ = some (.int .i64 ba.Y) ∧ w'.cell? ⟨w.heap.size, 2, none⟩ = some (.int .i64 ba.Whole) ∧ w'.cell? ⟨w.heap.size, 3, none⟩ = some (va))
      (first | go_keep | exact ⟨xa0, xa1, xa2, xa3, pa0, pa1, pa2, pa3⟩)
      (first
        | (go_at_call 30
           (with_reducible refine (toBox_any va ba.X ba.Y ba.Whole ba.Rows w7.drew (ha.kept (Nat.le_refl _) Bw7.drew) hsa).mono ?_)
           rintro e w8 ⟨aya, cya, zya, rfl, oya, bw8⟩
           replace oya := oya.weaken (lo' := w7.heap.size) (Nat.le_refl _) (Nat.le_refl _)
           have BB : Below w7.heap.size w7 w8 := ((Below.refl w7.heap.size w7).drew).trans bw8
           have sw8 : w7.heap.size ≤ w8.heap.size := BB.size
           replace hw0 : w.heap.size ≤ w8.heap.size := by omega
           have tq := cells4_kept BB (by omega) pa0 pa1 pa2 pa3
           clear pa0 pa1 pa2 pa3
           obtain ⟨pa0, pa1, pa2, pa3⟩ := tq
           have tq := cells4_kept BB (by omega) pb0 pb1 pb2 pb3
           clear pb0 pb1 pb2 pb3
           obtain ⟨pb0, pb1, pb2, pb3⟩ := tq
           have tq := cells4_kept BB (by omega) R0 R1 R2 R3
           clear R0 R1 R2 R3
           obtain ⟨R0, R1, R2, R3⟩ := tq
           have tq := cells4_kept BB (by omega) xa0 xa1 xa2 xa3
           clear xa0 xa1 xa2 xa3
           obtain ⟨xa0, xa1, xa2, xa3⟩ := tq
           have tq := cells4_kept BB (by omega) xb0 xb1 xb2 xb3
           clear xb0 xb1 xb2 xb3
           obtain ⟨xb0, xb1, xb2, xb3⟩ := tq
           have tq := cells4_kept BB (by omega) I0 I1 I2 I3
           clear I0 I1 I2 I3
           obtain ⟨I0, I1, I2, I3⟩ := tq
           replace oR := oR.kept BB (by omega)
           replace oxa := oxa.kept BB (by omega)
           replace oxb := oxb.kept BB (by omega)
           replace oI := oI.kept BB (by omega)
           have Bw8 : Below w.heap.size w w8 := Bw7.trans (BB.mono Bw7.size)
           clear BB
           have lpaw8 : w.heap.size < w8.heap.size := by omega
           have lpbw8 : w.heap.size + 1 < w8.heap.size := by omega
           have lRw8 : gR < w8.heap.size := by omega
           have lxaw8 : w4.heap.size < w8.heap.size := by omega
           have lxbw8 : w5.heap.size < w8.heap.size := by omega
           have lIw8 : w6.heap.size < w8.heap.size := by omega)
        | (go_at_call 18
           (with_reducible refine (eqBox_any _ _ ba ba w8 (oxa.rdII) (oya.rdII)).mono ?_)
           rintro e w9 ⟨rfl, dw9⟩
           have BB : Below w8.heap.size w8 w9 := dw9
           have sw9 : w8.heap.size ≤ w9.heap.size := BB.size
           replace hw0 : w.heap.size ≤ w9.heap.size := by omega
           have tq := cells4_kept BB (by omega) pa0 pa1 pa2 pa3
           clear pa0 pa1 pa2 pa3
           obtain ⟨pa0, pa1, pa2, pa3⟩ := tq
           have tq := cells4_kept BB (by omega) pb0 pb1 pb2 pb3
           clear pb0 pb1 pb2 pb3
           obtain ⟨pb0, pb1, pb2, pb3⟩ := tq
           have tq := cells4_kept BB (by omega) R0 R1 R2 R3
           clear R0 R1 R2 R3
           obtain ⟨R0, R1, R2, R3⟩ := tq
           have tq := cells4_kept BB (by omega) xa0 xa1 xa2 xa3
           clear xa0 xa1 xa2 xa3
           obtain ⟨xa0, xa1, xa2, xa3⟩ := tq
           have tq := cells4_kept BB (by omega) xb0 xb1 xb2 xb3
           clear xb0 xb1 xb2 xb3
           obtain ⟨xb0, xb1, xb2, xb3⟩ := tq
           have tq := cells4_kept BB (by omega) I0 I1 I2 I3
           clear I0 I1 I2 I3
           obtain ⟨I0, I1, I2, I3⟩ := tq
           replace oR := oR.kept BB (by omega)
           replace oxa := oxa.kept BB (by omega)
           replace oxb := oxb.kept BB (by omega)
           replace oI := oI.kept BB (by omega)
           replace oya := oya.kept BB (by omega)
           have Bw9 : Below w.heap.size w w9 := Bw8.trans (BB.mono Bw8.size)
           clear BB
           have lpaw9 : w.heap.size < w9.heap.size := by omega
           have lpbw9 : w.heap.size + 1 < w9.heap.size := by omega
           have lRw9 : gR < w9.heap.size := by omega
           have lxaw9 : w4.heap.size < w9.heap.size := by omega
           have lxbw9 : w5.heap.size < w9.heap.size := by omega
           have lIw9 : w6.heap.size < w9.heap.size := by omega))
    go_wp2_with fail
    go_region_held3 (fun w' => w'.cell? ⟨w5.heap.size, 0, none⟩ = some (.int .i64 bb.X) ∧ w'.cell? ⟨w5.heap.size, 1, none⟩ = some (.int .i64 bb.Y) ∧ w'.cell? ⟨w5.heap.size, 2, none⟩ = some (.int .i64 bb.Whole) ∧ w'.cell? ⟨w5.heap.size, 3, none⟩ = some (.slice axb bb.Rows.length cxb) ∧ w'.cell? ⟨w.heap.size + 1, 0, none⟩ = some (.int .i64 bb.X) ∧ w'.cell? ⟨w.heap.size + 1, 1, none⟩ = some (.int .i64 bb.Y) ∧ w'.cell? ⟨w.heap.size + 1, 2, none⟩ = some (.int .i64 bb.Whole) ∧ w'.cell? ⟨w.heap.size + 1, 3, none⟩ = some (vb))
      (first | go_keep | exact ⟨xb0, xb1, xb2, xb3, pb0, pb1, pb2, pb3⟩)
      (first
        | (go_at_call 30
           (with_reducible refine (toBox_any vb bb.X bb.Y bb.Whole bb.Rows w9.drew (hb.kept (Nat.le_refl _) Bw9.drew) hsb).mono ?_)
           rintro e w10 ⟨ayb, cyb, zyb, rfl, oyb, bw10⟩
           replace oyb := oyb.weaken (lo' := w9.heap.size) (Nat.le_refl _) (Nat.le_refl _)
           have BB : Below w9.heap.size w9 w10 := ((Below.refl w9.heap.size w9).drew).trans bw10
           have sw10 : w9.heap.size ≤ w10.heap.size := BB.size
           replace hw0 : w.heap.size ≤ w10.heap.size := by omega
           have tq := cells4_kept BB (by omega) pa0 pa1 pa2 pa3
           clear pa0 pa1 pa2 pa3
           obtain ⟨pa0, pa1, pa2, pa3⟩ := tq
           have tq := cells4_kept BB (by omega) pb0 pb1 pb2 pb3
           clear pb0 pb1 pb2 pb3
           obtain ⟨pb0, pb1, pb2, pb3⟩ := tq
           have tq := cells4_kept BB (by omega) R0 R1 R2 R3
           clear R0 R1 R2 R3
           obtain ⟨R0, R1, R2, R3⟩ := tq
           have tq := cells4_kept BB (by omega) xa0 xa1 xa2 xa3
           clear xa0 xa1 xa2 xa3
           obtain ⟨xa0, xa1, xa2, xa3⟩ := tq
           have tq := cells4_kept BB (by omega) xb0 xb1 xb2 xb3
           clear xb0 xb1 xb2 xb3
           obtain ⟨xb0, xb1, xb2, xb3⟩ := tq
           have tq := cells4_kept BB (by omega) I0 I1 I2 I3
           clear I0 I1 I2 I3
           obtain ⟨I0, I1, I2, I3⟩ := tq
           replace oR := oR.kept BB (by omega)
           replace oxa := oxa.kept BB (by omega)
           replace oxb := oxb.kept BB (by omega)
           replace oI := oI.kept BB (by omega)
           have Bw10 : Below w.heap.size w w10 := Bw9.trans (BB.mono Bw9.size)
           clear BB
           have lpaw10 : w.heap.size < w10.heap.size := by omega
           have lpbw10 : w.heap.size + 1 < w10.heap.size := by omega
           have lRw10 : gR < w10.heap.size := by omega
           have lxaw10 : w4.heap.size < w10.heap.size := by omega
           have lxbw10 : w5.heap.size < w10.heap.size := by omega
           have lIw10 : w6.heap.size < w10.heap.size := by omega)
        | (go_at_call 18
           (with_reducible refine (eqBox_any _ _ bb bb w10 (oxb.rdII) (oyb.rdII)).mono ?_)
           rintro e w11 ⟨rfl, dw11⟩
           have BB : Below w10.heap.size w10 w11 := dw11
           have sw11 : w10.heap.size ≤ w11.heap.size := BB.size
           replace hw0 : w.heap.size ≤ w11.heap.size := by omega
           have tq := cells4_kept BB (by omega) pa0 pa1 pa2 pa3
           clear pa0 pa1 pa2 pa3
           obtain ⟨pa0, pa1, pa2, pa3⟩ := tq
           have tq := cells4_kept BB (by omega) pb0 pb1 pb2 pb3
           clear pb0 pb1 pb2 pb3
           obtain ⟨pb0, pb1, pb2, pb3⟩ := tq
           have tq := cells4_kept BB (by omega) R0 R1 R2 R3
           clear R0 R1 R2 R3
           obtain ⟨R0, R1, R2, R3⟩ := tq
           have tq := cells4_kept BB (by omega) xa0 xa1 xa2 xa3
           clear xa0 xa1 xa2 xa3
           obtain ⟨xa0, xa1, xa2, xa3⟩ := tq
           have tq := cells4_kept BB (by omega) xb0 xb1 xb2 xb3
           clear xb0 xb1 xb2 xb3
           obtain ⟨xb0, xb1, xb2, xb3⟩ := tq
           have tq := cells4_kept BB (by omega) I0 I1 I2 I3
           clear I0 I1 I2 I3
           obtain ⟨I0, I1, I2, I3⟩ := tq
           replace oR := oR.kept BB (by omega)
           replace oxa := oxa.kept BB (by omega)
           replace oxb := oxb.kept BB (by omega)
           replace oI := oI.kept BB (by omega)
           replace oyb := oyb.kept BB (by omega)
           have Bw11 : Below w.heap.size w w11 := Bw10.trans (BB.mono Bw10.size)
           clear BB
           have lpaw11 : w.heap.size < w11.heap.size := by omega
           have lpbw11 : w.heap.size + 1 < w11.heap.size := by omega
           have lRw11 : gR < w11.heap.size := by omega
           have lxaw11 : w4.heap.size < w11.heap.size := by omega
           have lxbw11 : w5.heap.size < w11.heap.size := by omega
           have lIw11 : w6.heap.size < w11.heap.size := by omega))
    go_wp2_with fail
    refine (markBox_any _ _ _ _ _ _ _ _ _ _ _ _ oxa (by omega) (by omega) (by omega) (by omega)).mono ?_
    rintro e w12 ⟨rfl, oxa, mw12⟩
    have tq := cells4_mid mw12 (by omega) (by omega) pa0 pa1 pa2 pa3
    clear pa0 pa1 pa2 pa3
    obtain ⟨pa0, pa1, pa2, pa3⟩ := tq
    have tq := cells4_mid mw12 (by omega) (by omega) pb0 pb1 pb2 pb3
    clear pb0 pb1 pb2 pb3
    obtain ⟨pb0, pb1, pb2, pb3⟩ := tq
    have tq := cells4_mid mw12 (by omega) (by omega) R0 R1 R2 R3
    clear R0 R1 R2 R3
    obtain ⟨R0, R1, R2, R3⟩ := tq
    have tq := cells4_mid mw12 (by omega) (by omega) xa0 xa1 xa2 xa3
    clear xa0 xa1 xa2 xa3
    obtain ⟨xa0, xa1, xa2, xa3⟩ := tq
    have tq := cells4_mid mw12 (by omega) (by omega) xb0 xb1 xb2 xb3
    clear xb0 xb1 xb2 xb3
    obtain ⟨xb0, xb1, xb2, xb3⟩ := tq
    have tq := cells4_mid mw12 (by omega) (by omega) I0 I1 I2 I3
    clear I0 I1 I2 I3
    obtain ⟨I0, I1, I2, I3⟩ := tq
    replace oR := oR.mid mw12 (by omega)
    replace oxb := oxb.mid mw12 (by omega)
    replace oI := oI.mid mw12 (by omega)
    have sw12 : w11.heap.size ≤ w12.heap.size := mw12.size
    have Bw12 : Below w.heap.size w w12 := Bw11.trans (mw12.below (by omega) (by omega))
    replace hw0 : w.heap.size ≤ w12.heap.size := by omega
    clear mw12
    have lpaw12 : w.heap.size < w12.heap.size := by omega
    have lpbw12 : w.heap.size + 1 < w12.heap.size := by omega
    have lRw12 : gR < w12.heap.size := by omega
    have lxaw12 : w4.heap.size < w12.heap.size := by omega
    have lxbw12 : w5.heap.size < w12.heap.size := by omega
    have lIw12 : w6.heap.size < w12.heap.size := by omega
    go_wp2_with fail
    refine (markBox_any _ _ _ _ _ _ _ _ _ _ _ _ oxb (by omega) (by omega) (by omega) (by omega)).mono ?_
    rintro e w13 ⟨rfl, oxb, mw13⟩
    have tq := cells4_mid mw13 (by omega) (by omega) pa0 pa1 pa2 pa3
    clear pa0 pa1 pa2 pa3
    obtain ⟨pa0, pa1, pa2, pa3⟩ := tq
    have tq := cells4_mid mw13 (by omega) (by omega) pb0 pb1 pb2 pb3
    clear pb0 pb1 pb2 pb3
    obtain ⟨pb0, pb1, pb2, pb3⟩ := tq
    have tq := cells4_mid mw13 (by omega) (by omega) R0 R1 R2 R3
    clear R0 R1 R2 R3
    obtain ⟨R0, R1, R2, R3⟩ := tq
    have tq := cells4_mid mw13 (by omega) (by omega) xa0 xa1 xa2 xa3
    clear xa0 xa1 xa2 xa3
    obtain ⟨xa0, xa1, xa2, xa3⟩ := tq
    have tq := cells4_mid mw13 (by omega) (by omega) xb0 xb1 xb2 xb3
    clear xb0 xb1 xb2 xb3
    obtain ⟨xb0, xb1, xb2, xb3⟩ := tq
    have tq := cells4_mid mw13 (by omega) (by omega) I0 I1 I2 I3
    clear I0 I1 I2 I3
    obtain ⟨I0, I1, I2, I3⟩ := tq
    replace oR := oR.mid mw13 (by omega)
    replace oI := oI.mid mw13 (by omega)
    have sw13 : w12.heap.size ≤ w13.heap.size := mw13.size
    have Bw13 : Below w.heap.size w w13 := Bw12.trans (mw13.below (by omega) (by omega))
    replace hw0 : w.heap.size ≤ w13.heap.size := by omega
    clear mw13
    have lpaw13 : w.heap.size < w13.heap.size := by omega
    have lpbw13 : w.heap.size + 1 < w13.heap.size := by omega
    have lRw13 : gR < w13.heap.size := by omega
    have lxaw13 : w4.heap.size < w13.heap.size := by omega
    have lxbw13 : w5.heap.size < w13.heap.size := by omega
    have lIw13 : w6.heap.size < w13.heap.size := by omega
    go_wp2_with fail
    refine (eqBox_any _ _ (mixD ba bb) (mixD ba bb) w13 (oI.rdII) (oR.rdII)).mono ?_
    rintro e w14 ⟨rfl, dw14⟩
    have BB : Below w13.heap.size w13 w14 := dw14
    have sw14 : w13.heap.size ≤ w14.heap.size := BB.size
    replace hw0 : w.heap.size ≤ w14.heap.size := by omega
    have tq := cells4_kept BB (by omega) pa0 pa1 pa2 pa3
    clear pa0 pa1 pa2 pa3
    obtain ⟨pa0, pa1, pa2, pa3⟩ := tq
    have tq := cells4_kept BB (by omega) pb0 pb1 pb2 pb3
    clear pb0 pb1 pb2 pb3
    obtain ⟨pb0, pb1, pb2, pb3⟩ := tq
    have tq := cells4_kept BB (by omega) R0 R1 R2 R3
    clear R0 R1 R2 R3
    obtain ⟨R0, R1, R2, R3⟩ := tq
    have tq := cells4_kept BB (by omega) xa0 xa1 xa2 xa3
    clear xa0 xa1 xa2 xa3
    obtain ⟨xa0, xa1, xa2, xa3⟩ := tq
    have tq := cells4_kept BB (by omega) xb0 xb1 xb2 xb3
    clear xb0 xb1 xb2 xb3
    obtain ⟨xb0, xb1, xb2, xb3⟩ := tq
    have tq := cells4_kept BB (by omega) I0 I1 I2 I3
    clear I0 I1 I2 I3
    obtain ⟨I0, I1, I2, I3⟩ := tq
    replace oR := oR.kept BB (by omega)
    replace oI := oI.kept BB (by omega)
    have Bw14 : Below w.heap.size w w14 := Bw13.trans (BB.mono Bw13.size)
    clear BB
    have lpaw14 : w.heap.size < w14.heap.size := by omega
    have lpbw14 : w.heap.size + 1 < w14.heap.size := by omega
    have lRw14 : gR < w14.heap.size := by omega
    have lxaw14 : w4.heap.size < w14.heap.size := by omega
    have lxbw14 : w5.heap.size < w14.heap.size := by omega
    have lIw14 : w6.heap.size < w14.heap.size := by omega
    go_wp2_with fail
    refine (markBox_any _ _ _ _ _ _ _ _ _ _ _ _ oI (by omega) (by omega) (by omega) (by omega)).mono ?_
    rintro e w15 ⟨rfl, oI, mw15⟩
    have tq := cells4_mid mw15 (by omega) (by omega) pa0 pa1 pa2 pa3
    clear pa0 pa1 pa2 pa3
    obtain ⟨pa0, pa1, pa2, pa3⟩ := tq
    have tq := cells4_mid mw15 (by omega) (by omega) pb0 pb1 pb2 pb3
    clear pb0 pb1 pb2 pb3
    obtain ⟨pb0, pb1, pb2, pb3⟩ := tq
    have tq := cells4_mid mw15 (by omega) (by omega) R0 R1 R2 R3
    clear R0 R1 R2 R3
    obtain ⟨R0, R1, R2, R3⟩ := tq
    have tq := cells4_mid mw15 (by omega) (by omega) xa0 xa1 xa2 xa3
    clear xa0 xa1 xa2 xa3
    obtain ⟨xa0, xa1, xa2, xa3⟩ := tq
    have tq := cells4_mid mw15 (by omega) (by omega) xb0 xb1 xb2 xb3
    clear xb0 xb1 xb2 xb3
    obtain ⟨xb0, xb1, xb2, xb3⟩ := tq
    have tq := cells4_mid mw15 (by omega) (by omega) I0 I1 I2 I3
    clear I0 I1 I2 I3
    obtain ⟨I0, I1, I2, I3⟩ := tq
    replace oR := oR.mid mw15 (by omega)
    have sw15 : w14.heap.size ≤ w15.heap.size := mw15.size
    have Bw15 : Below w.heap.size w w15 := Bw14.trans (mw15.below (by omega) (by omega))
    replace hw0 : w.heap.size ≤ w15.heap.size := by omega
    clear mw15
    have lpaw15 : w.heap.size < w15.heap.size := by omega
    have lpbw15 : w.heap.size + 1 < w15.heap.size := by omega
    have lRw15 : gR < w15.heap.size := by omega
    have lxaw15 : w4.heap.size < w15.heap.size := by omega
    have lxbw15 : w5.heap.size < w15.heap.size := by omega
    have lIw15 : w6.heap.size < w15.heap.size := by omega
    go_wp2_with fail
    refine (heldBox_any _ _ _ _ _ _ _ (oI.rdII) (by omega) (by omega) (by omega)).mono ?_
    rintro e w16 ⟨rfl, bw16⟩
    have BB : Below w15.heap.size w15 w16 := bw16
    have sw16 : w15.heap.size ≤ w16.heap.size := BB.size
    replace hw0 : w.heap.size ≤ w16.heap.size := by omega
    have tq := cells4_kept BB (by omega) pa0 pa1 pa2 pa3
    clear pa0 pa1 pa2 pa3
    obtain ⟨pa0, pa1, pa2, pa3⟩ := tq
    have tq := cells4_kept BB (by omega) pb0 pb1 pb2 pb3
    clear pb0 pb1 pb2 pb3
    obtain ⟨pb0, pb1, pb2, pb3⟩ := tq
    have tq := cells4_kept BB (by omega) R0 R1 R2 R3
    clear R0 R1 R2 R3
    obtain ⟨R0, R1, R2, R3⟩ := tq
    have tq := cells4_kept BB (by omega) xa0 xa1 xa2 xa3
    clear xa0 xa1 xa2 xa3
    obtain ⟨xa0, xa1, xa2, xa3⟩ := tq
    have tq := cells4_kept BB (by omega) xb0 xb1 xb2 xb3
    clear xb0 xb1 xb2 xb3
    obtain ⟨xb0, xb1, xb2, xb3⟩ := tq
    have tq := cells4_kept BB (by omega) I0 I1 I2 I3
    clear I0 I1 I2 I3
    obtain ⟨I0, I1, I2, I3⟩ := tq
    replace oR := oR.kept BB (by omega)
    replace oI := oI.kept BB (by omega)
    have Bw16 : Below w.heap.size w w16 := Bw15.trans (BB.mono Bw15.size)
    clear BB
    have lpaw16 : w.heap.size < w16.heap.size := by omega
    have lpbw16 : w.heap.size + 1 < w16.heap.size := by omega
    have lRw16 : gR < w16.heap.size := by omega
    have lxaw16 : w4.heap.size < w16.heap.size := by omega
    have lxbw16 : w5.heap.size < w16.heap.size := by omega
    have lIw16 : w6.heap.size < w16.heap.size := by omega
    go_wp2_with fail
    go_cut [15, 16] (fun sa sb wx => sb = .bool (mixOk ba bb) ∧ BoxMade w16 (mixD ba bb) sa wx)
    case first =>
      have KSc := Lib.hid (fun (V : World) (h : Below w16.heap.size w16 V) => And.intro h (And.intro (keepCell h pa0) (And.intro (keepCell h pa1) (And.intro (keepCell h pa2) (And.intro (keepCell h pa3) (And.intro (keepCell h pb0) (And.intro (keepCell h pb1) (And.intro (keepCell h pb2) (keepCell h pb3)))))))))
      have hsz : w16.heap.size ≤ w16.heap.size := Nat.le_refl _
      go_region_held3 (fun V => Below w16.heap.size w16 V ∧ V.cell? ⟨w.heap.size, 0, none⟩ = some (.int .i64 ba.X) ∧ V.cell? ⟨w.heap.size, 1, none⟩ = some (.int .i64 ba.Y) ∧ V.cell? ⟨w.heap.size, 2, none⟩ = some (.int .i64 ba.Whole) ∧ V.cell? ⟨w.heap.size, 3, none⟩ = some (va) ∧ V.cell? ⟨w.heap.size + 1, 0, none⟩ = some (.int .i64 bb.X) ∧ V.cell? ⟨w.heap.size + 1, 1, none⟩ = some (.int .i64 bb.Y) ∧ V.cell? ⟨w.heap.size + 1, 2, none⟩ = some (.int .i64 bb.Whole) ∧ V.cell? ⟨w.heap.size + 1, 3, none⟩ = some (vb))
        (first | exact KSc.out _ (Below.refl _ _).drew | exact KSc.out _ ((Below.refl _ _).drew.alloc (Nat.le_refl _) _) | exact KSc.out _ hBn | exact KSc.out _ (hBn.alloc hBn.size _) | exact KSc.out _ (by repeat' (first | with_reducible exact Below.refl _ _ | with_reducible assumption | with_reducible apply Below.alloc | with_reducible apply Below.setCell | with_reducible apply Below.drew | exact Nat.le_refl _ | omega | (simp only [World.size_alloc, World.size_setCell]; omega))))
        (first
          | (go_at_call 30; have hS := And.left (by assumption : Below w16.heap.size w16 _ ∧ _); (with_reducible refine (toBox_any va ba.X ba.Y ba.Whole ba.Rows _ (ha.kept (Nat.le_refl _) (Bw16.trans (hS.mono Bw16.size))) hsa).mono ?_); rintro e vwa ⟨aaa, caa, zaa, rfl, oaa, qa⟩; have hBn : Below w16.heap.size w16 vwa := hS.trans (qa.mono hS.size); have hzwa := hBn.size)
          | (go_at_call 30; have hS := And.left (by assumption : Below w16.heap.size w16 _ ∧ _); (with_reducible refine (toBox_any vb bb.X bb.Y bb.Whole bb.Rows _ (hb.kept (Nat.le_refl _) (Bw16.trans (hS.mono Bw16.size))) hsb).mono ?_); rintro e vwb ⟨aab, cab, zab, rfl, oab, qb⟩; have hBn : Below w16.heap.size w16 vwb := hS.trans (qb.mono hS.size); have hzwb := hBn.size; have Kb : Below vwa.heap.size vwa vwb := Below.trans (by repeat' (first | with_reducible exact Below.refl _ _ | with_reducible assumption | with_reducible apply Below.alloc | with_reducible apply Below.setCell | with_reducible apply Below.drew | exact Nat.le_refl _ | omega | (simp only [World.size_alloc, World.size_setCell]; omega))) (qb.mono (by first | exact Nat.le_refl _ | omega | (simp only [World.size_alloc, World.size_setCell]; omega))))
          | (go_at_call 31; have hS := And.left (by assumption : Below w16.heap.size w16 _ ∧ _); (with_reducible refine (implMixBoxes_any _ ba _ bb _ (oaa.rdII.kept (Nat.le_refl _) (Kb.trans (Below.mono (by repeat' (first | with_reducible exact Below.refl _ _ | with_reducible assumption | with_reducible apply Below.alloc | with_reducible apply Below.setCell | with_reducible apply Below.drew | exact Nat.le_refl _ | omega | (simp only [World.size_alloc, World.size_setCell]; omega))) Kb.size))) (oab.rdII.kept (Nat.le_refl _) (by repeat' (first | with_reducible exact Below.refl _ _ | with_reducible assumption | with_reducible apply Below.alloc | with_reducible apply Below.setCell | with_reducible apply Below.drew | exact Nat.le_refl _ | omega | (simp only [World.size_alloc, World.size_setCell]; omega))))).mono ?_); rintro e w3 ⟨aR, cR, zR, rfl, oR, b3⟩; have hBn : Below w16.heap.size w16 w3 := hS.trans (b3.mono hS.size); have hz3 := hBn.size; (first | (refine retThen (g := vwb.heap.size) (retTop b3) ?_; intro r0 r1 r2 r3 rf) | (refine retThen (g := vwa.heap.size) (RetAt.call b3 (retTop qb)) ?_; intro r0 r1 r2 r3 rf) | (refine retThen (g := w16.heap.size) (RetAt.call b3 (RetAt.call qb (retTopD qa))) ?_; intro r0 r1 r2 r3 rf) | skip)))
      all_goals
        have hlo : w16.heap.size ≤ vwb.heap.size := hzwb
        try simp only [World.size_alloc] at oR
        go_wp2_with fail
        go_meet
        first
          | with_reducible exact ⟨rfl, boxMade_new hBn hzwb oR⟩
          | with_reducible exact ⟨rfl, boxMade_old hBn (by omega) (by omega) (retTop b3) oR⟩
          | with_reducible exact ⟨rfl, boxMade_old hBn (by have := retSize qb; omega) (by omega) (RetAt.call b3 (retTop qb)) oR⟩
          | with_reducible exact ⟨rfl, boxMade_old hBn (by have := retSizeD qa; have := qb.size; omega) (Nat.le_refl _) (RetAt.call b3 (RetAt.call qb (retTopD qa))) oR⟩
    case rest =>
      obtain ⟨rfl, gJ, aJ, cJ, zJ, rfl, hg0J, hg1J, ⟨J0, J1, J2, J3⟩, oJ, BB⟩ := hcut
      obtain ⟨w17, rfl⟩ : ∃ W : World, W = wc := ⟨_, rfl⟩
      have dw17 := BB
      clear BB
      have BB : Below w16.heap.size w16 w17 := dw17
      have sw17 : w16.heap.size ≤ w17.heap.size := BB.size
      replace hw0 : w.heap.size ≤ w17.heap.size := by omega
      have tq := cells4_kept BB (by omega) pa0 pa1 pa2 pa3
      clear pa0 pa1 pa2 pa3
      obtain ⟨pa0, pa1, pa2, pa3⟩ := tq
      have tq := cells4_kept BB (by omega) pb0 pb1 pb2 pb3
      clear pb0 pb1 pb2 pb3
      obtain ⟨pb0, pb1, pb2, pb3⟩ := tq
      have tq := cells4_kept BB (by omega) R0 R1 R2 R3
      clear R0 R1 R2 R3
      obtain ⟨R0, R1, R2, R3⟩ := tq
      have tq := cells4_kept BB (by omega) xa0 xa1 xa2 xa3
      clear xa0 xa1 xa2 xa3
      obtain ⟨xa0, xa1, xa2, xa3⟩ := tq
      have tq := cells4_kept BB (by omega) xb0 xb1 xb2 xb3
      clear xb0 xb1 xb2 xb3
      obtain ⟨xb0, xb1, xb2, xb3⟩ := tq
      have tq := cells4_kept BB (by omega) I0 I1 I2 I3
      clear I0 I1 I2 I3
      obtain ⟨I0, I1, I2, I3⟩ := tq
      replace oR := oR.kept BB (by omega)
      replace oI := oI.kept BB (by omega)
      have Bw17 : Below w.heap.size w w17 := Bw16.trans (BB.mono Bw16.size)
      clear BB
      have lpaw17 : w.heap.size < w17.heap.size := by omega
      have lpbw17 : w.heap.size + 1 < w17.heap.size := by omega
      have lRw17 : gR < w17.heap.size := by omega
      have lxaw17 : w4.heap.size < w17.heap.size := by omega
      have lxbw17 : w5.heap.size < w17.heap.size := by omega
      have lIw17 : w6.heap.size < w17.heap.size := by omega
      go_wp2_with fail
      refine (eqBox_any _ _ (mixD ba bb) (mixD ba bb) w17 (oJ.rdII) (oR.rdII)).mono ?_
      rintro e w18 ⟨rfl, dw18⟩
      have BB : Below w17.heap.size w17 w18 := dw18
      have sw18 : w17.heap.size ≤ w18.heap.size := BB.size
      replace hw0 : w.heap.size ≤ w18.heap.size := by omega
      have tq := cells4_kept BB (by omega) pa0 pa1 pa2 pa3
      clear pa0 pa1 pa2 pa3
      obtain ⟨pa0, pa1, pa2, pa3⟩ := tq
      have tq := cells4_kept BB (by omega) pb0 pb1 pb2 pb3
      clear pb0 pb1 pb2 pb3
      obtain ⟨pb0, pb1, pb2, pb3⟩ := tq
      have tq := cells4_kept BB (by omega) R0 R1 R2 R3
      clear R0 R1 R2 R3
      obtain ⟨R0, R1, R2, R3⟩ := tq
      have tq := cells4_kept BB (by omega) xa0 xa1 xa2 xa3
      clear xa0 xa1 xa2 xa3
      obtain ⟨xa0, xa1, xa2, xa3⟩ := tq
      have tq := cells4_kept BB (by omega) xb0 xb1 xb2 xb3
      clear xb0 xb1 xb2 xb3
      obtain ⟨xb0, xb1, xb2, xb3⟩ := tq
      have tq := cells4_kept BB (by omega) I0 I1 I2 I3
      clear I0 I1 I2 I3
      obtain ⟨I0, I1, I2, I3⟩ := tq
      have tq := cells4_kept BB (by omega) J0 J1 J2 J3
      clear J0 J1 J2 J3
      obtain ⟨J0, J1, J2, J3⟩ := tq
      replace oR := oR.kept BB (by omega)
      replace oI := oI.kept BB (by omega)
      replace oJ := oJ.kept BB (by omega)
      have Bw18 : Below w.heap.size w w18 := Bw17.trans (BB.mono Bw17.size)
      clear BB
      have lpaw18 : w.heap.size < w18.heap.size := by omega
      have lpbw18 : w.heap.size + 1 < w18.heap.size := by omega
      have lRw18 : gR < w18.heap.size := by omega
      have lxaw18 : w4.heap.size < w18.heap.size := by omega
      have lxbw18 : w5.heap.size < w18.heap.size := by omega
      have lIw18 : w6.heap.size < w18.heap.size := by omega
      have lJw18 : gJ < w18.heap.size := by omega
      go_wp2_with fail
      refine (heldBox_any _ _ _ _ _ _ _ (oI.rdII) (by omega) (by omega) (by omega)).mono ?_
      rintro e w19 ⟨rfl, bw19⟩
      have BB : Below w18.heap.size w18 w19 := bw19
      have sw19 : w18.heap.size ≤ w19.heap.size := BB.size
      replace hw0 : w.heap.size ≤ w19.heap.size := by omega
      have tq := cells4_kept BB (by omega) pa0 pa1 pa2 pa3
      clear pa0 pa1 pa2 pa3
      obtain ⟨pa0, pa1, pa2, pa3⟩ := tq
      have tq := cells4_kept BB (by omega) pb0 pb1 pb2 pb3
      clear pb0 pb1 pb2 pb3
      obtain ⟨pb0, pb1, pb2, pb3⟩ := tq
      have tq := cells4_kept BB (by omega) R0 R1 R2 R3
      clear R0 R1 R2 R3
      obtain ⟨R0, R1, R2, R3⟩ := tq
      have tq := cells4_kept BB (by omega) xa0 xa1 xa2 xa3
      clear xa0 xa1 xa2 xa3
      obtain ⟨xa0, xa1, xa2, xa3⟩ := tq
      have tq := cells4_kept BB (by omega) xb0 xb1 xb2 xb3
      clear xb0 xb1 xb2 xb3
      obtain ⟨xb0, xb1, xb2, xb3⟩ := tq
      have tq := cells4_kept BB (by omega) I0 I1 I2 I3
      clear I0 I1 I2 I3
      obtain ⟨I0, I1, I2, I3⟩ := tq
      have tq := cells4_kept BB (by omega) J0 J1 J2 J3
      clear J0 J1 J2 J3
      obtain ⟨J0, J1, J2, J3⟩ := tq
      replace oR := oR.kept BB (by omega)
      replace oI := oI.kept BB (by omega)
      replace oJ := oJ.kept BB (by omega)
      have Bw19 : Below w.heap.size w w19 := Bw18.trans (BB.mono Bw18.size)
      clear BB
      have lpaw19 : w.heap.size < w19.heap.size := by omega
      have lpbw19 : w.heap.size + 1 < w19.heap.size := by omega
      have lRw19 : gR < w19.heap.size := by omega
      have lxaw19 : w4.heap.size < w19.heap.size := by omega
      have lxbw19 : w5.heap.size < w19.heap.size := by omega
      have lIw19 : w6.heap.size < w19.heap.size := by omega
      have lJw19 : gJ < w19.heap.size := by omega
      go_wp2
      go_ret
      exact ⟨rfl, Bw19⟩

/-! ### The row -/
set_option maxRecDepth 100000 in
theorem fnExactMixBoxes_lifted (os : Os) (started : os.Started) (H : Type) (enc : TypeId × Value → H) :
    ReturnsInHanded {} Try.checked os 5 .any (Rows.fnExactMixBoxesSpec.pre6 enc Try.prog Try.f5 Rows.fnExactMixBoxesRow.domain false) (Rows.fnExactMixBoxesSpec.post enc Try.prog Try.f5 false true false false) := by
  refine returnsInHanded_of_change (C := Try.checked) Try.own started (by kernel_rfl) Try.func5
    (ChangeSpec.witness6 (enc := enc) (C := Try.checked) false ⟨#[], #[.agg #[.int .i64 0, .int .i64 0, .int .i64 0, .slice none 0 0], .agg #[.int .i64 0, .int .i64 0, .int .i64 0, .slice none 0 0]], []⟩ 8 (by kernel_rfl) (by kernel_rfl) (by kernel_rfl) (by kernel_rfl)) ?_
  intro W base args ds gs before hval0 hW hcnd _
  have hval : ∀ (j : Nat) t v, Try.f5.params[j]? = some t → args[j]? = some v → Value.okWide Try.prog W .any base t v := hval0
  have hW' := hW
  obtain ⟨p, q, hA0, hV, rfl, hfz, hnd⟩ := hW
  have hA : DataW.TrodAll enc Try.prog W 0 (fun _ => true) true Try.f5.params.toList args.toList ds p := hA0
  rw [Try.params5] at hA hval
  obtain ⟨v0, vs0, d0, ds0, p0, q0, hargs, rfl, rfl, h0, r0⟩ := trodAll_cons hA
  obtain ⟨v1, vs1, d1, ds1, p1, q1, rfl, rfl, rfl, h1, r1⟩ := trodAll_cons r0
  obtain ⟨rfl, rfl, rfl⟩ := trodAll_nil r1
  obtain rfl : args = #[v0, v1] := by cases args; simp_all
  obtain ⟨bx0, vr0, rfl, hx0, wx0⟩ := box_of (hval 0 40 v0 rfl rfl) h0
  obtain ⟨bx1, vr1, rfl, hx1, wx1⟩ := box_of (hval 1 40 v1 rfl rfl) h1
  clear hA0 hval0
  refine (fnExactMixBoxes_walk vr0 bx0 vr1 bx1 W hx0 hx1).mono fun e W' ⟨he, hb⟩ => ?_
  subst he
  exact ⟨_, rfl, law_post Try.laidOut (by kernel_rfl) rfl Try.underlying4 rfl (fun ds hd => by match ds, hd with | [e0, e1], _ => rfl) hW' hb⟩

theorem fnExactMixBoxes_holds : Rows.FnExactMixBoxesSaid :=
  OpenClaim.holds_of_wide 5 Try.f5 rfl rfl rfl rfl rfl rfl rfl ⟨rfl, rfl, rfl, rfl, rfl⟩ rfl rfl rfl rfl rfl (by kernel_rfl) Try.func5 (by kernel_rfl)
    (of_decide_eq_true (by kernel_rfl)) (by unfold Func.isWrapper; first | (rw [if_pos (by decide +kernel)]; kernel_rfl) | (rw [if_neg (by decide +kernel)]; exact ⟨rfl, rfl⟩))
    (fun os started H enc _ => fnExactMixBoxes_lifted os started H enc)

end Go.Proofs.Ytjedajfpohhojaa
