/- MixBoxes: contracts of the program's function. -/
import Derived.Test.YtjedajfpohhojaaFnPlayBox
import Derived.Test.YtjedajfpohhojaaSame
set_option linter.unusedSimpArgs false
set_option linter.unusedVariables false
namespace Go.Proofs.Ytjedajfpohhojaa
open Go.RowKit

set_option maxHeartbeats 800000 in
theorem sameQuestions_any (va vb : Value) (a b : BoxD) (w : World) (ra : RdII w va a.Rows) (rb : RdII w vb b.Rows) :
    Calls Try.prog 68 #[.agg #[.int .i64 a.X, .int .i64 a.Y, .int .i64 a.Whole, va], .agg #[.int .i64 b.X, .int .i64 b.Y, .int .i64 b.Whole, vb]] w fun e w' => e = .returned (.bool (sameB a b)) ∧ Below w.heap.size w w' := by
  go_enter Try.func68, Try.ntmps68
  go_wp2_with fail
  refine (implIsBox_any _ a _ (ra.kept (Nat.le_refl _) (by repeat' (first | with_reducible exact Below.refl _ _ | with_reducible assumption | with_reducible apply Below.alloc | with_reducible apply Below.setCell | with_reducible apply Below.drew | exact Nat.le_refl _ | omega | (simp only [World.size_alloc, World.size_setCell]; omega))))).mono ?_
  rintro e w1 ⟨rfl, b1⟩
  have B1 : Below w.heap.size w w1 := Below.trans (by repeat' (first | with_reducible exact Below.refl _ _ | with_reducible assumption | with_reducible apply Below.alloc | with_reducible apply Below.setCell | with_reducible apply Below.drew | exact Nat.le_refl _ | omega | (simp only [World.size_alloc, World.size_setCell]; omega))) (b1.mono (by first | exact Nat.le_refl _ | omega | (simp only [World.size_alloc, World.size_setCell]; omega)))
  have A1 : BoxAt w1 w.heap.size a.X a.Y a.Whole va := ⟨keepCell b1 (by repeat' (first | with_reducible assumption | (refine cell_top ?_ rfl; first | with_reducible rfl | (simp only [World.size_alloc, World.size_setCell]; done)) | (refine cell_under ?_ ?_; (first | omega | (simp only [World.size_alloc, World.size_setCell]; omega))) | refine cell_drew ?_)), keepCell b1 (by repeat' (first | with_reducible assumption | (refine cell_top ?_ rfl; first | with_reducible rfl | (simp only [World.size_alloc, World.size_setCell]; done)) | (refine cell_under ?_ ?_; (first | omega | (simp only [World.size_alloc, World.size_setCell]; omega))) | refine cell_drew ?_)), keepCell b1 (by repeat' (first | with_reducible assumption | (refine cell_top ?_ rfl; first | with_reducible rfl | (simp only [World.size_alloc, World.size_setCell]; done)) | (refine cell_under ?_ ?_; (first | omega | (simp only [World.size_alloc, World.size_setCell]; omega))) | refine cell_drew ?_)), keepCell b1 (by repeat' (first | with_reducible assumption | (refine cell_top ?_ rfl; first | with_reducible rfl | (simp only [World.size_alloc, World.size_setCell]; done)) | (refine cell_under ?_ ?_; (first | omega | (simp only [World.size_alloc, World.size_setCell]; omega))) | refine cell_drew ?_))⟩
  have A2 : BoxAt w1 (w.heap.size + 1) b.X b.Y b.Whole vb := ⟨keepCell b1 (by repeat' (first | with_reducible assumption | (refine cell_top ?_ rfl; first | with_reducible rfl | (simp only [World.size_alloc, World.size_setCell]; done)) | (refine cell_under ?_ ?_; (first | omega | (simp only [World.size_alloc, World.size_setCell]; omega))) | refine cell_drew ?_)), keepCell b1 (by repeat' (first | with_reducible assumption | (refine cell_top ?_ rfl; first | with_reducible rfl | (simp only [World.size_alloc, World.size_setCell]; done)) | (refine cell_under ?_ ?_; (first | omega | (simp only [World.size_alloc, World.size_setCell]; omega))) | refine cell_drew ?_)), keepCell b1 (by repeat' (first | with_reducible assumption | (refine cell_top ?_ rfl; first | with_reducible rfl | (simp only [World.size_alloc, World.size_setCell]; done)) | (refine cell_under ?_ ?_; (first | omega | (simp only [World.size_alloc, World.size_setCell]; omega))) | refine cell_drew ?_)), keepCell b1 (by repeat' (first | with_reducible assumption | (refine cell_top ?_ rfl; first | with_reducible rfl | (simp only [World.size_alloc, World.size_setCell]; done)) | (refine cell_under ?_ ?_; (first | omega | (simp only [World.size_alloc, World.size_setCell]; omega))) | refine cell_drew ?_))⟩
  clear b1
  rcases Bool.eq_false_or_eq_true (boxB a) with h1 | h1
  · rw [h1]
    obtain ⟨c0, c1, c2, c3⟩ := A2
    go_wp2_with fail
    refine (implIsBox_any _ b _ (rb.kept (Nat.le_refl _) B1)).mono ?_
    rintro e w2 ⟨rfl, b2⟩
    have B2 := B1.trans (b2.mono B1.size)
    obtain ⟨a0, a1, a2, a3⟩ := A1.kept b2 A1.lt
    replace c0 := keepCell b2 c0
    replace c1 := keepCell b2 c1
    clear b2 A1 c2 c3
    rcases Bool.eq_false_or_eq_true (boxB b) with h2 | h2
    · rw [h2]
      have F := Lib.hid (fun (t1 t2 : Bool) (e1 : decide (a.X = b.X) = t1) (e2 : decide (a.Y = b.Y) = t2) => (by unfold sameB; rw [h1, h2, e1, e2]; rfl : sameB a b = (t1 && t2)))
      by_cases h3 : a.X = b.X
      · have z3 : (a.X == b.X) = true := by simp [h3]
        have E3 := Lib.hid (decide_eq_true h3)
        clear h3
        by_cases h4 : a.Y = b.Y
        · have z4 : (a.Y == b.Y) = true := by simp [h4]
          have E4 := Lib.hid (decide_eq_true h4)
          clear h4
          go_wp2
          go_ret
          exact ⟨ret_bool (by rw [F.out _ _ E3.out E4.out]; rfl), B2⟩
        · have z4 : (a.Y == b.Y) = false := by simp [h4]
          have E4 := Lib.hid (decide_eq_false h4)
          clear h4
          go_wp2
          go_ret
          exact ⟨ret_bool (by rw [F.out _ _ E3.out E4.out]; rfl), B2⟩
      · have z3 : (a.X == b.X) = false := by simp [h3]
        have E3 := Lib.hid (decide_eq_false h3)
        clear h3
        go_wp2
        go_ret
        exact ⟨ret_bool (by rw [F.out _ _ E3.out rfl]; rfl), B2⟩
    · rw [h2]
      go_wp2
      go_ret
      exact ⟨ret_bool (by unfold sameB; rw [h1, h2]; rfl), B2⟩
  · rw [h1]
    go_wp2
    go_ret
    exact ⟨ret_bool (by unfold sameB; rw [h1]; rfl), B1⟩
def mixN (a b : BoxD) : Num := fun i j p q => numB a i j p q + numB b i j p q
def mixOk (a b : BoxD) : Bool := sameB a b && decide (a.Whole + b.Whole ≤ 1000)
def mixD (a b : BoxD) : BoxD := if mixOk a b then boxOf a.X a.Y (a.Whole + b.Whole) (mixN a b) else zeroD
theorem mixD_size (a b : BoxD) : (mixD a b).Rows.length + sumLen (mixD a b).Rows ≤ 4194304 := by
  unfold mixD
  split
  · rename_i h
    unfold mixOk at h
    rw [Bool.and_eq_true] at h
    exact boxOf_size _ _ _ _ (boxB_sizes (sameB_iff.1 h.1).1)
  · simp [zeroD, sumLen]
set_option maxHeartbeats 800000 in
theorem mix_call (w : World) (g4 g5 : Nat) (va vb : Value) (a b : BoxD) (ha : boxB a = true) (hb : boxB b = true) (ra : RdII w va a.Rows) (rb : RdII w vb b.Rows)
    (ca : BoxAt w g4 a.X a.Y a.Whole va) (cb : BoxAt w g5 b.X b.Y b.Whole vb) (i j p q : Nat) (hi : (i : Int) < a.X) (hj : (j : Int) < a.Y) (hi2 : (i : Int) < b.X) (hj2 : (j : Int) < b.Y) (hp : p < 2) (hq : q < 2) :
    Calls Try.prog 70 #[.int .i64 i, .int .i64 j, .int .i64 p, .int .i64 q, .pointer (some ⟨g4, 0, none⟩), .pointer (some ⟨g5, 0, none⟩)] w fun e w' => e = .returned (.int .i64 (mixN a b i j p q)) ∧ Below w.heap.size w w' := by
  have na := numB_bound ha i j hi hj p q hp hq
  have nb := numB_bound hb i j hi2 hj2 p q hp hq
  have wa := (boxB_iff.1 ha).2.1
  have wb := (boxB_iff.1 hb).2.1
  have hw := wrap_in (numB a i j p q + numB b i j p q) (by omega) (by omega)
  clear na nb wa wb
  unfold mixN
  go_enter Try.func70, Try.ntmps70
  go_wp2
  go_region_held3 (fun w' => Below w.heap.size w w' ∧ w'.cell? ⟨g4, 0, none⟩ = some (.int .i64 a.X) ∧ w'.cell? ⟨g4, 1, none⟩ = some (.int .i64 a.Y) ∧ w'.cell? ⟨g4, 2, none⟩ = some (.int .i64 a.Whole) ∧ w'.cell? ⟨g4, 3, none⟩ = some va ∧
      w'.cell? ⟨g5, 0, none⟩ = some (.int .i64 b.X) ∧ w'.cell? ⟨g5, 1, none⟩ = some (.int .i64 b.Y) ∧ w'.cell? ⟨g5, 2, none⟩ = some (.int .i64 b.Whole) ∧ w'.cell? ⟨g5, 3, none⟩ = some vb)
    (first | exact held2 (Below.refl _ _).drew ca cb | exact held2 hBn ca cb)
    (first
      | (go_at_call 71; have hS := And.left (by assumption : Below w.heap.size w _ ∧ _); (with_reducible refine (at_any va a ha i j p q hi hj hp hq _ (ra.kept (Nat.le_refl _) hS)).mono ?_); rintro e w1 ⟨rfl, b1⟩; have hBn : Below w.heap.size w w1 := hS.trans (b1.mono hS.size))
      | (go_at_call 71; have hS := And.left (by assumption : Below w.heap.size w _ ∧ _); (with_reducible refine (at_any vb b hb i j p q hi2 hj2 hp hq _ (rb.kept (Nat.le_refl _) hS)).mono ?_); rintro e w1 ⟨rfl, b1⟩; have hBn : Below w.heap.size w w1 := hS.trans (b1.mono hS.size)))
  all_goals
    go_wp2
    go_ret
    exact ⟨rfl, hBn⟩
theorem mix_func (args : Array Value) (w : World) : (callFunc 70 args).run Try.prog w = .ok (.enter 70 args) w := by kernel_rfl

set_option maxHeartbeats 1600000 in
theorem implMixBoxes_any (va : Value) (a : BoxD) (vb : Value) (b : BoxD) (w : World) (ra : RdII w va a.Rows) (rb : RdII w vb b.Rows) :
    Calls Try.prog 31 #[.agg #[.int .i64 a.X, .int .i64 a.Y, .int .i64 a.Whole, va], .agg #[.int .i64 b.X, .int .i64 b.Y, .int .i64 b.Whole, vb]] w (BoxRes w (mixD a b) (mixOk a b)) := by
  go_enter Try.func31, Try.ntmps31
  go_wp2_with fail
  refine (sameQuestions_any _ _ a b _ (ra.kept (Nat.le_refl _) (by repeat' (first | with_reducible exact Below.refl _ _ | with_reducible assumption | with_reducible apply Below.alloc | with_reducible apply Below.setCell | with_reducible apply Below.drew | exact Nat.le_refl _ | omega | (simp only [World.size_alloc, World.size_setCell]; omega)))) (rb.kept (Nat.le_refl _) (by repeat' (first | with_reducible exact Below.refl _ _ | with_reducible assumption | with_reducible apply Below.alloc | with_reducible apply Below.setCell | with_reducible apply Below.drew | exact Nat.le_refl _ | omega | (simp only [World.size_alloc, World.size_setCell]; omega))))).mono ?_
  rintro e w1 ⟨rfl, b1⟩
  have B1 : Below w.heap.size w w1 := Below.trans (by repeat' (first | with_reducible exact Below.refl _ _ | with_reducible assumption | with_reducible apply Below.alloc | with_reducible apply Below.setCell | with_reducible apply Below.drew | exact Nat.le_refl _ | omega | (simp only [World.size_alloc, World.size_setCell]; omega))) (b1.mono (by first | exact Nat.le_refl _ | omega | (simp only [World.size_alloc, World.size_setCell]; omega)))
  have A1 : BoxAt w1 w.heap.size a.X a.Y a.Whole va := ⟨keepCell b1 (by repeat' (first | with_reducible assumption | (refine cell_top ?_ rfl; first | with_reducible rfl | (simp only [World.size_alloc, World.size_setCell]; done)) | (refine cell_under ?_ ?_; (first | omega | (simp only [World.size_alloc, World.size_setCell]; omega))) | refine cell_drew ?_)), keepCell b1 (by repeat' (first | with_reducible assumption | (refine cell_top ?_ rfl; first | with_reducible rfl | (simp only [World.size_alloc, World.size_setCell]; done)) | (refine cell_under ?_ ?_; (first | omega | (simp only [World.size_alloc, World.size_setCell]; omega))) | refine cell_drew ?_)), keepCell b1 (by repeat' (first | with_reducible assumption | (refine cell_top ?_ rfl; first | with_reducible rfl | (simp only [World.size_alloc, World.size_setCell]; done)) | (refine cell_under ?_ ?_; (first | omega | (simp only [World.size_alloc, World.size_setCell]; omega))) | refine cell_drew ?_)), keepCell b1 (by repeat' (first | with_reducible assumption | (refine cell_top ?_ rfl; first | with_reducible rfl | (simp only [World.size_alloc, World.size_setCell]; done)) | (refine cell_under ?_ ?_; (first | omega | (simp only [World.size_alloc, World.size_setCell]; omega))) | refine cell_drew ?_))⟩
  have A2 : BoxAt w1 (w.heap.size + 1) b.X b.Y b.Whole vb := ⟨keepCell b1 (by repeat' (first | with_reducible assumption | (refine cell_top ?_ rfl; first | with_reducible rfl | (simp only [World.size_alloc, World.size_setCell]; done)) | (refine cell_under ?_ ?_; (first | omega | (simp only [World.size_alloc, World.size_setCell]; omega))) | refine cell_drew ?_)), keepCell b1 (by repeat' (first | with_reducible assumption | (refine cell_top ?_ rfl; first | with_reducible rfl | (simp only [World.size_alloc, World.size_setCell]; done)) | (refine cell_under ?_ ?_; (first | omega | (simp only [World.size_alloc, World.size_setCell]; omega))) | refine cell_drew ?_)), keepCell b1 (by repeat' (first | with_reducible assumption | (refine cell_top ?_ rfl; first | with_reducible rfl | (simp only [World.size_alloc, World.size_setCell]; done)) | (refine cell_under ?_ ?_; (first | omega | (simp only [World.size_alloc, World.size_setCell]; omega))) | refine cell_drew ?_)), keepCell b1 (by repeat' (first | with_reducible assumption | (refine cell_top ?_ rfl; first | with_reducible rfl | (simp only [World.size_alloc, World.size_setCell]; done)) | (refine cell_under ?_ ?_; (first | omega | (simp only [World.size_alloc, World.size_setCell]; omega))) | refine cell_drew ?_))⟩
  have R1 : RetAt w1 (w.heap.size + 1 + 1) := RetAt.call b1 (by repeat' (first | with_reducible assumption | (refine RetAt.top ?_; first | with_reducible rfl | (simp only [World.size_alloc, World.size_setCell]; done)) | refine RetAt.under ?_))
  have hz := b1.size
  simp only [World.size_alloc] at hz
  clear b1
  rcases Bool.eq_false_or_eq_true (sameB a b) with hok | hok
  · obtain ⟨qa, qb, hX, hY⟩ := sameB_iff.1 hok
    have hw1 := (boxB_iff.1 qa).2.1
    have hw2 := (boxB_iff.1 qb).2.1
    have HX := Lib.hid hX
    have HY := Lib.hid hY
    obtain ⟨hw10, hw11⟩ := hw1
    obtain ⟨hw20, hw21⟩ := hw2
    clear hX hY
    obtain ⟨a0, a1, a2, a3⟩ := A1
    obtain ⟨c0, c1, c2, c3⟩ := A2
    by_cases hle : a.Whole + b.Whole ≤ 1000
    · have hm : mixOk a b = true := by unfold mixOk; rw [hok, decide_eq_true hle]; rfl
      have hD : mixD a b = boxOf a.X a.Y (a.Whole + b.Whole) (mixN a b) := by unfold mixD; rw [hm]; simp
      rw [hok]
      have HD := Lib.hid hD
      have HM := Lib.hid hm
      clear hD hm
      obtain ⟨hx, hy⟩ := (boxB_iff.1 qa).1
      go_wp2_with fail
      refine (newBoxZ_any a.X a.Y hx hy (a.Whole + b.Whole) 70 #[.pointer (some ⟨w.heap.size, 0, none⟩), .pointer (some ⟨w.heap.size + 1, 0, none⟩)] (mixN a b) _ mix_func (fun wr hB i j p q hi hj hp hq => ?_)).mono ?_
      · exact mix_call wr _ _ va vb a b qa qb (ra.kept (Nat.le_refl _) (B1.trans (hB.mono B1.size))) (rb.kept (Nat.le_refl _) (B1.trans (hB.mono B1.size))) ((BoxAt.mk a0 a1 a2 a3).kept hB (by omega)) ((BoxAt.mk c0 c1 c2 c3).kept hB (by omega)) i j p q hi hj (by rw [← HX.out]; exact hi) (by rw [← HY.out]; exact hj) hp hq
      rintro e w2 ⟨ar, c, vs, rfl, o2, b2⟩
      have B2 := B1.trans (b2.mono B1.size)
      have hend := box_out (g := w.heap.size + 1 + 1) B2 (by omega) (by omega) o2 (.int .i64 a.X) (.int .i64 a.Y) (.int .i64 (a.Whole + b.Whole)) (.slice ar (a.X.toNat * a.Y.toNat) c)
      have R2 := R1.call b2
      clear o2 b2
      obtain ⟨r0, r1, r2, r3, rf⟩ := R2
      go_wp2
      refine bodyPost_ret (v := .tuple #[.agg #[.int .i64 a.X, .int .i64 a.Y, .int .i64 (a.Whole + b.Whole), .slice ar (a.X.toNat * a.Y.toNat) c], .bool true]) ?_ rfl ?_
      · simp [results, Try.results31, go_sem, r0, r1, r2, r3]
      · rw [HD.out, HM.out]
        exact ⟨ar, c, vs, by rw [boxOf_len]; rfl, by rw [boxOf_len]; exact hend.1, hend.2⟩
    · have hm : mixOk a b = false := by unfold mixOk; rw [hok, decide_eq_false hle]; rfl
      have hD : mixD a b = zeroD := by unfold mixD; rw [hm]; simp
      rw [hok]
      have HD := Lib.hid hD
      have HM := Lib.hid hm
      clear hD hm
      obtain ⟨r0, r1, r2, r3, rf⟩ := R1
      go_wp2
      refine bodyPost_ret (v := .tuple #[.agg #[.int .i64 0, .int .i64 0, .int .i64 0, .slice none 0 0], .bool false]) ?_ rfl ?_
      · simp [results, Try.results31, go_sem, r0, r1, r2, r3]
      · rw [HD.out, HM.out]; exact BoxRes.zero (by repeat' (first | with_reducible exact Below.refl _ _ | with_reducible assumption | with_reducible apply Below.alloc | with_reducible apply Below.setCell | with_reducible apply Below.drew | exact Nat.le_refl _ | omega | (simp only [World.size_alloc, World.size_setCell]; omega)))
  · have hm : mixOk a b = false := by unfold mixOk; rw [hok]; rfl
    have hD : mixD a b = zeroD := by unfold mixD; rw [hm]; simp
    rw [hok]
    have HD := Lib.hid hD
    have HM := Lib.hid hm
    clear hD hm
    obtain ⟨r0, r1, r2, r3, rf⟩ := R1
    go_wp2
    refine bodyPost_ret (v := .tuple #[.agg #[.int .i64 0, .int .i64 0, .int .i64 0, .slice none 0 0], .bool false]) ?_ rfl ?_
    · simp [results, Try.results31, go_sem, r0, r1, r2, r3]
    · rw [HD.out, HM.out]; exact BoxRes.zero (by repeat' (first | with_reducible exact Below.refl _ _ | with_reducible assumption | with_reducible apply Below.alloc | with_reducible apply Below.setCell | with_reducible apply Below.drew | exact Nat.le_refl _ | omega | (simp only [World.size_alloc, World.size_setCell]; omega)))
end Go.Proofs.Ytjedajfpohhojaa
