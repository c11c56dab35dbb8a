/- ScaleBox: contracts of the program's function. -/
import Derived.Test.YtjedajfpohhojaaFnPlayBox
set_option linter.unusedSimpArgs false
set_option linter.unusedVariables false
namespace Go.Proofs.Ytjedajfpohhojaa
open Go.RowKit

def scaleN (b : BoxD) (k : Int) : Num := fun i j p q => k * numB b i j p q
def scaleOk (b : BoxD) (k : Int) : Bool := boxB b && (inB k 1 1000 && decide (k * b.Whole ≤ 1000))
def scaleD (b : BoxD) (k : Int) : BoxD := if scaleOk b k then boxOf b.X b.Y (k * b.Whole) (scaleN b k) else zeroD
theorem scaleD_size (b : BoxD) (k : Int) : (scaleD b k).Rows.length + sumLen (scaleD b k).Rows ≤ 4194304 := by
  unfold scaleD
  split
  · rename_i h
    exact boxOf_size _ _ _ _ (boxB_sizes (and3_true h).1)
  · simp [zeroD, sumLen]
set_option maxHeartbeats 800000 in
theorem scale_call (w : World) (g4 g5 : Nat) (va : Value) (a : BoxD) (k : Int) (ha : boxB a = true) (hk : 1 ≤ k ∧ k ≤ 1000) (hkw : k * a.Whole ≤ 1000) (ra : RdII w va a.Rows)
    (ck : w.cell? ⟨g4, 0, none⟩ = some (.int .i64 k)) (ca : BoxAt w g5 a.X a.Y a.Whole va) (i j p q : Nat) (hi : (i : Int) < a.X) (hj : (j : Int) < a.Y) (hp : p < 2) (hq : q < 2) :
    Calls Try.prog 75 #[.int .i64 i, .int .i64 j, .int .i64 p, .int .i64 q, .pointer (some ⟨g4, 0, none⟩), .pointer (some ⟨g5, 0, none⟩)] w fun e w' => e = .returned (.int .i64 (scaleN a k i j p q)) ∧ Below w.heap.size w w' := by
  have na := numB_bound ha i j hi hj p q hp hq
  have h1 : k * numB a i j p q ≤ k * a.Whole := Int.mul_le_mul_of_nonneg_left na.2 (by omega)
  have h2 : 0 ≤ k * numB a i j p q := Int.mul_nonneg (by omega) na.1
  have hw := wrap_in (k * numB a i j p q) (by omega) (by omega)
  clear na h1 h2 hkw hk
  unfold scaleN
  go_enter Try.func75, Try.ntmps75
  go_wp2
  go_region_held3 (fun w' => (Below w.heap.size w w' ∧ w'.cell? ⟨g5, 0, none⟩ = some (.int .i64 a.X) ∧ w'.cell? ⟨g5, 1, none⟩ = some (.int .i64 a.Y) ∧ w'.cell? ⟨g5, 2, none⟩ = some (.int .i64 a.Whole) ∧ w'.cell? ⟨g5, 3, none⟩ = some va) ∧
      w'.cell? ⟨g4, 0, none⟩ = some (.int .i64 k))
    (first | exact ⟨held1 (Below.refl _ _).drew ca, ck⟩ | exact ⟨held1 hBn ca, keepCell hBn ck⟩)
    (first
      | (go_at_call 71; have hS := (And.left (by assumption : (Below w.heap.size w _ ∧ _) ∧ _)).1; (with_reducible refine (at_any va a ha i j p q hi hj hp hq _ (ra.kept (Nat.le_refl _) hS)).mono ?_); rintro e w1 ⟨rfl, b1⟩; have hBn : Below w.heap.size w w1 := hS.trans (b1.mono hS.size)))
  all_goals
    go_wp2
    go_ret
    exact ⟨rfl, hBn⟩
theorem scale_func (args : Array Value) (w : World) : (callFunc 75 args).run Try.prog w = .ok (.enter 75 args) w := by kernel_rfl

set_option maxHeartbeats 1600000 in
theorem implScaleBox_any (va : Value) (a : BoxD) (k : Int) (w : World) (ra : RdII w va a.Rows) :
    Calls Try.prog 33 #[.agg #[.int .i64 a.X, .int .i64 a.Y, .int .i64 a.Whole, va], .int .i64 k] w (BoxRes w (scaleD a k) (scaleOk a k)) := by
  go_enter Try.func33, Try.ntmps33
  go_wp2_with fail
  refine (implIsBox_any _ a _ (ra.kept (Nat.le_refl _) (by repeat' (first | with_reducible exact Below.refl _ _ | with_reducible assumption | with_reducible apply Below.alloc | with_reducible apply Below.setCell | with_reducible apply Below.drew | exact Nat.le_refl _ | omega | (simp only [World.size_alloc, World.size_setCell]; omega))))).mono ?_
  rintro e w1 ⟨rfl, b1⟩
  have B1 : Below w.heap.size w w1 := Below.trans (by repeat' (first | with_reducible exact Below.refl _ _ | with_reducible assumption | with_reducible apply Below.alloc | with_reducible apply Below.setCell | with_reducible apply Below.drew | exact Nat.le_refl _ | omega | (simp only [World.size_alloc, World.size_setCell]; omega))) (b1.mono (by first | exact Nat.le_refl _ | omega | (simp only [World.size_alloc, World.size_setCell]; omega)))
  have A1 : BoxAt w1 w.heap.size a.X a.Y a.Whole va := ⟨keepCell b1 (by repeat' (first | with_reducible assumption | (refine cell_top ?_ rfl; first | with_reducible rfl | (simp only [World.size_alloc, World.size_setCell]; done)) | (refine cell_under ?_ ?_; (first | omega | (simp only [World.size_alloc, World.size_setCell]; omega))) | refine cell_drew ?_)), keepCell b1 (by repeat' (first | with_reducible assumption | (refine cell_top ?_ rfl; first | with_reducible rfl | (simp only [World.size_alloc, World.size_setCell]; done)) | (refine cell_under ?_ ?_; (first | omega | (simp only [World.size_alloc, World.size_setCell]; omega))) | refine cell_drew ?_)), keepCell b1 (by repeat' (first | with_reducible assumption | (refine cell_top ?_ rfl; first | with_reducible rfl | (simp only [World.size_alloc, World.size_setCell]; done)) | (refine cell_under ?_ ?_; (first | omega | (simp only [World.size_alloc, World.size_setCell]; omega))) | refine cell_drew ?_)), keepCell b1 (by repeat' (first | with_reducible assumption | (refine cell_top ?_ rfl; first | with_reducible rfl | (simp only [World.size_alloc, World.size_setCell]; done)) | (refine cell_under ?_ ?_; (first | omega | (simp only [World.size_alloc, World.size_setCell]; omega))) | refine cell_drew ?_))⟩
  have ck : w1.cell? ⟨w.heap.size + 1, 0, none⟩ = some (.int .i64 k) := keepCell b1 (by repeat' (first | with_reducible assumption | (refine cell_top ?_ rfl; first | with_reducible rfl | (simp only [World.size_alloc, World.size_setCell]; done)) | (refine cell_under ?_ ?_; (first | omega | (simp only [World.size_alloc, World.size_setCell]; omega))) | refine cell_drew ?_))
  have R1 : RetAt w1 (w.heap.size + 1 + 1) := RetAt.call b1 (by repeat' (first | with_reducible assumption | (refine RetAt.top ?_; first | with_reducible rfl | (simp only [World.size_alloc, World.size_setCell]; done)) | refine RetAt.under ?_))
  have hz := b1.size
  simp only [World.size_alloc] at hz
  clear b1
  rcases Bool.eq_false_or_eq_true (boxB a) with hok | hok
  · rw [hok]
    have hw1 := (boxB_iff.1 hok).2.1
    obtain ⟨hx, hy⟩ := (boxB_iff.1 hok).1
    obtain ⟨hw10, hw11⟩ := hw1
    obtain ⟨a0, a1, a2, a3⟩ := A1
    rcases Bool.eq_false_or_eq_true (inB k 1 1000) with h1 | h1
    · obtain ⟨hk0, hk1⟩ := inB_iff.1 h1
      have hm0 : 0 ≤ k * a.Whole := Int.mul_nonneg (by omega) (by omega)
      have hm1 : k * a.Whole ≤ 1000000 := by have := Int.mul_le_mul hk1 hw11 (by omega) (by omega : (0 : Int) ≤ 1000); omega
      by_cases hle : k * a.Whole ≤ 1000
      · have hm : scaleOk a k = true := by unfold scaleOk; rw [hok, h1, decide_eq_true hle]; rfl
        have hD : scaleD a k = boxOf a.X a.Y (k * a.Whole) (scaleN a k) := by unfold scaleD; rw [hm]; simp
        have HD := Lib.hid hD
        have HM := Lib.hid hm
        clear hD hm
        go_wp2_with (go_at_call 56; refine (within_any _ _ _ _).mono ?_; rintro e w' ⟨rfl, rfl⟩)
        refine (newBoxZ_any a.X a.Y hx hy (k * a.Whole) 75 #[.pointer (some ⟨w.heap.size + 1, 0, none⟩), .pointer (some ⟨w.heap.size, 0, none⟩)] (scaleN a k) _ scale_func (fun wr hB i j p q hi hj hp hq => ?_)).mono ?_
        · exact scale_call wr _ _ va a k hok ⟨hk0, hk1⟩ hle (ra.kept (Nat.le_refl _) (B1.trans (hB.mono B1.size))) (keepCell hB ck) ((BoxAt.mk a0 a1 a2 a3).kept hB (by omega)) i j p q hi hj hp hq
        rintro e w2 ⟨ar, c, vs, rfl, o2, b2⟩
        have B2 := B1.trans (b2.mono B1.size)
        have hend := box_out (g := w.heap.size + 1 + 1) B2 (by omega) (by omega) o2 (.int .i64 a.X) (.int .i64 a.Y) (.int .i64 (k * a.Whole)) (.slice ar (a.X.toNat * a.Y.toNat) c)
        have R2 := R1.call b2
        clear o2 b2
        obtain ⟨r0, r1, r2, r3, rf⟩ := R2
        go_wp2
        refine bodyPost_ret (v := .tuple #[.agg #[.int .i64 a.X, .int .i64 a.Y, .int .i64 (k * a.Whole), .slice ar (a.X.toNat * a.Y.toNat) c], .bool true]) ?_ rfl ?_
        · simp [results, Try.results33, go_sem, r0, r1, r2, r3]
        · rw [HD.out, HM.out]
          exact ⟨ar, c, vs, by rw [boxOf_len]; rfl, by rw [boxOf_len]; exact hend.1, hend.2⟩
      · have hm : scaleOk a k = false := by unfold scaleOk; rw [hok, h1, decide_eq_false hle]; rfl
        have hD : scaleD a k = zeroD := by unfold scaleD; rw [hm]; simp
        have HD := Lib.hid hD
        have HM := Lib.hid hm
        clear hD hm
        obtain ⟨r0, r1, r2, r3, rf⟩ := R1
        go_wp2_with (go_at_call 56; refine (within_any _ _ _ _).mono ?_; rintro e w' ⟨rfl, rfl⟩)
        refine bodyPost_ret (v := .tuple #[.agg #[.int .i64 0, .int .i64 0, .int .i64 0, .slice none 0 0], .bool false]) ?_ rfl ?_
        · simp [results, Try.results33, go_sem, r0, r1, r2, r3]
        · rw [HD.out, HM.out]; exact BoxRes.zero (by repeat' (first | with_reducible exact Below.refl _ _ | with_reducible assumption | with_reducible apply Below.alloc | with_reducible apply Below.setCell | with_reducible apply Below.drew | exact Nat.le_refl _ | omega | (simp only [World.size_alloc, World.size_setCell]; omega)))
    · have hm : scaleOk a k = false := by unfold scaleOk; rw [hok, h1]; rfl
      have hD : scaleD a k = zeroD := by unfold scaleD; rw [hm]; simp
      have HD := Lib.hid hD
      have HM := Lib.hid hm
      clear hD hm
      obtain ⟨r0, r1, r2, r3, rf⟩ := R1
      go_wp2_with (go_at_call 56; refine (within_any _ _ _ _).mono ?_; rintro e w' ⟨rfl, rfl⟩)
      refine bodyPost_ret (v := .tuple #[.agg #[.int .i64 0, .int .i64 0, .int .i64 0, .slice none 0 0], .bool false]) ?_ rfl ?_
      · simp [results, Try.results33, go_sem, r0, r1, r2, r3]
      · rw [HD.out, HM.out]; exact BoxRes.zero (by repeat' (first | with_reducible exact Below.refl _ _ | with_reducible assumption | with_reducible apply Below.alloc | with_reducible apply Below.setCell | with_reducible apply Below.drew | exact Nat.le_refl _ | omega | (simp only [World.size_alloc, World.size_setCell]; omega)))
  · have hm : scaleOk a k = false := by unfold scaleOk; rw [hok]; rfl
    have hD : scaleD a k = zeroD := by unfold scaleD; rw [hm]; simp
    rw [hok]
    have HD := Lib.hid hD
    have HM := Lib.hid hm
    clear hD hm
    obtain ⟨r0, r1, r2, r3, rf⟩ := R1
    go_wp2
    refine bodyPost_ret (v := .tuple #[.agg #[.int .i64 0, .int .i64 0, .int .i64 0, .slice none 0 0], .bool false]) ?_ rfl ?_
    · simp [results, Try.results33, go_sem, r0, r1, r2, r3]
    · rw [HD.out, HM.out]; exact BoxRes.zero (by repeat' (first | with_reducible exact Below.refl _ _ | with_reducible assumption | with_reducible apply Below.alloc | with_reducible apply Below.setCell | with_reducible apply Below.drew | exact Nat.le_refl _ | omega | (simp only [World.size_alloc, World.size_setCell]; omega)))
end Go.Proofs.Ytjedajfpohhojaa
