/- AskAgain: contracts of the program's function. MixBoxes: contracts of the program's function. -/
import Derived.Test.YtnmnmnpeoiblhaaSuaq
import Derived.Test.YtnmnmnpeoiblhaaSuai
set_option linter.unusedSimpArgs false
set_option linter.unusedVariables false
namespace Go.Proofs.Ytnmnmnpeoiblhaa
open Go.RowKit

def againN (b : BoxD) (fs ss : List Int) : Num := fun i j p q => numB b (fs.getD i.toNat 0) (ss.getD j.toNat 0) p q
def againL (b : BoxD) (fs ss : List Int) : BoxD := boxOf fs.length ss.length b.Whole (againN b fs ss)
def againB (b : BoxD) (fs ss : List Int) : Bool := sizesB fs.length ss.length && (allIn fs 0 (b.X - 1) && allIn ss 0 (b.Y - 1))
set_option maxHeartbeats 1600000 in
theorem again_call (w : World) (g4 g5 g6 : Nat) (va v1 v2 : Value) (a : BoxD) (fs ss : List Int) (ha : boxB a = true) (hf : allIn fs 0 (a.X - 1) = true) (hs : allIn ss 0 (a.Y - 1) = true) (ra : RdII w va a.Rows) (r1 : RdI w v1 fs) (r2 : RdI w v2 ss)
    (ca : BoxAt w g4 a.X a.Y a.Whole va) (c5 : w.cell? ⟨g5, 0, none⟩ = some v1) (c6 : w.cell? ⟨g6, 0, none⟩ = some v2) (i j p q : Nat) (hi : i < fs.length) (hj : j < ss.length) (hp : p < 2) (hq : q < 2) :
    Calls Try.prog 109 #[.int .i64 i, .int .i64 j, .int .i64 p, .int .i64 q, .pointer (some ⟨g4, 0, none⟩), .pointer (some ⟨g5, 0, none⟩), .pointer (some ⟨g6, 0, none⟩)] w fun e w' => e = .returned (.int .i64 (againN a fs ss i j p q)) ∧ Below w.heap.size w w' := by
  obtain ⟨a1, b1, o1, k1, rfl, m1, e1, d1⟩ := r1
  obtain ⟨a2, b2, o2, k2, rfl, m2, e2, d2⟩ := r2
  unfold maxLen at m1 m2
  obtain rfl := e1 (by omega)
  obtain rfl := e2 (by omega)
  obtain ⟨f, hfi⟩ : ∃ f, fs[i]? = some f := ⟨_, List.getElem?_eq_getElem hi⟩
  obtain ⟨s, hsj⟩ : ∃ s, ss[j]? = some s := ⟨_, List.getElem?_eq_getElem hj⟩
  have hf01 := allIn_get hf hfi
  have hs01 := allIn_get hs hsj
  have cf := d1 i f hfi
  have cs := d2 j s hsj
  have e : againN a fs ss i j p q = numB a f s p q := by
    unfold againN
    simp only [Int.toNat_natCast, List.getD_eq_getElem?_getD, hfi, hsj, Option.getD_some]
  rw [e]
  obtain ⟨F, rfl⟩ := Int.eq_ofNat_of_zero_le hf01.1
  obtain ⟨S, rfl⟩ := Int.eq_ofNat_of_zero_le hs01.1
  have hF : (F : Int) < a.X := by omega
  have hS' : (S : Int) < a.Y := by omega
  have i0 : (0 : Int) ≤ (i : Int) := by omega
  have i1 : (i : Int) < (fs.length : Int) := by omega
  have j0 : (0 : Int) ≤ (j : Int) := by omega
  have j1 : (j : Int) < (ss.length : Int) := by omega
  clear e hfi hsj d1 d2 hf hs hf01 hs01 e1 e2 hi hj
  go_enter Try.func109, Try.ntmps109
  go_wp2
  go_region_held3 (fun w' => (Below w.heap.size w w' ∧ w'.cell? ⟨g4, 0, none⟩ = some (.int .i64 a.X) ∧ w'.cell? ⟨g4, 1, none⟩ = some (.int .i64 a.Y) ∧ w'.cell? ⟨g4, 2, none⟩ = some (.int .i64 a.Whole) ∧ w'.cell? ⟨g4, 3, none⟩ = some va) ∧
      w'.cell? ⟨g5, 0, none⟩ = some (.slice (some ⟨b1, o1, none⟩) fs.length k1) ∧ w'.cell? ⟨g6, 0, none⟩ = some (.slice (some ⟨b2, o2, none⟩) ss.length k2) ∧ w'.cell? ⟨b1, o1 + i, none⟩ = some (.int .i64 F) ∧ w'.cell? ⟨b2, o2 + j, none⟩ = some (.int .i64 S))
    (first | exact ⟨held1 (Below.refl _ _).drew ca, c5, c6, cf, cs⟩ | exact ⟨held1 hBn ca, keepCell hBn c5, keepCell hBn c6, keepCell hBn cf, keepCell hBn cs⟩)
    (first
      | (go_at_call 103; have hS := (And.left (by assumption : (Below w.heap.size w _ ∧ _) ∧ _)).1; (with_reducible refine (at_any va a ha F S p q hF hS' hp hq _ (ra.kept (Nat.le_refl _) hS)).mono ?_); rintro e w1 ⟨rfl, b1⟩; have hBn : Below w.heap.size w w1 := hS.trans (b1.mono hS.size)))
  all_goals
    go_wp2
    go_ret
    exact ⟨rfl, hBn⟩
theorem again_func (args : Array Value) (w : World) : (callFunc 109 args).run Try.prog w = .ok (.enter 109 args) w := by kernel_rfl

set_option maxHeartbeats 1600000 in
theorem again_any (va : Value) (a : BoxD) (v1 : Value) (fs : List Int) (v2 : Value) (ss : List Int) (ha : boxB a = true) (hq : againB a fs ss = true) (w : World) (ra : RdII w va a.Rows) (r1 : RdI w v1 fs) (r2 : RdI w v2 ss) :
    Calls Try.prog 63 #[.agg #[.int .i64 a.X, .int .i64 a.Y, .int .i64 a.Whole, va], v1, v2] w (BoxOnly w fs.length ss.length a.Whole (againL a fs ss).Rows) := by
  obtain ⟨q1, q2, q3⟩ := and3_true hq
  obtain ⟨hx, hy⟩ := sizesB_iff.1 q1
  have hr1 : ∀ w', Below w.heap.size w w' → RdI w' v1 fs := fun w' hb => r1.kept (Nat.le_refl _) hb
  have hr2 : ∀ w', Below w.heap.size w w' → RdI w' v2 ss := fun w' hb => r2.kept (Nat.le_refl _) hb
  obtain ⟨a1, b1, o1, k1, rfl, m1, _, _⟩ := r1
  obtain ⟨a2, b2, o2, k2, rfl, m2, _, _⟩ := r2
  clear hq q1
  go_enter Try.func63, Try.ntmps63
  go_wp2_with fail
  refine (newBoxZ_any fs.length ss.length hx hy a.Whole 109 #[.pointer (some ⟨w.heap.size, 0, none⟩), .pointer (some ⟨w.heap.size + 1, 0, none⟩), .pointer (some ⟨w.heap.size + 1 + 1, 0, none⟩)] (againN a fs ss) _ again_func (fun wr hB i j p q hi hj hp hq => ?_)).mono ?_
  · have BB : Below w.heap.size w wr := Below.trans (by repeat' (first | with_reducible exact Below.refl _ _ | with_reducible assumption | with_reducible apply Below.alloc | with_reducible apply Below.setCell | with_reducible apply Below.drew | exact Nat.le_refl _ | omega | (simp only [World.size_alloc, World.size_setCell]; omega))) (hB.mono (by first | exact Nat.le_refl _ | omega | (simp only [World.size_alloc, World.size_setCell]; omega)))
    exact again_call wr _ _ _ va _ _ a fs ss ha q2 q3 (ra.kept (Nat.le_refl _) BB) (hr1 _ BB) (hr2 _ BB) ⟨keepCell hB (by repeat' (first | with_reducible assumption | (refine cell_top ?_ rfl; first | with_reducible rfl | (simp only [World.size_alloc, World.size_setCell]; done)) | (refine cell_under ?_ ?_; (first | omega | (simp only [World.size_alloc, World.size_setCell]; omega))) | refine cell_drew ?_)), keepCell hB (by repeat' (first | with_reducible assumption | (refine cell_top ?_ rfl; first | with_reducible rfl | (simp only [World.size_alloc, World.size_setCell]; done)) | (refine cell_under ?_ ?_; (first | omega | (simp only [World.size_alloc, World.size_setCell]; omega))) | refine cell_drew ?_)), keepCell hB (by repeat' (first | with_reducible assumption | (refine cell_top ?_ rfl; first | with_reducible rfl | (simp only [World.size_alloc, World.size_setCell]; done)) | (refine cell_under ?_ ?_; (first | omega | (simp only [World.size_alloc, World.size_setCell]; omega))) | refine cell_drew ?_)), keepCell hB (by repeat' (first | with_reducible assumption | (refine cell_top ?_ rfl; first | with_reducible rfl | (simp only [World.size_alloc, World.size_setCell]; done)) | (refine cell_under ?_ ?_; (first | omega | (simp only [World.size_alloc, World.size_setCell]; omega))) | refine cell_drew ?_))⟩ (keepCell hB (by repeat' (first | with_reducible assumption | (refine cell_top ?_ rfl; first | with_reducible rfl | (simp only [World.size_alloc, World.size_setCell]; done)) | (refine cell_under ?_ ?_; (first | omega | (simp only [World.size_alloc, World.size_setCell]; omega))) | refine cell_drew ?_))) (keepCell hB (by repeat' (first | with_reducible assumption | (refine cell_top ?_ rfl; first | with_reducible rfl | (simp only [World.size_alloc, World.size_setCell]; done)) | (refine cell_under ?_ ?_; (first | omega | (simp only [World.size_alloc, World.size_setCell]; omega))) | refine cell_drew ?_))) i j p q (by omega) (by omega) hp hq
  rintro e w1 ⟨ar, c, vs, rfl, o1, b1⟩
  have B1 : Below w.heap.size w w1 := Below.trans (by repeat' (first | with_reducible exact Below.refl _ _ | with_reducible assumption | with_reducible apply Below.alloc | with_reducible apply Below.setCell | with_reducible apply Below.drew | exact Nat.le_refl _ | omega | (simp only [World.size_alloc, World.size_setCell]; omega))) (b1.mono (by first | exact Nat.le_refl _ | omega | (simp only [World.size_alloc, World.size_setCell]; omega)))
  have R1 : RetAt w1 (w.heap.size + 1 + 1 + 1) := RetAt.call b1 (by repeat' (first | with_reducible assumption | (refine RetAt.top ?_; first | with_reducible rfl | (simp only [World.size_alloc, World.size_setCell]; done)) | refine RetAt.under ?_))
  have hz := b1.size
  simp only [World.size_alloc] at hz o1
  clear b1
  have hend := box_out (g := w.heap.size + 1 + 1 + 1) B1 (by omega) (by omega) o1 (.int .i64 fs.length) (.int .i64 ss.length) (.int .i64 a.Whole) (.slice ar ((fs.length : Int).toNat * (ss.length : Int).toNat) c)
  obtain ⟨r0, r1, r2, r3, rf⟩ := R1
  clear o1
  go_wp2
  refine bodyPost_ret (v := .agg #[.int .i64 fs.length, .int .i64 ss.length, .int .i64 a.Whole, .slice ar ((fs.length : Int).toNat * (ss.length : Int).toNat) c]) ?_ rfl ?_
  · simp [results, Try.results63, go_sem, r0, r1, r2, r3]
  · exact ⟨ar, c, vs, rfl, hend.1, hend.2⟩
def askOk (b : BoxD) (fs ss : List Int) : Bool := boxB b && againB b fs ss
def askD (b : BoxD) (fs ss : List Int) : BoxD := if askOk b fs ss then againL b fs ss else zeroD
theorem askD_size (b : BoxD) (fs ss : List Int) : (askD b fs ss).Rows.length + sumLen (askD b fs ss).Rows ≤ 4194304 := by
  unfold askD
  split
  · rename_i h
    unfold askOk at h
    rw [Bool.and_eq_true] at h
    exact boxOf_size _ _ _ _ (and3_true h.2).1
  · simp [zeroD, sumLen]
set_option maxHeartbeats 1600000 in
theorem implAskAgain_any (va : Value) (a : BoxD) (v1 : Value) (fs : List Int) (v2 : Value) (ss : List Int) (w : World) (ra : RdII w va a.Rows) (r1 : RdI w v1 fs) (r2 : RdI w v2 ss) :
    Calls Try.prog 14 #[.agg #[.int .i64 a.X, .int .i64 a.Y, .int .i64 a.Whole, va], v1, v2] w (BoxRes w (askD a fs ss) (askOk a fs ss)) := by
  have hr1 : ∀ w', Below w.heap.size w w' → RdI w' v1 fs := fun w' hb => r1.kept (Nat.le_refl _) hb
  have hr2 : ∀ w', Below w.heap.size w w' → RdI w' v2 ss := fun w' hb => r2.kept (Nat.le_refl _) hb
  obtain ⟨a1, b1, o1, k1, rfl, m1, _, _⟩ := r1
  obtain ⟨a2, b2, o2, k2, rfl, m2, _, _⟩ := r2
  unfold maxLen at m1 m2
  go_enter Try.func14, Try.ntmps14
  go_wp2_with fail
  refine (implIsBox_any _ a _ (ra.kept (Nat.le_refl _) (by repeat' (first | with_reducible exact Below.refl _ _ | with_reducible assumption | with_reducible apply Below.alloc | with_reducible apply Below.setCell | with_reducible apply Below.drew | exact Nat.le_refl _ | omega | (simp only [World.size_alloc, World.size_setCell]; omega))))).mono ?_
  rintro e w1 ⟨rfl, b1⟩
  have B1 : Below w.heap.size w w1 := Below.trans (by repeat' (first | with_reducible exact Below.refl _ _ | with_reducible assumption | with_reducible apply Below.alloc | with_reducible apply Below.setCell | with_reducible apply Below.drew | exact Nat.le_refl _ | omega | (simp only [World.size_alloc, World.size_setCell]; omega))) (b1.mono (by first | exact Nat.le_refl _ | omega | (simp only [World.size_alloc, World.size_setCell]; omega)))
  have A1 : BoxAt w1 w.heap.size a.X a.Y a.Whole va := ⟨keepCell b1 (by repeat' (first | with_reducible assumption | (refine cell_top ?_ rfl; first | with_reducible rfl | (simp only [World.size_alloc, World.size_setCell]; done)) | (refine cell_under ?_ ?_; (first | omega | (simp only [World.size_alloc, World.size_setCell]; omega))) | refine cell_drew ?_)), keepCell b1 (by repeat' (first | with_reducible assumption | (refine cell_top ?_ rfl; first | with_reducible rfl | (simp only [World.size_alloc, World.size_setCell]; done)) | (refine cell_under ?_ ?_; (first | omega | (simp only [World.size_alloc, World.size_setCell]; omega))) | refine cell_drew ?_)), keepCell b1 (by repeat' (first | with_reducible assumption | (refine cell_top ?_ rfl; first | with_reducible rfl | (simp only [World.size_alloc, World.size_setCell]; done)) | (refine cell_under ?_ ?_; (first | omega | (simp only [World.size_alloc, World.size_setCell]; omega))) | refine cell_drew ?_)), keepCell b1 (by repeat' (first | with_reducible assumption | (refine cell_top ?_ rfl; first | with_reducible rfl | (simp only [World.size_alloc, World.size_setCell]; done)) | (refine cell_under ?_ ?_; (first | omega | (simp only [World.size_alloc, World.size_setCell]; omega))) | refine cell_drew ?_))⟩
  have R1 : RetAt w1 (w.heap.size + 1) := RetAt.call b1 (by repeat' (first | with_reducible assumption | (refine RetAt.top ?_; first | with_reducible rfl | (simp only [World.size_alloc, World.size_setCell]; done)) | refine RetAt.under ?_))
  have hz := b1.size
  simp only [World.size_alloc] at hz
  clear b1
  have hr1' := hr1 _ B1
  have hr2' := hr2 _ B1
  have H1 := Lib.hid hr1
  have H2 := Lib.hid hr2
  clear hr1 hr2
  rcases Bool.eq_false_or_eq_true (boxB a) with hok | hok
  · rw [hok]
    obtain ⟨hx, hy⟩ := (boxB_iff.1 hok).1
    obtain ⟨a0, a1', a2', a3⟩ := A1
    rcases Bool.eq_false_or_eq_true (againB a fs ss) with h1 | h1
    · have hm : askOk a fs ss = true := by unfold askOk; rw [hok, h1]; rfl
      have hD : askD a fs ss = againL a fs ss := by unfold askD; rw [hm]; simp
      have HD := Lib.hid hD
      have HM := Lib.hid hm
      obtain ⟨q1, q2, q3⟩ := and3_true h1
      have Hq := Lib.hid h1
      clear hD hm h1
      go_wp2_with (first | (go_at_call 61; refine (areQuestions_any _ _ _).mono ?_; rintro e w' ⟨rfl, rfl⟩) | (go_at_call 62; (with_reducible refine (allWithin_any _ fs _ _ _ hr1').mono ?_); rintro e w' ⟨rfl, rfl⟩) | (go_at_call 62; (with_reducible refine (allWithin_any _ ss _ _ _ hr2').mono ?_); rintro e w' ⟨rfl, rfl⟩))
      refine (again_any _ a _ fs _ ss hok Hq.out _ (ra.kept (Nat.le_refl _) B1) (H1.out _ B1) (H2.out _ B1)).mono ?_
      rintro e w2 ⟨ar, c, vs, rfl, o2, b2⟩
      have B2 := B1.trans (b2.mono B1.size)
      have hend := box_out (g := w.heap.size + 1) B2 (by omega) (by omega) o2 (.int .i64 fs.length) (.int .i64 ss.length) (.int .i64 a.Whole) (.slice ar ((fs.length : Int).toNat * (ss.length : Int).toNat) c)
      have R2 := R1.call b2
      clear o2 b2
      obtain ⟨r0, r1, r2, r3, rf⟩ := R2
      go_wp2
      refine bodyPost_ret (v := .tuple #[.agg #[.int .i64 fs.length, .int .i64 ss.length, .int .i64 a.Whole, .slice ar ((fs.length : Int).toNat * (ss.length : Int).toNat) c], .bool true]) ?_ rfl ?_
      · simp [results, Try.results14, go_sem, r0, r1, r2, r3]
      · rw [HD.out, HM.out]
        have hl : (againL a fs ss).Rows.length = (fs.length : Int).toNat * (ss.length : Int).toNat := boxOf_len _ _ _ _
        exact ⟨ar, c, vs, by rw [hl]; rfl, by rw [hl]; exact hend.1, hend.2⟩
    · have hm : askOk a fs ss = false := by unfold askOk; rw [hok, h1]; rfl
      have hD : askD a fs ss = zeroD := by unfold askD; rw [hm]; simp
      have HD := Lib.hid hD
      have HM := Lib.hid hm
      obtain ⟨r0, r1, r2, r3, rf⟩ := R1
      clear hD hm
      unfold againB at h1
      rcases and3_false h1 with q1 | ⟨q1, q2⟩ | ⟨q1, q2, q3⟩ <;> clear h1
      all_goals
        go_wp2_with (first | (go_at_call 61; refine (areQuestions_any _ _ _).mono ?_; rintro e w' ⟨rfl, rfl⟩) | (go_at_call 62; (with_reducible refine (allWithin_any _ fs _ _ _ hr1').mono ?_); rintro e w' ⟨rfl, rfl⟩) | (go_at_call 62; (with_reducible refine (allWithin_any _ ss _ _ _ hr2').mono ?_); rintro e w' ⟨rfl, rfl⟩))
        refine bodyPost_ret (v := .tuple #[.agg #[.int .i64 0, .int .i64 0, .int .i64 0, .slice none 0 0], .bool false]) ?_ rfl ?_
        · simp [results, Try.results14, go_sem, r0, r1, r2, r3]
        · rw [HD.out, HM.out]; exact BoxRes.zero (by repeat' (first | with_reducible exact Below.refl _ _ | with_reducible assumption | with_reducible apply Below.alloc | with_reducible apply Below.setCell | with_reducible apply Below.drew | exact Nat.le_refl _ | omega | (simp only [World.size_alloc, World.size_setCell]; omega)))
  · have hm : askOk a fs ss = false := by unfold askOk; rw [hok]; rfl
    have hD : askD a fs ss = zeroD := by unfold askD; rw [hm]; simp
    rw [hok]
    have HD := Lib.hid hD
    have HM := Lib.hid hm
    clear hD hm
    obtain ⟨r0, r1, r2, r3, rf⟩ := R1
    go_wp2
    refine bodyPost_ret (v := .tuple #[.agg #[.int .i64 0, .int .i64 0, .int .i64 0, .slice none 0 0], .bool false]) ?_ rfl ?_
    · simp [results, Try.results14, go_sem, r0, r1, r2, r3]
    · rw [HD.out, HM.out]; exact BoxRes.zero (by repeat' (first | with_reducible exact Below.refl _ _ | with_reducible assumption | with_reducible apply Below.alloc | with_reducible apply Below.setCell | with_reducible apply Below.drew | exact Nat.le_refl _ | omega | (simp only [World.size_alloc, World.size_setCell]; omega)))
end Go.Proofs.Ytnmnmnpeoiblhaa
set_option linter.unusedSimpArgs false
set_option linter.unusedVariables false
namespace Go.Proofs.Ytnmnmnpeoiblhaa
open Go.RowKit

def mixN (a b : BoxD) : Num := fun i j p q => numB a i j p q + numB b i j p q
def mixOk (a b : BoxD) : Bool := sameB a b && decide (a.Whole + b.Whole ≤ 1000)
def mixD (a b : BoxD) : BoxD := if mixOk a b then boxOf a.X a.Y (a.Whole + b.Whole) (mixN a b) else zeroD
theorem mixD_size (a b : BoxD) : (mixD a b).Rows.length + sumLen (mixD a b).Rows ≤ 4194304 := by
  unfold mixD
  split
  · rename_i h
    unfold mixOk at h
    rw [Bool.and_eq_true] at h
    exact boxOf_size _ _ _ _ (boxB_sizes (sameB_iff.1 h.1).1)
  · simp [zeroD, sumLen]
end Go.Proofs.Ytnmnmnpeoiblhaa
