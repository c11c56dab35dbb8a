/- IsQuiet and FirstLoud: contracts of the program's and the reference's functions. Boxes by other names: asking again keeps what is quiet. No program in sight. -/
import Derived.Test.YtnmnmnpeoiblhaaNbav
import Derived.Test.YtnmnmnpeoiblhaaNbat
set_option linter.unusedSimpArgs false
set_option linter.unusedVariables false
namespace Go.Proofs.Ytnmnmnpeoiblhaa
open Go.RowKit

def quietB (b : BoxD) : Bool := (loudF b).isNone
theorem loudS_neg (b : BoxD) : decide ((loudS b).1 < 0) = quietB b := by
  unfold loudS quietB
  cases loudF b with
  | none => rfl
  | some p => simp <;> omega
theorem loudI_quiet (b : BoxD) : (loudI b).2.2 = !quietB b := by
  unfold loudI quietB
  cases loudF b <;> rfl

def isQuietD (b : BoxD) : Bool := boxB b && quietB b
set_option maxHeartbeats 800000 in
theorem isQuiet_any (v : Value) (b : BoxD) (w : World) (h : RdII w v b.Rows) :
    Calls Try.prog 81 #[.agg #[.int .i64 b.X, .int .i64 b.Y, .int .i64 b.Whole, v]] w fun e w' => e = .returned (.bool (boxB b && quietB b)) ∧ Below w.heap.size w w' := by
  go_enter Try.func81, Try.ntmps81
  go_wp2_with fail
  refine (implIsBox_any v b _ (h.kept (Nat.le_refl _) (by repeat' (first | with_reducible exact Below.refl _ _ | with_reducible assumption | with_reducible apply Below.alloc | with_reducible apply Below.setCell | with_reducible apply Below.drew | exact Nat.le_refl _ | omega | (simp only [World.size_alloc, World.size_setCell]; omega))))).mono ?_
  rintro e w1 ⟨rfl, b1⟩
  have B1 : Below w.heap.size w w1 := Below.trans (by repeat' (first | with_reducible exact Below.refl _ _ | with_reducible assumption | with_reducible apply Below.alloc | with_reducible apply Below.setCell | with_reducible apply Below.drew | exact Nat.le_refl _ | omega | (simp only [World.size_alloc, World.size_setCell]; omega))) (b1.mono (by first | exact Nat.le_refl _ | omega | (simp only [World.size_alloc, World.size_setCell]; omega)))
  have A1 : BoxAt w1 w.heap.size b.X b.Y b.Whole v := ⟨keepCell b1 (by repeat' (first | with_reducible assumption | (refine cell_top ?_ rfl; first | with_reducible rfl | (simp only [World.size_alloc, World.size_setCell]; done)) | (refine cell_under ?_ ?_; (first | omega | (simp only [World.size_alloc, World.size_setCell]; omega))) | refine cell_drew ?_)), keepCell b1 (by repeat' (first | with_reducible assumption | (refine cell_top ?_ rfl; first | with_reducible rfl | (simp only [World.size_alloc, World.size_setCell]; done)) | (refine cell_under ?_ ?_; (first | omega | (simp only [World.size_alloc, World.size_setCell]; omega))) | refine cell_drew ?_)), keepCell b1 (by repeat' (first | with_reducible assumption | (refine cell_top ?_ rfl; first | with_reducible rfl | (simp only [World.size_alloc, World.size_setCell]; done)) | (refine cell_under ?_ ?_; (first | omega | (simp only [World.size_alloc, World.size_setCell]; omega))) | refine cell_drew ?_)), keepCell b1 (by repeat' (first | with_reducible assumption | (refine cell_top ?_ rfl; first | with_reducible rfl | (simp only [World.size_alloc, World.size_setCell]; done)) | (refine cell_under ?_ ?_; (first | omega | (simp only [World.size_alloc, World.size_setCell]; omega))) | refine cell_drew ?_))⟩
  clear b1
  rcases Bool.eq_false_or_eq_true (boxB b) with hok | hok
  · obtain ⟨a0, a1, a2, a3⟩ := A1
    have HM := Lib.hid hok
    rw [hok]
    clear hok
    go_wp2_with fail
    refine (loud_any v b HM.out _ (h.kept (Nat.le_refl _) B1)).mono ?_
    rintro e w2 ⟨rfl, b2⟩
    have B2 := B1.trans (b2.mono B1.size)
    have hq := loudI_quiet b
    have HQ := Lib.hid hq
    generalize (loudI b).2.2 = q3 at *
    clear hq
    go_wp2
    go_ret
    exact ⟨ret_bool (by rw [HQ.out, HM.out]; simp), B2⟩
  · have HM := Lib.hid hok
    rw [hok]
    clear hok
    go_wp2
    go_ret
    exact ⟨ret_bool (by rw [HM.out]; rfl), B1⟩
set_option maxHeartbeats 800000 in
theorem implIsQuiet_any (v : Value) (b : BoxD) (w : World) (h : RdII w v b.Rows) :
    Calls Try.prog 26 #[.agg #[.int .i64 b.X, .int .i64 b.Y, .int .i64 b.Whole, v]] w fun e w' => e = .returned (.tuple #[.bool (isQuietD b), .bool (boxB b)]) ∧ Below w.heap.size w w' := by
  go_enter Try.func26, Try.ntmps26
  go_wp2_with fail
  refine (implIsBox_any v b _ (h.kept (Nat.le_refl _) (by repeat' (first | with_reducible exact Below.refl _ _ | with_reducible assumption | with_reducible apply Below.alloc | with_reducible apply Below.setCell | with_reducible apply Below.drew | exact Nat.le_refl _ | omega | (simp only [World.size_alloc, World.size_setCell]; omega))))).mono ?_
  rintro e w1 ⟨rfl, b1⟩
  have B1 : Below w.heap.size w w1 := Below.trans (by repeat' (first | with_reducible exact Below.refl _ _ | with_reducible assumption | with_reducible apply Below.alloc | with_reducible apply Below.setCell | with_reducible apply Below.drew | exact Nat.le_refl _ | omega | (simp only [World.size_alloc, World.size_setCell]; omega))) (b1.mono (by first | exact Nat.le_refl _ | omega | (simp only [World.size_alloc, World.size_setCell]; omega)))
  have A1 : BoxAt w1 w.heap.size b.X b.Y b.Whole v := ⟨keepCell b1 (by repeat' (first | with_reducible assumption | (refine cell_top ?_ rfl; first | with_reducible rfl | (simp only [World.size_alloc, World.size_setCell]; done)) | (refine cell_under ?_ ?_; (first | omega | (simp only [World.size_alloc, World.size_setCell]; omega))) | refine cell_drew ?_)), keepCell b1 (by repeat' (first | with_reducible assumption | (refine cell_top ?_ rfl; first | with_reducible rfl | (simp only [World.size_alloc, World.size_setCell]; done)) | (refine cell_under ?_ ?_; (first | omega | (simp only [World.size_alloc, World.size_setCell]; omega))) | refine cell_drew ?_)), keepCell b1 (by repeat' (first | with_reducible assumption | (refine cell_top ?_ rfl; first | with_reducible rfl | (simp only [World.size_alloc, World.size_setCell]; done)) | (refine cell_under ?_ ?_; (first | omega | (simp only [World.size_alloc, World.size_setCell]; omega))) | refine cell_drew ?_)), keepCell b1 (by repeat' (first | with_reducible assumption | (refine cell_top ?_ rfl; first | with_reducible rfl | (simp only [World.size_alloc, World.size_setCell]; done)) | (refine cell_under ?_ ?_; (first | omega | (simp only [World.size_alloc, World.size_setCell]; omega))) | refine cell_drew ?_))⟩
  clear b1
  rcases Bool.eq_false_or_eq_true (boxB b) with hok | hok
  · obtain ⟨a0, a1, a2, a3⟩ := A1
    have HM := Lib.hid hok
    rw [hok]
    clear hok
    go_wp2_with fail
    refine (isQuiet_any v b _ (h.kept (Nat.le_refl _) B1)).mono ?_
    rintro e w2 ⟨rfl, b2⟩
    have B2 := B1.trans (b2.mono B1.size)
    rw [HM.out]
    go_wp2
    refine bodyPost_ret (v := .tuple #[.bool (true && quietB b), .bool true]) (by simp [results, Try.results26, go_sem]) rfl ⟨by unfold isQuietD; rw [HM.out], B2⟩
  · have HM := Lib.hid hok
    rw [hok]
    clear hok
    go_wp2
    refine bodyPost_ret (v := .tuple #[.bool false, .bool false]) (by simp [results, Try.results26, go_sem]) rfl ⟨by unfold isQuietD; rw [HM.out]; rfl, B1⟩
def firstD (b : BoxD) : Int × Int × Bool := if boxB b then loudI b else (0, 0, false)
end Go.Proofs.Ytnmnmnpeoiblhaa
set_option linter.unusedSimpArgs false
set_option linter.unusedVariables false
namespace Go.Proofs.Ytnmnmnpeoiblhaa

theorem quiet_iff {b : BoxD} : quietB b = true ↔ (∀ x y : Nat, (x : Int) < b.X → (y : Int) < b.Y → oneB b 0 x y = oneB b 0 x 0) ∧ (∀ x y : Nat, (x : Int) < b.X → (y : Int) < b.Y → oneB b 1 x y = oneB b 1 0 y) := by
  unfold quietB
  constructor
  · intro h
    have hn : loudF b = none := by cases e : loudF b <;> simp_all
    refine ⟨fun x y hx hy => ?_, fun x y hx hy => ?_⟩
    · by_cases e : oneB b 0 x y = oneB b 0 x 0
      · exact e
      · exfalso
        have ht := loudX_true hy e
        unfold loudF at hn
        cases hf : (List.range b.X.toNat).find? (loudX b) with
        | some z => rw [hf] at hn; cases hn
        | none =>
          have := List.find?_eq_none.1 hf x (List.mem_range.2 (by omega))
          exact this ht
    · by_cases e : oneB b 1 x y = oneB b 1 0 y
      · exact e
      · exfalso
        have ht := loudY_true hx e
        unfold loudF at hn
        cases hf : (List.range b.X.toNat).find? (loudX b) with
        | some z => rw [hf] at hn; cases hn
        | none =>
          rw [hf] at hn
          simp only [Option.map_eq_none_iff] at hn
          have := List.find?_eq_none.1 hn y (List.mem_range.2 (by omega))
          exact this ht
  · rintro ⟨h1, h2⟩
    have e1 : (List.range b.X.toNat).find? (loudX b) = none := by
      refine List.find?_eq_none.2 fun x hx => ?_
      have hx' := List.mem_range.1 hx
      unfold loudX
      simp only [List.any_eq_true, not_exists, not_and, List.mem_range, decide_eq_true_eq, Classical.not_not]
      exact fun y hy => h1 x y (by omega) (by omega)
    have e2 : (List.range b.Y.toNat).find? (loudY b) = none := by
      refine List.find?_eq_none.2 fun y hy => ?_
      have hy' := List.mem_range.1 hy
      unfold loudY
      simp only [List.any_eq_true, not_exists, not_and, List.mem_range, decide_eq_true_eq, Classical.not_not]
      exact fun x hx => h2 x y (by omega) (by omega)
    unfold loudF
    rw [e1, e2]
    rfl
theorem again_quiet {b : BoxD} {fs ss : List Int} (hb : boxB b = true) (hq : againB b fs ss = true) (h : quietB b = true) : quietB (againL b fs ss) = true := by
  obtain ⟨h1, h2⟩ := quiet_iff.1 h
  obtain ⟨hx, hy⟩ := (againB_iff.1 hq).1
  have hX : (againL b fs ss).X = fs.length := rfl
  have hY : (againL b fs ss).Y = ss.length := rfl
  have key : ∀ (pl i j i' j' : Nat), (i : Int) < fs.length → (j : Int) < ss.length → fs.getD i 0 = (i' : Int) → ss.getD j 0 = (j' : Int) → oneB (againL b fs ss) pl i j = oneB b pl i' j' := by
    intro pl i j i' j' hi hj e1 e2
    have n10 := numB_again (b := b) i j 1 0 i' j' hi hj (by omega) (by omega) e1 e2
    have n01 := numB_again (b := b) i j 0 1 i' j' hi hj (by omega) (by omega) e1 e2
    have n11 := numB_again (b := b) i j 1 1 i' j' hi hj (by omega) (by omega) e1 e2
    rw [show ((0 : Nat) : Int) = 0 from rfl] at *
    rw [show ((1 : Nat) : Int) = 1 from rfl] at *
    unfold oneB
    rw [n10, n01, n11]
  refine quiet_iff.2 ⟨fun x y hxx hyy => ?_, fun x y hxx hyy => ?_⟩
  · rw [hX] at hxx
    rw [hY] at hyy
    obtain ⟨i, j, e1, e2, l1, l2⟩ := again_at hq x y hxx hyy
    obtain ⟨i0, j0, d1, d2, k1, k2⟩ := again_at hq x 0 hxx (by omega)
    have hii : i = i0 := by rw [e1] at d1; omega
    subst hii
    rw [key 0 x y i j hxx hyy e1 e2, key 0 x 0 i j0 hxx (by omega) e1 d2, h1 i j l1 l2, h1 i j0 l1 k2]
  · rw [hX] at hxx
    rw [hY] at hyy
    obtain ⟨i, j, e1, e2, l1, l2⟩ := again_at hq x y hxx hyy
    obtain ⟨i0, j0, d1, d2, k1, k2⟩ := again_at hq 0 y (by omega) hyy
    have hjj : j = j0 := by rw [e2] at d2; omega
    subst hjj
    rw [key 1 x y i j hxx hyy e1 e2, key 1 0 y i0 j (by omega) hyy d1 e2, h2 i j l1 l2, h2 i0 j k1 l2]
end Go.Proofs.Ytnmnmnpeoiblhaa
