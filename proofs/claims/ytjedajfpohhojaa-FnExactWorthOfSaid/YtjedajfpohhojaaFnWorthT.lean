/- WorthOf: contracts of the program's and the reference's functions. -/
import Derived.Test.YtjedajfpohhojaaFnWorth
set_option linter.unusedSimpArgs false
set_option linter.unusedVariables false
namespace Go.Proofs.Ytjedajfpohhojaa
open Go.RowKit

def worthOk (f : List (List Int)) (b : BoxD) : Bool := boxB b && funcB b.X b.Y f
def worthD (f : List (List Int)) (b : BoxD) : Int := if worthOk f b then worthR f b.Rows else 0
set_option maxHeartbeats 1600000 in
theorem specWorthOf_any (vf : Value) (f : List (List Int)) (vb : Value) (b : BoxD) (w : World) (rf : RdII w vf f) (rb : RdII w vb b.Rows) :
    Calls Try.prog 49 #[vf, .agg #[.int .i64 b.X, .int .i64 b.Y, .int .i64 b.Whole, vb]] w fun e w' => e = .returned (.tuple #[.int .i64 (worthD f b), .bool (worthOk f b)]) ∧ Below w.heap.size w w' := by
  obtain ⟨af, cf, rfl⟩ : ∃ a c, vf = .slice a f.length c := by obtain ⟨a, _, _, c, hv, _⟩ := rf; exact ⟨a, c, hv⟩
  go_enter Try.func49, Try.ntmps49
  go_wp2_with fail
  refine (l2Box_any vb b _ (rb.kept (Nat.le_refl _) (by repeat' (first | with_reducible exact Below.refl _ _ | with_reducible assumption | with_reducible apply Below.alloc | with_reducible apply Below.setCell | with_reducible apply Below.drew | exact Nat.le_refl _ | omega | (simp only [World.size_alloc, World.size_setCell]; omega))))).mono ?_
  rintro e w1 ⟨rfl, b1⟩
  have B1 : Below w.heap.size w w1 := Below.trans (by repeat' (first | with_reducible exact Below.refl _ _ | with_reducible assumption | with_reducible apply Below.alloc | with_reducible apply Below.setCell | with_reducible apply Below.drew | exact Nat.le_refl _ | omega | (simp only [World.size_alloc, World.size_setCell]; omega))) (b1.mono (by first | exact Nat.le_refl _ | omega | (simp only [World.size_alloc, World.size_setCell]; omega)))
  have A1 : BoxAt w1 w.heap.size b.X b.Y b.Whole vb := ⟨keepCell b1 (by repeat' (first | with_reducible assumption | (refine cell_top ?_ rfl; first | with_reducible rfl | (simp only [World.size_alloc, World.size_setCell]; done)) | (refine cell_under ?_ ?_; (first | omega | (simp only [World.size_alloc, World.size_setCell]; omega))) | refine cell_drew ?_)), keepCell b1 (by repeat' (first | with_reducible assumption | (refine cell_top ?_ rfl; first | with_reducible rfl | (simp only [World.size_alloc, World.size_setCell]; done)) | (refine cell_under ?_ ?_; (first | omega | (simp only [World.size_alloc, World.size_setCell]; omega))) | refine cell_drew ?_)), keepCell b1 (by repeat' (first | with_reducible assumption | (refine cell_top ?_ rfl; first | with_reducible rfl | (simp only [World.size_alloc, World.size_setCell]; done)) | (refine cell_under ?_ ?_; (first | omega | (simp only [World.size_alloc, World.size_setCell]; omega))) | refine cell_drew ?_)), keepCell b1 (by repeat' (first | with_reducible assumption | (refine cell_top ?_ rfl; first | with_reducible rfl | (simp only [World.size_alloc, World.size_setCell]; done)) | (refine cell_under ?_ ?_; (first | omega | (simp only [World.size_alloc, World.size_setCell]; omega))) | refine cell_drew ?_))⟩
  clear b1
  rcases Bool.eq_false_or_eq_true (boxB b) with hok | hok
  · obtain ⟨a0, a1, a2, a3⟩ := A1
    have HM := Lib.hid hok
    rw [hok]
    clear hok
    go_wp2_with fail
    refine (l2Functional_any b.X b.Y _ f _ (rf.kept (Nat.le_refl _) B1)).mono ?_
    rintro e w2 ⟨rfl, rfl⟩
    rcases Bool.eq_false_or_eq_true (funcB b.X b.Y f) with hf | hf
    · have HF := Lib.hid hf
      have hm : worthOk f b = true := by unfold worthOk; rw [HM.out, hf]; rfl
      have hD : worthD f b = worthR f b.Rows := by unfold worthD; rw [hm]; simp
      have HO := Lib.hid hm
      have HD := Lib.hid hD
      rw [hf]
      clear hf hm hD
      go_wp2_with fail
      refine (l2Worth_any _ f vb b HF.out HM.out _ (rf.kept (Nat.le_refl _) B1) (rb.kept (Nat.le_refl _) B1)).mono ?_
      rintro e w2 ⟨rfl, b2⟩
      have B2 := B1.trans (b2.mono B1.size)
      go_wp2
      refine bodyPost_ret (v := .tuple #[.int .i64 (worthR f b.Rows), .bool true]) (by simp [results, Try.results49, go_sem]) rfl ⟨by rw [HD.out, HO.out], B2⟩
    · have hm : worthOk f b = false := by unfold worthOk; rw [HM.out, hf]; rfl
      have hD : worthD f b = 0 := by unfold worthD; rw [hm]; simp
      have HO := Lib.hid hm
      have HD := Lib.hid hD
      rw [hf]
      clear hf hm hD
      go_wp2
      refine bodyPost_ret (v := .tuple #[.int .i64 0, .bool false]) (by simp [results, Try.results49, go_sem]) rfl ⟨by rw [HD.out, HO.out], B1⟩
  · have hm : worthOk f b = false := by unfold worthOk; rw [hok]; rfl
    have hD : worthD f b = 0 := by unfold worthD; rw [hm]; simp
    have HO := Lib.hid hm
    have HD := Lib.hid hD
    rw [hok]
    clear hok hm hD
    go_wp2
    refine bodyPost_ret (v := .tuple #[.int .i64 0, .bool false]) (by simp [results, Try.results49, go_sem]) rfl ⟨by rw [HD.out, HO.out], B1⟩
set_option maxHeartbeats 1600000 in
theorem implWorthOf_any (vf : Value) (f : List (List Int)) (vb : Value) (b : BoxD) (w : World) (rf : RdII w vf f) (rb : RdII w vb b.Rows) :
    Calls Try.prog 50 #[vf, .agg #[.int .i64 b.X, .int .i64 b.Y, .int .i64 b.Whole, vb]] w fun e w' => e = .returned (.tuple #[.int .i64 (worthD f b), .bool (worthOk f b)]) ∧ Below w.heap.size w w' := by
  obtain ⟨af, cf, rfl⟩ : ∃ a c, vf = .slice a f.length c := by obtain ⟨a, _, _, c, hv, _⟩ := rf; exact ⟨a, c, hv⟩
  go_enter Try.func50, Try.ntmps50
  go_wp2_with fail
  refine (implIsBox_any vb b _ (rb.kept (Nat.le_refl _) (by repeat' (first | with_reducible exact Below.refl _ _ | with_reducible assumption | with_reducible apply Below.alloc | with_reducible apply Below.setCell | with_reducible apply Below.drew | exact Nat.le_refl _ | omega | (simp only [World.size_alloc, World.size_setCell]; omega))))).mono ?_
  rintro e w1 ⟨rfl, b1⟩
  have B1 : Below w.heap.size w w1 := Below.trans (by repeat' (first | with_reducible exact Below.refl _ _ | with_reducible assumption | with_reducible apply Below.alloc | with_reducible apply Below.setCell | with_reducible apply Below.drew | exact Nat.le_refl _ | omega | (simp only [World.size_alloc, World.size_setCell]; omega))) (b1.mono (by first | exact Nat.le_refl _ | omega | (simp only [World.size_alloc, World.size_setCell]; omega)))
  have A1 : BoxAt w1 w.heap.size b.X b.Y b.Whole vb := ⟨keepCell b1 (by repeat' (first | with_reducible assumption | (refine cell_top ?_ rfl; first | with_reducible rfl | (simp only [World.size_alloc, World.size_setCell]; done)) | (refine cell_under ?_ ?_; (first | omega | (simp only [World.size_alloc, World.size_setCell]; omega))) | refine cell_drew ?_)), keepCell b1 (by repeat' (first | with_reducible assumption | (refine cell_top ?_ rfl; first | with_reducible rfl | (simp only [World.size_alloc, World.size_setCell]; done)) | (refine cell_under ?_ ?_; (first | omega | (simp only [World.size_alloc, World.size_setCell]; omega))) | refine cell_drew ?_)), keepCell b1 (by repeat' (first | with_reducible assumption | (refine cell_top ?_ rfl; first | with_reducible rfl | (simp only [World.size_alloc, World.size_setCell]; done)) | (refine cell_under ?_ ?_; (first | omega | (simp only [World.size_alloc, World.size_setCell]; omega))) | refine cell_drew ?_)), keepCell b1 (by repeat' (first | with_reducible assumption | (refine cell_top ?_ rfl; first | with_reducible rfl | (simp only [World.size_alloc, World.size_setCell]; done)) | (refine cell_under ?_ ?_; (first | omega | (simp only [World.size_alloc, World.size_setCell]; omega))) | refine cell_drew ?_))⟩
  clear b1
  rcases Bool.eq_false_or_eq_true (boxB b) with hok | hok
  · obtain ⟨a0, a1, a2, a3⟩ := A1
    have HM := Lib.hid hok
    rw [hok]
    clear hok
    go_wp2_with fail
    refine (isFunctional_any b.X b.Y _ f _ (rf.kept (Nat.le_refl _) B1)).mono ?_
    rintro e w2 ⟨rfl, rfl⟩
    rcases Bool.eq_false_or_eq_true (funcB b.X b.Y f) with hf | hf
    · have HF := Lib.hid hf
      have hm : worthOk f b = true := by unfold worthOk; rw [HM.out, hf]; rfl
      have hD : worthD f b = worthR f b.Rows := by unfold worthD; rw [hm]; simp
      have HO := Lib.hid hm
      have HD := Lib.hid hD
      rw [hf]
      clear hf hm hD
      go_wp2_with fail
      refine (worth_any _ f vb b HF.out HM.out _ (rf.kept (Nat.le_refl _) B1) (rb.kept (Nat.le_refl _) B1)).mono ?_
      rintro e w2 ⟨rfl, rfl⟩
      go_wp2
      refine bodyPost_ret (v := .tuple #[.int .i64 (worthR f b.Rows), .bool true]) (by simp [results, Try.results50, go_sem]) rfl ⟨by rw [HD.out, HO.out], B1⟩
    · have hm : worthOk f b = false := by unfold worthOk; rw [HM.out, hf]; rfl
      have hD : worthD f b = 0 := by unfold worthD; rw [hm]; simp
      have HO := Lib.hid hm
      have HD := Lib.hid hD
      rw [hf]
      clear hf hm hD
      go_wp2
      refine bodyPost_ret (v := .tuple #[.int .i64 0, .bool false]) (by simp [results, Try.results50, go_sem]) rfl ⟨by rw [HD.out, HO.out], B1⟩
  · have hm : worthOk f b = false := by unfold worthOk; rw [hok]; rfl
    have hD : worthD f b = 0 := by unfold worthD; rw [hm]; simp
    have HO := Lib.hid hm
    have HD := Lib.hid hD
    rw [hok]
    clear hok hm hD
    go_wp2
    refine bodyPost_ret (v := .tuple #[.int .i64 0, .bool false]) (by simp [results, Try.results50, go_sem]) rfl ⟨by rw [HD.out, HO.out], B1⟩
end Go.Proofs.Ytjedajfpohhojaa
