/- IsWitness: contracts of the program's and the reference's functions. -/
import Derived.Test.YtbleeakcmmpcgaaFnLocal
import Derived.Test.YtbleeakcmmpcgaaFnWorthT
set_option linter.unusedSimpArgs false
set_option linter.unusedVariables false
namespace Go.Proofs.Ytbleeakcmmpcgaa
open Go.RowKit

def witD (b : BoxD) (f : List (List Int)) : Bool := worthOk f b && decide (b.Whole * localV b.X b.Y f < worthR f b.Rows)
set_option maxHeartbeats 1600000 in
theorem specIsWitness_any (vb : Value) (b : BoxD) (vf : Value) (f : List (List Int)) (w : World) (rb : RdII w vb b.Rows) (rf : RdII w vf f) :
    Calls Try.prog 36 #[.agg #[.int .i64 b.X, .int .i64 b.Y, .int .i64 b.Whole, vb], vf] w fun e w' => e = .returned (.tuple #[.bool (witD b f), .bool (worthOk f b)]) ∧ Below w.heap.size w w' := by
  obtain ⟨af, cf, rfl⟩ : ∃ a c, vf = .slice a f.length c := by obtain ⟨a, _, _, c, hv, _⟩ := rf; exact ⟨a, c, hv⟩
  go_enter Try.func36, Try.ntmps36
  go_wp2_with fail
  refine (l2Box_any vb b _ (rb.kept (Nat.le_refl _) (by repeat' (first | with_reducible exact Below.refl _ _ | with_reducible assumption | with_reducible apply Below.alloc | with_reducible apply Below.setCell | with_reducible apply Below.drew | exact Nat.le_refl _ | omega | (simp only [World.size_alloc, World.size_setCell]; omega))))).mono ?_
  rintro e w1 ⟨rfl, b1⟩
  have B1 : Below w.heap.size w w1 := Below.trans (by repeat' (first | with_reducible exact Below.refl _ _ | with_reducible assumption | with_reducible apply Below.alloc | with_reducible apply Below.setCell | with_reducible apply Below.drew | exact Nat.le_refl _ | omega | (simp only [World.size_alloc, World.size_setCell]; omega))) (b1.mono (by first | exact Nat.le_refl _ | omega | (simp only [World.size_alloc, World.size_setCell]; omega)))
  have A1 : BoxAt w1 w.heap.size b.X b.Y b.Whole vb := ⟨keepCell b1 (by repeat' (first | with_reducible assumption | (refine cell_top ?_ rfl; first | with_reducible rfl | (simp only [World.size_alloc, World.size_setCell]; done)) | (refine cell_under ?_ ?_; (first | omega | (simp only [World.size_alloc, World.size_setCell]; omega))) | refine cell_drew ?_)), keepCell b1 (by repeat' (first | with_reducible assumption | (refine cell_top ?_ rfl; first | with_reducible rfl | (simp only [World.size_alloc, World.size_setCell]; done)) | (refine cell_under ?_ ?_; (first | omega | (simp only [World.size_alloc, World.size_setCell]; omega))) | refine cell_drew ?_)), keepCell b1 (by repeat' (first | with_reducible assumption | (refine cell_top ?_ rfl; first | with_reducible rfl | (simp only [World.size_alloc, World.size_setCell]; done)) | (refine cell_under ?_ ?_; (first | omega | (simp only [World.size_alloc, World.size_setCell]; omega))) | refine cell_drew ?_)), keepCell b1 (by repeat' (first | with_reducible assumption | (refine cell_top ?_ rfl; first | with_reducible rfl | (simp only [World.size_alloc, World.size_setCell]; done)) | (refine cell_under ?_ ?_; (first | omega | (simp only [World.size_alloc, World.size_setCell]; omega))) | refine cell_drew ?_))⟩
  clear b1
  rcases Bool.eq_false_or_eq_true (boxB b) with hok | hok
  · obtain ⟨a0, a1, a2, a3⟩ := A1
    have HM := Lib.hid hok
    rw [hok]
    go_wp2_with fail
    refine (l2Functional_any b.X b.Y _ f _ (rf.kept (Nat.le_refl _) B1)).mono ?_
    rintro e w2 ⟨rfl, rfl⟩
    have A1 : BoxAt w1 w.heap.size b.X b.Y b.Whole vb := ⟨a0, a1, a2, a3⟩
    clear a0 a1 a2 a3
    rcases Bool.eq_false_or_eq_true (funcB b.X b.Y f) with hf | hf
    · have HF := Lib.hid hf
      have HO := Lib.hid (show worthOk f b = true by unfold worthOk; rw [hok, hf]; rfl)
      have hL := localV_bd hf
      have hwb := (boxB_iff.1 hok).2.1
      obtain ⟨m0, m1⟩ := mul_bd (localV b.X b.Y f) b.Whole 891 1000 hL ⟨by omega, hwb.2⟩
      rw [Int.mul_comm (localV b.X b.Y f) b.Whole] at m0 m1
      have hw := wrap_in (b.Whole * localV b.X b.Y f) (by omega) (by omega)
      rw [hf]
      clear hok hf hL hwb
      by_cases hgt : b.Whole * localV b.X b.Y f < worthR f b.Rows
      · have HD := Lib.hid (show witD b f = true by unfold witD; rw [HO.out, decide_eq_true hgt]; rfl)
        go_wp2
        go_region_held3 (fun W => Below w1.heap.size w1 W ∧ W.cell? ⟨w.heap.size, 0, none⟩ = some (.int .i64 b.X) ∧ W.cell? ⟨w.heap.size, 1, none⟩ = some (.int .i64 b.Y) ∧ W.cell? ⟨w.heap.size, 2, none⟩ = some (.int .i64 b.Whole) ∧ W.cell? ⟨w.heap.size, 3, none⟩ = some vb)
          (first | exact held1 (Below.refl _ _).drew A1 | exact held1 hBn A1)
          (first
            | (go_at_call 61; have hS := And.left (by assumption : Below w1.heap.size w1 _ ∧ _); (with_reducible refine (l2Worth_any _ f vb b HF.out HM.out _ (rf.kept (Nat.le_refl _) (B1.trans (hS.mono B1.size))) (rb.kept (Nat.le_refl _) (B1.trans (hS.mono B1.size)))).mono ?_); rintro e w2 ⟨rfl, b2⟩; have hBn := hS.trans (b2.mono hS.size))
            | (go_at_call 57; have hS := And.left (by assumption : Below w1.heap.size w1 _ ∧ _); (with_reducible refine (l3Value_any b.X b.Y _ f HF.out _ (rf.kept (Nat.le_refl _) (B1.trans (hS.mono B1.size)))).mono ?_); rintro e w2 ⟨rfl, b2⟩; have hBn := hS.trans (b2.mono hS.size)))
        go_wp2
        refine bodyPost_ret (v := .tuple #[.bool true, .bool true]) (by simp [results, Try.results36, go_sem] <;> omega) rfl ⟨by rw [HD.out, HO.out], B1.trans (hBn.mono B1.size)⟩
      · have HD := Lib.hid (show witD b f = false by unfold witD; rw [HO.out, decide_eq_false hgt]; rfl)
        go_wp2
        go_region_held3 (fun W => Below w1.heap.size w1 W ∧ W.cell? ⟨w.heap.size, 0, none⟩ = some (.int .i64 b.X) ∧ W.cell? ⟨w.heap.size, 1, none⟩ = some (.int .i64 b.Y) ∧ W.cell? ⟨w.heap.size, 2, none⟩ = some (.int .i64 b.Whole) ∧ W.cell? ⟨w.heap.size, 3, none⟩ = some vb)
          (first | exact held1 (Below.refl _ _).drew A1 | exact held1 hBn A1)
          (first
            | (go_at_call 61; have hS := And.left (by assumption : Below w1.heap.size w1 _ ∧ _); (with_reducible refine (l2Worth_any _ f vb b HF.out HM.out _ (rf.kept (Nat.le_refl _) (B1.trans (hS.mono B1.size))) (rb.kept (Nat.le_refl _) (B1.trans (hS.mono B1.size)))).mono ?_); rintro e w2 ⟨rfl, b2⟩; have hBn := hS.trans (b2.mono hS.size))
            | (go_at_call 57; have hS := And.left (by assumption : Below w1.heap.size w1 _ ∧ _); (with_reducible refine (l3Value_any b.X b.Y _ f HF.out _ (rf.kept (Nat.le_refl _) (B1.trans (hS.mono B1.size)))).mono ?_); rintro e w2 ⟨rfl, b2⟩; have hBn := hS.trans (b2.mono hS.size)))
        go_wp2
        refine bodyPost_ret (v := .tuple #[.bool false, .bool true]) (by simp [results, Try.results36, go_sem] <;> omega) rfl ⟨by rw [HD.out, HO.out], B1.trans (hBn.mono B1.size)⟩
    · have HO := Lib.hid (show worthOk f b = false by unfold worthOk; rw [hok, hf]; rfl)
      have HD := Lib.hid (show witD b f = false by unfold witD; rw [HO.out]; rfl)
      rw [hf]
      clear hf hok
      go_wp2
      refine bodyPost_ret (v := .tuple #[.bool false, .bool false]) (by simp [results, Try.results36, go_sem]) rfl ⟨by rw [HD.out, HO.out], B1⟩
  · have HO := Lib.hid (show worthOk f b = false by unfold worthOk; rw [hok]; rfl)
    have HD := Lib.hid (show witD b f = false by unfold witD; rw [HO.out]; rfl)
    rw [hok]
    clear hok
    go_wp2
    refine bodyPost_ret (v := .tuple #[.bool false, .bool false]) (by simp [results, Try.results36, go_sem]) rfl ⟨by rw [HD.out, HO.out], B1⟩
set_option maxHeartbeats 1600000 in
theorem implIsWitness_any (vb : Value) (b : BoxD) (vf : Value) (f : List (List Int)) (w : World) (rb : RdII w vb b.Rows) (rf : RdII w vf f) :
    Calls Try.prog 37 #[.agg #[.int .i64 b.X, .int .i64 b.Y, .int .i64 b.Whole, vb], vf] w fun e w' => e = .returned (.tuple #[.bool (witD b f), .bool (worthOk f b)]) ∧ Below w.heap.size w w' := by
  obtain ⟨af, cf, rfl⟩ : ∃ a c, vf = .slice a f.length c := by obtain ⟨a, _, _, c, hv, _⟩ := rf; exact ⟨a, c, hv⟩
  go_enter Try.func37, Try.ntmps37
  go_wp2_with fail
  refine (implIsBox_any vb b _ (rb.kept (Nat.le_refl _) (by repeat' (first | with_reducible exact Below.refl _ _ | with_reducible assumption | with_reducible apply Below.alloc | with_reducible apply Below.setCell | with_reducible apply Below.drew | exact Nat.le_refl _ | omega | (simp only [World.size_alloc, World.size_setCell]; omega))))).mono ?_
  rintro e w1 ⟨rfl, b1⟩
  have B1 : Below w.heap.size w w1 := Below.trans (by repeat' (first | with_reducible exact Below.refl _ _ | with_reducible assumption | with_reducible apply Below.alloc | with_reducible apply Below.setCell | with_reducible apply Below.drew | exact Nat.le_refl _ | omega | (simp only [World.size_alloc, World.size_setCell]; omega))) (b1.mono (by first | exact Nat.le_refl _ | omega | (simp only [World.size_alloc, World.size_setCell]; omega)))
  have A1 : BoxAt w1 w.heap.size b.X b.Y b.Whole vb := ⟨keepCell b1 (by repeat' (first | with_reducible assumption | (refine cell_top ?_ rfl; first | with_reducible rfl | (simp only [World.size_alloc, World.size_setCell]; done)) | (refine cell_under ?_ ?_; (first | omega | (simp only [World.size_alloc, World.size_setCell]; omega))) | refine cell_drew ?_)), keepCell b1 (by repeat' (first | with_reducible assumption | (refine cell_top ?_ rfl; first | with_reducible rfl | (simp only [World.size_alloc, World.size_setCell]; done)) | (refine cell_under ?_ ?_; (first | omega | (simp only [World.size_alloc, World.size_setCell]; omega))) | refine cell_drew ?_)), keepCell b1 (by repeat' (first | with_reducible assumption | (refine cell_top ?_ rfl; first | with_reducible rfl | (simp only [World.size_alloc, World.size_setCell]; done)) | (refine cell_under ?_ ?_; (first | omega | (simp only [World.size_alloc, World.size_setCell]; omega))) | refine cell_drew ?_)), keepCell b1 (by repeat' (first | with_reducible assumption | (refine cell_top ?_ rfl; first | with_reducible rfl | (simp only [World.size_alloc, World.size_setCell]; done)) | (refine cell_under ?_ ?_; (first | omega | (simp only [World.size_alloc, World.size_setCell]; omega))) | refine cell_drew ?_))⟩
  clear b1
  rcases Bool.eq_false_or_eq_true (boxB b) with hok | hok
  · obtain ⟨a0, a1, a2, a3⟩ := A1
    have HM := Lib.hid hok
    rw [hok]
    go_wp2_with fail
    refine (isFunctional_any b.X b.Y _ f _ (rf.kept (Nat.le_refl _) B1)).mono ?_
    rintro e w2 ⟨rfl, rfl⟩
    have A1 : BoxAt w1 w.heap.size b.X b.Y b.Whole vb := ⟨a0, a1, a2, a3⟩
    clear a0 a1 a2 a3
    rcases Bool.eq_false_or_eq_true (funcB b.X b.Y f) with hf | hf
    · have HF := Lib.hid hf
      have HO := Lib.hid (show worthOk f b = true by unfold worthOk; rw [hok, hf]; rfl)
      have hL := localV_bd hf
      have hwb := (boxB_iff.1 hok).2.1
      obtain ⟨m0, m1⟩ := mul_bd (localV b.X b.Y f) b.Whole 891 1000 hL ⟨by omega, hwb.2⟩
      rw [Int.mul_comm (localV b.X b.Y f) b.Whole] at m0 m1
      have hw := wrap_in (b.Whole * localV b.X b.Y f) (by omega) (by omega)
      rw [hf]
      clear hok hf hL hwb
      by_cases hgt : b.Whole * localV b.X b.Y f < worthR f b.Rows
      · have HD := Lib.hid (show witD b f = true by unfold witD; rw [HO.out, decide_eq_true hgt]; rfl)
        go_wp2
        go_region_held3 (fun W => Below w1.heap.size w1 W ∧ W.cell? ⟨w.heap.size, 0, none⟩ = some (.int .i64 b.X) ∧ W.cell? ⟨w.heap.size, 1, none⟩ = some (.int .i64 b.Y) ∧ W.cell? ⟨w.heap.size, 2, none⟩ = some (.int .i64 b.Whole) ∧ W.cell? ⟨w.heap.size, 3, none⟩ = some vb)
          (first | exact held1 (Below.refl _ _).drew A1 | exact held1 hBn A1)
          (first
            | (go_at_call 74; have hS := And.left (by assumption : Below w1.heap.size w1 _ ∧ _); (with_reducible refine (worth_any _ f vb b HF.out HM.out _ (rf.kept (Nat.le_refl _) (B1.trans (hS.mono B1.size))) (rb.kept (Nat.le_refl _) (B1.trans (hS.mono B1.size)))).mono ?_); rintro e w2 ⟨rfl, hwe⟩; have hBn : Below w1.heap.size w1 w2 := hwe ▸ hS)
            | (go_at_call 59; have hS := And.left (by assumption : Below w1.heap.size w1 _ ∧ _); (with_reducible refine (localValue_any b.X b.Y _ f HF.out _ (rf.kept (Nat.le_refl _) (B1.trans (hS.mono B1.size)))).mono ?_); rintro e w2 ⟨rfl, b2⟩; have hBn := hS.trans (b2.mono hS.size)))
        go_wp2
        refine bodyPost_ret (v := .tuple #[.bool true, .bool true]) (by simp [results, Try.results37, go_sem] <;> omega) rfl ⟨by rw [HD.out, HO.out], B1.trans (hBn.mono B1.size)⟩
      · have HD := Lib.hid (show witD b f = false by unfold witD; rw [HO.out, decide_eq_false hgt]; rfl)
        go_wp2
        go_region_held3 (fun W => Below w1.heap.size w1 W ∧ W.cell? ⟨w.heap.size, 0, none⟩ = some (.int .i64 b.X) ∧ W.cell? ⟨w.heap.size, 1, none⟩ = some (.int .i64 b.Y) ∧ W.cell? ⟨w.heap.size, 2, none⟩ = some (.int .i64 b.Whole) ∧ W.cell? ⟨w.heap.size, 3, none⟩ = some vb)
          (first | exact held1 (Below.refl _ _).drew A1 | exact held1 hBn A1)
          (first
            | (go_at_call 74; have hS := And.left (by assumption : Below w1.heap.size w1 _ ∧ _); (with_reducible refine (worth_any _ f vb b HF.out HM.out _ (rf.kept (Nat.le_refl _) (B1.trans (hS.mono B1.size))) (rb.kept (Nat.le_refl _) (B1.trans (hS.mono B1.size)))).mono ?_); rintro e w2 ⟨rfl, hwe⟩; have hBn : Below w1.heap.size w1 w2 := hwe ▸ hS)
            | (go_at_call 59; have hS := And.left (by assumption : Below w1.heap.size w1 _ ∧ _); (with_reducible refine (localValue_any b.X b.Y _ f HF.out _ (rf.kept (Nat.le_refl _) (B1.trans (hS.mono B1.size)))).mono ?_); rintro e w2 ⟨rfl, b2⟩; have hBn := hS.trans (b2.mono hS.size)))
        go_wp2
        refine bodyPost_ret (v := .tuple #[.bool false, .bool true]) (by simp [results, Try.results37, go_sem] <;> omega) rfl ⟨by rw [HD.out, HO.out], B1.trans (hBn.mono B1.size)⟩
    · have HO := Lib.hid (show worthOk f b = false by unfold worthOk; rw [hok, hf]; rfl)
      have HD := Lib.hid (show witD b f = false by unfold witD; rw [HO.out]; rfl)
      rw [hf]
      clear hf hok
      go_wp2
      refine bodyPost_ret (v := .tuple #[.bool false, .bool false]) (by simp [results, Try.results37, go_sem]) rfl ⟨by rw [HD.out, HO.out], B1⟩
  · have HO := Lib.hid (show worthOk f b = false by unfold worthOk; rw [hok]; rfl)
    have HD := Lib.hid (show witD b f = false by unfold witD; rw [HO.out]; rfl)
    rw [hok]
    clear hok
    go_wp2
    refine bodyPost_ret (v := .tuple #[.bool false, .bool false]) (by simp [results, Try.results37, go_sem]) rfl ⟨by rw [HD.out, HO.out], B1⟩
end Go.Proofs.Ytbleeakcmmpcgaa
