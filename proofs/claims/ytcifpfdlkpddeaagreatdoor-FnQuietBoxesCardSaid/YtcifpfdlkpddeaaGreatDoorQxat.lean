/- The first loud player: contracts of the program's search. -/
import Derived.Test.YtcifpfdlkpddeaaGreatDoorQxas
set_option linter.unusedSimpArgs false
set_option linter.unusedVariables false
namespace Go.Proofs.YtcifpfdlkpddeaaGreatDoor
open Go.RowKit

theorem questions_any (v : Value) (b : BoxD) (w : World) :
    Calls Tryz.prog 74 #[.agg #[.int .i64 b.X, .int .i64 b.Y, .int .i64 b.Whole, v]] w fun e w' => e = .returned (.agg #[.int .i64 b.X, .int .i64 b.Y]) ∧ Below w.heap.size w w' := by
  go_enter Tryz.func74, Tryz.ntmps74
  go_wp2
  refine bodyPost_ret (v := .agg #[.int .i64 b.X, .int .i64 b.Y]) ?_ rfl ?_
  · simp [results, Tryz.results74, go_sem]
  · exact ⟨rfl, (by repeat' (first | with_reducible exact Below.refl _ _ | with_reducible assumption | with_reducible apply Below.alloc | with_reducible apply Below.setCell | with_reducible apply Below.drew | exact Nat.le_refl _ | omega | (simp only [World.size_alloc, World.size_setCell]; omega)))⟩
theorem ones0_lit (v : Value) (b : BoxD) (hb : boxB b = true) (x y : Nat) (y' : Int) (ey : (y : Int) = y') (hx : (x : Int) < b.X) (hy : (y : Int) < b.Y) (w : World) (h : RdII w v b.Rows) :
    Calls Tryz.prog 75 #[.agg #[.int .i64 b.X, .int .i64 b.Y, .int .i64 b.Whole, v], .int .i64 0, .int .i64 x, .int .i64 y'] w fun e w' => e = .returned (.int .i64 (oneB b 0 x y)) ∧ Below w.heap.size w w' := by
  subst ey; exact ones0_any v b hb x y hx hy w h
theorem ones1_lit (v : Value) (b : BoxD) (hb : boxB b = true) (x y : Nat) (x' : Int) (ex : (x : Int) = x') (hx : (x : Int) < b.X) (hy : (y : Int) < b.Y) (w : World) (h : RdII w v b.Rows) :
    Calls Tryz.prog 75 #[.agg #[.int .i64 b.X, .int .i64 b.Y, .int .i64 b.Whole, v], .int .i64 1, .int .i64 y, .int .i64 x'] w fun e w' => e = .returned (.int .i64 (oneB b 1 x y)) ∧ Below w.heap.size w w' := by
  subst ex; exact ones1_any v b hb x y hx hy w h
def loudI (b : BoxD) : Int × Int × Bool := match loudF b with
  | some (p, q) => ((p : Int), (q : Int), true)
  | none => (0, 0, false)

set_option maxRecDepth 100000 in
set_option maxHeartbeats 6400000 in
theorem loud_any (v : Value) (b : BoxD) (hb : boxB b = true) (w : World) (h : RdII w v b.Rows) :
    Calls Tryz.prog 34 #[.agg #[.int .i64 b.X, .int .i64 b.Y, .int .i64 b.Whole, v]] w fun e w' => e = .returned (.tuple #[.int .i64 (loudI b).1, .int .i64 (loudI b).2.1, .bool (loudI b).2.2]) ∧ Below w.heap.size w w' := by
  obtain ⟨⟨hx0, hx1⟩, hy0, hy1⟩ := (boxB_iff.1 hb).1
  go_enter Tryz.func34, Tryz.ntmps34
  go_wp2_with fail
  refine (questions_any v b _).mono ?_
  rintro e wq ⟨rfl, bq⟩
  have B0 : Below w.heap.size w wq := Below.trans (by repeat' (first | with_reducible exact Below.refl _ _ | with_reducible assumption | with_reducible apply Below.alloc | with_reducible apply Below.setCell | with_reducible apply Below.drew | exact Nat.le_refl _ | omega | (simp only [World.size_alloc, World.size_setCell]; omega))) (bq.mono (by first | exact Nat.le_refl _ | omega | (simp only [World.size_alloc, World.size_setCell]; omega)))
  have A0 : BoxAt wq w.heap.size b.X b.Y b.Whole v := ⟨keepCell bq (by repeat' (first | with_reducible assumption | (refine cell_top ?_ rfl; first | with_reducible rfl | (simp only [World.size_alloc, World.size_setCell]; done)) | (refine cell_under ?_ ?_; (first | omega | (simp only [World.size_alloc, World.size_setCell]; omega))) | refine cell_drew ?_)), keepCell bq (by repeat' (first | with_reducible assumption | (refine cell_top ?_ rfl; first | with_reducible rfl | (simp only [World.size_alloc, World.size_setCell]; done)) | (refine cell_under ?_ ?_; (first | omega | (simp only [World.size_alloc, World.size_setCell]; omega))) | refine cell_drew ?_)), keepCell bq (by repeat' (first | with_reducible assumption | (refine cell_top ?_ rfl; first | with_reducible rfl | (simp only [World.size_alloc, World.size_setCell]; done)) | (refine cell_under ?_ ?_; (first | omega | (simp only [World.size_alloc, World.size_setCell]; omega))) | refine cell_drew ?_)), keepCell bq (by repeat' (first | with_reducible assumption | (refine cell_top ?_ rfl; first | with_reducible rfl | (simp only [World.size_alloc, World.size_setCell]; done)) | (refine cell_under ?_ ?_; (first | omega | (simp only [World.size_alloc, World.size_setCell]; omega))) | refine cell_drew ?_))⟩
  have hlq := A0.lt
  clear bq
  go_wp2
  have c0 : (wq.alloc (.cells #[.int .i64 b.X, .int .i64 b.Y] 91)).cell? ⟨wq.heap.size, 0, none⟩ = some (.int .i64 b.X) := cell_top rfl rfl
  have c1 : (wq.alloc (.cells #[.int .i64 b.X, .int .i64 b.Y] 91)).cell? ⟨wq.heap.size, 1, none⟩ = some (.int .i64 b.Y) := cell_top rfl rfl
  have A1 : BoxAt (wq.alloc (.cells #[.int .i64 b.X, .int .i64 b.Y] 91)) w.heap.size b.X b.Y b.Whole v := A0.kept ((Below.refl _ _).alloc (Nat.le_refl _) _) hlq
  have B1 : Below w.heap.size w (wq.alloc (.cells #[.int .i64 b.X, .int .i64 b.Y] 91)) := B0.alloc B0.size _
  generalize hw1 : wq.alloc (.cells #[.int .i64 b.X, .int .i64 b.Y] 91) = w1 at *
  have H1 := Lib.hid hw1
  clear hw1 A0
  go_loopw [11] (fun s wr => ∃ pl : Nat, pl ≤ 2 ∧ s = .int .i64 pl ∧ (1 ≤ pl → ∀ j : Nat, (j : Int) < b.X → loudX b j = false) ∧ (2 ≤ pl → ∀ j : Nat, (j : Int) < b.Y → loudY b j = false) ∧ Below w1.heap.size w1 wr) (fun s _ => 2 - (intOf s).toNat)
  case atStart => exact ⟨0, by omega, rfl, fun h => by omega, fun h => by omega, Below.refl _ _⟩
  case round =>
    obtain ⟨pl, hpl, rfl, hPX, hPY, hB⟩ := hrel
    have HPX := Lib.hid hPX
    have HPY := Lib.hid hPY
    clear hPX hPY
    have d0 := keepCell hB c0
    have d1 := keepCell hB c1
    have : pl = 0 ∨ pl = 1 ∨ pl = 2 := by omega
    rcases this with rfl | rfl | rfl
    · rw [show ((0 : Nat) : Int) = (0 : Int) from rfl]
      go_wp2
      clear d0 d1
      go_loopw [17] (fun s wr => ∃ x : Nat, (x : Int) ≤ b.X ∧ s = .int .i64 x ∧ (∀ j, j < x → loudX b j = false) ∧ Below w1.heap.size w1 wr) (fun s _ => b.X.toNat - (intOf s).toNat)
      case atStart => exact ⟨0, by omega, rfl, fun j hj => by omega, hB⟩
      case round =>
        clear hB
        obtain ⟨x, hx, rfl, hA, hB⟩ := hrel
        have HA := Lib.hid hA
        clear hA
        have d1 := keepCell hB c1
        by_cases hxt : (x : Int) < b.X
        · go_wp2
          clear d1
          go_loopw [24] (fun s wr => ∃ y : Nat, (y : Int) ≤ b.Y ∧ s = .int .i64 y ∧ (∀ j, j < y → oneB b 0 x j = oneB b 0 x 0) ∧ Below w1.heap.size w1 wr) (fun s _ => b.Y.toNat - (intOf s).toNat)
          case atStart => exact ⟨0, by omega, rfl, fun j hj => by omega, hB⟩
          case round =>
            clear hB
            obtain ⟨y, hy, rfl, hI, hB⟩ := hrel
            have HI := Lib.hid hI
            clear hI
            by_cases hyt : (y : Int) < b.Y
            · have hY0 : ((0 : Nat) : Int) < b.Y := by omega
              by_cases he : oneB b 0 x y = oneB b 0 x 0
              · have hez : (oneB b 0 x y != oneB b 0 x 0) = false := by simp [he]
                have HE := Lib.hid he
                clear he
                go_wp2
                go_region_held3 (fun w' => Below w1.heap.size w1 w' ∧ w'.cell? ⟨w.heap.size, 0, none⟩ = some (.int .i64 b.X) ∧ w'.cell? ⟨w.heap.size, 1, none⟩ = some (.int .i64 b.Y) ∧ w'.cell? ⟨w.heap.size, 2, none⟩ = some (.int .i64 b.Whole) ∧ w'.cell? ⟨w.heap.size, 3, none⟩ = some v)
                  (first | exact held1 hB.drew A1 | exact held1 hBn A1)
                  (first
                    | (go_at_call 75; have hS := And.left (by assumption : Below w1.heap.size w1 _ ∧ _); (with_reducible refine (ones0_any v b hb x y hxt hyt _ (h.kept (Nat.le_refl _) (B1.trans (hS.mono B1.size)))).mono ?_); rintro e w2 ⟨rfl, b2⟩; have hBn := hS.trans (b2.mono hS.size))
                    | (go_at_call 75; have hS := And.left (by assumption : Below w1.heap.size w1 _ ∧ _); (with_reducible refine (ones0_lit v b hb x 0 0 rfl hxt hY0 _ (h.kept (Nat.le_refl _) (B1.trans (hS.mono B1.size)))).mono ?_); rintro e w2 ⟨rfl, b2⟩; have hBn := hS.trans (b2.mono hS.size)))
                all_goals
                  go_wp2
                  go_roundw
                  case rel => exact ⟨y + 1, by omega, by go_num, fun j hj => by
                    by_cases e : j = y
                    · subst e; exact HE.out
                    · exact HI.out j (by omega), hBn⟩
                  case measure => simp [intOf]; omega
              · have hez : (oneB b 0 x y != oneB b 0 x 0) = true := by simp [he]
                have HE := Lib.hid he
                clear he
                go_wp2
                go_region_held3 (fun w' => Below w1.heap.size w1 w' ∧ w'.cell? ⟨w.heap.size, 0, none⟩ = some (.int .i64 b.X) ∧ w'.cell? ⟨w.heap.size, 1, none⟩ = some (.int .i64 b.Y) ∧ w'.cell? ⟨w.heap.size, 2, none⟩ = some (.int .i64 b.Whole) ∧ w'.cell? ⟨w.heap.size, 3, none⟩ = some v)
                  (first | exact held1 hB.drew A1 | exact held1 hBn A1)
                  (first
                    | (go_at_call 75; have hS := And.left (by assumption : Below w1.heap.size w1 _ ∧ _); (with_reducible refine (ones0_any v b hb x y hxt hyt _ (h.kept (Nat.le_refl _) (B1.trans (hS.mono B1.size)))).mono ?_); rintro e w2 ⟨rfl, b2⟩; have hBn := hS.trans (b2.mono hS.size))
                    | (go_at_call 75; have hS := And.left (by assumption : Below w1.heap.size w1 _ ∧ _); (with_reducible refine (ones0_lit v b hb x 0 0 rfl hxt hY0 _ (h.kept (Nat.le_refl _) (B1.trans (hS.mono B1.size)))).mono ?_); rintro e w2 ⟨rfl, b2⟩; have hBn := hS.trans (b2.mono hS.size)))
                all_goals
                  go_wp2
                  have hl : loudI b = ((0 : Int), (x : Int), true) := by unfold loudI; rw [loudF_x hxt (loudX_true hyt HE.out) HA.out]; rfl
                  refine bodyPost_ret (v := .tuple #[.int .i64 0, .int .i64 x, .bool true]) (by simp [results, Tryz.results34, go_sem]) rfl ⟨by rw [hl], B1.trans (hBn.mono B1.size)⟩
            · have HX := Lib.hid (loudX_false (b := b) (x := x) (fun j hj => HI.out j (by omega)))
              go_wp2
              go_roundw
              case rel => exact ⟨x + 1, by omega, by go_num, fun j hj => by
                by_cases e : j = x
                · subst e; exact HX.out
                · exact HA.out j (by omega), hB⟩
              case measure => simp [intOf]; omega
        · have HX := Lib.hid (fun (j : Nat) (hj : (j : Int) < b.X) => HA.out j (by omega))
          go_wp2
          go_roundw
          case rel => exact ⟨1, by omega, rfl, fun _ => HX.out, fun h => by omega, hB⟩
          case measure => simp [intOf]
    · have HXA := Lib.hid (HPX.out (by omega))
      rw [show ((1 : Nat) : Int) = (1 : Int) from rfl]
      go_wp2
      clear d0 d1
      go_loopw [17] (fun s wr => ∃ y : Nat, (y : Int) ≤ b.Y ∧ s = .int .i64 y ∧ (∀ j, j < y → loudY b j = false) ∧ Below w1.heap.size w1 wr) (fun s _ => b.Y.toNat - (intOf s).toNat)
      case atStart => exact ⟨0, by omega, rfl, fun j hj => by omega, hB⟩
      case round =>
        clear hB
        obtain ⟨y, hy, rfl, hA, hB⟩ := hrel
        have HA := Lib.hid hA
        clear hA
        have d0 := keepCell hB c0
        by_cases hyt : (y : Int) < b.Y
        · go_wp2
          clear d0
          go_loopw [24] (fun s wr => ∃ x : Nat, (x : Int) ≤ b.X ∧ s = .int .i64 x ∧ (∀ j, j < x → oneB b 1 j y = oneB b 1 0 y) ∧ Below w1.heap.size w1 wr) (fun s _ => b.X.toNat - (intOf s).toNat)
          case atStart => exact ⟨0, by omega, rfl, fun j hj => by omega, hB⟩
          case round =>
            clear hB
            obtain ⟨x, hx, rfl, hI, hB⟩ := hrel
            have HI := Lib.hid hI
            clear hI
            by_cases hxt : (x : Int) < b.X
            · have hX0 : ((0 : Nat) : Int) < b.X := by omega
              by_cases he : oneB b 1 x y = oneB b 1 0 y
              · have hez : (oneB b 1 x y != oneB b 1 0 y) = false := by simp [he]
                have HE := Lib.hid he
                clear he
                go_wp2
                go_region_held3 (fun w' => Below w1.heap.size w1 w' ∧ w'.cell? ⟨w.heap.size, 0, none⟩ = some (.int .i64 b.X) ∧ w'.cell? ⟨w.heap.size, 1, none⟩ = some (.int .i64 b.Y) ∧ w'.cell? ⟨w.heap.size, 2, none⟩ = some (.int .i64 b.Whole) ∧ w'.cell? ⟨w.heap.size, 3, none⟩ = some v)
                  (first | exact held1 hB.drew A1 | exact held1 hBn A1)
                  (first
                    | (go_at_call 75; have hS := And.left (by assumption : Below w1.heap.size w1 _ ∧ _); (with_reducible refine (ones1_any v b hb x y hxt hyt _ (h.kept (Nat.le_refl _) (B1.trans (hS.mono B1.size)))).mono ?_); rintro e w2 ⟨rfl, b2⟩; have hBn := hS.trans (b2.mono hS.size))
                    | (go_at_call 75; have hS := And.left (by assumption : Below w1.heap.size w1 _ ∧ _); (with_reducible refine (ones1_lit v b hb 0 y 0 rfl hX0 hyt _ (h.kept (Nat.le_refl _) (B1.trans (hS.mono B1.size)))).mono ?_); rintro e w2 ⟨rfl, b2⟩; have hBn := hS.trans (b2.mono hS.size)))
                all_goals
                  go_wp2
                  go_roundw
                  case rel => exact ⟨x + 1, by omega, by go_num, fun j hj => by
                    by_cases e : j = x
                    · subst e; exact HE.out
                    · exact HI.out j (by omega), hBn⟩
                  case measure => simp [intOf]; omega
              · have hez : (oneB b 1 x y != oneB b 1 0 y) = true := by simp [he]
                have HE := Lib.hid he
                clear he
                go_wp2
                go_region_held3 (fun w' => Below w1.heap.size w1 w' ∧ w'.cell? ⟨w.heap.size, 0, none⟩ = some (.int .i64 b.X) ∧ w'.cell? ⟨w.heap.size, 1, none⟩ = some (.int .i64 b.Y) ∧ w'.cell? ⟨w.heap.size, 2, none⟩ = some (.int .i64 b.Whole) ∧ w'.cell? ⟨w.heap.size, 3, none⟩ = some v)
                  (first | exact held1 hB.drew A1 | exact held1 hBn A1)
                  (first
                    | (go_at_call 75; have hS := And.left (by assumption : Below w1.heap.size w1 _ ∧ _); (with_reducible refine (ones1_any v b hb x y hxt hyt _ (h.kept (Nat.le_refl _) (B1.trans (hS.mono B1.size)))).mono ?_); rintro e w2 ⟨rfl, b2⟩; have hBn := hS.trans (b2.mono hS.size))
                    | (go_at_call 75; have hS := And.left (by assumption : Below w1.heap.size w1 _ ∧ _); (with_reducible refine (ones1_lit v b hb 0 y 0 rfl hX0 hyt _ (h.kept (Nat.le_refl _) (B1.trans (hS.mono B1.size)))).mono ?_); rintro e w2 ⟨rfl, b2⟩; have hBn := hS.trans (b2.mono hS.size)))
                all_goals
                  go_wp2
                  have hl : loudI b = ((1 : Int), (y : Int), true) := by unfold loudI; rw [loudF_y HXA.out hyt (loudY_true hxt HE.out) HA.out]; rfl
                  refine bodyPost_ret (v := .tuple #[.int .i64 1, .int .i64 y, .bool true]) (by simp [results, Tryz.results34, go_sem]) rfl ⟨by rw [hl], B1.trans (hBn.mono B1.size)⟩
            · have HX := Lib.hid (loudY_false (b := b) (y := y) (fun j hj => HI.out j (by omega)))
              go_wp2
              go_roundw
              case rel => exact ⟨y + 1, by omega, by go_num, fun j hj => by
                by_cases e : j = y
                · subst e; exact HX.out
                · exact HA.out j (by omega), hB⟩
              case measure => simp [intOf]; omega
        · have HY := Lib.hid (fun (j : Nat) (hj : (j : Int) < b.Y) => HA.out j (by omega))
          go_wp2
          go_roundw
          case rel => exact ⟨2, by omega, rfl, fun _ => HXA.out, fun _ => HY.out, hB⟩
          case measure => simp [intOf]
    · have hl : loudI b = ((0 : Int), (0 : Int), false) := by unfold loudI; rw [loudF_no (HPX.out (by omega)) (HPY.out (by omega))]
      have HLD := Lib.hid hl
      clear hl d0 d1
      go_wp2
      refine bodyPost_ret (v := .tuple #[.int .i64 0, .int .i64 0, .bool false]) (by simp [results, Tryz.results34, go_sem]) rfl ⟨by rw [HLD.out], B1.trans (hB.mono B1.size)⟩
end Go.Proofs.YtcifpfdlkpddeaaGreatDoor
