/- Contracts of the laws' own helpers over pairs and games. -/
import Derived.Test.YtbleeakcmmpcgaaHarC
import Derived.Test.YtbleeakcmmpcgaaBoxOut
import Derived.Test.YtbleeakcmmpcgaaGameD
set_option linter.unusedSimpArgs false
set_option linter.unusedVariables false
namespace Go.Proofs.Ytbleeakcmmpcgaa
open Go.RowKit

set_option maxHeartbeats 400000 in
theorem toIntA2_any (a b : Int) (w : World) :
    Calls Try.prog 39 #[.agg #[.int .i64 a, .int .i64 b]] w fun e w' => e = .returned (.agg #[.int .i64 a, .int .i64 b]) ∧ Below w.heap.size w w' := by
  go_enter Try.func39, Try.ntmps39
  go_wp2
  go_loopw [4] (fun s wr => (s = .int .i64 0 ∧ wr = ((w.alloc (.cells #[.int .i64 a, .int .i64 b] 50)).alloc (.cells #[.int .i64 0, .int .i64 0] 50)).alloc (.cells #[.int .i64 0, .int .i64 0] 50)) ∨
    (s = .int .i64 1 ∧ wr = ((w.alloc (.cells #[.int .i64 a, .int .i64 b] 50)).alloc (.cells #[.int .i64 0, .int .i64 0] 50)).alloc (.cells #[.int .i64 a, .int .i64 0] 50)) ∨
    (s = .int .i64 2 ∧ wr = ((w.alloc (.cells #[.int .i64 a, .int .i64 b] 50)).alloc (.cells #[.int .i64 0, .int .i64 0] 50)).alloc (.cells #[.int .i64 a, .int .i64 b] 50))) (fun s _ => 2 - (intOf s).toNat)
  case atStart => exact Or.inl ⟨rfl, rfl⟩
  case round =>
    rcases hrel with ⟨rfl, rfl⟩ | ⟨rfl, rfl⟩ | ⟨rfl, rfl⟩
    · go_wp2
      go_roundw
      case rel => exact Or.inr (Or.inl ⟨by first | rfl | trivial, by first | rfl | trivial⟩)
      case measure => simp [intOf]
    · go_wp2
      go_roundw
      case rel => exact Or.inr (Or.inr ⟨by first | rfl | trivial, by first | rfl | trivial⟩)
      case measure => simp [intOf]
    · go_wp2
      refine bodyPost_ret (v := .agg #[.int .i64 a, .int .i64 b]) ?_ rfl ?_
      · simp [results, Try.results39, go_sem]
      · exact ⟨rfl, (by repeat' (first | with_reducible exact Below.refl _ _ | with_reducible assumption | with_reducible apply Below.alloc | with_reducible apply Below.setCell | with_reducible apply Below.drew | exact Nat.le_refl _ | omega | (simp only [World.size_alloc, World.size_setCell]; omega)))⟩
set_option maxHeartbeats 800000 in
theorem eqIntA2_any (a b c d : Int) (w : World) :
    Calls Try.prog 45 #[.agg #[.int .i64 a, .int .i64 b], .agg #[.int .i64 c, .int .i64 d]] w fun e w' => e = .returned (.bool (decide (a = c ∧ b = d))) ∧ Below w.heap.size w w' := by
  by_cases h1 : a = c
  · have h1z : (a != c) = false := by simp [h1]
    by_cases h2 : b = d
    · have h2z : (b != d) = false := by simp [h2]
      have HD := Lib.hid (decide_eq_true (And.intro h1 h2))
      clear h1 h2
      go_enter Try.func45, Try.ntmps45
      go_wp2
      obtain ⟨w1, hw1⟩ : ∃ w1, w1 = (w.alloc (.cells #[.int .i64 a, .int .i64 b] 50)).alloc (.cells #[.int .i64 c, .int .i64 d] 50) := ⟨_, rfl⟩
      have c0 : w1.cell? ⟨w.heap.size, 0, none⟩ = some (.int .i64 a) := by rw [hw1]; exact (by repeat' (first | with_reducible assumption | (refine cell_top ?_ rfl; first | with_reducible rfl | (simp only [World.size_alloc, World.size_setCell]; done)) | (refine cell_under ?_ ?_; (first | omega | (simp only [World.size_alloc, World.size_setCell]; omega))) | refine cell_drew ?_))
      have c1 : w1.cell? ⟨w.heap.size, 1, none⟩ = some (.int .i64 b) := by rw [hw1]; exact (by repeat' (first | with_reducible assumption | (refine cell_top ?_ rfl; first | with_reducible rfl | (simp only [World.size_alloc, World.size_setCell]; done)) | (refine cell_under ?_ ?_; (first | omega | (simp only [World.size_alloc, World.size_setCell]; omega))) | refine cell_drew ?_))
      have d0 : w1.cell? ⟨w.heap.size + 1, 0, none⟩ = some (.int .i64 c) := by rw [hw1]; exact (by repeat' (first | with_reducible assumption | (refine cell_top ?_ rfl; first | with_reducible rfl | (simp only [World.size_alloc, World.size_setCell]; done)) | (refine cell_under ?_ ?_; (first | omega | (simp only [World.size_alloc, World.size_setCell]; omega))) | refine cell_drew ?_))
      have d1 : w1.cell? ⟨w.heap.size + 1, 1, none⟩ = some (.int .i64 d) := by rw [hw1]; exact (by repeat' (first | with_reducible assumption | (refine cell_top ?_ rfl; first | with_reducible rfl | (simp only [World.size_alloc, World.size_setCell]; done)) | (refine cell_under ?_ ?_; (first | omega | (simp only [World.size_alloc, World.size_setCell]; omega))) | refine cell_drew ?_))
      have B1 : Below w.heap.size w w1 := by rw [hw1]; exact (by repeat' (first | with_reducible exact Below.refl _ _ | with_reducible assumption | with_reducible apply Below.alloc | with_reducible apply Below.setCell | with_reducible apply Below.drew | exact Nat.le_refl _ | omega | (simp only [World.size_alloc, World.size_setCell]; omega)))
      rw [← hw1]
      clear hw1
      go_loopw [5] (fun s wr => (s = .int .i64 0 ∨ s = .int .i64 1 ∨ s = .int .i64 2) ∧ Drw w1 wr) (fun s _ => 2 - (intOf s).toNat)
      case atStart => exact ⟨Or.inl rfl, Drw.refl _⟩
      case round =>
        obtain ⟨hs, hd⟩ := hrel
        have e0 : wr.cell? ⟨w.heap.size, 0, none⟩ = some (.int .i64 a) := by rw [hd.cell]; exact c0
        have e1 : wr.cell? ⟨w.heap.size, 1, none⟩ = some (.int .i64 b) := by rw [hd.cell]; exact c1
        have f0 : wr.cell? ⟨w.heap.size + 1, 0, none⟩ = some (.int .i64 c) := by rw [hd.cell]; exact d0
        have f1 : wr.cell? ⟨w.heap.size + 1, 1, none⟩ = some (.int .i64 d) := by rw [hd.cell]; exact d1
        rcases hs with rfl | rfl | rfl
        · go_wp2
          go_quiet (fail)
          go_wp2
          go_roundw
          case rel => exact ⟨Or.inr (Or.inl rfl), hd.trans (Drw.mk _ _)⟩
          case measure => simp [intOf]
        · go_wp2
          go_quiet (fail)
          go_wp2
          go_roundw
          case rel => exact ⟨Or.inr (Or.inr rfl), hd.trans (Drw.mk _ _)⟩
          case measure => simp [intOf]
        · go_wp2
          go_ret
          exact ⟨ret_bool HD.out.symm, B1.trans (hd.below _)⟩
    · have h2z : (b != d) = true := by simp [h2]
      have HD := Lib.hid (decide_eq_false (fun h : a = c ∧ b = d => h2 h.2))
      clear h1 h2
      go_enter Try.func45, Try.ntmps45
      go_wp2
      obtain ⟨w1, hw1⟩ : ∃ w1, w1 = (w.alloc (.cells #[.int .i64 a, .int .i64 b] 50)).alloc (.cells #[.int .i64 c, .int .i64 d] 50) := ⟨_, rfl⟩
      have c0 : w1.cell? ⟨w.heap.size, 0, none⟩ = some (.int .i64 a) := by rw [hw1]; exact (by repeat' (first | with_reducible assumption | (refine cell_top ?_ rfl; first | with_reducible rfl | (simp only [World.size_alloc, World.size_setCell]; done)) | (refine cell_under ?_ ?_; (first | omega | (simp only [World.size_alloc, World.size_setCell]; omega))) | refine cell_drew ?_))
      have c1 : w1.cell? ⟨w.heap.size, 1, none⟩ = some (.int .i64 b) := by rw [hw1]; exact (by repeat' (first | with_reducible assumption | (refine cell_top ?_ rfl; first | with_reducible rfl | (simp only [World.size_alloc, World.size_setCell]; done)) | (refine cell_under ?_ ?_; (first | omega | (simp only [World.size_alloc, World.size_setCell]; omega))) | refine cell_drew ?_))
      have d0 : w1.cell? ⟨w.heap.size + 1, 0, none⟩ = some (.int .i64 c) := by rw [hw1]; exact (by repeat' (first | with_reducible assumption | (refine cell_top ?_ rfl; first | with_reducible rfl | (simp only [World.size_alloc, World.size_setCell]; done)) | (refine cell_under ?_ ?_; (first | omega | (simp only [World.size_alloc, World.size_setCell]; omega))) | refine cell_drew ?_))
      have d1 : w1.cell? ⟨w.heap.size + 1, 1, none⟩ = some (.int .i64 d) := by rw [hw1]; exact (by repeat' (first | with_reducible assumption | (refine cell_top ?_ rfl; first | with_reducible rfl | (simp only [World.size_alloc, World.size_setCell]; done)) | (refine cell_under ?_ ?_; (first | omega | (simp only [World.size_alloc, World.size_setCell]; omega))) | refine cell_drew ?_))
      have B1 : Below w.heap.size w w1 := by rw [hw1]; exact (by repeat' (first | with_reducible exact Below.refl _ _ | with_reducible assumption | with_reducible apply Below.alloc | with_reducible apply Below.setCell | with_reducible apply Below.drew | exact Nat.le_refl _ | omega | (simp only [World.size_alloc, World.size_setCell]; omega)))
      rw [← hw1]
      clear hw1
      go_loopw [5] (fun s wr => (s = .int .i64 0 ∨ s = .int .i64 1) ∧ Drw w1 wr) (fun s _ => 2 - (intOf s).toNat)
      case atStart => exact ⟨Or.inl rfl, Drw.refl _⟩
      case round =>
        obtain ⟨hs, hd⟩ := hrel
        have e0 : wr.cell? ⟨w.heap.size, 0, none⟩ = some (.int .i64 a) := by rw [hd.cell]; exact c0
        have e1 : wr.cell? ⟨w.heap.size, 1, none⟩ = some (.int .i64 b) := by rw [hd.cell]; exact c1
        have f0 : wr.cell? ⟨w.heap.size + 1, 0, none⟩ = some (.int .i64 c) := by rw [hd.cell]; exact d0
        have f1 : wr.cell? ⟨w.heap.size + 1, 1, none⟩ = some (.int .i64 d) := by rw [hd.cell]; exact d1
        rcases hs with rfl | rfl
        · go_wp2
          go_quiet (fail)
          go_wp2
          go_roundw
          case rel => exact ⟨Or.inr rfl, hd.trans (Drw.mk _ _)⟩
          case measure => simp [intOf]
        · go_wp2
          go_quiet (fail)
          go_wp2
          go_ret
          exact ⟨ret_bool HD.out.symm, B1.trans ((hd.trans (Drw.mk _ _)).below _)⟩
  · have h1z : (a != c) = true := by simp [h1]
    have HD := Lib.hid (decide_eq_false (fun h : a = c ∧ b = d => h1 h.1))
    clear h1
    go_enter Try.func45, Try.ntmps45
    go_wp2
    obtain ⟨w1, hw1⟩ : ∃ w1, w1 = (w.alloc (.cells #[.int .i64 a, .int .i64 b] 50)).alloc (.cells #[.int .i64 c, .int .i64 d] 50) := ⟨_, rfl⟩
    have c0 : w1.cell? ⟨w.heap.size, 0, none⟩ = some (.int .i64 a) := by rw [hw1]; exact (by repeat' (first | with_reducible assumption | (refine cell_top ?_ rfl; first | with_reducible rfl | (simp only [World.size_alloc, World.size_setCell]; done)) | (refine cell_under ?_ ?_; (first | omega | (simp only [World.size_alloc, World.size_setCell]; omega))) | refine cell_drew ?_))
    have c1 : w1.cell? ⟨w.heap.size, 1, none⟩ = some (.int .i64 b) := by rw [hw1]; exact (by repeat' (first | with_reducible assumption | (refine cell_top ?_ rfl; first | with_reducible rfl | (simp only [World.size_alloc, World.size_setCell]; done)) | (refine cell_under ?_ ?_; (first | omega | (simp only [World.size_alloc, World.size_setCell]; omega))) | refine cell_drew ?_))
    have d0 : w1.cell? ⟨w.heap.size + 1, 0, none⟩ = some (.int .i64 c) := by rw [hw1]; exact (by repeat' (first | with_reducible assumption | (refine cell_top ?_ rfl; first | with_reducible rfl | (simp only [World.size_alloc, World.size_setCell]; done)) | (refine cell_under ?_ ?_; (first | omega | (simp only [World.size_alloc, World.size_setCell]; omega))) | refine cell_drew ?_))
    have d1 : w1.cell? ⟨w.heap.size + 1, 1, none⟩ = some (.int .i64 d) := by rw [hw1]; exact (by repeat' (first | with_reducible assumption | (refine cell_top ?_ rfl; first | with_reducible rfl | (simp only [World.size_alloc, World.size_setCell]; done)) | (refine cell_under ?_ ?_; (first | omega | (simp only [World.size_alloc, World.size_setCell]; omega))) | refine cell_drew ?_))
    have B1 : Below w.heap.size w w1 := by rw [hw1]; exact (by repeat' (first | with_reducible exact Below.refl _ _ | with_reducible assumption | with_reducible apply Below.alloc | with_reducible apply Below.setCell | with_reducible apply Below.drew | exact Nat.le_refl _ | omega | (simp only [World.size_alloc, World.size_setCell]; omega)))
    rw [← hw1]
    clear hw1
    go_loopw [5] (fun s wr => s = .int .i64 0 ∧ Drw w1 wr) (fun s _ => 2 - (intOf s).toNat)
    case atStart => exact ⟨rfl, Drw.refl _⟩
    case round =>
      obtain ⟨rfl, hd⟩ := hrel
      have e0 : wr.cell? ⟨w.heap.size, 0, none⟩ = some (.int .i64 a) := by rw [hd.cell]; exact c0
      have f0 : wr.cell? ⟨w.heap.size + 1, 0, none⟩ = some (.int .i64 c) := by rw [hd.cell]; exact d0
      go_wp2
      go_quiet (fail)
      go_wp2
      go_ret
      exact ⟨ret_bool HD.out.symm, B1.trans ((hd.trans (Drw.mk _ _)).below _)⟩
def SmallGame (g : GameD) : Prop := g.Weights.length + (g.Wins.length + sumLen g.Wins) ≤ 1048576
theorem GameD.eq_of {a b : GameD} (h1 : a.X = b.X) (h2 : a.Y = b.Y) : (a = b) ↔ (a.Weights = b.Weights ∧ a.Wins = b.Wins) := by
  cases a; cases b; simp_all
end Go.Proofs.Ytbleeakcmmpcgaa
