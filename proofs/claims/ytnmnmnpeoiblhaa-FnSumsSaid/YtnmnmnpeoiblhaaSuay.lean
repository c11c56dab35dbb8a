/- Boxes that are alike: contracts of the program's and the reference's test. AreAlike: contracts of the program's and the reference's functions. -/
import Derived.Test.YtnmnmnpeoiblhaaSuai
import Derived.Test.YtnmnmnpeoiblhaaSuas
set_option linter.unusedSimpArgs false
set_option linter.unusedVariables false
namespace Go.Proofs.Ytnmnmnpeoiblhaa
open Go.RowKit

set_option maxHeartbeats 1600000 in
theorem l2Alike_any (va : Value) (a : BoxD) (vb : Value) (b : BoxD) (hs : sameB a b = true) (w : World) (ra : RdII w va a.Rows) (rb : RdII w vb b.Rows) :
    Calls Try.prog 78 #[.agg #[.int .i64 a.X, .int .i64 a.Y, .int .i64 a.Whole, va], .agg #[.int .i64 b.X, .int .i64 b.Y, .int .i64 b.Whole, vb]] w fun e w' => e = .returned (.bool (alikeR a.Rows b.Rows a.Whole b.Whole)) ∧ Below w.heap.size w w' := by
  obtain ⟨qa, qb, hX, hY⟩ := sameB_iff.1 hs
  have la := boxB_len2 qa
  have lb := boxB_len2 qb
  have hlen : b.Rows.length = a.Rows.length := by rw [la, lb, hX, hY]
  have PA := Lib.hid (fun k hk => boxB_path qa ra k hk)
  have PB := Lib.hid (fun k hk => boxB_path qb rb k hk)
  have hl9 : a.Rows.length ≤ 9 := boxB_len qa
  have hl1 : 1 ≤ a.Rows.length := boxB_len1 qa
  obtain ⟨wa0, wa1⟩ := (boxB_iff.1 qa).2.1
  obtain ⟨wb0, wb1⟩ := (boxB_iff.1 qb).2.1
  obtain ⟨ba, off, cap, _, _, _, rfl, _⟩ := PA.out 0 (by omega)
  obtain ⟨bb, offb, capb, _, _, _, rfl, _⟩ := PB.out 0 (by omega)
  have HL := Lib.hid hlen
  clear hX hY hlen la lb hs qa qb ra rb
  go_enter Try.func78, Try.ntmps78
  go_wp2
  obtain ⟨w1, hw1⟩ : ∃ w1, w1 = ((w.alloc (.cells #[.int .i64 a.X, .int .i64 a.Y, .int .i64 a.Whole, .slice (some ⟨ba, off, none⟩) a.Rows.length cap] 26)).alloc (.cells #[.int .i64 b.X, .int .i64 b.Y, .int .i64 b.Whole, .slice (some ⟨bb, offb, none⟩) b.Rows.length capb] 26)) := ⟨_, rfl⟩
  have A1 : BoxAt w1 w.heap.size a.X a.Y a.Whole (.slice (some ⟨ba, off, none⟩) a.Rows.length cap) := by rw [hw1]; exact ⟨(by repeat' (first | with_reducible assumption | (refine cell_top ?_ rfl; first | with_reducible rfl | (simp only [World.size_alloc, World.size_setCell]; done)) | (refine cell_under ?_ ?_; (first | omega | (simp only [World.size_alloc, World.size_setCell]; omega))) | refine cell_drew ?_)), (by repeat' (first | with_reducible assumption | (refine cell_top ?_ rfl; first | with_reducible rfl | (simp only [World.size_alloc, World.size_setCell]; done)) | (refine cell_under ?_ ?_; (first | omega | (simp only [World.size_alloc, World.size_setCell]; omega))) | refine cell_drew ?_)), (by repeat' (first | with_reducible assumption | (refine cell_top ?_ rfl; first | with_reducible rfl | (simp only [World.size_alloc, World.size_setCell]; done)) | (refine cell_under ?_ ?_; (first | omega | (simp only [World.size_alloc, World.size_setCell]; omega))) | refine cell_drew ?_)), (by repeat' (first | with_reducible assumption | (refine cell_top ?_ rfl; first | with_reducible rfl | (simp only [World.size_alloc, World.size_setCell]; done)) | (refine cell_under ?_ ?_; (first | omega | (simp only [World.size_alloc, World.size_setCell]; omega))) | refine cell_drew ?_))⟩
  have A2 : BoxAt w1 (w.heap.size + 1) b.X b.Y b.Whole (.slice (some ⟨bb, offb, none⟩) b.Rows.length capb) := by rw [hw1]; exact ⟨(by repeat' (first | with_reducible assumption | (refine cell_top ?_ rfl; first | with_reducible rfl | (simp only [World.size_alloc, World.size_setCell]; done)) | (refine cell_under ?_ ?_; (first | omega | (simp only [World.size_alloc, World.size_setCell]; omega))) | refine cell_drew ?_)), (by repeat' (first | with_reducible assumption | (refine cell_top ?_ rfl; first | with_reducible rfl | (simp only [World.size_alloc, World.size_setCell]; done)) | (refine cell_under ?_ ?_; (first | omega | (simp only [World.size_alloc, World.size_setCell]; omega))) | refine cell_drew ?_)), (by repeat' (first | with_reducible assumption | (refine cell_top ?_ rfl; first | with_reducible rfl | (simp only [World.size_alloc, World.size_setCell]; done)) | (refine cell_under ?_ ?_; (first | omega | (simp only [World.size_alloc, World.size_setCell]; omega))) | refine cell_drew ?_)), (by repeat' (first | with_reducible assumption | (refine cell_top ?_ rfl; first | with_reducible rfl | (simp only [World.size_alloc, World.size_setCell]; done)) | (refine cell_under ?_ ?_; (first | omega | (simp only [World.size_alloc, World.size_setCell]; omega))) | refine cell_drew ?_))⟩
  have B1 : Below w.heap.size w w1 := by rw [hw1]; exact (by repeat' (first | with_reducible exact Below.refl _ _ | with_reducible assumption | with_reducible apply Below.alloc | with_reducible apply Below.setCell | with_reducible apply Below.drew | exact Nat.le_refl _ | omega | (simp only [World.size_alloc, World.size_setCell]; omega)))
  rw [← hw1]
  have H1 := Lib.hid hw1
  clear hw1
  go_loopw [5] (fun s wr => ∃ n : Nat, n ≤ a.Rows.length ∧ s = .int .i64 n ∧ AlikeTo a.Rows b.Rows a.Whole b.Whole n 0 ∧ Drw w1 wr) (fun s _ => a.Rows.length - (intOf s).toNat)
  case atStart => exact ⟨0, by omega, rfl, fun i q _ hd => by omega, Drw.refl _⟩
  case round =>
    obtain ⟨n, hn, rfl, hA, hd⟩ := hrel
    obtain ⟨_, _, _, e3⟩ := A1.kept (hd.below w1.heap.size) A1.lt
    have HA := Lib.hid hA
    clear hA
    by_cases hlt : n < a.Rows.length
    · obtain ⟨_, _, _, b2, o2, c2, ev, _, ca, lba, lb2, PAk⟩ := PA.out n hlt
      obtain ⟨_, _, _, b4, o4, c4, ev2, _, cb, lbb, lb4, PBk⟩ := PB.out n (by rw [HL.out]; exact hlt)
      simp only [Value.slice.injEq, Option.some.injEq, Addr.mk.injEq, and_true, true_and] at ev ev2
      obtain ⟨⟨rfl, rfl⟩, rfl⟩ := ev
      obtain ⟨⟨rfl, rfl⟩, rfl⟩ := ev2
      have HPA := Lib.hid PAk
      have HPB := Lib.hid PBk
      have HCA := Lib.hid ca
      have HCB := Lib.hid cb
      clear PAk PBk ca cb
      go_wp2
      clear e3
      go_loopw [6] (fun s wz => ∃ q : Nat, q ≤ 4 ∧ s = .int .i64 q ∧ AlikeTo a.Rows b.Rows a.Whole b.Whole n q ∧ Drw w1 wz) (fun s _ => 4 - (intOf s).toNat)
      case atStart => exact ⟨0, by omega, rfl, HA.out, hd⟩
      case round =>
        clear hd HA
        obtain ⟨q, hq, rfl, hA, hd⟩ := hrel
        have HA := Lib.hid hA
        clear hA
        by_cases hqt : q < 4
        · obtain ⟨x, cx, ⟨bx0, bx1⟩, _, nx⟩ := HPA.out q hqt
          obtain ⟨y, cy, ⟨by0, by1⟩, _, ny⟩ := HPB.out q hqt
          have BZ := B1.trans (hd.below w.heap.size)
          have cx' := keepAt BZ lb2 cx
          have cy' := keepAt BZ lb4 cy
          have ca' := keepAt BZ lba HCA.out
          have cb' := keepAt BZ lbb HCB.out
          obtain ⟨_, _, e2, e3⟩ := A1.kept (hd.below w1.heap.size) A1.lt
          obtain ⟨_, _, f2, f3⟩ := A2.kept (hd.below w1.heap.size) A2.lt
          obtain ⟨p0, p1⟩ := mul_small (k := b.Whole) bx0 (by omega) wb0 wb1
          obtain ⟨p2, p3⟩ := mul_small (k := a.Whole) by0 (by omega) wa0 wa1
          have hw1 := wrap_in (x * b.Whole) (by omega) (by omega)
          have hw2 := wrap_in (y * a.Whole) (by omega) (by omega)
          have n0 : (0 : Int) ≤ (n : Int) := by omega
          have n1 : (n : Int) < (a.Rows.length : Int) := by omega
          have n2 : (n : Int) < (b.Rows.length : Int) := by have := HL.out; omega
          have q0 : (0 : Int) ≤ (q : Int) := by omega
          have q1 : (q : Int) < 4 := by omega
          by_cases he : x * b.Whole = y * a.Whole
          · have hez : (x * b.Whole != y * a.Whole) = false := by simp [he]
            have HE := Lib.hid (show cellAt a.Rows n q * b.Whole = cellAt b.Rows n q * a.Whole by rw [nx, ny]; exact he)
            clear he nx ny
            go_wp2
            go_quiet (fail)
            go_wp2
            go_roundw
            case rel => exact ⟨q + 1, by omega, by go_num, HA.out.next HE.out, hd.trans (Drw.mk _ _)⟩
            case measure => simp [intOf]; omega
          · have hez : (x * b.Whole != y * a.Whole) = true := by simp [he]
            have HE := Lib.hid (show ¬ cellAt a.Rows n q * b.Whole = cellAt b.Rows n q * a.Whole by rw [nx, ny]; exact he)
            clear he nx ny
            go_wp2
            go_quiet (fail)
            go_wp2
            go_ret
            exact ⟨ret_bool (alikeR_false hlt hqt HE.out).symm, B1.trans ((hd.trans (Drw.mk _ _)).below _)⟩
        · obtain rfl : q = 4 := by omega
          go_wp2
          go_roundw
          case rel => exact ⟨n + 1, by omega, by go_num, HA.out.row, hd⟩
          case measure => simp [intOf]; omega
    · obtain rfl : n = a.Rows.length := by omega
      go_wp2
      go_ret
      exact ⟨ret_bool (alikeR_true HA.out).symm, B1.trans (hd.below _)⟩
set_option maxHeartbeats 1600000 in
theorem alike_any (va : Value) (a : BoxD) (vb : Value) (b : BoxD) (hs : sameB a b = true) (w : World) (ra : RdII w va a.Rows) (rb : RdII w vb b.Rows) :
    Calls Try.prog 75 #[va, .int .i64 a.Whole, vb, .int .i64 b.Whole] w fun e w' => e = .returned (.bool (alikeR a.Rows b.Rows a.Whole b.Whole)) ∧ w = w' := by
  obtain ⟨qa, qb, hX, hY⟩ := sameB_iff.1 hs
  have la := boxB_len2 qa
  have lb := boxB_len2 qb
  have hlen : b.Rows.length = a.Rows.length := by rw [la, lb, hX, hY]
  have PA := Lib.hid (fun k hk => boxB_path qa ra k hk)
  have PB := Lib.hid (fun k hk => boxB_path qb rb k hk)
  have hl9 : a.Rows.length ≤ 9 := boxB_len qa
  have hl1 : 1 ≤ a.Rows.length := boxB_len1 qa
  obtain ⟨wa0, wa1⟩ := (boxB_iff.1 qa).2.1
  obtain ⟨wb0, wb1⟩ := (boxB_iff.1 qb).2.1
  obtain ⟨ba, off, cap, _, _, _, rfl, _⟩ := PA.out 0 (by omega)
  obtain ⟨bb, offb, capb, _, _, _, rfl, _⟩ := PB.out 0 (by omega)
  have HL := Lib.hid hlen
  clear hX hY hlen la lb hs qa qb ra rb
  go_enter Try.func75, Try.ntmps75
  go_wp2
  go_loop [15] (fun s => ∃ n : Nat, n ≤ a.Rows.length ∧ s = .int .i64 n ∧ AlikeTo a.Rows b.Rows a.Whole b.Whole n 0) (fun s => a.Rows.length - (intOf s).toNat)
  case atStart => exact ⟨0, by omega, rfl, fun i q _ hd => by omega⟩
  case round =>
    obtain ⟨n, hn, rfl, hA⟩ := hrel
    have HA := Lib.hid hA
    clear hA
    by_cases hlt : n < a.Rows.length
    · obtain ⟨_, _, _, b2, o2, c2, ev, _, ca, lba, lb2, PAk⟩ := PA.out n hlt
      obtain ⟨_, _, _, b4, o4, c4, ev2, _, cb, lbb, lb4, PBk⟩ := PB.out n (by rw [HL.out]; exact hlt)
      simp only [Value.slice.injEq, Option.some.injEq, Addr.mk.injEq, and_true, true_and] at ev ev2
      obtain ⟨⟨rfl, rfl⟩, rfl⟩ := ev
      obtain ⟨⟨rfl, rfl⟩, rfl⟩ := ev2
      have HPA := Lib.hid PAk
      have HPB := Lib.hid PBk
      clear PAk PBk
      go_wp2
      go_loop [22] (fun s => ∃ q : Nat, q ≤ 4 ∧ s = .int .i64 q ∧ AlikeTo a.Rows b.Rows a.Whole b.Whole n q) (fun s => 4 - (intOf s).toNat)
      case atStart => exact ⟨0, by omega, rfl, HA.out⟩
      case round =>
        clear HA
        obtain ⟨q, hq, rfl, hA⟩ := hrel
        have HA := Lib.hid hA
        clear hA
        by_cases hqt : q < 4
        · obtain ⟨x, cx, ⟨bx0, bx1⟩, _, nx⟩ := HPA.out q hqt
          obtain ⟨y, cy, ⟨by0, by1⟩, _, ny⟩ := HPB.out q hqt
          obtain ⟨p0, p1⟩ := mul_small (k := b.Whole) bx0 (by omega) wb0 wb1
          obtain ⟨p2, p3⟩ := mul_small (k := a.Whole) by0 (by omega) wa0 wa1
          have n2 : n < b.Rows.length := by have := HL.out; omega
          by_cases he : x * b.Whole = y * a.Whole
          · have hez : (x * b.Whole != y * a.Whole) = false := by simp [he]
            have HE := Lib.hid (show cellAt a.Rows n q * b.Whole = cellAt b.Rows n q * a.Whole by rw [nx, ny]; exact he)
            clear he nx ny
            go_wp2
            go_round
            case rel => exact ⟨q + 1, by omega, by go_num, HA.out.next HE.out⟩
            case measure => simp [intOf]; omega
          · have hez : (x * b.Whole != y * a.Whole) = true := by simp [he]
            have HE := Lib.hid (show ¬ cellAt a.Rows n q * b.Whole = cellAt b.Rows n q * a.Whole by rw [nx, ny]; exact he)
            clear he nx ny
            go_wp2
            go_ret
            exact ⟨ret_bool (alikeR_false hlt hqt HE.out).symm, rfl⟩
        · obtain rfl : q = 4 := by omega
          go_wp2
          go_round
          case rel => exact ⟨n + 1, by omega, by go_num, HA.out.row⟩
          case measure => simp [intOf]; omega
    · obtain rfl : n = a.Rows.length := by omega
      go_wp2
      go_ret
      exact ⟨ret_bool (alikeR_true HA.out).symm, rfl⟩
end Go.Proofs.Ytnmnmnpeoiblhaa
set_option linter.unusedSimpArgs false
set_option linter.unusedVariables false
namespace Go.Proofs.Ytnmnmnpeoiblhaa
open Go.RowKit

def alikeD (a b : BoxD) : Bool := sameB a b && alikeR a.Rows b.Rows a.Whole b.Whole
end Go.Proofs.Ytnmnmnpeoiblhaa
