/- The first loud player: contracts of the reference's and of the program's search. -/
import Derived.Test.YtcifpfdlkpddeaaGreatDoorQxar
set_option linter.unusedSimpArgs false
set_option linter.unusedVariables false
namespace Go.Proofs.YtcifpfdlkpddeaaGreatDoor
open Go.RowKit

def loudX (b : BoxD) (x : Nat) : Bool := (List.range b.Y.toNat).any fun y => decide (oneB b 0 x y ≠ oneB b 0 x 0)
def loudY (b : BoxD) (y : Nat) : Bool := (List.range b.X.toNat).any fun x => decide (oneB b 1 x y ≠ oneB b 1 0 y)
def loudF (b : BoxD) : Option (Nat × Nat) := match (List.range b.X.toNat).find? (loudX b) with
  | some x => some (0, x)
  | none => ((List.range b.Y.toNat).find? (loudY b)).map fun y => (1, y)
theorem loudX_true {b : BoxD} {x y : Nat} (hy : (y : Int) < b.Y) (h : ¬ oneB b 0 x y = oneB b 0 x 0) : loudX b x = true := by
  unfold loudX
  rw [List.any_eq_true]
  exact ⟨y, List.mem_range.2 (by omega), decide_eq_true h⟩
theorem loudX_false {b : BoxD} {x : Nat} (h : ∀ y : Nat, (y : Int) < b.Y → oneB b 0 x y = oneB b 0 x 0) : loudX b x = false := by
  unfold loudX
  rw [List.any_eq_false]
  intro y hy
  simp [h y (Int.lt_toNat.1 (List.mem_range.1 hy))]
theorem loudY_true {b : BoxD} {x y : Nat} (hx : (x : Int) < b.X) (h : ¬ oneB b 1 x y = oneB b 1 0 y) : loudY b y = true := by
  unfold loudY
  rw [List.any_eq_true]
  exact ⟨x, List.mem_range.2 (by omega), decide_eq_true h⟩
theorem loudY_false {b : BoxD} {y : Nat} (h : ∀ x : Nat, (x : Int) < b.X → oneB b 1 x y = oneB b 1 0 y) : loudY b y = false := by
  unfold loudY
  rw [List.any_eq_false]
  intro x hx
  simp [h x (Int.lt_toNat.1 (List.mem_range.1 hx))]
theorem find_range {n i : Nat} {p : Nat → Bool} (hi : i < n) (hp : p i = true) (h : ∀ j, j < i → p j = false) : (List.range n).find? p = some i := by
  rw [List.find?_range_eq_some]
  exact ⟨hp, List.mem_range.2 hi, fun j hj => by simp [h j hj]⟩
theorem find_none {n : Nat} {p : Nat → Bool} (h : ∀ j, j < n → p j = false) : (List.range n).find? p = none := by
  rw [List.find?_range_eq_none]
  intro j hj
  simp [h j hj]
theorem loudF_x {b : BoxD} {x : Nat} (hx : (x : Int) < b.X) (h : loudX b x = true) (h0 : ∀ j, j < x → loudX b j = false) : loudF b = some (0, x) := by
  unfold loudF
  rw [find_range (by omega) h h0]
theorem loudF_y {b : BoxD} {y : Nat} (hX : ∀ j : Nat, (j : Int) < b.X → loudX b j = false) (hy : (y : Int) < b.Y) (h : loudY b y = true) (h0 : ∀ j, j < y → loudY b j = false) : loudF b = some (1, y) := by
  unfold loudF
  rw [find_none (fun j hj => hX j (Int.lt_toNat.1 hj)), find_range (by omega) h h0]
  rfl
theorem loudF_no {b : BoxD} (hX : ∀ j : Nat, (j : Int) < b.X → loudX b j = false) (hY : ∀ j : Nat, (j : Int) < b.Y → loudY b j = false) : loudF b = none := by
  unfold loudF
  rw [find_none (fun j hj => hX j (Int.lt_toNat.1 hj)), find_none (fun j hj => hY j (Int.lt_toNat.1 hj))]
  rfl

theorem cells4_at {w W : World} {b5 o5 : Nat} {p q r s : Int} (hB : Below w.heap.size w W)
    (h : w.cell? ⟨b5, o5, none⟩ = some (.int .i64 p) ∧ w.cell? ⟨b5, o5 + 1, none⟩ = some (.int .i64 q) ∧ w.cell? ⟨b5, o5 + 2, none⟩ = some (.int .i64 r) ∧ w.cell? ⟨b5, o5 + 3, none⟩ = some (.int .i64 s)) :
    W.cell? ⟨b5, o5, none⟩ = some (.int .i64 p) ∧ W.cell? ⟨b5, o5 + 1, none⟩ = some (.int .i64 q) ∧ W.cell? ⟨b5, o5 + 2, none⟩ = some (.int .i64 r) ∧ W.cell? ⟨b5, o5 + 3, none⟩ = some (.int .i64 s) :=
  ⟨keepCell hB h.1, keepCell hB h.2.1, keepCell hB h.2.2.1, keepCell hB h.2.2.2⟩

theorem l2Row_lit (v : Value) (b : BoxD) (i j : Nat) (i' j' : Int) (ei : (i : Int) = i') (ej : (j : Int) = j') (n : Nat) (p q r s : Int) (hn : (i : Int) * b.Y + (j : Int) = (n : Int)) (hm : 0 ≤ (i : Int) * b.Y ∧ (i : Int) * b.Y ≤ 6) (hn8 : n ≤ 8) (hlt : n < b.Rows.length) (hrow : b.Rows[n]? = some [p, q, r, s]) (w0 w : World) (h : RdII w0 v b.Rows) (hB : Below w0.heap.size w0 w) :
    Calls Tryz.prog 45 #[.agg #[.int .i64 b.X, .int .i64 b.Y, .int .i64 b.Whole, v], .int .i64 i', .int .i64 j'] w fun e w' => ∃ b2 o2 c2 : Nat, e = .returned (.slice (some ⟨b2, o2, none⟩) 4 c2) ∧
      (w0.cell? ⟨b2, o2, none⟩ = some (.int .i64 p) ∧ w0.cell? ⟨b2, o2 + 1, none⟩ = some (.int .i64 q) ∧ w0.cell? ⟨b2, o2 + 2, none⟩ = some (.int .i64 r) ∧ w0.cell? ⟨b2, o2 + 3, none⟩ = some (.int .i64 s)) ∧ Below w.heap.size w w' := by
  subst ei ej
  exact l2Row_any v b i j n p q r s hn hm hn8 hlt hrow w0 w h hB
def loudS (b : BoxD) : Int × Int := match loudF b with
  | some (p, q) => ((p : Int), (q : Int))
  | none => (-1, -1)

set_option maxRecDepth 100000 in
set_option maxHeartbeats 6400000 in
theorem l2Loud_any (v : Value) (b : BoxD) (hb : boxB b = true) (w : World) (h : RdII w v b.Rows) :
    Calls Tryz.prog 37 #[.agg #[.int .i64 b.X, .int .i64 b.Y, .int .i64 b.Whole, v]] w fun e w' => e = .returned (.tuple #[.int .i64 (loudS b).1, .int .i64 (loudS b).2]) ∧ Below w.heap.size w w' := by
  obtain ⟨⟨hx0, hx1⟩, hy0, hy1⟩ := (boxB_iff.1 hb).1
  have A0 : BoxAt (w.alloc (.cells #[.int .i64 b.X, .int .i64 b.Y, .int .i64 b.Whole, v] 26)) w.heap.size b.X b.Y b.Whole v := BoxAt.top rfl
  have B0 : Below w.heap.size w (w.alloc (.cells #[.int .i64 b.X, .int .i64 b.Y, .int .i64 b.Whole, v] 26)) := (by repeat' (first | with_reducible exact Below.refl _ _ | with_reducible assumption | with_reducible apply Below.alloc | with_reducible apply Below.setCell | with_reducible apply Below.drew | exact Nat.le_refl _ | omega | (simp only [World.size_alloc, World.size_setCell]; omega)))
  have hwb := (boxB_iff.1 hb).2.1
  obtain ⟨hw0, hw1⟩ := hwb
  go_enter Tryz.func37, Tryz.ntmps37
  go_wp2
  generalize hw1 : w.alloc (.cells #[.int .i64 b.X, .int .i64 b.Y, .int .i64 b.Whole, v] 26) = w1 at *
  have H1 := Lib.hid hw1
  clear hw1
  go_loopw [4] (fun s wr => ∃ x : Nat, (x : Int) ≤ b.X ∧ s = .int .i64 x ∧ (∀ j, j < x → loudX b j = false) ∧ Below w1.heap.size w1 wr) (fun s _ => b.X.toNat - (intOf s).toNat)
  case atStart => exact ⟨0, by omega, rfl, fun j hj => by omega, Below.refl _ _⟩
  case round =>
    obtain ⟨x, hx, rfl, hA, hB⟩ := hrel
    have HA := Lib.hid hA
    clear hA
    obtain ⟨e0, e1, _, _⟩ := A0.kept hB A0.lt
    by_cases hxt : (x : Int) < b.X
    · obtain ⟨n0, p0, q0, r0, s0, hn0, hm0, hn80, hrow0, hnl0, hp0, hq0, hr0, hs0, _, f00, f01, f02, f03⟩ := boxB_at hb x 0 hxt (by omega)
      have HN0 := Lib.hid hn0
      have HR0 := Lib.hid hrow0
      have HF0 := Lib.hid (And.intro f02 f03)
      clear hn0 hrow0 f00 f01 f02 f03
      go_wp2
      clear e0 e1
      go_loopw [5] (fun s wr => ∃ y : Nat, 1 ≤ y ∧ (y : Int) ≤ b.Y ∧ s = .int .i64 y ∧ (∀ j, j < y → oneB b 0 x j = oneB b 0 x 0) ∧ Below w1.heap.size w1 wr) (fun s _ => b.Y.toNat - (intOf s).toNat)
      case atStart => exact ⟨1, by omega, by omega, rfl, fun j hj => by (obtain rfl : j = 0 := by omega); rfl, hB⟩
      case round =>
        clear hB
        obtain ⟨y, hy, hyY, rfl, hI, hB⟩ := hrel
        have HI := Lib.hid hI
        clear hI
        obtain ⟨e0, e1, _, _⟩ := A0.kept hB A0.lt
        by_cases hyt : (y : Int) < b.Y
        · obtain ⟨n, p, q, r, s, hn, hm, hn8, hrow, hnl, hp, hq, hr, hs, _, f0, f1, f2, f3⟩ := boxB_at hb x y hxt hyt
          have HN := Lib.hid hn
          have HR := Lib.hid hrow
          have hone : oneB b 0 x y = r + s := by rw [oneB_0]; exact (congr (congrArg _ f2) f3 : numB b x y 1 0 + numB b x y 1 1 = r + s)
          have hone0 : oneB b 0 x 0 = r0 + s0 := by rw [oneB_0]; exact (congr (congrArg _ HF0.out.1) HF0.out.2 : numB b x (0 : Nat) 1 0 + numB b x (0 : Nat) 1 1 = r0 + s0)
          have HO := Lib.hid (And.intro hone hone0)
          have A1 := A0.kept hB A0.lt
          have BW := B0.trans (hB.mono B0.size)
          clear hn hrow f0 f1 f2 f3 hone hone0
          have fin : ∀ t : Bool, (r + s != r0 + s0) = t → t = true ∨ t = false := fun t _ => by cases t <;> simp
          by_cases he : r + s = r0 + s0
          · have hez : (r + s != r0 + s0) = false := by simp [he]
            have HE := Lib.hid (show oneB b 0 x y = oneB b 0 x 0 by rw [HO.out.1, HO.out.2]; exact he)
            clear he fin e0
            go_wp2
            go_region_held3 (fun w' => Below w1.heap.size w1 w' ∧ w'.cell? ⟨w.heap.size, 0, none⟩ = some (.int .i64 b.X) ∧ w'.cell? ⟨w.heap.size, 1, none⟩ = some (.int .i64 b.Y) ∧ w'.cell? ⟨w.heap.size, 2, none⟩ = some (.int .i64 b.Whole) ∧ w'.cell? ⟨w.heap.size, 3, none⟩ = some v)
              (first | exact held1 hB.drew A0 | exact held1 hBn A0)
              (first
                | (go_at_call 45; have hS := And.left (by assumption : Below w1.heap.size w1 _ ∧ _); (with_reducible refine (l2Row_any v b x y n p q r s HN.out hm hn8 hnl HR.out w _ h (B0.trans (hS.mono B0.size))).mono ?_); rintro e wd ⟨b5, o5, c5, rfl, K5, bd⟩; have hBn := hS.trans (bd.mono hS.size))
                | (go_at_call 45; have hS := And.left (by assumption : Below w1.heap.size w1 _ ∧ _); (with_reducible refine (l2Row_lit v b x 0 x 0 rfl rfl n0 p0 q0 r0 s0 HN0.out hm0 hn80 hnl0 HR0.out w _ h (B0.trans (hS.mono B0.size))).mono ?_); rintro e wd ⟨b6, o6, c6, rfl, K6, bd⟩; have hBn := hS.trans (bd.mono hS.size))
                | (go_at_call 44; have hS := And.left (by assumption : Below w1.heap.size w1 _ ∧ _); (with_reducible refine (l2One0_any b5 o5 c5 p q r s ⟨hr.1, by omega⟩ ⟨hs.1, by omega⟩ _ (cells4_at (B0.trans (hS.mono B0.size)) K5)).mono ?_); rintro e we ⟨rfl, bd⟩; have hBn := hS.trans ((bd.below w1.heap.size)))
                | (go_at_call 44; have hS := And.left (by assumption : Below w1.heap.size w1 _ ∧ _); (with_reducible refine (l2One0_any b6 o6 c6 p0 q0 r0 s0 ⟨hr0.1, by omega⟩ ⟨hs0.1, by omega⟩ _ (cells4_at (B0.trans (hS.mono B0.size)) K6)).mono ?_); rintro e we ⟨rfl, bd⟩; have hBn := hS.trans ((bd.below w1.heap.size))))
            all_goals
              go_wp2
              go_roundw
              case rel => exact ⟨y + 1, by omega, by omega, by go_num, fun j hj => by
                by_cases e : j = y
                · subst e; exact HE.out
                · exact HI.out j (by omega), hBn⟩
              case measure => simp [intOf]; omega
          · have hez : (r + s != r0 + s0) = true := by simp [he]
            have HE := Lib.hid (show ¬ oneB b 0 x y = oneB b 0 x 0 by rw [HO.out.1, HO.out.2]; exact he)
            clear he fin e0
            go_wp2
            go_region_held3 (fun w' => Below w1.heap.size w1 w' ∧ w'.cell? ⟨w.heap.size, 0, none⟩ = some (.int .i64 b.X) ∧ w'.cell? ⟨w.heap.size, 1, none⟩ = some (.int .i64 b.Y) ∧ w'.cell? ⟨w.heap.size, 2, none⟩ = some (.int .i64 b.Whole) ∧ w'.cell? ⟨w.heap.size, 3, none⟩ = some v)
              (first | exact held1 hB.drew A0 | exact held1 hBn A0)
              (first
                | (go_at_call 45; have hS := And.left (by assumption : Below w1.heap.size w1 _ ∧ _); (with_reducible refine (l2Row_any v b x y n p q r s HN.out hm hn8 hnl HR.out w _ h (B0.trans (hS.mono B0.size))).mono ?_); rintro e wd ⟨b5, o5, c5, rfl, K5, bd⟩; have hBn := hS.trans (bd.mono hS.size))
                | (go_at_call 45; have hS := And.left (by assumption : Below w1.heap.size w1 _ ∧ _); (with_reducible refine (l2Row_lit v b x 0 x 0 rfl rfl n0 p0 q0 r0 s0 HN0.out hm0 hn80 hnl0 HR0.out w _ h (B0.trans (hS.mono B0.size))).mono ?_); rintro e wd ⟨b6, o6, c6, rfl, K6, bd⟩; have hBn := hS.trans (bd.mono hS.size))
                | (go_at_call 44; have hS := And.left (by assumption : Below w1.heap.size w1 _ ∧ _); (with_reducible refine (l2One0_any b5 o5 c5 p q r s ⟨hr.1, by omega⟩ ⟨hs.1, by omega⟩ _ (cells4_at (B0.trans (hS.mono B0.size)) K5)).mono ?_); rintro e we ⟨rfl, bd⟩; have hBn := hS.trans ((bd.below w1.heap.size)))
                | (go_at_call 44; have hS := And.left (by assumption : Below w1.heap.size w1 _ ∧ _); (with_reducible refine (l2One0_any b6 o6 c6 p0 q0 r0 s0 ⟨hr0.1, by omega⟩ ⟨hs0.1, by omega⟩ _ (cells4_at (B0.trans (hS.mono B0.size)) K6)).mono ?_); rintro e we ⟨rfl, bd⟩; have hBn := hS.trans ((bd.below w1.heap.size))))
            all_goals
              go_wp2
              go_ret2
              have hl : loudS b = ((0 : Int), (x : Int)) := by unfold loudS; rw [loudF_x hxt (loudX_true hyt HE.out) HA.out]; rfl
              exact ⟨by rw [hl]; rfl, B0.trans (hBn.mono B0.size)⟩
        · have hyE : (y : Int) = b.Y := by omega
          have HX := Lib.hid (loudX_false (fun j hj => HI.out j (by omega)))
          clear hyE
          go_wp2
          go_roundw
          case rel => exact ⟨x + 1, by omega, by go_num, fun j hj => by
            by_cases e : j = x
            · subst e; exact HX.out
            · exact HA.out j (by omega), hB⟩
          case measure => simp [intOf]; omega
    · have hxE : (x : Int) = b.X := by omega
      have HXA := Lib.hid (fun (j : Nat) (hj : (j : Int) < b.X) => HA.out j (by omega))
      clear hxE HA
      go_wp2
      clear e0 e1
      go_loopw [6] (fun s wr => ∃ y : Nat, (y : Int) ≤ b.Y ∧ s = .int .i64 y ∧ (∀ j, j < y → loudY b j = false) ∧ Below w1.heap.size w1 wr) (fun s _ => b.Y.toNat - (intOf s).toNat)
      case atStart => exact ⟨0, by omega, rfl, fun j hj => by omega, hB⟩
      case round =>
        clear hB
        obtain ⟨y, hy, rfl, hA, hB⟩ := hrel
        have HA := Lib.hid hA
        clear hA
        obtain ⟨e0, e1, _, _⟩ := A0.kept hB A0.lt
        by_cases hyt : (y : Int) < b.Y
        · obtain ⟨n0, p0, q0, r0, s0, hn0, hm0, hn80, hrow0, hnl0, hp0, hq0, hr0, hs0, _, f00, f01, f02, f03⟩ := boxB_at hb 0 y (by omega) hyt
          have HN0 := Lib.hid hn0
          have HR0 := Lib.hid hrow0
          have HF0 := Lib.hid (And.intro f01 f03)
          clear hn0 hrow0 f00 f01 f02 f03
          go_wp2
          clear e0 e1
          go_loopw [7] (fun s wr => ∃ x : Nat, 1 ≤ x ∧ (x : Int) ≤ b.X ∧ s = .int .i64 x ∧ (∀ j, j < x → oneB b 1 j y = oneB b 1 0 y) ∧ Below w1.heap.size w1 wr) (fun s _ => b.X.toNat - (intOf s).toNat)
          case atStart => exact ⟨1, by omega, by omega, rfl, fun j hj => by (obtain rfl : j = 0 := by omega); rfl, hB⟩
          case round =>
            clear hB
            obtain ⟨x, hx, hxX, rfl, hI, hB⟩ := hrel
            have HI := Lib.hid hI
            clear hI
            obtain ⟨e0, e1, _, _⟩ := A0.kept hB A0.lt
            by_cases hxt : (x : Int) < b.X
            · obtain ⟨n, p, q, r, s, hn, hm, hn8, hrow, hnl, hp, hq, hr, hs, _, f0, f1, f2, f3⟩ := boxB_at hb x y hxt hyt
              have HN := Lib.hid hn
              have HR := Lib.hid hrow
              have hone : oneB b 1 x y = q + s := by rw [oneB_1]; exact (congr (congrArg _ f1) f3 : numB b x y 0 1 + numB b x y 1 1 = q + s)
              have hone0 : oneB b 1 0 y = q0 + s0 := by rw [oneB_1]; exact (congr (congrArg _ HF0.out.1) HF0.out.2 : numB b (0 : Nat) y 0 1 + numB b (0 : Nat) y 1 1 = q0 + s0)
              have HO := Lib.hid (And.intro hone hone0)
              have A1 := A0.kept hB A0.lt
              have BW := B0.trans (hB.mono B0.size)
              clear hn hrow f0 f1 f2 f3 hone hone0
              have fin : ∀ t : Bool, (q + s != q0 + s0) = t → t = true ∨ t = false := fun t _ => by cases t <;> simp
              by_cases he : q + s = q0 + s0
              · have hez : (q + s != q0 + s0) = false := by simp [he]
                have HE := Lib.hid (show oneB b 1 x y = oneB b 1 0 y by rw [HO.out.1, HO.out.2]; exact he)
                clear he fin e1
                go_wp2
                go_region_held3 (fun w' => Below w1.heap.size w1 w' ∧ w'.cell? ⟨w.heap.size, 0, none⟩ = some (.int .i64 b.X) ∧ w'.cell? ⟨w.heap.size, 1, none⟩ = some (.int .i64 b.Y) ∧ w'.cell? ⟨w.heap.size, 2, none⟩ = some (.int .i64 b.Whole) ∧ w'.cell? ⟨w.heap.size, 3, none⟩ = some v)
                  (first | exact held1 hB.drew A0 | exact held1 hBn A0)
                  (first
                    | (go_at_call 45; have hS := And.left (by assumption : Below w1.heap.size w1 _ ∧ _); (with_reducible refine (l2Row_any v b x y n p q r s HN.out hm hn8 hnl HR.out w _ h (B0.trans (hS.mono B0.size))).mono ?_); rintro e wd ⟨b5, o5, c5, rfl, K5, bd⟩; have hBn := hS.trans (bd.mono hS.size))
                    | (go_at_call 45; have hS := And.left (by assumption : Below w1.heap.size w1 _ ∧ _); (with_reducible refine (l2Row_lit v b 0 y 0 y rfl rfl n0 p0 q0 r0 s0 HN0.out hm0 hn80 hnl0 HR0.out w _ h (B0.trans (hS.mono B0.size))).mono ?_); rintro e wd ⟨b6, o6, c6, rfl, K6, bd⟩; have hBn := hS.trans (bd.mono hS.size))
                    | (go_at_call 44; have hS := And.left (by assumption : Below w1.heap.size w1 _ ∧ _); (with_reducible refine (l2One1_any b5 o5 c5 p q r s ⟨hq.1, by omega⟩ ⟨hs.1, by omega⟩ _ (cells4_at (B0.trans (hS.mono B0.size)) K5)).mono ?_); rintro e we ⟨rfl, bd⟩; have hBn := hS.trans ((bd.below w1.heap.size)))
                    | (go_at_call 44; have hS := And.left (by assumption : Below w1.heap.size w1 _ ∧ _); (with_reducible refine (l2One1_any b6 o6 c6 p0 q0 r0 s0 ⟨hq0.1, by omega⟩ ⟨hs0.1, by omega⟩ _ (cells4_at (B0.trans (hS.mono B0.size)) K6)).mono ?_); rintro e we ⟨rfl, bd⟩; have hBn := hS.trans ((bd.below w1.heap.size))))
                all_goals
                  go_wp2
                  go_roundw
                  case rel => exact ⟨x + 1, by omega, by omega, by go_num, fun j hj => by
                    by_cases e : j = x
                    · subst e; exact HE.out
                    · exact HI.out j (by omega), hBn⟩
                  case measure => simp [intOf]; omega
              · have hez : (q + s != q0 + s0) = true := by simp [he]
                have HE := Lib.hid (show ¬ oneB b 1 x y = oneB b 1 0 y by rw [HO.out.1, HO.out.2]; exact he)
                clear he fin e1
                go_wp2
                go_region_held3 (fun w' => Below w1.heap.size w1 w' ∧ w'.cell? ⟨w.heap.size, 0, none⟩ = some (.int .i64 b.X) ∧ w'.cell? ⟨w.heap.size, 1, none⟩ = some (.int .i64 b.Y) ∧ w'.cell? ⟨w.heap.size, 2, none⟩ = some (.int .i64 b.Whole) ∧ w'.cell? ⟨w.heap.size, 3, none⟩ = some v)
                  (first | exact held1 hB.drew A0 | exact held1 hBn A0)
                  (first
                    | (go_at_call 45; have hS := And.left (by assumption : Below w1.heap.size w1 _ ∧ _); (with_reducible refine (l2Row_any v b x y n p q r s HN.out hm hn8 hnl HR.out w _ h (B0.trans (hS.mono B0.size))).mono ?_); rintro e wd ⟨b5, o5, c5, rfl, K5, bd⟩; have hBn := hS.trans (bd.mono hS.size))
                    | (go_at_call 45; have hS := And.left (by assumption : Below w1.heap.size w1 _ ∧ _); (with_reducible refine (l2Row_lit v b 0 y 0 y rfl rfl n0 p0 q0 r0 s0 HN0.out hm0 hn80 hnl0 HR0.out w _ h (B0.trans (hS.mono B0.size))).mono ?_); rintro e wd ⟨b6, o6, c6, rfl, K6, bd⟩; have hBn := hS.trans (bd.mono hS.size))
                    | (go_at_call 44; have hS := And.left (by assumption : Below w1.heap.size w1 _ ∧ _); (with_reducible refine (l2One1_any b5 o5 c5 p q r s ⟨hq.1, by omega⟩ ⟨hs.1, by omega⟩ _ (cells4_at (B0.trans (hS.mono B0.size)) K5)).mono ?_); rintro e we ⟨rfl, bd⟩; have hBn := hS.trans ((bd.below w1.heap.size)))
                    | (go_at_call 44; have hS := And.left (by assumption : Below w1.heap.size w1 _ ∧ _); (with_reducible refine (l2One1_any b6 o6 c6 p0 q0 r0 s0 ⟨hq0.1, by omega⟩ ⟨hs0.1, by omega⟩ _ (cells4_at (B0.trans (hS.mono B0.size)) K6)).mono ?_); rintro e we ⟨rfl, bd⟩; have hBn := hS.trans ((bd.below w1.heap.size))))
                all_goals
                  go_wp2
                  go_ret2
                  have hl : loudS b = ((1 : Int), (y : Int)) := by unfold loudS; rw [loudF_y HXA.out hyt (loudY_true hxt HE.out) HA.out]; rfl
                  exact ⟨by rw [hl]; rfl, B0.trans (hBn.mono B0.size)⟩
            · have hyE : (x : Int) = b.X := by omega
              have HX := Lib.hid (loudY_false (fun j hj => HI.out j (by omega)))
              clear hyE
              go_wp2
              go_roundw
              case rel => exact ⟨y + 1, by omega, by go_num, fun j hj => by
                by_cases e : j = y
                · subst e; exact HX.out
                · exact HA.out j (by omega), hB⟩
              case measure => simp [intOf]; omega
        · have hyE : (y : Int) = b.Y := by omega
          have HYA := Lib.hid (fun (j : Nat) (hj : (j : Int) < b.Y) => HA.out j (by omega))
          clear hyE
          go_wp2
          go_ret2
          have hl : loudS b = ((-1 : Int), (-1 : Int)) := by unfold loudS; rw [loudF_no HXA.out HYA.out]
          exact ⟨by rw [hl]; rfl, B0.trans (hB.mono B0.size)⟩
end Go.Proofs.YtcifpfdlkpddeaaGreatDoor
