/- The worth of a functional: contracts of the program's and the reference's sum. -/
import Derived.Test.YtbleeakcmmpcgaaSame
import Derived.Test.YtbleeakcmmpcgaaFnFunc
set_option linter.unusedSimpArgs false
set_option linter.unusedVariables false
namespace Go.Proofs.Ytbleeakcmmpcgaa
open Go.RowKit

/-- The cells that lead to a valid functional's number. -/
theorem func_path {f : List (List Int)} (hf : f.all funcRowB = true) {w : World} {v : Value} (h : RdII w v f) (k : Nat) (hk : k < f.length) :
    ∃ (ba off cap b2 o2 c2 : Nat), v = .slice (some ⟨ba, off, none⟩) f.length cap ∧ w.cell? ⟨ba, off + k, none⟩ = some (.slice (some ⟨b2, o2, none⟩) 4 c2) ∧ ba < w.heap.size ∧ b2 < w.heap.size ∧
      ∀ q, q < 4 → ∃ x : Int, w.cell? ⟨b2, o2 + q, none⟩ = some (.int .i64 x) ∧ (-99 ≤ x ∧ x ≤ 99) ∧ cellAt f k q = x := by
  obtain ⟨av, ba, off, cap, rfl, hm, ha, hc⟩ := h
  obtain rfl := ha (by omega)
  have hrs : f[k]? = some f[k] := List.getElem?_eq_getElem hk
  obtain ⟨p0, p1, p2, p3, hrow, h0, h1, h2, h3⟩ := funcRow_four (all_get hf hrs)
  obtain ⟨v', hv', a2, b2, o2, c2, rfl, _, ha2, hc2⟩ := hc k _ hrs
  rw [hrow] at hv' ha2 hc2 hrs
  obtain rfl := ha2 (by simp)
  have l1 := World.block_lt_of_cell? _ _ hv'
  have l2 := World.block_lt_of_cell? _ _ (hc2 0 p0 rfl)
  refine ⟨ba, off, cap, b2, o2, c2, rfl, hv', l1, l2, fun q hq => ?_⟩
  have : q = 0 ∨ q = 1 ∨ q = 2 ∨ q = 3 := by omega
  rcases this with rfl | rfl | rfl | rfl
  · exact ⟨p0, hc2 0 p0 rfl, h0, cellAt_get hrs rfl⟩
  · exact ⟨p1, hc2 1 p1 rfl, h1, cellAt_get hrs rfl⟩
  · exact ⟨p2, hc2 2 p2 rfl, h2, cellAt_get hrs rfl⟩
  · exact ⟨p3, hc2 3 p3 rfl, h3, cellAt_get hrs rfl⟩
theorem func_len {f : List (List Int)} {b : BoxD} (hf : funcB b.X b.Y f = true) (hb : boxB b = true) : f.length = b.Rows.length := by
  have h1 := (funcB_iff.1 hf).2.1
  have h2 := (boxB_iff.1 hb).2.2.1
  omega
theorem prod_bd {x y : Int} (hx : -99 ≤ x ∧ x ≤ 99) (hy : 0 ≤ y ∧ y ≤ 1000) : -99000 ≤ x * y ∧ x * y ≤ 99000 := mul_bd x y 99 1000 hx hy

set_option maxHeartbeats 1600000 in
theorem l2Worth_any (vf : Value) (f : List (List Int)) (vb : Value) (b : BoxD) (hf : funcB b.X b.Y f = true) (hb : boxB b = true) (w : World) (rf : RdII w vf f) (rb : RdII w vb b.Rows) :
    Calls Try.prog 61 #[vf, .agg #[.int .i64 b.X, .int .i64 b.Y, .int .i64 b.Whole, vb]] w fun e w' => e = .returned (.int .i64 (worthR f b.Rows)) ∧ Below w.heap.size w w' := by
  have hlen := func_len hf hb
  have PF := Lib.hid (fun k hk => func_path (funcB_iff.1 hf).2.2 rf k hk)
  have PB := Lib.hid (fun k hk => boxB_path hb rb k hk)
  have hl9 : b.Rows.length ≤ 9 := boxB_len hb
  have hl1 : 1 ≤ b.Rows.length := boxB_len1 hb
  obtain ⟨wb0, wb1⟩ := (boxB_iff.1 hb).2.1
  obtain ⟨ba, off, cap, _, _, _, rfl, _⟩ := PF.out 0 (by omega)
  obtain ⟨bb, offb, capb, _, _, _, rfl, _⟩ := PB.out 0 (by omega)
  have HL := Lib.hid hlen
  clear hlen hf hb rf rb
  go_enter Try.func61, Try.ntmps61
  go_wp2
  obtain ⟨w1, hw1⟩ : ∃ w1, w1 = (w.alloc (.cells #[.int .i64 b.X, .int .i64 b.Y, .int .i64 b.Whole, .slice (some ⟨bb, offb, none⟩) b.Rows.length capb] 33)) := ⟨_, rfl⟩
  have A1 : BoxAt w1 w.heap.size b.X b.Y b.Whole (.slice (some ⟨bb, offb, none⟩) b.Rows.length capb) := by rw [hw1]; exact ⟨(by repeat' (first | with_reducible assumption | (refine cell_top ?_ rfl; first | with_reducible rfl | (simp only [World.size_alloc, World.size_setCell]; done)) | (refine cell_under ?_ ?_; (first | omega | (simp only [World.size_alloc, World.size_setCell]; omega))) | refine cell_drew ?_)), (by repeat' (first | with_reducible assumption | (refine cell_top ?_ rfl; first | with_reducible rfl | (simp only [World.size_alloc, World.size_setCell]; done)) | (refine cell_under ?_ ?_; (first | omega | (simp only [World.size_alloc, World.size_setCell]; omega))) | refine cell_drew ?_)), (by repeat' (first | with_reducible assumption | (refine cell_top ?_ rfl; first | with_reducible rfl | (simp only [World.size_alloc, World.size_setCell]; done)) | (refine cell_under ?_ ?_; (first | omega | (simp only [World.size_alloc, World.size_setCell]; omega))) | refine cell_drew ?_)), (by repeat' (first | with_reducible assumption | (refine cell_top ?_ rfl; first | with_reducible rfl | (simp only [World.size_alloc, World.size_setCell]; done)) | (refine cell_under ?_ ?_; (first | omega | (simp only [World.size_alloc, World.size_setCell]; omega))) | refine cell_drew ?_))⟩
  have B1 : Below w.heap.size w w1 := by rw [hw1]; exact (by repeat' (first | with_reducible exact Below.refl _ _ | with_reducible assumption | with_reducible apply Below.alloc | with_reducible apply Below.setCell | with_reducible apply Below.drew | exact Nat.le_refl _ | omega | (simp only [World.size_alloc, World.size_setCell]; omega)))
  rw [← hw1]
  have H1 := Lib.hid hw1
  clear hw1
  go_loopw [6, 5] (fun s6 s5 wr => ∃ (n : Nat) (t : Int), n ≤ b.Rows.length ∧ s6 = .int .i64 n ∧ s5 = .int .i64 t ∧ t = worthTo f b.Rows n ∧ -(396000 * (n : Int)) ≤ t ∧ t ≤ 396000 * (n : Int) ∧ Drw w1 wr) (fun s6 _ _ => b.Rows.length - (intOf s6).toNat)
  case atStart => exact ⟨0, 0, by omega, rfl, rfl, rfl, by omega, by omega, Drw.refl _⟩
  case round =>
    obtain ⟨n, t, hn, rfl, rfl, ht, ht0, ht1, hd⟩ := hrel
    obtain ⟨_, _, _, e3⟩ := A1.kept (hd.below w1.heap.size) A1.lt
    have HT := Lib.hid ht
    clear ht
    by_cases hlt : n < b.Rows.length
    · obtain ⟨_, _, _, b2, o2, c2, ev, ca, lba, lb2, PFk⟩ := PF.out n (by rw [HL.out]; exact hlt)
      obtain ⟨_, _, _, b4, o4, c4, ev2, _, cb, lbb, lb4, PBk⟩ := PB.out n hlt
      simp only [Value.slice.injEq, Option.some.injEq, Addr.mk.injEq, and_true, true_and] at ev ev2
      obtain ⟨⟨rfl, rfl⟩, rfl⟩ := ev
      obtain ⟨⟨rfl, rfl⟩, rfl⟩ := ev2
      have HPF := Lib.hid PFk
      have HPB := Lib.hid PBk
      have HCA := Lib.hid ca
      have HCB := Lib.hid cb
      clear PFk PBk ca cb
      go_wp2
      clear e3
      go_loopw [7, 5] (fun s7 s5 wz => ∃ (q : Nat) (u : Int), q ≤ 4 ∧ s7 = .int .i64 q ∧ s5 = .int .i64 u ∧ u = t + wRow f b.Rows n q ∧ -(396000 * (n : Int) + 99000 * (q : Int)) ≤ u ∧ u ≤ 396000 * (n : Int) + 99000 * (q : Int) ∧ Drw w1 wz) (fun s7 _ _ => 4 - (intOf s7).toNat)
      case atStart => exact ⟨0, t, by omega, rfl, rfl, by rw [wRow_zero]; omega, by omega, by omega, hd⟩
      case round =>
        clear hd
        obtain ⟨q, u, hq, rfl, rfl, hu, hu0, hu1, hd⟩ := hrel
        have HU := Lib.hid hu
        clear hu
        by_cases hqt : q < 4
        · obtain ⟨x, cx, hx, nx⟩ := HPF.out q hqt
          obtain ⟨y, cy, ⟨by0, by1⟩, _, ny⟩ := HPB.out q hqt
          have BZ := B1.trans (hd.below w.heap.size)
          have cx' := keepAt BZ lb2 cx
          have cy' := keepAt BZ lb4 cy
          have ca' := keepAt BZ lba HCA.out
          have cb' := keepAt BZ lbb HCB.out
          obtain ⟨_, _, _, e3⟩ := A1.kept (hd.below w1.heap.size) A1.lt
          obtain ⟨p0, p1⟩ := prod_bd hx ⟨by0, by omega⟩
          have hw1 := wrap_in (x * y) (by omega) (by omega)
          have hw2 := wrap_in (u + x * y) (by omega) (by omega)
          have n0 : (0 : Int) ≤ (n : Int) := by omega
          have n1 : (n : Int) < (f.length : Int) := by have := HL.out; omega
          have n2 : (n : Int) < (b.Rows.length : Int) := by omega
          have q0 : (0 : Int) ≤ (q : Int) := by omega
          have q1 : (q : Int) < 4 := by omega
          have hs : u + x * y = t + wRow f b.Rows n (q + 1) := by rw [wRow_succ, nx, ny, HU.out]; omega
          have HS := Lib.hid hs
          have v0 : -(396000 * (n : Int) + 99000 * ((q + 1 : Nat) : Int)) ≤ u + x * y := by omega
          have v1 : u + x * y ≤ 396000 * (n : Int) + 99000 * ((q + 1 : Nat) : Int) := by omega
          have HV := Lib.hid (And.intro v0 v1)
          clear nx ny hs v0 v1
          go_wp2
          go_quiet (fail)
          go_wp2
          go_roundw
          case rel => exact ⟨q + 1, u + x * y, by omega, by go_num, rfl, HS.out, HV.out.1, HV.out.2, hd.trans (Drw.mk _ _)⟩
          case measure => simp [intOf]; omega
        · obtain rfl : q = 4 := by omega
          have hv : u = worthTo f b.Rows (n + 1) := by rw [worthTo_succ, ← HT.out]; exact HU.out
          have HV := Lib.hid hv
          clear hv
          go_wp2
          go_roundw
          case rel => exact ⟨n + 1, u, by omega, by go_num, rfl, HV.out, by omega, by omega, hd⟩
          case measure => simp [intOf]; omega
    · obtain rfl : n = b.Rows.length := by omega
      go_wp2
      go_ret
      exact ⟨ret_int HT.out, B1.trans (hd.below _)⟩
set_option maxHeartbeats 1600000 in
theorem worth_any (vf : Value) (f : List (List Int)) (vb : Value) (b : BoxD) (hf : funcB b.X b.Y f = true) (hb : boxB b = true) (w : World) (rf : RdII w vf f) (rb : RdII w vb b.Rows) :
    Calls Try.prog 74 #[vf, vb] w fun e w' => e = .returned (.int .i64 (worthR f b.Rows)) ∧ w = w' := by
  have hlen := func_len hf hb
  have PF := Lib.hid (fun k hk => func_path (funcB_iff.1 hf).2.2 rf k hk)
  have PB := Lib.hid (fun k hk => boxB_path hb rb k hk)
  have hl9 : b.Rows.length ≤ 9 := boxB_len hb
  have hl1 : 1 ≤ b.Rows.length := boxB_len1 hb
  obtain ⟨wb0, wb1⟩ := (boxB_iff.1 hb).2.1
  obtain ⟨ba, off, cap, _, _, _, rfl, _⟩ := PF.out 0 (by omega)
  obtain ⟨bb, offb, capb, _, _, _, rfl, _⟩ := PB.out 0 (by omega)
  have hf9 : f.length ≤ 9 := by omega
  have HL := Lib.hid hlen
  clear hlen hf hb rf rb
  go_enter Try.func74, Try.ntmps74
  go_wp2
  go_loop [12, 5] (fun s6 s5 => ∃ (n : Nat) (t : Int), n ≤ f.length ∧ s6 = .int .i64 n ∧ s5 = .int .i64 t ∧ t = worthTo f b.Rows n ∧ -(396000 * (n : Int)) ≤ t ∧ t ≤ 396000 * (n : Int)) (fun s6 _ => f.length - (intOf s6).toNat)
  case atStart => exact ⟨0, 0, by omega, rfl, rfl, rfl, by omega, by omega⟩
  case round =>
    obtain ⟨n, t, hn, rfl, rfl, ht, ht0, ht1⟩ := hrel
    have HT := Lib.hid ht
    clear ht
    by_cases hlt : n < f.length
    · obtain ⟨_, _, _, b2, o2, c2, ev, ca, lba, lb2, PFk⟩ := PF.out n hlt
      obtain ⟨_, _, _, b4, o4, c4, ev2, _, cb, lbb, lb4, PBk⟩ := PB.out n (by rw [← HL.out]; exact hlt)
      simp only [Value.slice.injEq, Option.some.injEq, Addr.mk.injEq, and_true, true_and] at ev ev2
      obtain ⟨⟨rfl, rfl⟩, rfl⟩ := ev
      obtain ⟨⟨rfl, rfl⟩, rfl⟩ := ev2
      have HPF := Lib.hid PFk
      have HPB := Lib.hid PBk
      clear PFk PBk
      go_wp2
      go_loop [19, 5] (fun s7 s5 => ∃ (q : Nat) (u : Int), q ≤ 4 ∧ s7 = .int .i64 q ∧ s5 = .int .i64 u ∧ u = t + wRow f b.Rows n q ∧ -(396000 * (n : Int) + 99000 * (q : Int)) ≤ u ∧ u ≤ 396000 * (n : Int) + 99000 * (q : Int)) (fun s7 _ => 4 - (intOf s7).toNat)
      case atStart => exact ⟨0, t, by omega, rfl, rfl, by rw [wRow_zero]; omega, by omega, by omega⟩
      case round =>
        obtain ⟨q, u, hq, rfl, rfl, hu, hu0, hu1⟩ := hrel
        have HU := Lib.hid hu
        clear hu
        by_cases hqt : q < 4
        · obtain ⟨x, cx, hx, nx⟩ := HPF.out q hqt
          obtain ⟨y, cy, ⟨by0, by1⟩, _, ny⟩ := HPB.out q hqt
          obtain ⟨p0, p1⟩ := prod_bd hx ⟨by0, by omega⟩
          have n2 : n < b.Rows.length := by have := HL.out; omega
          have hs : u + x * y = t + wRow f b.Rows n (q + 1) := by rw [wRow_succ, nx, ny, HU.out]; omega
          have HS := Lib.hid hs
          have v0 : -(396000 * (n : Int) + 99000 * ((q + 1 : Nat) : Int)) ≤ u + x * y := by omega
          have v1 : u + x * y ≤ 396000 * (n : Int) + 99000 * ((q + 1 : Nat) : Int) := by omega
          have HV := Lib.hid (And.intro v0 v1)
          obtain ⟨hx0, hx1⟩ := hx
          clear nx ny hs v0 v1
          go_wp2
          go_round
          case rel => exact ⟨q + 1, u + x * y, by omega, by go_num, rfl, HS.out, HV.out.1, HV.out.2⟩
          case measure => simp [intOf]; omega
        · obtain rfl : q = 4 := by omega
          have hv : u = worthTo f b.Rows (n + 1) := by rw [worthTo_succ, ← HT.out]; exact HU.out
          have HV := Lib.hid hv
          clear hv
          go_wp2
          go_round
          case rel => exact ⟨n + 1, u, by omega, by go_num, rfl, HV.out, by omega, by omega⟩
          case measure => simp [intOf]; omega
    · obtain rfl : n = f.length := by omega
      go_wp2
      go_ret
      exact ⟨ret_int (by rw [HT.out, HL.out]; rfl), rfl⟩
end Go.Proofs.Ytbleeakcmmpcgaa
