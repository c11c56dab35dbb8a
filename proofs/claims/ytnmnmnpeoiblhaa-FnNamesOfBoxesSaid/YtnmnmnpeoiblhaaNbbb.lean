/- The worth of a functional: contracts of the program's and the reference's sum. PlayWorth: contracts of the program's and the reference's functions. -/
import Derived.Test.YtnmnmnpeoiblhaaNbap
import Derived.Test.YtnmnmnpeoiblhaaNbba
set_option linter.unusedSimpArgs false
set_option linter.unusedVariables false
namespace Go.Proofs.Ytnmnmnpeoiblhaa
open Go.RowKit

/-- The cells that lead to a valid functional's number. -/
theorem func_path {f : List (List Int)} (hf : f.all funcRowB = true) {w : World} {v : Value} (h : RdII w v f) (k : Nat) (hk : k < f.length) :
    ∃ (ba off cap b2 o2 c2 : Nat), v = .slice (some ⟨ba, off, none⟩) f.length cap ∧ w.cell? ⟨ba, off + k, none⟩ = some (.slice (some ⟨b2, o2, none⟩) 4 c2) ∧ ba < w.heap.size ∧ b2 < w.heap.size ∧
      ∀ q, q < 4 → ∃ x : Int, w.cell? ⟨b2, o2 + q, none⟩ = some (.int .i64 x) ∧ (-99 ≤ x ∧ x ≤ 99) ∧ cellAt f k q = x := by
  obtain ⟨av, ba, off, cap, rfl, hm, ha, hc⟩ := h
  obtain rfl := ha (by omega)
  have hrs : f[k]? = some f[k] := List.getElem?_eq_getElem hk
  obtain ⟨p0, p1, p2, p3, hrow, h0, h1, h2, h3⟩ := funcRow_four (all_get hf hrs)
  obtain ⟨v', hv', a2, b2, o2, c2, rfl, _, ha2, hc2⟩ := hc k _ hrs
  rw [hrow] at hv' ha2 hc2 hrs
  obtain rfl := ha2 (by simp)
  have l1 := World.block_lt_of_cell? _ _ hv'
  have l2 := World.block_lt_of_cell? _ _ (hc2 0 p0 rfl)
  refine ⟨ba, off, cap, b2, o2, c2, rfl, hv', l1, l2, fun q hq => ?_⟩
  have : q = 0 ∨ q = 1 ∨ q = 2 ∨ q = 3 := by omega
  rcases this with rfl | rfl | rfl | rfl
  · exact ⟨p0, hc2 0 p0 rfl, h0, cellAt_get hrs rfl⟩
  · exact ⟨p1, hc2 1 p1 rfl, h1, cellAt_get hrs rfl⟩
  · exact ⟨p2, hc2 2 p2 rfl, h2, cellAt_get hrs rfl⟩
  · exact ⟨p3, hc2 3 p3 rfl, h3, cellAt_get hrs rfl⟩
theorem func_len {f : List (List Int)} {b : BoxD} (hf : funcB b.X b.Y f = true) (hb : boxB b = true) : f.length = b.Rows.length := by
  have h1 := (funcB_iff.1 hf).2.1
  have h2 := (boxB_iff.1 hb).2.2.1
  omega
theorem prod_bd {x y : Int} (hx : -99 ≤ x ∧ x ≤ 99) (hy : 0 ≤ y ∧ y ≤ 1000) : -99000 ≤ x * y ∧ x * y ≤ 99000 := mul_bd x y 99 1000 hx hy

set_option maxHeartbeats 1600000 in
theorem worth_any (vf : Value) (f : List (List Int)) (vb : Value) (b : BoxD) (hf : funcB b.X b.Y f = true) (hb : boxB b = true) (w : World) (rf : RdII w vf f) (rb : RdII w vb b.Rows) :
    Calls Try.prog 96 #[vf, vb] w fun e w' => e = .returned (.int .i64 (worthR f b.Rows)) ∧ w = w' := by
  have hlen := func_len hf hb
  have PF := Lib.hid (fun k hk => func_path (funcB_iff.1 hf).2.2 rf k hk)
  have PB := Lib.hid (fun k hk => boxB_path hb rb k hk)
  have hl9 : b.Rows.length ≤ 9 := boxB_len hb
  have hl1 : 1 ≤ b.Rows.length := boxB_len1 hb
  obtain ⟨wb0, wb1⟩ := (boxB_iff.1 hb).2.1
  obtain ⟨ba, off, cap, _, _, _, rfl, _⟩ := PF.out 0 (by omega)
  obtain ⟨bb, offb, capb, _, _, _, rfl, _⟩ := PB.out 0 (by omega)
  have hf9 : f.length ≤ 9 := by omega
  have HL := Lib.hid hlen
  clear hlen hf hb rf rb
  go_enter Try.func96, Try.ntmps96
  go_wp2
  go_loop [12, 5] (fun s6 s5 => ∃ (n : Nat) (t : Int), n ≤ f.length ∧ s6 = .int .i64 n ∧ s5 = .int .i64 t ∧ t = worthTo f b.Rows n ∧ -(396000 * (n : Int)) ≤ t ∧ t ≤ 396000 * (n : Int)) (fun s6 _ => f.length - (intOf s6).toNat)
  case atStart => exact ⟨0, 0, by omega, rfl, rfl, rfl, by omega, by omega⟩
  case round =>
    obtain ⟨n, t, hn, rfl, rfl, ht, ht0, ht1⟩ := hrel
    have HT := Lib.hid ht
    clear ht
    by_cases hlt : n < f.length
    · obtain ⟨_, _, _, b2, o2, c2, ev, ca, lba, lb2, PFk⟩ := PF.out n hlt
      obtain ⟨_, _, _, b4, o4, c4, ev2, _, cb, lbb, lb4, PBk⟩ := PB.out n (by rw [← HL.out]; exact hlt)
      simp only [Value.slice.injEq, Option.some.injEq, Addr.mk.injEq, and_true, true_and] at ev ev2
      obtain ⟨⟨rfl, rfl⟩, rfl⟩ := ev
      obtain ⟨⟨rfl, rfl⟩, rfl⟩ := ev2
      have HPF := Lib.hid PFk
      have HPB := Lib.hid PBk
      clear PFk PBk
      go_wp2
      go_loop [19, 5] (fun s7 s5 => ∃ (q : Nat) (u : Int), q ≤ 4 ∧ s7 = .int .i64 q ∧ s5 = .int .i64 u ∧ u = t + wRow f b.Rows n q ∧ -(396000 * (n : Int) + 99000 * (q : Int)) ≤ u ∧ u ≤ 396000 * (n : Int) + 99000 * (q : Int)) (fun s7 _ => 4 - (intOf s7).toNat)
      case atStart => exact ⟨0, t, by omega, rfl, rfl, by rw [wRow_zero]; omega, by omega, by omega⟩
      case round =>
        obtain ⟨q, u, hq, rfl, rfl, hu, hu0, hu1⟩ := hrel
        have HU := Lib.hid hu
        clear hu
        by_cases hqt : q < 4
        · obtain ⟨x, cx, hx, nx⟩ := HPF.out q hqt
          obtain ⟨y, cy, ⟨by0, by1⟩, _, ny⟩ := HPB.out q hqt
          obtain ⟨p0, p1⟩ := prod_bd hx ⟨by0, by omega⟩
          have n2 : n < b.Rows.length := by have := HL.out; omega
          have hs : u + x * y = t + wRow f b.Rows n (q + 1) := by rw [wRow_succ, nx, ny, HU.out]; omega
          have HS := Lib.hid hs
          have v0 : -(396000 * (n : Int) + 99000 * ((q + 1 : Nat) : Int)) ≤ u + x * y := by omega
          have v1 : u + x * y ≤ 396000 * (n : Int) + 99000 * ((q + 1 : Nat) : Int) := by omega
          have HV := Lib.hid (And.intro v0 v1)
          obtain ⟨hx0, hx1⟩ := hx
          clear nx ny hs v0 v1
          go_wp2
          go_round
          case rel => exact ⟨q + 1, u + x * y, by omega, by go_num, rfl, HS.out, HV.out.1, HV.out.2⟩
          case measure => simp [intOf]; omega
        · obtain rfl : q = 4 := by omega
          have hv : u = worthTo f b.Rows (n + 1) := by rw [worthTo_succ, ← HT.out]; exact HU.out
          have HV := Lib.hid hv
          clear hv
          go_wp2
          go_round
          case rel => exact ⟨n + 1, u, by omega, by go_num, rfl, HV.out, by omega, by omega⟩
          case measure => simp [intOf]; omega
    · obtain rfl : n = f.length := by omega
      go_wp2
      go_ret
      exact ⟨ret_int (by rw [HT.out, HL.out]; rfl), rfl⟩
end Go.Proofs.Ytnmnmnpeoiblhaa
set_option linter.unusedSimpArgs false
set_option linter.unusedVariables false
namespace Go.Proofs.Ytnmnmnpeoiblhaa
open Go.RowKit

theorem drwAt {w w' : World} {a : Addr} {v : Value} (h : Drw w w') (hc : w.cell? a = some v) : w'.cell? a = some v := by rw [h.cell]; exact hc
set_option maxHeartbeats 1600000 in
theorem playWorth_any (x y : Int) (vf : Value) (f : List (List Int)) (vp : Value) (ps : List Int) (hf : funcB x y f = true) (hp : bitsB ps (x + y) = true) (w : World) (rf : RdII w vf f) (rp : RdI w vp ps) :
    Calls Try.prog 121 #[.int .i64 x, .int .i64 y, vf, vp] w fun e w' => e = .returned (.int .i64 (playW x y f ps)) ∧ Drw w w' := by
  obtain ⟨hs, hfl, hfa⟩ := funcB_iff.1 hf
  obtain ⟨⟨hx0, hx1⟩, hy0, hy1⟩ := sizesB_iff.1 hs
  obtain ⟨X, rfl⟩ := Int.eq_ofNat_of_zero_le (show 0 ≤ x by omega)
  obtain ⟨Y, rfl⟩ := Int.eq_ofNat_of_zero_le (show 0 ≤ y by omega)
  have PF := Lib.hid (fun k hk => func_path hfa rf k hk)
  have PB := Lib.hid (fun (j : Nat) (hj : (j : Int) < (X : Int) + (Y : Int)) => bits_get hp hj)
  have hpl := (bits_iff.1 hp).2
  have hXY : X * Y ≤ 9 := Nat.mul_le_mul (show X ≤ 3 by omega) (show Y ≤ 3 by omega)
  have hfn : f.length = X * Y := by exact_mod_cast hfl
  have hXY1 : 1 ≤ X * Y := Nat.mul_le_mul (show 1 ≤ X by omega) (show 1 ≤ Y by omega)
  obtain ⟨ba, off, cap, _, _, _, rfl, _⟩ := PF.out 0 (by omega)
  obtain ⟨a1, b1, o1, k1, rfl, m1, e1, d1⟩ := rp
  unfold maxLen at m1
  obtain rfl := e1 (by omega)
  have HE := Lib.hid (playW_eq (X := X) (Y := Y) f ps)
  have HL := Lib.hid hfn
  have HD := Lib.hid d1
  clear hfl hfn d1 e1 hf hp hfa rf hs
  go_enter Try.func121, Try.ntmps121
  go_wp2
  go_loopw [13, 9] (fun s t wr => ∃ (i : Nat) (u : Int), i ≤ X ∧ s = .int .i64 i ∧ t = .int .i64 u ∧ u = worthTo f (playRows X Y ps) (i * Y) ∧ -(99 * ((i * Y : Nat) : Int)) ≤ u ∧ u ≤ 99 * ((i * Y : Nat) : Int) ∧ Drw w wr) (fun s _ _ => X - (intOf s).toNat)
  case atStart => exact ⟨0, 0, by omega, rfl, rfl, by simp [worthTo_zero], by simp, by simp, Drw.refl _⟩
  case round =>
    obtain ⟨i, u, hi, rfl, rfl, hu, hu0, hu1, hd⟩ := hrel
    have HU := Lib.hid hu
    clear hu
    by_cases hlt : i < X
    · have hiY : (i + 1) * Y ≤ X * Y := Nat.mul_le_mul_right Y hlt
      have hi1 : (i + 1) * Y = i * Y + Y := by rw [Nat.add_mul]; omega
      obtain ⟨m, hm⟩ : ∃ m : Nat, i * Y = m := ⟨_, rfl⟩
      have hmi : (i : Int) * (Y : Int) = (m : Int) := by exact_mod_cast hm
      have hm9 : m + Y ≤ X * Y := by omega
      have HM := Lib.hid hm
      have HM1 := Lib.hid hi1
      rw [hm] at hu0 hu1
      clear hiY hi1 hm
      obtain ⟨p, hp, p2⟩ := PB.out i (by omega)
      have cp := HD.out i _ hp
      have HP := Lib.hid hp
      have hil : i < ps.length := (List.getElem?_eq_some_iff.1 hp).1
      clear hp
      go_wp2
      go_loopw [17, 9] (fun s t wr => ∃ (j : Nat) (t' : Int), j ≤ Y ∧ s = .int .i64 j ∧ t = .int .i64 t' ∧ t' = worthTo f (playRows X Y ps) (m + j) ∧ -(99 * ((m + j : Nat) : Int)) ≤ t' ∧ t' ≤ 99 * ((m + j : Nat) : Int) ∧ Drw w wr) (fun s _ _ => Y - (intOf s).toNat)
      case atStart => exact ⟨0, u, by omega, rfl, rfl, by rw [HU.out, HM.out]; rfl, hu0, hu1, hd⟩
      case round =>
        clear hu0 hu1 hd
        obtain ⟨j, t, hj, rfl, rfl, ht, ht0, ht1, hd⟩ := hrel
        have HT := Lib.hid ht
        clear ht
        by_cases hjt : j < Y
        · obtain ⟨q, hq, q2⟩ := PB.out (X + j) (by omega)
          have hql : X + j < ps.length := (List.getElem?_eq_some_iff.1 hq).1
          obtain ⟨n, hn⟩ : ∃ n : Nat, m + j = n := ⟨_, rfl⟩
          obtain ⟨r, hr⟩ : ∃ r : Nat, X + j = r := ⟨_, rfl⟩
          have hni : (m : Int) + (j : Int) = (n : Int) := by omega
          have hri : (X : Int) + (j : Int) = (r : Int) := by omega
          have hnl : n < f.length := by have := HL.out; omega
          obtain ⟨_, _, _, b2, o2, c2, ev, ca, lba, lb2, PFk⟩ := PF.out n hnl
          simp only [Value.slice.injEq, Option.some.injEq, Addr.mk.injEq, and_true, true_and] at ev
          obtain ⟨⟨rfl, rfl⟩, rfl⟩ := ev
          obtain ⟨s, hs⟩ : ∃ s : Nat, 2 * p + q = s := ⟨_, rfl⟩
          have hsi : 2 * (p : Int) + (q : Int) = (s : Int) := by omega
          obtain ⟨z, cz, hz, nz⟩ := PFk s (by omega)
          have hw := wRow_one (f := f) hlt hjt HP.out hq p2 q2 (n := n) (by rw [HM.out]; exact hn)
          have cq := HD.out (X + j) _ hq
          rw [hr] at cq hql
          have hsum : t + z = worthTo f (playRows X Y ps) (m + (j + 1)) := by
            rw [show m + (j + 1) = n + 1 by omega, worthTo_succ, hw, hs, nz, ← hn, HT.out]
          have HS := Lib.hid hsum
          have hs4 : s < 4 := by omega
          have hn9 : n < 9 := by omega
          have v0 : -(99 * ((m + (j + 1) : Nat) : Int)) ≤ t + z := by omega
          have v1 : t + z ≤ 99 * ((m + (j + 1) : Nat) : Int) := by omega
          have HV := Lib.hid (And.intro v0 v1)
          replace cz := drwAt hd cz
          replace ca := drwAt hd ca
          replace cq := drwAt hd cq
          have cp' := drwAt hd cp
          clear hw hsum PFk hq nz hn hr hs v0 v1
          go_wp2
          go_quiet (fail)
          go_wp2
          go_roundw
          case rel => exact ⟨j + 1, t + z, by omega, by go_num, rfl, HS.out, HV.out.1, HV.out.2, hd.trans (Drw.mk _ _)⟩
          case measure => simp [intOf]; omega
        · obtain rfl : j = Y := by omega
          go_wp2
          go_roundw
          case rel => exact ⟨i + 1, t, by omega, by go_num, rfl, by rw [HT.out, HM1.out, HM.out], by rw [HM1.out, HM.out]; exact ht0, by rw [HM1.out, HM.out]; exact ht1, hd⟩
          case measure => simp [intOf]; omega
    · obtain rfl : i = X := by omega
      go_wp2
      go_ret
      exact ⟨ret_int (by rw [HE.out]; exact HU.out), hd⟩
def playWorthOk (x y : Int) (f : List (List Int)) (ps : List Int) : Bool := funcB x y f && bitsB ps (x + y)
def playWorthD (x y : Int) (f : List (List Int)) (ps : List Int) : Int := if playWorthOk x y f ps then playW x y f ps else 0
theorem playWorth_val {x y : Int} {f : List (List Int)} {ps : List Int} {t : Bool} (h : playWorthOk x y f ps = t) : playWorthD x y f ps = if t then playW x y f ps else 0 := by unfold playWorthD; rw [h]
theorem playRows_box {x y : Int} {ps : List Int} (hs : sizesB x y = true) (hp : bitsB ps (x + y) = true) : boxB (boxOf x y 1 (playN x ps 1)) = true := by
  obtain ⟨⟨hx0, hx1⟩, hy0, hy1⟩ := sizesB_iff.1 hs
  obtain ⟨X, rfl⟩ := Int.eq_ofNat_of_zero_le (show 0 ≤ x by omega)
  obtain ⟨Y, rfl⟩ := Int.eq_ofNat_of_zero_le (show 0 ≤ y by omega)
  rw [boxOf_boxB _ _ _ _ hs]
  · decide
  · intro i j hi hj
    obtain ⟨p, hp1, p2⟩ := bits_get hp (j := i) (by omega)
    obtain ⟨q, hq1, q2⟩ := bits_get hp (j := X + j) (by omega)
    unfold FourN playN
    simp only [Int.toNat_natCast, List.getD_eq_getElem?_getD, hp1, hq1, Option.getD_some]
    have hp' : p = 0 ∨ p = 1 := by omega
    have hq' : q = 0 ∨ q = 1 := by omega
    rcases hp' with rfl | rfl <;> rcases hq' with rfl | rfl <;> simp
/-- The worth of a functional for a play's box, as the reference asks for it. -/
theorem playW_box (x y : Int) (f : List (List Int)) (ps : List Int) : worthR f (boxOf x y 1 (playN x ps 1)).Rows = playW x y f ps := rfl
end Go.Proofs.Ytnmnmnpeoiblhaa
