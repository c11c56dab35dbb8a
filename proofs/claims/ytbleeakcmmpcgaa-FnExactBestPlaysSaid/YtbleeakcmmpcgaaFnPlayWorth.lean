/- PlayWorth: contracts of the program's and the reference's functions. -/
import Derived.Test.YtbleeakcmmpcgaaPlainG
import Derived.Test.YtbleeakcmmpcgaaFnWorth
set_option linter.unusedSimpArgs false
set_option linter.unusedVariables false
namespace Go.Proofs.Ytbleeakcmmpcgaa
open Go.RowKit

theorem drwAt {w w' : World} {a : Addr} {v : Value} (h : Drw w w') (hc : w.cell? a = some v) : w'.cell? a = some v := by rw [h.cell]; exact hc
set_option maxHeartbeats 1600000 in
theorem playWorth_any (x y : Int) (vf : Value) (f : List (List Int)) (vp : Value) (ps : List Int) (hf : funcB x y f = true) (hp : bitsB ps (x + y) = true) (w : World) (rf : RdII w vf f) (rp : RdI w vp ps) :
    Calls Try.prog 64 #[.int .i64 x, .int .i64 y, vf, vp] w fun e w' => e = .returned (.int .i64 (playW x y f ps)) ∧ Drw w w' := by
  obtain ⟨hs, hfl, hfa⟩ := funcB_iff.1 hf
  obtain ⟨⟨hx0, hx1⟩, hy0, hy1⟩ := sizesB_iff.1 hs
  obtain ⟨X, rfl⟩ := Int.eq_ofNat_of_zero_le (show 0 ≤ x by omega)
  obtain ⟨Y, rfl⟩ := Int.eq_ofNat_of_zero_le (show 0 ≤ y by omega)
  have PF := Lib.hid (fun k hk => func_path hfa rf k hk)
  have PB := Lib.hid (fun (j : Nat) (hj : (j : Int) < (X : Int) + (Y : Int)) => bits_get hp hj)
  have hpl := (bits_iff.1 hp).2
  have hXY : X * Y ≤ 9 := Nat.mul_le_mul (show X ≤ 3 by omega) (show Y ≤ 3 by omega)
  have hfn : f.length = X * Y := by exact_mod_cast hfl
  have hXY1 : 1 ≤ X * Y := Nat.mul_le_mul (show 1 ≤ X by omega) (show 1 ≤ Y by omega)
  obtain ⟨ba, off, cap, _, _, _, rfl, _⟩ := PF.out 0 (by omega)
  obtain ⟨a1, b1, o1, k1, rfl, m1, e1, d1⟩ := rp
  unfold maxLen at m1
  obtain rfl := e1 (by omega)
  have HE := Lib.hid (playW_eq (X := X) (Y := Y) f ps)
  have HL := Lib.hid hfn
  have HD := Lib.hid d1
  clear hfl hfn d1 e1 hf hp hfa rf hs
  go_enter Try.func64, Try.ntmps64
  go_wp2
  go_loopw [13, 9] (fun s t wr => ∃ (i : Nat) (u : Int), i ≤ X ∧ s = .int .i64 i ∧ t = .int .i64 u ∧ u = worthTo f (playRows X Y ps) (i * Y) ∧ -(99 * ((i * Y : Nat) : Int)) ≤ u ∧ u ≤ 99 * ((i * Y : Nat) : Int) ∧ Drw w wr) (fun s _ _ => X - (intOf s).toNat)
  case atStart => exact ⟨0, 0, by omega, rfl, rfl, by simp [worthTo_zero], by simp, by simp, Drw.refl _⟩
  case round =>
    obtain ⟨i, u, hi, rfl, rfl, hu, hu0, hu1, hd⟩ := hrel
    have HU := Lib.hid hu
    clear hu
    by_cases hlt : i < X
    · have hiY : (i + 1) * Y ≤ X * Y := Nat.mul_le_mul_right Y hlt
      have hi1 : (i + 1) * Y = i * Y + Y := by rw [Nat.add_mul]; omega
      obtain ⟨m, hm⟩ : ∃ m : Nat, i * Y = m := ⟨_, rfl⟩
      have hmi : (i : Int) * (Y : Int) = (m : Int) := by exact_mod_cast hm
      have hm9 : m + Y ≤ X * Y := by omega
      have HM := Lib.hid hm
      have HM1 := Lib.hid hi1
      rw [hm] at hu0 hu1
      clear hiY hi1 hm
      obtain ⟨p, hp, p2⟩ := PB.out i (by omega)
      have cp := HD.out i _ hp
      have HP := Lib.hid hp
      have hil : i < ps.length := (List.getElem?_eq_some_iff.1 hp).1
      clear hp
      go_wp2
      go_loopw [17, 9] (fun s t wr => ∃ (j : Nat) (t' : Int), j ≤ Y ∧ s = .int .i64 j ∧ t = .int .i64 t' ∧ t' = worthTo f (playRows X Y ps) (m + j) ∧ -(99 * ((m + j : Nat) : Int)) ≤ t' ∧ t' ≤ 99 * ((m + j : Nat) : Int) ∧ Drw w wr) (fun s _ _ => Y - (intOf s).toNat)
      case atStart => exact ⟨0, u, by omega, rfl, rfl, by rw [HU.out, HM.out]; rfl, hu0, hu1, hd⟩
      case round =>
        clear hu0 hu1 hd
        obtain ⟨j, t, hj, rfl, rfl, ht, ht0, ht1, hd⟩ := hrel
        have HT := Lib.hid ht
        clear ht
        by_cases hjt : j < Y
        · obtain ⟨q, hq, q2⟩ := PB.out (X + j) (by omega)
          have hql : X + j < ps.length := (List.getElem?_eq_some_iff.1 hq).1
          obtain ⟨n, hn⟩ : ∃ n : Nat, m + j = n := ⟨_, rfl⟩
          obtain ⟨r, hr⟩ : ∃ r : Nat, X + j = r := ⟨_, rfl⟩
          have hni : (m : Int) + (j : Int) = (n : Int) := by omega
          have hri : (X : Int) + (j : Int) = (r : Int) := by omega
          have hnl : n < f.length := by have := HL.out; omega
          obtain ⟨_, _, _, b2, o2, c2, ev, ca, lba, lb2, PFk⟩ := PF.out n hnl
          simp only [Value.slice.injEq, Option.some.injEq, Addr.mk.injEq, and_true, true_and] at ev
          obtain ⟨⟨rfl, rfl⟩, rfl⟩ := ev
          obtain ⟨s, hs⟩ : ∃ s : Nat, 2 * p + q = s := ⟨_, rfl⟩
          have hsi : 2 * (p : Int) + (q : Int) = (s : Int) := by omega
          obtain ⟨z, cz, hz, nz⟩ := PFk s (by omega)
          have hw := wRow_one (f := f) hlt hjt HP.out hq p2 q2 (n := n) (by rw [HM.out]; exact hn)
          have cq := HD.out (X + j) _ hq
          rw [hr] at cq hql
          have hsum : t + z = worthTo f (playRows X Y ps) (m + (j + 1)) := by
            rw [show m + (j + 1) = n + 1 by omega, worthTo_succ, hw, hs, nz, ← hn, HT.out]
          have HS := Lib.hid hsum
          have hs4 : s < 4 := by omega
          have hn9 : n < 9 := by omega
          have v0 : -(99 * ((m + (j + 1) : Nat) : Int)) ≤ t + z := by omega
          have v1 : t + z ≤ 99 * ((m + (j + 1) : Nat) : Int) := by omega
          have HV := Lib.hid (And.intro v0 v1)
          replace cz := drwAt hd cz
          replace ca := drwAt hd ca
          replace cq := drwAt hd cq
          have cp' := drwAt hd cp
          clear hw hsum PFk hq nz hn hr hs v0 v1
          go_wp2
          go_quiet (fail)
          go_wp2
          go_roundw
          case rel => exact ⟨j + 1, t + z, by omega, by go_num, rfl, HS.out, HV.out.1, HV.out.2, hd.trans (Drw.mk _ _)⟩
          case measure => simp [intOf]; omega
        · obtain rfl : j = Y := by omega
          go_wp2
          go_roundw
          case rel => exact ⟨i + 1, t, by omega, by go_num, rfl, by rw [HT.out, HM1.out, HM.out], by rw [HM1.out, HM.out]; exact ht0, by rw [HM1.out, HM.out]; exact ht1, hd⟩
          case measure => simp [intOf]; omega
    · obtain rfl : i = X := by omega
      go_wp2
      go_ret
      exact ⟨ret_int (by rw [HE.out]; exact HU.out), hd⟩
def playWorthOk (x y : Int) (f : List (List Int)) (ps : List Int) : Bool := funcB x y f && bitsB ps (x + y)
def playWorthD (x y : Int) (f : List (List Int)) (ps : List Int) : Int := if playWorthOk x y f ps then playW x y f ps else 0
theorem playWorth_val {x y : Int} {f : List (List Int)} {ps : List Int} {t : Bool} (h : playWorthOk x y f ps = t) : playWorthD x y f ps = if t then playW x y f ps else 0 := by unfold playWorthD; rw [h]
theorem playRows_box {x y : Int} {ps : List Int} (hs : sizesB x y = true) (hp : bitsB ps (x + y) = true) : boxB (boxOf x y 1 (playN x ps 1)) = true := by
  obtain ⟨⟨hx0, hx1⟩, hy0, hy1⟩ := sizesB_iff.1 hs
  obtain ⟨X, rfl⟩ := Int.eq_ofNat_of_zero_le (show 0 ≤ x by omega)
  obtain ⟨Y, rfl⟩ := Int.eq_ofNat_of_zero_le (show 0 ≤ y by omega)
  rw [boxOf_boxB _ _ _ _ hs]
  · decide
  · intro i j hi hj
    obtain ⟨p, hp1, p2⟩ := bits_get hp (j := i) (by omega)
    obtain ⟨q, hq1, q2⟩ := bits_get hp (j := X + j) (by omega)
    unfold FourN playN
    simp only [Int.toNat_natCast, List.getD_eq_getElem?_getD, hp1, hq1, Option.getD_some]
    have hp' : p = 0 ∨ p = 1 := by omega
    have hq' : q = 0 ∨ q = 1 := by omega
    rcases hp' with rfl | rfl <;> rcases hq' with rfl | rfl <;> simp
/-- The worth of a functional for a play's box, as the reference asks for it. -/
theorem playW_box (x y : Int) (f : List (List Int)) (ps : List Int) : worthR f (boxOf x y 1 (playN x ps 1)).Rows = playW x y f ps := rfl
end Go.Proofs.Ytbleeakcmmpcgaa
