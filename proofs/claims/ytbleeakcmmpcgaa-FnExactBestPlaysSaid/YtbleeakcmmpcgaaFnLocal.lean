/- LocalValue, IsWitness: contracts of the program's and the reference's functions. -/
import Derived.Test.YtbleeakcmmpcgaaPlainH
import Derived.Test.YtbleeakcmmpcgaaFnPlayWorth
import Derived.Test.YtbleeakcmmpcgaaFnWorthT
set_option linter.unusedSimpArgs false
set_option linter.unusedVariables false
namespace Go.Proofs.Ytbleeakcmmpcgaa
open Go.RowKit

set_option maxHeartbeats 1600000 in
theorem localValue_any (x y : Int) (vf : Value) (f : List (List Int)) (hf : funcB x y f = true) (w : World) (rf : RdII w vf f) :
    Calls Try.prog 59 #[.int .i64 x, .int .i64 y, vf] w fun e w' => e = .returned (.int .i64 (localV x y f)) ∧ Below w.heap.size w w' := by
  obtain ⟨⟨hx0, hx1⟩, hy0, hy1⟩ := sizesB_iff.1 (funcB_iff.1 hf).1
  obtain ⟨X, rfl⟩ := Int.eq_ofNat_of_zero_le (show 0 ≤ x by omega)
  obtain ⟨Y, rfl⟩ := Int.eq_ofNat_of_zero_le (show 0 ≤ y by omega)
  obtain ⟨af, cf, rfl⟩ : ∃ a c, vf = .slice a f.length c := by obtain ⟨a, _, _, c, hv, _⟩ := rf; exact ⟨a, c, hv⟩
  obtain ⟨hM1, hM64⟩ := pow_M X Y (by omega) (by omega)
  go_enter Try.func59, Try.ntmps59
  go_wp2_with fail
  refine (plays_any X Y ⟨by omega, by omega⟩ ⟨by omega, by omega⟩ _).mono ?_
  rintro e w1 ⟨a, c, vs, rfl, o1, b1⟩
  obtain ⟨g, rfl, hg, _, hP⟩ := plays_path o1 hM1
  have hE : localV X Y f = bestUp (valP X Y f) (2 ^ (X + Y)) := rfl
  rw [playsTo_len]
  clear o1
  generalize 2 ^ (X + Y) = M at *
  have HP := Lib.hid hP
  have HE := Lib.hid hE
  clear hP hE
  go_wp2
  go_loopw [15, 7] (fun s t wr => ∃ (n : Nat) (u : Int), n ≤ M ∧ s = .int .i64 n ∧ t = .int .i64 u ∧ u = bestUp (valP X Y f) n ∧ Below w1.heap.size w1 wr) (fun s _ _ => M - (intOf s).toNat)
  case atStart => exact ⟨0, 0, by omega, rfl, rfl, rfl, Below.refl _ _⟩
  case round =>
    obtain ⟨n, u, hn, rfl, rfl, hu, hB⟩ := hrel
    have HU := Lib.hid hu
    clear hu
    by_cases hlt : n < M
    · obtain ⟨a2, c2, _, hc, hr⟩ := HP.out n hlt
      have hc' := keepCell hB hc
      have hbits := bitsTo_bits (X + Y) n ((X : Int) + (Y : Int)) (by omega)
      have hcon := playWorth_any X Y _ f _ _ hf hbits wr (rf.kept (Nat.le_refl _) (b1.trans (hB.mono b1.size))) (hr.kept (Nat.le_refl _) hB)
      have HC := Lib.hid hcon
      obtain ⟨z, hz⟩ : ∃ z, z = valP X Y f n := ⟨_, rfl⟩
      have hz2 : playW X Y f (bitsTo (X + Y) n (X + Y)) = z := by rw [hz]; rfl
      rw [hz2] at HC
      have HZ := Lib.hid hz
      clear hz hz2 hcon hbits hc hr
      go_wp2_with fail
      refine HC.out.mono ?_
      rintro e w2 ⟨rfl, hd⟩
      have hBn := hB.trans (hd.below _)
      by_cases h0 : n = 0
      · subst h0
        rw [show ((0 : Nat) : Int) = (0 : Int) from rfl]
        go_wp2
        go_roundw
        case rel => exact ⟨1, z, by omega, rfl, rfl, bestUp_new HU.out HZ.out (Or.inl rfl), hBn⟩
        case measure => simp [intOf]; omega
      · have h0z : ((n : Int) == 0) = false := by simp; omega
        by_cases hgt : u < z
        · go_wp2
          go_roundw
          case rel => exact ⟨n + 1, z, by omega, by go_num, rfl, bestUp_new HU.out HZ.out (Or.inr hgt), hBn⟩
          case measure => simp [intOf]; omega
        · go_wp2
          go_roundw
          case rel => exact ⟨n + 1, u, by omega, by go_num, rfl, bestUp_old HU.out HZ.out h0 (by omega), hBn⟩
          case measure => simp [intOf]; omega
    · obtain rfl : n = M := by omega
      go_wp2
      go_ret
      exact ⟨ret_int (by rw [HE.out]; exact HU.out), b1.trans (hB.mono b1.size)⟩
set_option maxHeartbeats 1600000 in
theorem l3Value_any (x y : Int) (vf : Value) (f : List (List Int)) (hf : funcB x y f = true) (w : World) (rf : RdII w vf f) :
    Calls Try.prog 57 #[.int .i64 x, .int .i64 y, vf] w fun e w' => e = .returned (.int .i64 (localV x y f)) ∧ Below w.heap.size w w' := by
  have hs := (funcB_iff.1 hf).1
  obtain ⟨⟨hx0, hx1⟩, hy0, hy1⟩ := sizesB_iff.1 hs
  obtain ⟨X, rfl⟩ := Int.eq_ofNat_of_zero_le (show 0 ≤ x by omega)
  obtain ⟨Y, rfl⟩ := Int.eq_ofNat_of_zero_le (show 0 ≤ y by omega)
  obtain ⟨af, cf, rfl⟩ : ∃ a c, vf = .slice a f.length c := by obtain ⟨a, _, _, c, hv, _⟩ := rf; exact ⟨a, c, hv⟩
  obtain ⟨hM1, hM64⟩ := pow_M X Y (by omega) (by omega)
  go_enter Try.func57, Try.ntmps57
  go_wp2_with fail
  refine (l2Plays_any X Y ⟨by omega, by omega⟩ ⟨by omega, by omega⟩ _).mono ?_
  rintro e w1 ⟨a, c, vs, rfl, o1, b1⟩
  obtain ⟨g, rfl, hg, _, hP⟩ := plays_path o1 hM1
  have hE : localV X Y f = bestUp (valP X Y f) (2 ^ (X + Y)) := rfl
  rw [playsTo_len]
  clear o1
  generalize 2 ^ (X + Y) = M at *
  have HP := Lib.hid hP
  have HE := Lib.hid hE
  clear hP hE
  go_wp2
  go_loopw [9, 8] (fun s t wr => ∃ (n : Nat) (u : Int), n ≤ M ∧ s = .int .i64 n ∧ t = .int .i64 u ∧ u = bestUp (valP X Y f) n ∧ Below w1.heap.size w1 wr) (fun s _ _ => M - (intOf s).toNat)
  case atStart => exact ⟨0, 0, by omega, rfl, rfl, rfl, Below.refl _ _⟩
  case round =>
    obtain ⟨n, u, hn, rfl, rfl, hu, hB⟩ := hrel
    have HU := Lib.hid hu
    clear hu
    by_cases hlt : n < M
    · obtain ⟨a2, c2, _, hc, hr⟩ := HP.out n hlt
      have hc' := keepCell hB hc
      have hbits := bitsTo_bits (X + Y) n ((X : Int) + (Y : Int)) (by omega)
      have hbox := l2PlayBox_any X Y _ _ 1 hs hbits wr (hr.kept (Nat.le_refl _) hB)
      have HC := Lib.hid hbox
      have HBI := Lib.hid hbits
      obtain ⟨z, hz⟩ : ∃ z, z = valP X Y f n := ⟨_, rfl⟩
      have hz2 : playW X Y f (bitsTo (X + Y) n (X + Y)) = z := by rw [hz]; rfl
      have HZ := Lib.hid hz
      have HZ2 := Lib.hid hz2
      clear hz hz2 hbox hbits hc hr
      go_wp2_with fail
      refine HC.out.mono ?_
      rintro e w2 ⟨a, c, vs, rfl, o2, b2⟩
      have hB2 := hB.trans (b2.mono hB.size)
      have hw := l2Worth_any _ f (.slice a ((X : Int).toNat * (Y : Int).toNat) c) (boxOf X Y 1 (playN X (bitsTo (X + Y) n (X + Y)) 1)) hf (playRows_box hs HBI.out) w2 (rf.kept (Nat.le_refl _) (b1.trans (hB2.mono b1.size))) o2.rdII
      rw [playW_box, HZ2.out] at hw
      have HW := Lib.hid hw
      clear hw o2
      go_wp2_with fail
      refine HW.out.mono ?_
      rintro e w3 ⟨rfl, b3⟩
      have hBn := hB2.trans (b3.mono hB2.size)
      by_cases h0 : n = 0
      · subst h0
        rw [show ((0 : Nat) : Int) = (0 : Int) from rfl]
        go_wp2
        go_roundw
        case rel => exact ⟨1, z, by omega, rfl, rfl, bestUp_new HU.out HZ.out (Or.inl rfl), hBn⟩
        case measure => simp [intOf]; omega
      · have h0z : ((n : Int) == 0) = false := by simp; omega
        by_cases hgt : u < z
        · go_wp2
          go_roundw
          case rel => exact ⟨n + 1, z, by omega, by go_num, rfl, bestUp_new HU.out HZ.out (Or.inr hgt), hBn⟩
          case measure => simp [intOf]; omega
        · go_wp2
          go_roundw
          case rel => exact ⟨n + 1, u, by omega, by go_num, rfl, bestUp_old HU.out HZ.out h0 (by omega), hBn⟩
          case measure => simp [intOf]; omega
    · obtain rfl : n = M := by omega
      go_wp2
      go_ret
      exact ⟨ret_int (by rw [HE.out]; exact HU.out), b1.trans (hB.mono b1.size)⟩
def localD (x y : Int) (f : List (List Int)) : Int := if funcB x y f then localV x y f else 0
set_option maxHeartbeats 800000 in
theorem implLocalValue_any (x y : Int) (vf : Value) (f : List (List Int)) (w : World) (rf : RdII w vf f) :
    Calls Try.prog 18 #[.int .i64 x, .int .i64 y, vf] w fun e w' => e = .returned (.tuple #[.int .i64 (localD x y f), .bool (funcB x y f)]) ∧ Below w.heap.size w w' := by
  obtain ⟨af, cf, rfl⟩ : ∃ a c, vf = .slice a f.length c := by obtain ⟨a, _, _, c, hv, _⟩ := rf; exact ⟨a, c, hv⟩
  go_enter Try.func18, Try.ntmps18
  go_wp2_with fail
  refine (isFunctional_any x y _ f _ rf).mono ?_
  rintro e w2 ⟨rfl, rfl⟩
  rcases Bool.eq_false_or_eq_true (funcB x y f) with hf | hf
  · have HF := Lib.hid hf
    have HD := Lib.hid (show localD x y f = localV x y f by unfold localD; rw [hf]; rfl)
    rw [hf]
    clear hf
    go_wp2_with fail
    refine (localValue_any x y _ f HF.out _ rf).mono ?_
    rintro e w2 ⟨rfl, b2⟩
    go_wp2
    refine bodyPost_ret (v := .tuple #[.int .i64 (localV x y f), .bool true]) (by simp [results, Try.results18, go_sem]) rfl ⟨by rw [HD.out, HF.out], b2⟩
  · have HF := Lib.hid hf
    have HD := Lib.hid (show localD x y f = 0 by unfold localD; rw [hf]; rfl)
    rw [hf]
    clear hf
    go_wp2
    refine bodyPost_ret (v := .tuple #[.int .i64 0, .bool false]) (by simp [results, Try.results18, go_sem]) rfl ⟨by rw [HD.out, HF.out], Below.refl _ _⟩
set_option maxHeartbeats 800000 in
theorem l3Asks_any (x y : Int) (vf : Value) (f : List (List Int)) (w : World) (rf : RdII w vf f) :
    Calls Try.prog 56 #[.int .i64 x, .int .i64 y, vf] w fun e w' => e = .returned (.bool (funcB x y f)) ∧ w = w' := by
  obtain ⟨af, cf, rfl⟩ : ∃ a c, vf = .slice a f.length c := by obtain ⟨a, _, _, c, hv, _⟩ := rf; exact ⟨a, c, hv⟩
  go_enter Try.func56, Try.ntmps56
  go_wp2_with fail
  refine (l2Sizes_any x y _).mono ?_
  rintro e w2 ⟨rfl, rfl⟩
  rcases Bool.eq_false_or_eq_true (sizesB x y) with hs | hs
  · rw [hs]
    clear hs
    go_wp2_with fail
    refine (l2Functional_any x y _ f _ rf).mono ?_
    rintro e w2 ⟨rfl, rfl⟩
    go_wp2
    go_ret
    exact ⟨rfl, rfl⟩
  · have HS := Lib.hid (funcB_sizes (f := f) hs)
    rw [hs]
    clear hs
    go_wp2
    go_ret
    exact ⟨ret_bool HS.out.symm, rfl⟩
set_option maxHeartbeats 800000 in
theorem specLocalValue_any (x y : Int) (vf : Value) (f : List (List Int)) (w : World) (rf : RdII w vf f) :
    Calls Try.prog 16 #[.int .i64 x, .int .i64 y, vf] w fun e w' => e = .returned (.tuple #[.int .i64 (localD x y f), .bool (funcB x y f)]) ∧ Below w.heap.size w w' := by
  obtain ⟨af, cf, rfl⟩ : ∃ a c, vf = .slice a f.length c := by obtain ⟨a, _, _, c, hv, _⟩ := rf; exact ⟨a, c, hv⟩
  go_enter Try.func16, Try.ntmps16
  go_wp2_with fail
  refine (l3Asks_any x y _ f _ rf).mono ?_
  rintro e w2 ⟨rfl, rfl⟩
  rcases Bool.eq_false_or_eq_true (funcB x y f) with hf | hf
  · have HF := Lib.hid hf
    have HD := Lib.hid (show localD x y f = localV x y f by unfold localD; rw [hf]; rfl)
    rw [hf]
    clear hf
    go_wp2_with fail
    refine (l3Value_any x y _ f HF.out _ rf).mono ?_
    rintro e w2 ⟨rfl, b2⟩
    go_wp2
    refine bodyPost_ret (v := .tuple #[.int .i64 (localV x y f), .bool true]) (by simp [results, Try.results16, go_sem]) rfl ⟨by rw [HD.out, HF.out], b2⟩
  · have HF := Lib.hid hf
    have HD := Lib.hid (show localD x y f = 0 by unfold localD; rw [hf]; rfl)
    rw [hf]
    clear hf
    go_wp2
    refine bodyPost_ret (v := .tuple #[.int .i64 0, .bool false]) (by simp [results, Try.results16, go_sem]) rfl ⟨by rw [HD.out, HF.out], Below.refl _ _⟩
end Go.Proofs.Ytbleeakcmmpcgaa
