/- WorthOf: contracts of the program's and the reference's functions. PlayWorth: contracts of the program's and the reference's functions. LocalValue, IsWitness: contracts of the program's and the reference's functions. -/
import Derived.Test.YtnmnmnpeoiblhaaSuav
import Derived.Test.YtnmnmnpeoiblhaaSuau
set_option linter.unusedSimpArgs false
set_option linter.unusedVariables false
namespace Go.Proofs.Ytnmnmnpeoiblhaa
open Go.RowKit

def worthOk (f : List (List Int)) (b : BoxD) : Bool := boxB b && funcB b.X b.Y f
def worthD (f : List (List Int)) (b : BoxD) : Int := if worthOk f b then worthR f b.Rows else 0
set_option maxHeartbeats 1600000 in
theorem implWorthOf_any (vf : Value) (f : List (List Int)) (vb : Value) (b : BoxD) (w : World) (rf : RdII w vf f) (rb : RdII w vb b.Rows) :
    Calls Try.prog 44 #[vf, .agg #[.int .i64 b.X, .int .i64 b.Y, .int .i64 b.Whole, vb]] w fun e w' => e = .returned (.tuple #[.int .i64 (worthD f b), .bool (worthOk f b)]) ∧ Below w.heap.size w w' := by
  obtain ⟨af, cf, rfl⟩ : ∃ a c, vf = .slice a f.length c := by obtain ⟨a, _, _, c, hv, _⟩ := rf; exact ⟨a, c, hv⟩
  go_enter Try.func44, Try.ntmps44
  go_wp2_with fail
  refine (implIsBox_any vb b _ (rb.kept (Nat.le_refl _) (by repeat' (first | with_reducible exact Below.refl _ _ | with_reducible assumption | with_reducible apply Below.alloc | with_reducible apply Below.setCell | with_reducible apply Below.drew | exact Nat.le_refl _ | omega | (simp only [World.size_alloc, World.size_setCell]; omega))))).mono ?_
  rintro e w1 ⟨rfl, b1⟩
  have B1 : Below w.heap.size w w1 := Below.trans (by repeat' (first | with_reducible exact Below.refl _ _ | with_reducible assumption | with_reducible apply Below.alloc | with_reducible apply Below.setCell | with_reducible apply Below.drew | exact Nat.le_refl _ | omega | (simp only [World.size_alloc, World.size_setCell]; omega))) (b1.mono (by first | exact Nat.le_refl _ | omega | (simp only [World.size_alloc, World.size_setCell]; omega)))
  have A1 : BoxAt w1 w.heap.size b.X b.Y b.Whole vb := ⟨keepCell b1 (by repeat' (first | with_reducible assumption | (refine cell_top ?_ rfl; first | with_reducible rfl | (simp only [World.size_alloc, World.size_setCell]; done)) | (refine cell_under ?_ ?_; (first | omega | (simp only [World.size_alloc, World.size_setCell]; omega))) | refine cell_drew ?_)), keepCell b1 (by repeat' (first | with_reducible assumption | (refine cell_top ?_ rfl; first | with_reducible rfl | (simp only [World.size_alloc, World.size_setCell]; done)) | (refine cell_under ?_ ?_; (first | omega | (simp only [World.size_alloc, World.size_setCell]; omega))) | refine cell_drew ?_)), keepCell b1 (by repeat' (first | with_reducible assumption | (refine cell_top ?_ rfl; first | with_reducible rfl | (simp only [World.size_alloc, World.size_setCell]; done)) | (refine cell_under ?_ ?_; (first | omega | (simp only [World.size_alloc, World.size_setCell]; omega))) | refine cell_drew ?_)), keepCell b1 (by repeat' (first | with_reducible assumption | (refine cell_top ?_ rfl; first | with_reducible rfl | (simp only [World.size_alloc, World.size_setCell]; done)) | (refine cell_under ?_ ?_; (first | omega | (simp only [World.size_alloc, World.size_setCell]; omega))) | refine cell_drew ?_))⟩
  clear b1
  rcases Bool.eq_false_or_eq_true (boxB b) with hok | hok
  · obtain ⟨a0, a1, a2, a3⟩ := A1
    have HM := Lib.hid hok
    rw [hok]
    clear hok
    go_wp2_with fail
    refine (isFunctional_any b.X b.Y _ f _ (rf.kept (Nat.le_refl _) B1)).mono ?_
    rintro e w2 ⟨rfl, rfl⟩
    rcases Bool.eq_false_or_eq_true (funcB b.X b.Y f) with hf | hf
    · have HF := Lib.hid hf
      have hm : worthOk f b = true := by unfold worthOk; rw [HM.out, hf]; rfl
      have hD : worthD f b = worthR f b.Rows := by unfold worthD; rw [hm]; simp
      have HO := Lib.hid hm
      have HD := Lib.hid hD
      rw [hf]
      clear hf hm hD
      go_wp2_with fail
      refine (worth_any _ f vb b HF.out HM.out _ (rf.kept (Nat.le_refl _) B1) (rb.kept (Nat.le_refl _) B1)).mono ?_
      rintro e w2 ⟨rfl, rfl⟩
      go_wp2
      refine bodyPost_ret (v := .tuple #[.int .i64 (worthR f b.Rows), .bool true]) (by simp [results, Try.results44, go_sem]) rfl ⟨by rw [HD.out, HO.out], B1⟩
    · have hm : worthOk f b = false := by unfold worthOk; rw [HM.out, hf]; rfl
      have hD : worthD f b = 0 := by unfold worthD; rw [hm]; simp
      have HO := Lib.hid hm
      have HD := Lib.hid hD
      rw [hf]
      clear hf hm hD
      go_wp2
      refine bodyPost_ret (v := .tuple #[.int .i64 0, .bool false]) (by simp [results, Try.results44, go_sem]) rfl ⟨by rw [HD.out, HO.out], B1⟩
  · have hm : worthOk f b = false := by unfold worthOk; rw [hok]; rfl
    have hD : worthD f b = 0 := by unfold worthD; rw [hm]; simp
    have HO := Lib.hid hm
    have HD := Lib.hid hD
    rw [hok]
    clear hok hm hD
    go_wp2
    refine bodyPost_ret (v := .tuple #[.int .i64 0, .bool false]) (by simp [results, Try.results44, go_sem]) rfl ⟨by rw [HD.out, HO.out], B1⟩
end Go.Proofs.Ytnmnmnpeoiblhaa
set_option linter.unusedSimpArgs false
set_option linter.unusedVariables false
namespace Go.Proofs.Ytnmnmnpeoiblhaa
open Go.RowKit

theorem drwAt {w w' : World} {a : Addr} {v : Value} (h : Drw w w') (hc : w.cell? a = some v) : w'.cell? a = some v := by rw [h.cell]; exact hc
set_option maxHeartbeats 1600000 in
theorem playWorth_any (x y : Int) (vf : Value) (f : List (List Int)) (vp : Value) (ps : List Int) (hf : funcB x y f = true) (hp : bitsB ps (x + y) = true) (w : World) (rf : RdII w vf f) (rp : RdI w vp ps) :
    Calls Try.prog 121 #[.int .i64 x, .int .i64 y, vf, vp] w fun e w' => e = .returned (.int .i64 (playW x y f ps)) ∧ Drw w w' := by
  obtain ⟨hs, hfl, hfa⟩ := funcB_iff.1 hf
  obtain ⟨⟨hx0, hx1⟩, hy0, hy1⟩ := sizesB_iff.1 hs
  obtain ⟨X, rfl⟩ := Int.eq_ofNat_of_zero_le (show 0 ≤ x by omega)
  obtain ⟨Y, rfl⟩ := Int.eq_ofNat_of_zero_le (show 0 ≤ y by omega)
  have PF := Lib.hid (fun k hk => func_path hfa rf k hk)
  have PB := Lib.hid (fun (j : Nat) (hj : (j : Int) < (X : Int) + (Y : Int)) => bits_get hp hj)
  have hpl := (bits_iff.1 hp).2
  have hXY : X * Y ≤ 9 := Nat.mul_le_mul (show X ≤ 3 by omega) (show Y ≤ 3 by omega)
  have hfn : f.length = X * Y := by exact_mod_cast hfl
  have hXY1 : 1 ≤ X * Y := Nat.mul_le_mul (show 1 ≤ X by omega) (show 1 ≤ Y by omega)
  obtain ⟨ba, off, cap, _, _, _, rfl, _⟩ := PF.out 0 (by omega)
  obtain ⟨a1, b1, o1, k1, rfl, m1, e1, d1⟩ := rp
  unfold maxLen at m1
  obtain rfl := e1 (by omega)
  have HE := Lib.hid (playW_eq (X := X) (Y := Y) f ps)
  have HL := Lib.hid hfn
  have HD := Lib.hid d1
  clear hfl hfn d1 e1 hf hp hfa rf hs
  go_enter Try.func121, Try.ntmps121
  go_wp2
  go_loopw [13, 9] (fun s t wr => ∃ (i : Nat) (u : Int), i ≤ X ∧ s = .int .i64 i ∧ t = .int .i64 u ∧ u = worthTo f (playRows X Y ps) (i * Y) ∧ -(99 * ((i * Y : Nat) : Int)) ≤ u ∧ u ≤ 99 * ((i * Y : Nat) : Int) ∧ Drw w wr) (fun s _ _ => X - (intOf s).toNat)
  case atStart => exact ⟨0, 0, by omega, rfl, rfl, by simp [worthTo_zero], by simp, by simp, Drw.refl _⟩
  case round =>
    obtain ⟨i, u, hi, rfl, rfl, hu, hu0, hu1, hd⟩ := hrel
    have HU := Lib.hid hu
    clear hu
    by_cases hlt : i < X
    · have hiY : (i + 1) * Y ≤ X * Y := Nat.mul_le_mul_right Y hlt
      have hi1 : (i + 1) * Y = i * Y + Y := by rw [Nat.add_mul]; omega
      obtain ⟨m, hm⟩ : ∃ m : Nat, i * Y = m := ⟨_, rfl⟩
      have hmi : (i : Int) * (Y : Int) = (m : Int) := by exact_mod_cast hm
      have hm9 : m + Y ≤ X * Y := by omega
      have HM := Lib.hid hm
      have HM1 := Lib.hid hi1
      rw [hm] at hu0 hu1
      clear hiY hi1 hm
      obtain ⟨p, hp, p2⟩ := PB.out i (by omega)
      have cp := HD.out i _ hp
      have HP := Lib.hid hp
      have hil : i < ps.length := (List.getElem?_eq_some_iff.1 hp).1
      clear hp
      go_wp2
      go_loopw [17, 9] (fun s t wr => ∃ (j : Nat) (t' : Int), j ≤ Y ∧ s = .int .i64 j ∧ t = .int .i64 t' ∧ t' = worthTo f (playRows X Y ps) (m + j) ∧ -(99 * ((m + j : Nat) : Int)) ≤ t' ∧ t' ≤ 99 * ((m + j : Nat) : Int) ∧ Drw w wr) (fun s _ _ => Y - (intOf s).toNat)
      case atStart => exact ⟨0, u, by omega, rfl, rfl, by rw [HU.out, HM.out]; rfl, hu0, hu1, hd⟩
      case round =>
        clear hu0 hu1 hd
        obtain ⟨j, t, hj, rfl, rfl, ht, ht0, ht1, hd⟩ := hrel
        have HT := Lib.hid ht
        clear ht
        by_cases hjt : j < Y
        · obtain ⟨q, hq, q2⟩ := PB.out (X + j) (by omega)
          have hql : X + j < ps.length := (List.getElem?_eq_some_iff.1 hq).1
          obtain ⟨n, hn⟩ : ∃ n : Nat, m + j = n := ⟨_, rfl⟩
          obtain ⟨r, hr⟩ : ∃ r : Nat, X + j = r := ⟨_, rfl⟩
          have hni : (m : Int) + (j : Int) = (n : Int) := by omega
          have hri : (X : Int) + (j : Int) = (r : Int) := by omega
          have hnl : n < f.length := by have := HL.out; omega
          obtain ⟨_, _, _, b2, o2, c2, ev, ca, lba, lb2, PFk⟩ := PF.out n hnl
          simp only [Value.slice.injEq, Option.some.injEq, Addr.mk.injEq, and_true, true_and] at ev
          obtain ⟨⟨rfl, rfl⟩, rfl⟩ := ev
          obtain ⟨s, hs⟩ : ∃ s : Nat, 2 * p + q = s := ⟨_, rfl⟩
          have hsi : 2 * (p : Int) + (q : Int) = (s : Int) := by omega
          obtain ⟨z, cz, hz, nz⟩ := PFk s (by omega)
          have hw := wRow_one (f := f) hlt hjt HP.out hq p2 q2 (n := n) (by rw [HM.out]; exact hn)
          have cq := HD.out (X + j) _ hq
          rw [hr] at cq hql
          have hsum : t + z = worthTo f (playRows X Y ps) (m + (j + 1)) := by
            rw [show m + (j + 1) = n + 1 by omega, worthTo_succ, hw, hs, nz, ← hn, HT.out]
          have HS := Lib.hid hsum
          have hs4 : s < 4 := by omega
          have hn9 : n < 9 := by omega
          have v0 : -(99 * ((m + (j + 1) : Nat) : Int)) ≤ t + z := by omega
          have v1 : t + z ≤ 99 * ((m + (j + 1) : Nat) : Int) := by omega
          have HV := Lib.hid (And.intro v0 v1)
          replace cz := drwAt hd cz
          replace ca := drwAt hd ca
          replace cq := drwAt hd cq
          have cp' := drwAt hd cp
          clear hw hsum PFk hq nz hn hr hs v0 v1
          go_wp2
          go_quiet (fail)
          go_wp2
          go_roundw
          case rel => exact ⟨j + 1, t + z, by omega, by go_num, rfl, HS.out, HV.out.1, HV.out.2, hd.trans (Drw.mk _ _)⟩
          case measure => simp [intOf]; omega
        · obtain rfl : j = Y := by omega
          go_wp2
          go_roundw
          case rel => exact ⟨i + 1, t, by omega, by go_num, rfl, by rw [HT.out, HM1.out, HM.out], by rw [HM1.out, HM.out]; exact ht0, by rw [HM1.out, HM.out]; exact ht1, hd⟩
          case measure => simp [intOf]; omega
    · obtain rfl : i = X := by omega
      go_wp2
      go_ret
      exact ⟨ret_int (by rw [HE.out]; exact HU.out), hd⟩
def playWorthOk (x y : Int) (f : List (List Int)) (ps : List Int) : Bool := funcB x y f && bitsB ps (x + y)
def playWorthD (x y : Int) (f : List (List Int)) (ps : List Int) : Int := if playWorthOk x y f ps then playW x y f ps else 0
theorem playWorth_val {x y : Int} {f : List (List Int)} {ps : List Int} {t : Bool} (h : playWorthOk x y f ps = t) : playWorthD x y f ps = if t then playW x y f ps else 0 := by unfold playWorthD; rw [h]
theorem playRows_box {x y : Int} {ps : List Int} (hs : sizesB x y = true) (hp : bitsB ps (x + y) = true) : boxB (boxOf x y 1 (playN x ps 1)) = true := by
  obtain ⟨⟨hx0, hx1⟩, hy0, hy1⟩ := sizesB_iff.1 hs
  obtain ⟨X, rfl⟩ := Int.eq_ofNat_of_zero_le (show 0 ≤ x by omega)
  obtain ⟨Y, rfl⟩ := Int.eq_ofNat_of_zero_le (show 0 ≤ y by omega)
  rw [boxOf_boxB _ _ _ _ hs]
  · decide
  · intro i j hi hj
    obtain ⟨p, hp1, p2⟩ := bits_get hp (j := i) (by omega)
    obtain ⟨q, hq1, q2⟩ := bits_get hp (j := X + j) (by omega)
    unfold FourN playN
    simp only [Int.toNat_natCast, List.getD_eq_getElem?_getD, hp1, hq1, Option.getD_some]
    have hp' : p = 0 ∨ p = 1 := by omega
    have hq' : q = 0 ∨ q = 1 := by omega
    rcases hp' with rfl | rfl <;> rcases hq' with rfl | rfl <;> simp
/-- The worth of a functional for a play's box, as the reference asks for it. -/
theorem playW_box (x y : Int) (f : List (List Int)) (ps : List Int) : worthR f (boxOf x y 1 (playN x ps 1)).Rows = playW x y f ps := rfl
end Go.Proofs.Ytnmnmnpeoiblhaa
set_option linter.unusedSimpArgs false
set_option linter.unusedVariables false
namespace Go.Proofs.Ytnmnmnpeoiblhaa
open Go.RowKit

set_option maxHeartbeats 1600000 in
theorem localValue_any (x y : Int) (vf : Value) (f : List (List Int)) (hf : funcB x y f = true) (w : World) (rf : RdII w vf f) :
    Calls Try.prog 94 #[.int .i64 x, .int .i64 y, vf] w fun e w' => e = .returned (.int .i64 (localV x y f)) ∧ Below w.heap.size w w' := by
  obtain ⟨⟨hx0, hx1⟩, hy0, hy1⟩ := sizesB_iff.1 (funcB_iff.1 hf).1
  obtain ⟨X, rfl⟩ := Int.eq_ofNat_of_zero_le (show 0 ≤ x by omega)
  obtain ⟨Y, rfl⟩ := Int.eq_ofNat_of_zero_le (show 0 ≤ y by omega)
  obtain ⟨af, cf, rfl⟩ : ∃ a c, vf = .slice a f.length c := by obtain ⟨a, _, _, c, hv, _⟩ := rf; exact ⟨a, c, hv⟩
  obtain ⟨hM1, hM64⟩ := pow_M X Y (by omega) (by omega)
  go_enter Try.func94, Try.ntmps94
  go_wp2_with fail
  refine (plays_any X Y ⟨by omega, by omega⟩ ⟨by omega, by omega⟩ _).mono ?_
  rintro e w1 ⟨a, c, vs, rfl, o1, b1⟩
  obtain ⟨g, rfl, hg, _, hP⟩ := plays_path o1 hM1
  have hE : localV X Y f = bestUp (valP X Y f) (2 ^ (X + Y)) := rfl
  rw [playsTo_len]
  clear o1
  generalize 2 ^ (X + Y) = M at *
  have HP := Lib.hid hP
  have HE := Lib.hid hE
  clear hP hE
  go_wp2
  go_loopw [15, 7] (fun s t wr => ∃ (n : Nat) (u : Int), n ≤ M ∧ s = .int .i64 n ∧ t = .int .i64 u ∧ u = bestUp (valP X Y f) n ∧ Below w1.heap.size w1 wr) (fun s _ _ => M - (intOf s).toNat)
  case atStart => exact ⟨0, 0, by omega, rfl, rfl, rfl, Below.refl _ _⟩
  case round =>
    obtain ⟨n, u, hn, rfl, rfl, hu, hB⟩ := hrel
    have HU := Lib.hid hu
    clear hu
    by_cases hlt : n < M
    · obtain ⟨a2, c2, _, hc, hr⟩ := HP.out n hlt
      have hc' := keepCell hB hc
      have hbits := bitsTo_bits (X + Y) n ((X : Int) + (Y : Int)) (by omega)
      have hcon := playWorth_any X Y _ f _ _ hf hbits wr (rf.kept (Nat.le_refl _) (b1.trans (hB.mono b1.size))) (hr.kept (Nat.le_refl _) hB)
      have HC := Lib.hid hcon
      obtain ⟨z, hz⟩ : ∃ z, z = valP X Y f n := ⟨_, rfl⟩
      have hz2 : playW X Y f (bitsTo (X + Y) n (X + Y)) = z := by rw [hz]; rfl
      rw [hz2] at HC
      have HZ := Lib.hid hz
      clear hz hz2 hcon hbits hc hr
      go_wp2_with fail
      refine HC.out.mono ?_
      rintro e w2 ⟨rfl, hd⟩
      have hBn := hB.trans (hd.below _)
      by_cases h0 : n = 0
      · subst h0
        rw [show ((0 : Nat) : Int) = (0 : Int) from rfl]
        go_wp2
        go_roundw
        case rel => exact ⟨1, z, by omega, rfl, rfl, bestUp_new HU.out HZ.out (Or.inl rfl), hBn⟩
        case measure => simp [intOf]; omega
      · have h0z : ((n : Int) == 0) = false := by simp; omega
        by_cases hgt : u < z
        · go_wp2
          go_roundw
          case rel => exact ⟨n + 1, z, by omega, by go_num, rfl, bestUp_new HU.out HZ.out (Or.inr hgt), hBn⟩
          case measure => simp [intOf]; omega
        · go_wp2
          go_roundw
          case rel => exact ⟨n + 1, u, by omega, by go_num, rfl, bestUp_old HU.out HZ.out h0 (by omega), hBn⟩
          case measure => simp [intOf]; omega
    · obtain rfl : n = M := by omega
      go_wp2
      go_ret
      exact ⟨ret_int (by rw [HE.out]; exact HU.out), b1.trans (hB.mono b1.size)⟩
def localD (x y : Int) (f : List (List Int)) : Int := if funcB x y f then localV x y f else 0
set_option maxHeartbeats 800000 in
theorem implLocalValue_any (x y : Int) (vf : Value) (f : List (List Int)) (w : World) (rf : RdII w vf f) :
    Calls Try.prog 41 #[.int .i64 x, .int .i64 y, vf] w fun e w' => e = .returned (.tuple #[.int .i64 (localD x y f), .bool (funcB x y f)]) ∧ Below w.heap.size w w' := by
  obtain ⟨af, cf, rfl⟩ : ∃ a c, vf = .slice a f.length c := by obtain ⟨a, _, _, c, hv, _⟩ := rf; exact ⟨a, c, hv⟩
  go_enter Try.func41, Try.ntmps41
  go_wp2_with fail
  refine (isFunctional_any x y _ f _ rf).mono ?_
  rintro e w2 ⟨rfl, rfl⟩
  rcases Bool.eq_false_or_eq_true (funcB x y f) with hf | hf
  · have HF := Lib.hid hf
    have HD := Lib.hid (show localD x y f = localV x y f by unfold localD; rw [hf]; rfl)
    rw [hf]
    clear hf
    go_wp2_with fail
    refine (localValue_any x y _ f HF.out _ rf).mono ?_
    rintro e w2 ⟨rfl, b2⟩
    go_wp2
    refine bodyPost_ret (v := .tuple #[.int .i64 (localV x y f), .bool true]) (by simp [results, Try.results41, go_sem]) rfl ⟨by rw [HD.out, HF.out], b2⟩
  · have HF := Lib.hid hf
    have HD := Lib.hid (show localD x y f = 0 by unfold localD; rw [hf]; rfl)
    rw [hf]
    clear hf
    go_wp2
    refine bodyPost_ret (v := .tuple #[.int .i64 0, .bool false]) (by simp [results, Try.results41, go_sem]) rfl ⟨by rw [HD.out, HF.out], Below.refl _ _⟩
end Go.Proofs.Ytnmnmnpeoiblhaa
