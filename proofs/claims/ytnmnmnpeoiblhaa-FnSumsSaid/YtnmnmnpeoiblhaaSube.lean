/- The greatest triple worth: contract of the program's function. GreatestTriple: contracts of the program's and the reference's functions. -/
import Derived.Test.YtnmnmnpeoiblhaaSubc
import Derived.Test.YtnmnmnpeoiblhaaSubd
import Derived.Test.YtnmnmnpeoiblhaaSuam
set_option linter.unusedSimpArgs false
set_option linter.unusedVariables false
namespace Go.Proofs.Ytnmnmnpeoiblhaa
open Go.RowKit

theorem again33 (va : Value) (X Y W0 : Int) (a : BoxD) (eX : a.X = X) (eY : a.Y = Y) (eW : a.Whole = W0) (v1 v2 : Value) (i k : Nat) (hi : i < 6) (hk : k < 6) (ha : boxB a = true) (hX : X = 3) (hY : Y = 3) (w : World) (ra : RdII w va a.Rows) (r1 : RdI w v1 (ordAt i)) (r2 : RdI w v2 (ordAt k)) :
    Calls Try.prog 63 #[.agg #[.int .i64 X, .int .i64 Y, .int .i64 W0, va], v1, v2] w fun e w' => ∃ a' c vs, e = .returned (.agg #[.int .i64 3, .int .i64 3, .int .i64 W0, .slice a' 9 c]) ∧ OwnII 27 3 w.heap.size w'.heap.size w' (.slice a' 9 c) (againL a (ordAt i) (ordAt k)).Rows vs ∧ Below w.heap.size w w' := by
  subst eX eY eW
  have h := again_any va a v1 (ordAt i) v2 (ordAt k) ha (ord_again ha hX hY hi hk) w ra r1 r2
  have e1 : ((ordAt i).length : Int) = 3 := by rw [(ordAt_ok i hi).1]; rfl
  have e2 : ((ordAt k).length : Int) = 3 := by rw [(ordAt_ok k hk).1]; rfl
  rw [e1, e2] at h
  exact h
theorem flipped_at (va : Value) (W0 : Int) (a : BoxD) (eX : a.X = 3) (eY : a.Y = 3) (eW : a.Whole = W0) (v1 : Value) (fl : List Int) (ha : boxB a = true) (hf : bitsB fl 6 = true) (w : World) (ra : RdII w va a.Rows) (r1 : RdI w v1 fl) :
    Calls Try.prog 49 #[.agg #[.int .i64 3, .int .i64 3, .int .i64 W0, va], v1] w fun e w' => ∃ a' c vs, e = .returned (.agg #[.int .i64 3, .int .i64 3, .int .i64 W0, .slice a' 9 c]) ∧ OwnII 27 3 w.heap.size w'.heap.size w' (.slice a' 9 c) (flipBL a fl).Rows vs ∧ Below w.heap.size w w' := by
  have h := flipped_any va a v1 fl ha (by rw [eX, eY]; exact hf) w ra r1
  rw [eX, eY, eW] at h
  exact h
theorem triple_at (v : Value) (W0 : Int) (b : BoxD) (eX : b.X = 3) (eY : b.Y = 3) (eW : b.Whole = W0) (hb : boxB b = true) (w : World) (h : RdII w v b.Rows) :
    Calls Try.prog 127 #[.agg #[.int .i64 3, .int .i64 3, .int .i64 W0, v]] w fun e w' => e = .returned (.int .i64 (tripleV b)) ∧ Below w.heap.size w w' := by
  have k := triple3_any v b hb eX eY w h
  rw [eX, eY, eW] at k
  exact k
theorem plays33 (w : World) : Calls Try.prog 120 #[.int .i64 3, .int .i64 3] w fun e w' => ∃ a c vs, e = .returned (.slice a 64 c) ∧ OwnII 27 3 w.heap.size w'.heap.size w' (.slice a 64 c) (playsTo 6 64) vs ∧ Below w.heap.size w w' := by
  have h := plays_any 3 3 (by decide) (by decide) w
  have e : (playsTo (3 + 3) (2 ^ (3 + 3))).length = 64 := by simp [playsTo]
  rw [e] at h
  exact h
theorem plays6_path {w : World} {a : Option Addr} {c : Nat} (h : RdII w (.slice a 64 c) (playsTo 6 64)) : ∃ gp op, a = some ⟨gp, op, none⟩ ∧ ∀ k, k < 64 → ∃ fa fc, w.cell? ⟨gp, op + k, none⟩ = some (.slice fa 6 fc) ∧ RdI w (.slice fa 6 fc) (bitsTo 6 k 6) := by
  obtain ⟨a', b, off, cap, hv, _, ha, hc⟩ := h
  injection hv with e1 e2 e3
  subst e1 e3
  have hl : (playsTo 6 64).length = 64 := by simp [playsTo]
  refine ⟨b, off, ha (by rw [hl]; decide), fun k hk => ?_⟩
  obtain ⟨v', hv', hr⟩ := hc k (bitsTo 6 k 6) (by simp [playsTo, hk])
  obtain ⟨fa, b2, o2, fc, rfl, r⟩ := id hr
  have hbl : (bitsTo 6 k 6).length = 6 := by simp [bitsTo]
  rw [hbl] at hv' hr
  exact ⟨fa, fc, hv', hr⟩
set_option maxRecDepth 100000 in
set_option maxHeartbeats 3200000 in
theorem greatestTriple_any (v : Value) (b : BoxD) (hb : boxB b = true) (hX : b.X = 3) (hY : b.Y = 3) (w : World) (h : RdII w v b.Rows) :
    Calls Try.prog 123 #[.agg #[.int .i64 b.X, .int .i64 b.Y, .int .i64 b.Whole, v]] w fun e w' => e = .returned (.int .i64 (mostT b)) ∧ Below w.heap.size w w' := by
  have HXY := Lib.hid (And.intro hX hY)
  have hsb := swapL_box hb
  clear hX hY
  go_enter Try.func123, Try.ntmps123
  go_wp2_with fail
  refine (triple3_any v b hb HXY.out.1 HXY.out.2 _ (h.kept (Nat.le_refl _) (by repeat' (first | with_reducible exact Below.refl _ _ | with_reducible assumption | with_reducible apply Below.alloc | with_reducible apply Below.setCell | with_reducible apply Below.drew | exact Nat.le_refl _ | omega | (simp only [World.size_alloc, World.size_setCell]; omega))))).mono ?_
  rintro e w2 ⟨rfl, b2⟩
  have B2 : Below w.heap.size w w2 := Below.trans (by repeat' (first | with_reducible exact Below.refl _ _ | with_reducible assumption | with_reducible apply Below.alloc | with_reducible apply Below.setCell | with_reducible apply Below.drew | exact Nat.le_refl _ | omega | (simp only [World.size_alloc, World.size_setCell]; omega))) (b2.mono (by first | exact Nat.le_refl _ | omega | (simp only [World.size_alloc, World.size_setCell]; omega)))
  have A2 : BoxAt w2 w.heap.size b.X b.Y b.Whole v := ⟨keepCell b2 (by repeat' (first | with_reducible assumption | (refine cell_top ?_ rfl; first | with_reducible rfl | (simp only [World.size_alloc, World.size_setCell]; done)) | (refine cell_under ?_ ?_; (first | omega | (simp only [World.size_alloc, World.size_setCell]; omega))) | refine cell_drew ?_)), keepCell b2 (by repeat' (first | with_reducible assumption | (refine cell_top ?_ rfl; first | with_reducible rfl | (simp only [World.size_alloc, World.size_setCell]; done)) | (refine cell_under ?_ ?_; (first | omega | (simp only [World.size_alloc, World.size_setCell]; omega))) | refine cell_drew ?_)), keepCell b2 (by repeat' (first | with_reducible assumption | (refine cell_top ?_ rfl; first | with_reducible rfl | (simp only [World.size_alloc, World.size_setCell]; done)) | (refine cell_under ?_ ?_; (first | omega | (simp only [World.size_alloc, World.size_setCell]; omega))) | refine cell_drew ?_)), keepCell b2 (by repeat' (first | with_reducible assumption | (refine cell_top ?_ rfl; first | with_reducible rfl | (simp only [World.size_alloc, World.size_setCell]; done)) | (refine cell_under ?_ ?_; (first | omega | (simp only [World.size_alloc, World.size_setCell]; omega))) | refine cell_drew ?_))⟩
  have RO : RdII w2 (.slice (some ⟨w.heap.size + 1 + 1 + 1 + 1 + 1 + 1 + 1, 0, none⟩) 6 6) ords :=
    (ords_rd (g0 := w.heap.size + 1) (g1 := w.heap.size + 1 + 1) (g2 := w.heap.size + 1 + 1 + 1) (g3 := w.heap.size + 1 + 1 + 1 + 1) (g4 := w.heap.size + 1 + 1 + 1 + 1 + 1) (g5 := w.heap.size + 1 + 1 + 1 + 1 + 1 + 1) (g := w.heap.size + 1 + 1 + 1 + 1 + 1 + 1 + 1) (cells3 (by repeat' (first | with_reducible assumption | (refine cell_top ?_ rfl; first | with_reducible rfl | (simp only [World.size_alloc, World.size_setCell]; done)) | (refine cell_under ?_ ?_; (first | omega | (simp only [World.size_alloc, World.size_setCell]; omega))) | refine cell_drew ?_)) (by repeat' (first | with_reducible assumption | (refine cell_top ?_ rfl; first | with_reducible rfl | (simp only [World.size_alloc, World.size_setCell]; done)) | (refine cell_under ?_ ?_; (first | omega | (simp only [World.size_alloc, World.size_setCell]; omega))) | refine cell_drew ?_)) (by repeat' (first | with_reducible assumption | (refine cell_top ?_ rfl; first | with_reducible rfl | (simp only [World.size_alloc, World.size_setCell]; done)) | (refine cell_under ?_ ?_; (first | omega | (simp only [World.size_alloc, World.size_setCell]; omega))) | refine cell_drew ?_))) (cells3 (by repeat' (first | with_reducible assumption | (refine cell_top ?_ rfl; first | with_reducible rfl | (simp only [World.size_alloc, World.size_setCell]; done)) | (refine cell_under ?_ ?_; (first | omega | (simp only [World.size_alloc, World.size_setCell]; omega))) | refine cell_drew ?_)) (by repeat' (first | with_reducible assumption | (refine cell_top ?_ rfl; first | with_reducible rfl | (simp only [World.size_alloc, World.size_setCell]; done)) | (refine cell_under ?_ ?_; (first | omega | (simp only [World.size_alloc, World.size_setCell]; omega))) | refine cell_drew ?_)) (by repeat' (first | with_reducible assumption | (refine cell_top ?_ rfl; first | with_reducible rfl | (simp only [World.size_alloc, World.size_setCell]; done)) | (refine cell_under ?_ ?_; (first | omega | (simp only [World.size_alloc, World.size_setCell]; omega))) | refine cell_drew ?_))) (cells3 (by repeat' (first | with_reducible assumption | (refine cell_top ?_ rfl; first | with_reducible rfl | (simp only [World.size_alloc, World.size_setCell]; done)) | (refine cell_under ?_ ?_; (first | omega | (simp only [World.size_alloc, World.size_setCell]; omega))) | refine cell_drew ?_)) (by repeat' (first | with_reducible assumption | (refine cell_top ?_ rfl; first | with_reducible rfl | (simp only [World.size_alloc, World.size_setCell]; done)) | (refine cell_under ?_ ?_; (first | omega | (simp only [World.size_alloc, World.size_setCell]; omega))) | refine cell_drew ?_)) (by repeat' (first | with_reducible assumption | (refine cell_top ?_ rfl; first | with_reducible rfl | (simp only [World.size_alloc, World.size_setCell]; done)) | (refine cell_under ?_ ?_; (first | omega | (simp only [World.size_alloc, World.size_setCell]; omega))) | refine cell_drew ?_))) (cells3 (by repeat' (first | with_reducible assumption | (refine cell_top ?_ rfl; first | with_reducible rfl | (simp only [World.size_alloc, World.size_setCell]; done)) | (refine cell_under ?_ ?_; (first | omega | (simp only [World.size_alloc, World.size_setCell]; omega))) | refine cell_drew ?_)) (by repeat' (first | with_reducible assumption | (refine cell_top ?_ rfl; first | with_reducible rfl | (simp only [World.size_alloc, World.size_setCell]; done)) | (refine cell_under ?_ ?_; (first | omega | (simp only [World.size_alloc, World.size_setCell]; omega))) | refine cell_drew ?_)) (by repeat' (first | with_reducible assumption | (refine cell_top ?_ rfl; first | with_reducible rfl | (simp only [World.size_alloc, World.size_setCell]; done)) | (refine cell_under ?_ ?_; (first | omega | (simp only [World.size_alloc, World.size_setCell]; omega))) | refine cell_drew ?_))) (cells3 (by repeat' (first | with_reducible assumption | (refine cell_top ?_ rfl; first | with_reducible rfl | (simp only [World.size_alloc, World.size_setCell]; done)) | (refine cell_under ?_ ?_; (first | omega | (simp only [World.size_alloc, World.size_setCell]; omega))) | refine cell_drew ?_)) (by repeat' (first | with_reducible assumption | (refine cell_top ?_ rfl; first | with_reducible rfl | (simp only [World.size_alloc, World.size_setCell]; done)) | (refine cell_under ?_ ?_; (first | omega | (simp only [World.size_alloc, World.size_setCell]; omega))) | refine cell_drew ?_)) (by repeat' (first | with_reducible assumption | (refine cell_top ?_ rfl; first | with_reducible rfl | (simp only [World.size_alloc, World.size_setCell]; done)) | (refine cell_under ?_ ?_; (first | omega | (simp only [World.size_alloc, World.size_setCell]; omega))) | refine cell_drew ?_))) (cells3 (by repeat' (first | with_reducible assumption | (refine cell_top ?_ rfl; first | with_reducible rfl | (simp only [World.size_alloc, World.size_setCell]; done)) | (refine cell_under ?_ ?_; (first | omega | (simp only [World.size_alloc, World.size_setCell]; omega))) | refine cell_drew ?_)) (by repeat' (first | with_reducible assumption | (refine cell_top ?_ rfl; first | with_reducible rfl | (simp only [World.size_alloc, World.size_setCell]; done)) | (refine cell_under ?_ ?_; (first | omega | (simp only [World.size_alloc, World.size_setCell]; omega))) | refine cell_drew ?_)) (by repeat' (first | with_reducible assumption | (refine cell_top ?_ rfl; first | with_reducible rfl | (simp only [World.size_alloc, World.size_setCell]; done)) | (refine cell_under ?_ ?_; (first | omega | (simp only [World.size_alloc, World.size_setCell]; omega))) | refine cell_drew ?_))) (by repeat' (first | with_reducible assumption | (refine cell_top ?_ rfl; first | with_reducible rfl | (simp only [World.size_alloc, World.size_setCell]; done)) | (refine cell_under ?_ ?_; (first | omega | (simp only [World.size_alloc, World.size_setCell]; omega))) | refine cell_drew ?_)) (by repeat' (first | with_reducible assumption | (refine cell_top ?_ rfl; first | with_reducible rfl | (simp only [World.size_alloc, World.size_setCell]; done)) | (refine cell_under ?_ ?_; (first | omega | (simp only [World.size_alloc, World.size_setCell]; omega))) | refine cell_drew ?_)) (by repeat' (first | with_reducible assumption | (refine cell_top ?_ rfl; first | with_reducible rfl | (simp only [World.size_alloc, World.size_setCell]; done)) | (refine cell_under ?_ ?_; (first | omega | (simp only [World.size_alloc, World.size_setCell]; omega))) | refine cell_drew ?_)) (by repeat' (first | with_reducible assumption | (refine cell_top ?_ rfl; first | with_reducible rfl | (simp only [World.size_alloc, World.size_setCell]; done)) | (refine cell_under ?_ ?_; (first | omega | (simp only [World.size_alloc, World.size_setCell]; omega))) | refine cell_drew ?_)) (by repeat' (first | with_reducible assumption | (refine cell_top ?_ rfl; first | with_reducible rfl | (simp only [World.size_alloc, World.size_setCell]; done)) | (refine cell_under ?_ ?_; (first | omega | (simp only [World.size_alloc, World.size_setCell]; omega))) | refine cell_drew ?_)) (by repeat' (first | with_reducible assumption | (refine cell_top ?_ rfl; first | with_reducible rfl | (simp only [World.size_alloc, World.size_setCell]; done)) | (refine cell_under ?_ ?_; (first | omega | (simp only [World.size_alloc, World.size_setCell]; omega))) | refine cell_drew ?_))).kept (Nat.le_refl _) b2
  have hz2 := b2.size
  simp only [World.size_alloc] at hz2
  obtain ⟨g, hg⟩ : ∃ g, g = w.heap.size + 1 + 1 + 1 + 1 + 1 + 1 + 1 := ⟨_, rfl⟩
  rw [← hg] at RO
  rw [← hg]
  have CS := Lib.hid (fun (W : World) (hW : Below w2.heap.size w2 W) => swapped_any v b hb W (h.kept (Nat.le_refl _) (B2.trans (hW.mono B2.size))))
  clear b2 hg
  obtain ⟨a0, a1, a2, a3⟩ := id A2
  go_wp2
  go_region_held3 (fun W => Below w2.heap.size w2 W ∧ W.cell? ⟨w.heap.size, 0, none⟩ = some (.int .i64 b.X) ∧ W.cell? ⟨w.heap.size, 1, none⟩ = some (.int .i64 b.Y) ∧ W.cell? ⟨w.heap.size, 2, none⟩ = some (.int .i64 b.Whole) ∧ W.cell? ⟨w.heap.size, 3, none⟩ = some v)
    (first | exact held1 (Below.refl _ _).drew A2 | exact held1 hBn A2)
    (first
      | (go_at_call 55; have hS := And.left (by assumption : Below w2.heap.size w2 _ ∧ _); (with_reducible refine (CS.out _ hS).mono ?_); rintro e w3 ⟨qa, qc, qs, rfl, oa, ba⟩; have hBn := hS.trans (ba.mono hS.size)))
  have hz3 := hBn.size
  have B3 := B2.trans (hBn.mono B2.size)
  have RO3 := RO.kept (Nat.le_refl _) hBn
  have RB3 := h.kept (Nat.le_refl _) B3
  have RT3 : RdII w3 (.slice qa (b.Y.toNat * b.X.toNat) qc) (swapL b).Rows := oa.rdII
  obtain ⟨tn, htn⟩ : ∃ tn, b.Y.toNat * b.X.toNat = tn := ⟨_, rfl⟩
  rw [htn] at RT3 ⊢
  have hpick : ∀ i : Nat, i < 2 → ∃ (s : BoxD) (sa : Option Addr) (sn sc : Nat), boxB s = true ∧ s.X = 3 ∧ s.Y = 3 ∧ RdII w3 (.slice sa sn sc) s.Rows ∧ upT b (i + 1) = upO s (upT b i) 6 ∧
      ∀ W, (Instr.index 123 (.agg #[.int .i64 b.X, .int .i64 b.Y, .int .i64 b.Whole, v, .int .i64 b.Y, .int .i64 b.X, .int .i64 b.Whole, .slice qa tn qc]) (.int .i64 (i : Int))).run Try.prog W = .ok (.agg #[.int .i64 s.X, .int .i64 s.Y, .int .i64 s.Whole, .slice sa sn sc]) W := by
    intro i hi
    rcases nat2 hi with rfl | rfl
    · obtain ⟨av, bv, ov, cv, hv, _⟩ := id RB3
      subst hv
      exact ⟨b, av, _, cv, hb, HXY.out.1, HXY.out.2, RB3, rfl, fun W => by kernel_rfl⟩
    · exact ⟨swapL b, qa, tn, qc, hsb, HXY.out.2, HXY.out.1, RT3, rfl, fun W => by kernel_rfl⟩
  have HP := Lib.hid hpick
  clear htn hpick oa ba RO RB3 RT3 CS
  go_wp2
  go_loopw [27, 4] (fun s27 s4 wr => ∃ (i : Nat) (u : Int), i ≤ 2 ∧ s27 = .int .i64 i ∧ s4 = .int .i64 u ∧ u = upT b i ∧ Below w3.heap.size w3 wr) (fun s27 _ _ => 2 - (intOf s27).toNat)
  case atStart => exact ⟨0, tripleV b, by omega, rfl, rfl, rfl, Below.refl _ _⟩
  case round =>
    obtain ⟨i, u, hi, rfl, rfl, hu, hB⟩ := hrel
    have HU := Lib.hid hu
    clear hu
    by_cases hlt : i < 2
    · have hlti : (i : Int) < 2 := by omega
      obtain ⟨s, sa, sn, sc, hs, hsX, hsY, hsR, hsU, hidx⟩ := HP.out i hlt
      have HS := Lib.hid (And.intro hs (And.intro hsX (And.intro hsY (And.intro hsR hsU))))
      have hzr := hB.size
      obtain ⟨w4, hw4⟩ : ∃ w4, w4 = wr.alloc (.cells #[.int .i64 s.X, .int .i64 s.Y, .int .i64 s.Whole, .slice sa sn sc] 26) := ⟨_, rfl⟩
      have B4 : Below w3.heap.size w3 w4 := by rw [hw4]; exact hB.alloc hzr _
      have S4 : BoxAt w4 wr.heap.size s.X s.Y s.Whole (.slice sa sn sc) := by rw [hw4]; exact BoxAt.top rfl
      have RO4 := RO3.kept (Nat.le_refl _) B4
      have RS4 := hsR.kept (Nat.le_refl _) B4
      have lgs := S4.lt
      generalize hgs : wr.heap.size = gs at *
      clear hs hsX hsY hsR hsU hB
      go_wp2
      rw [← hw4]
      try rw [hgs]
      clear hw4 hgs
      go_loopw [32, 4] (fun s32 s4 wz => ∃ (j : Nat) (z : Int), j ≤ 6 ∧ s32 = .int .i64 j ∧ s4 = .int .i64 z ∧ z = upO s u j ∧ Below w4.heap.size w4 wz) (fun s32 _ _ => 6 - (intOf s32).toNat)
      case atStart => exact ⟨0, u, by omega, rfl, rfl, rfl, Below.refl _ _⟩
      case round =>
        obtain ⟨j, z, hj, rfl, rfl, hz, hB⟩ := hrel
        have HZ := Lib.hid hz
        clear hz
        by_cases hjt : j < 6
        · have hjti : (j : Int) < 6 := by omega
          have j0 : (0 : Int) ≤ (j : Int) := by omega
          obtain ⟨aj, cj, cpj, rdj, ltj⟩ := ords_path RO4 hjt
          have cj1 := keepCell hB cpj
          go_wp2
          go_loopw [38, 4] (fun s38 s4 wy => ∃ (k : Nat) (y : Int), k ≤ 6 ∧ s38 = .int .i64 k ∧ s4 = .int .i64 y ∧ y = upS s (ordAt j) z k ∧ Below w4.heap.size w4 wy) (fun s38 _ _ => 6 - (intOf s38).toNat)
          case atStart => exact ⟨0, z, by omega, rfl, rfl, rfl, hB⟩
          case round =>
            clear hB cj1
            obtain ⟨k, y, hk, rfl, rfl, hy, hB⟩ := hrel
            have HY := Lib.hid hy
            clear hy
            by_cases hkt : k < 6
            · have hkti : (k : Int) < 6 := by omega
              have k0 : (0 : Int) ≤ (k : Int) := by omega
              obtain ⟨ak, ck, cpk, rdk, ltk⟩ := ords_path RO4 hkt
              have ck1 := keepCell hB cpk
              obtain ⟨d0, d1, d2, d3⟩ := S4.kept hB lgs
              have hzy := hB.size
              have CA := again33 (.slice sa sn sc) s.X s.Y s.Whole s rfl rfl rfl (.slice aj 3 cj) (.slice ak 3 ck) j k hjt hkt HS.out.1 HS.out.2.1 HS.out.2.2.1 wr (RS4.kept (Nat.le_refl _) hB) (rdj.kept (Nat.le_refl _) hB) (rdk.kept (Nat.le_refl _) hB)
              go_wp2_with fail
              refine CA.mono ?_
              rintro e w5 ⟨ta, tc, ts, rfl, oa, b5⟩
              have hab : boxB (againL s (ordAt j) (ordAt k)) = true := again_box HS.out.1 (ord_again HS.out.1 HS.out.2.1 HS.out.2.2.1 hjt hkt)
              obtain ⟨hax, hay⟩ := againL_X (b := s) hjt hkt
              have B5 : Below w4.heap.size w4 w5 := hB.trans (b5.mono hzy)
              have hz5 := B5.size
              have RA5 := oa.rdII
              obtain ⟨q, hq⟩ : ∃ q : BoxD, q = againL s (ordAt j) (ordAt k) := ⟨_, rfl⟩
              rw [← hq] at RA5 hab hax hay
              have haw : q.Whole = s.Whole := by rw [hq]; rfl
              have HQ := Lib.hid (And.intro hq (And.intro hab (And.intro hax (And.intro hay haw))))
              clear hab hax hay haw hq oa b5 CA d0 d1 d2 d3 ck1 hB
              go_wp2_with fail
              refine (plays33 _).mono ?_
              rintro e w6 ⟨pa, pc, ps, rfl, op, b6⟩
              have B56 : Below w5.heap.size w5 w6 := Below.trans (by repeat' (first | with_reducible exact Below.refl _ _ | with_reducible assumption | with_reducible apply Below.alloc | with_reducible apply Below.setCell | with_reducible apply Below.drew | exact Nat.le_refl _ | omega | (simp only [World.size_alloc, World.size_setCell]; omega))) (b6.mono (by first | exact Nat.le_refl _ | omega | (simp only [World.size_alloc, World.size_setCell]; omega)))
              have B6 := B5.trans (B56.mono hz5)
              have A6 : BoxAt w6 w5.heap.size 3 3 s.Whole (.slice ta 9 tc) := ⟨keepCell b6 (by repeat' (first | with_reducible assumption | (refine cell_top ?_ rfl; first | with_reducible rfl | (simp only [World.size_alloc, World.size_setCell]; done)) | (refine cell_under ?_ ?_; (first | omega | (simp only [World.size_alloc, World.size_setCell]; omega))) | refine cell_drew ?_)), keepCell b6 (by repeat' (first | with_reducible assumption | (refine cell_top ?_ rfl; first | with_reducible rfl | (simp only [World.size_alloc, World.size_setCell]; done)) | (refine cell_under ?_ ?_; (first | omega | (simp only [World.size_alloc, World.size_setCell]; omega))) | refine cell_drew ?_)), keepCell b6 (by repeat' (first | with_reducible assumption | (refine cell_top ?_ rfl; first | with_reducible rfl | (simp only [World.size_alloc, World.size_setCell]; done)) | (refine cell_under ?_ ?_; (first | omega | (simp only [World.size_alloc, World.size_setCell]; omega))) | refine cell_drew ?_)), keepCell b6 (by repeat' (first | with_reducible assumption | (refine cell_top ?_ rfl; first | with_reducible rfl | (simp only [World.size_alloc, World.size_setCell]; done)) | (refine cell_under ?_ ?_; (first | omega | (simp only [World.size_alloc, World.size_setCell]; omega))) | refine cell_drew ?_))⟩
              have RQ6 : RdII w6 (.slice ta 9 tc) q.Rows := RA5.kept (Nat.le_refl _) B56
              obtain ⟨gp, po, rfl, hpp⟩ := plays6_path op.rdII
              have HPP := Lib.hid hpp
              clear b6 hpp op RA5 B5 B56
              go_wp2
              go_loopw [48, 4] (fun s48 s4 wx => ∃ (c : Nat) (x : Int), c ≤ 64 ∧ s48 = .int .i64 c ∧ s4 = .int .i64 x ∧ x = upF q y c ∧ Below w6.heap.size w6 wx) (fun s48 _ _ => 64 - (intOf s48).toNat)
              case atStart => exact ⟨0, y, by omega, rfl, rfl, rfl, Below.refl _ _⟩
              case round =>
                obtain ⟨c, x, hc, rfl, rfl, hx, hB6⟩ := hrel
                have HX := Lib.hid hx
                clear hx
                by_cases hct : c < 64
                · have hcti : (c : Int) < 64 := by omega
                  have c0 : (0 : Int) ≤ (c : Int) := by omega
                  obtain ⟨fa, fc, cf, rf⟩ := HPP.out c hct
                  have cf1 := keepCell hB6 cf
                  obtain ⟨e0, e1, e2, e3⟩ := A6.kept hB6 A6.lt
                  have CF := flipped_at (.slice ta 9 tc) s.Whole q HQ.out.2.2.1 HQ.out.2.2.2.1 HQ.out.2.2.2.2 (.slice fa 6 fc) (bitsTo 6 c 6) HQ.out.2.1 (bits6_bits c) wr (RQ6.kept (Nat.le_refl _) hB6) (rf.kept (Nat.le_refl _) hB6)
                  have hzx := hB6.size
                  clear cf rf
                  go_wp2_with fail
                  refine CF.mono ?_
                  rintro e w7 ⟨fa2, fc2, fs2, rfl, of, b7⟩
                  have CT := triple_at (.slice fa2 9 fc2) s.Whole (flipBL q (bitsTo 6 c 6)) HQ.out.2.2.1 HQ.out.2.2.2.1 HQ.out.2.2.2.2 (flip_box HQ.out.2.1 (by rw [HQ.out.2.2.1, HQ.out.2.2.2.1]; exact bits6_bits c)) w7 of.rdII
                  clear CF of
                  go_wp2_with fail
                  refine CT.mono ?_
                  rintro e w8 ⟨rfl, b8⟩
                  have hBn := hB6.trans ((b7.trans (b8.mono b7.size)).mono hzx)
                  obtain ⟨t, ht⟩ : ∃ t, tripleV (flipBL q (bitsTo 6 c 6)) = t := ⟨_, rfl⟩
                  rw [ht]
                  have HN := Lib.hid (upF_new q y c x t HX.out ht.symm)
                  clear ht CT b7 b8
                  go_wp2
                  go_roundw
                  case rel => exact ⟨c + 1, _, by omega, by go_num, rfl, HN.out, hBn⟩
                  case measure => simp [intOf]; omega
                · obtain rfl : c = 64 := by omega
                  have HXX := Lib.hid (show x = upS s (ordAt j) z (k + 1) by rw [HX.out, HQ.out.1, HY.out]; rfl)
                  have hBB := B6.trans (hB6.mono B6.size)
                  go_wp2
                  go_roundw
                  case rel => exact ⟨k + 1, x, by omega, by go_num, rfl, HXX.out, hBB⟩
                  case measure => simp [intOf]; omega
            · obtain rfl : k = 6 := by omega
              have HY2 : y = upO s u (j + 1) := by rw [HY.out, HZ.out]; rfl
              have HYY := Lib.hid HY2
              clear HY2
              go_wp2
              go_roundw
              case rel => exact ⟨j + 1, y, by omega, by go_num, rfl, HYY.out, hB⟩
              case measure => simp [intOf]; omega
        · obtain rfl : j = 6 := by omega
          have HZ2 : z = upT b (i + 1) := by rw [HZ.out, HU.out, HS.out.2.2.2.2]
          have HZZ := Lib.hid HZ2
          have hBB := B4.trans (hB.mono B4.size)
          clear HZ2
          go_wp2
          go_roundw
          case rel => exact ⟨i + 1, z, by omega, by go_num, rfl, HZZ.out, hBB⟩
          case measure => simp [intOf]; omega
    · obtain rfl : i = 2 := by omega
      go_wp2
      go_ret
      exact ⟨ret_int (by rw [HU.out]; rfl), B3.trans (hB.mono B3.size)⟩
end Go.Proofs.Ytnmnmnpeoiblhaa
set_option linter.unusedSimpArgs false
set_option linter.unusedVariables false
namespace Go.Proofs.Ytnmnmnpeoiblhaa
open Go.RowKit

end Go.Proofs.Ytnmnmnpeoiblhaa
