/- All plays: contracts of the program's and the reference's function. What the reference draws: the box with a sum, and a box that is mostly quiet. A box that a region of a law stores into a variable of its own, whenever that variable was laid. -/
import Derived.Test.YtcifpfdlkpddeaaGreatDoorQxae
import Derived.Test.YtcifpfdlkpddeaaGreatDoorQxad
import Derived.Test.YtcifpfdlkpddeaaGreatDoorQxbg
import Derived.Test.YtcifpfdlkpddeaaGreatDoorQxbh
import Derived.Test.YtcifpfdlkpddeaaGreatDoorQxbi
import Derived.Test.YtcifpfdlkpddeaaGreatDoorQxaz
import Derived.Test.YtcifpfdlkpddeaaGreatDoorQxag
import Derived.Test.YtcifpfdlkpddeaaGreatDoorQxai
import Derived.Deep.DeepCutAuto
set_option linter.unusedSimpArgs false
set_option linter.unusedVariables false
namespace Go.Proofs.YtcifpfdlkpddeaaGreatDoor
open Go.RowKit

def bitsTo (n k j : Nat) : List Int := List.map (fun i : Nat => ((k / 2 ^ (n - 1 - i) % 2 : Nat) : Int)) (List.range j)
def playsTo (n k : Nat) : List (List Int) := List.map (fun c : Nat => bitsTo n c n) (List.range k)
theorem bit_at (k e : Nat) (hk : k < 64) (he : e < 6) : bits BinOp.and IntKind.i64 ((k : Int) / 2 ^ e) 1 = ((k / 2 ^ e % 2 : Nat) : Int) := by
  have h : ∀ k : Fin 64, ∀ e : Fin 6, bits BinOp.and IntKind.i64 (((k : Nat) : Int) / 2 ^ (e : Nat)) 1 = (((k : Nat) / 2 ^ (e : Nat) % 2 : Nat) : Int) := by decide +kernel
  exact h ⟨k, hk⟩ ⟨e, he⟩

set_option maxHeartbeats 1600000 in
theorem l2Plays_any (X Y : Nat) (hX : 1 ≤ X ∧ X ≤ 3) (hY : 1 ≤ Y ∧ Y ≤ 3) (w : World) :
    Calls Tryz.prog 101 #[.int .i64 X, .int .i64 Y] w fun e w' => ∃ a c vs, e = .returned (.slice a (playsTo (X + Y) (2 ^ (X + Y))).length c) ∧ OwnII 33 3 w.heap.size w'.heap.size w' (.slice a (playsTo (X + Y) (2 ^ (X + Y))).length c) (playsTo (X + Y) (2 ^ (X + Y))) vs ∧ Below w.heap.size w w' := by
  obtain ⟨hX1, hX3⟩ := hX
  obtain ⟨hY1, hY3⟩ := hY
  obtain ⟨M, hM⟩ : ∃ M, M = 2 ^ (X + Y) := ⟨_, rfl⟩
  have hM64 : M ≤ 64 := by rw [hM]; exact Nat.le_trans (Nat.pow_le_pow_right (by omega) (show X + Y ≤ 6 by omega)) (by decide)
  have hM0 : 0 < M := by rw [hM]; exact Nat.two_pow_pos _
  have hpw : wrap64 (2 ^ (X + Y)) = (M : Int) := by
    have h1 : ((2 : Int) ^ (X + Y)) = (M : Int) := by rw [hM]; simp
    rw [h1]
    exact IntWalk.wrap64_in _ ⟨by omega, by omega⟩
  rw [← hM]
  clear hM
  have hE := OwnII.empty 33 3 w
  go_enter Tryz.func101, Tryz.ntmps101
  go_wp2
  try rw [hpw]
  go_loopw [6, 5] (fun s so wr => ∃ k : Nat, k ≤ M ∧ s = .int .i64 k ∧ ∃ a c vs, so = .slice a k c ∧ OwnII 33 3 w.heap.size wr.heap.size wr (.slice a k c) (playsTo (X + Y) k) vs ∧ Below w.heap.size w wr) (fun s _ _ => M - (intOf s).toNat)
  case atStart => exact ⟨0, by omega, rfl, _, _, _, rfl, by simpa [playsTo] using hE, (by repeat' (first | with_reducible exact Below.refl _ _ | with_reducible assumption | with_reducible apply Below.alloc | with_reducible apply Below.setCell | with_reducible apply Below.drew | exact Nat.le_refl _ | omega | (simp only [World.size_alloc, World.size_setCell]; omega)))⟩
  case round =>
    clear hE
    obtain ⟨k, hk, rfl, a, c, vs, rfl, hO, hB⟩ := hrel
    by_cases hlt : k < M
    · obtain ⟨wo, rfl⟩ : ∃ wo : World, wo = wr := ⟨_, rfl⟩
      have hE := OwnV.empty 3 wo
      have hBe : Below wo.heap.size wo (wo.alloc (.cells #[] 3)) := (by repeat' (first | with_reducible exact Below.refl _ _ | with_reducible assumption | with_reducible apply Below.alloc | with_reducible apply Below.setCell | with_reducible apply Below.drew | exact Nat.le_refl _ | omega | (simp only [World.size_alloc, World.size_setCell]; omega)))
      go_wp2
      try rw [hpw]
      go_loopw [8, 7] (fun s t wz => ∃ j : Nat, j ≤ X + Y ∧ s = .int .i64 j ∧ ∃ ar cr, t = .slice ar j cr ∧ OwnV 3 wo.heap.size wz.heap.size wz (.slice ar j cr) (ints (bitsTo (X + Y) k j)) ∧ Below wo.heap.size wo wz) (fun s _ _ => X + Y - (intOf s).toNat)
      case atStart => exact ⟨0, by omega, rfl, _, _, rfl, by simpa [bitsTo, ints] using hE, hBe⟩
      case round =>
        clear hE hBe
        obtain ⟨j, hj, rfl, ar, cr, rfl, hR, hBz⟩ := hrel
        by_cases hjt : j < X + Y
        · obtain ⟨r, hr1, hr2⟩ : ∃ r : Int, bits BinOp.and IntKind.i64 ((k : Int) / 2 ^ (X + Y - 1 - j)) 1 = r ∧ r = ((k / 2 ^ (X + Y - 1 - j) % 2 : Nat) : Int) :=
            ⟨_, bit_at k (X + Y - 1 - j) (by omega) (by omega), rfl⟩
          have hlen : (ints (bitsTo (X + Y) k j)).length = j := by simp [bitsTo]
          generalize hL : ints (bitsTo (X + Y) k j) = L at *
          have HL := Lib.hid hL
          have HN := Lib.hid hlen
          have HR := Lib.hid hr2
          have hsz := hBz.size
          have hn6 : L.length ≤ 6 := by omega
          clear hL hlen hr2
          go_wp2_with (at_builtin; refine append1_own rfl _ _ 33 3 rfl Tryz.underlying33 Tryz.infoInt rfl hR rfl rfl rfl (by omega) (by omega) hsz ?_)
          intro a2 c2 w2 hO2 hg2
          have hB2 : Below wo.heap.size wo w2 := hBz.grown hg2 hsz (fun g hg => (hR.lt g hg).1)
          have hx : L ++ [Value.int .i64 r] = ints (bitsTo (X + Y) k (j + 1)) := by rw [← HL.out, HR.out]; simp [ints, bitsTo, List.range_succ]
          rw [hx] at hO2
          clear hR hx
          go_wp2
          go_roundw
          case rel => exact ⟨j + 1, by omega, by go_num, a2, c2, by rw [HN.out], by rw [HN.out] at hO2; exact hO2, hB2⟩
          case measure => simp [intOf]; omega
        · obtain rfl : j = X + Y := by omega
          have hO1 := hO.kept hBz (Nat.le_refl _)
          have ht := hO1.top
          have hlen : vs.length = k := by have := hO1.len; simpa [playsTo] using this
          have HN := Lib.hid hlen
          have hsz := hBz.size
          have hsz0 := hB.size
          have hn6 : vs.length ≤ 64 := by omega
          have hlo : w.heap.size ≤ wr.heap.size := by omega
          clear hlen
          go_wp2_with (at_builtin; refine append1_own rfl _ _ 24 33 rfl Tryz.underlying24 Tryz.infoInts rfl ht rfl rfl rfl (by omega) (by omega) hlo ?_)
          intro a2 c2 w2 hO2 hg2
          have hsn := hO1.snoc hR (Nat.le_refl _) hsz0 hsz hO2 hg2 hg2.size (by decide)
          have hB2 : Below w.heap.size w w2 := (hB.trans (hBz.mono hsz0)).grown hg2 hlo (fun g hg => (ht.lt g hg).1)
          have hx : playsTo (X + Y) k ++ [bitsTo (X + Y) k (X + Y)] = playsTo (X + Y) (k + 1) := by simp [playsTo, List.range_succ]
          rw [hx] at hsn
          clear hO1 ht hO hR hO2 hx
          go_wp2
          go_roundw
          case rel => exact ⟨k + 1, by omega, by go_num, a2, c2, _, by rw [HN.out], by rw [HN.out] at hsn; exact hsn, hB2⟩
          case measure => simp [intOf]; omega
    · obtain rfl : k = M := by omega
      go_wp2
      go_ret
      exact ⟨a, c, vs, by simp [playsTo], by simpa [playsTo] using hO, hB⟩
end Go.Proofs.YtcifpfdlkpddeaaGreatDoor
set_option linter.unusedSimpArgs false
set_option linter.unusedVariables false
namespace Go.Proofs.YtcifpfdlkpddeaaGreatDoor
open Go.RowKit Go.WideShapes

def qRow (n i : Nat) : List Int := if i + 1 = n then [0, 1, 1, 0] else [1, 0, 0, 1]
def qRows (n k : Nat) : List (List Int) := (List.range k).map (qRow n)
@[simp] theorem qRows_length (n k : Nat) : (qRows n k).length = k := by simp [qRows]
theorem qRows_succ (n k : Nat) : qRows n k ++ [qRow n k] = qRows n (k + 1) := by simp [qRows, List.range_succ]
set_option maxHeartbeats 3200000 in
theorem l2Sum_any (X Y : Nat) (hX : 1 ≤ X ∧ X ≤ 3) (hY : 1 ≤ Y ∧ Y ≤ 3) (w : World) :
    Calls Tryz.prog 104 #[.int .i64 X, .int .i64 Y] w (BoxOnly w X Y 2 (qRows (X * Y) (X * Y))) := by
  obtain ⟨n, hn⟩ : ∃ n, n = X * Y := ⟨_, rfl⟩
  have hn9' : n ≤ 9 := by rw [hn]; exact Nat.mul_le_mul hX.2 hY.2
  have hn1 : 1 ≤ n := by rw [hn]; exact Nat.mul_le_mul hX.1 hY.1
  have hni : (X : Int) * (Y : Int) = (n : Int) := by rw [hn]; simp
  have hwf := wrap_in (n : Int) (by omega) (by omega)
  have hwg := wrap_in ((n : Int) - 1) (by omega) (by omega)
  rw [← hn]
  have HN := Lib.hid hn
  clear hn
  obtain ⟨W3, hW3⟩ : ∃ W3, W3 = (((w.alloc (.cells #[.int .i64 0, .int .i64 0, .int .i64 0, .slice none 0 0] 26)).alloc (.cells #[] 33)).alloc (.cells #[.int .i64 X, .int .i64 Y, .int .i64 2, .slice (some ⟨w.heap.size + 1, 0, none⟩) 0 0] 26)) := ⟨_, rfl⟩
  obtain ⟨hst, hret, hBW, hs3⟩ := BoxRel.start w W3 X Y 2 hW3
  go_enter Tryz.func104, Tryz.ntmps104
  go_wp2
  rw [← hW3]
  clear hW3
  go_loopw [6] (fun s wr => ∃ i : Nat, i ≤ n ∧ s = .int .i64 i ∧ ∃ a c vs, BoxRel W3 (w.heap.size + 1) (w.heap.size + 1 + 1) (w.heap.size + 1) wr X Y 2 (qRows n i) a c vs) (fun s _ => n - (intOf s).toNat)
  case atStart => exact ⟨0, by omega, rfl, _, _, _, hst⟩
  case round =>
    clear hst
    obtain ⟨i, hi, rfl, a, c, vs, hR⟩ := hrel
    by_cases hlt : i < n
    · have hlti : (i : Int) < (n : Int) := by omega
      have hvl : vs.length = i := by have := hR.rows.len; rw [qRows_length] at this; exact this
      have hn9 : vs.length ≤ 4194304 := by omega
      have HLV := Lib.hid hvl
      obtain ⟨⟨g0, g1, g2, g3⟩, gf⟩ := hR.cells
      rw [qRows_length] at g3
      clear hvl
      have HSC := Lib.hid (qRows_succ n i)
      by_cases hq : i + 1 = n
      · have hqi : (i : Int) = (n : Int) - 1 := by omega
        have hqb : ((i : Int) == (n : Int) - 1) = true := by simp; omega
        have HQ := Lib.hid (show qRow n i = [0, 1, 1, 0] by unfold qRow; rw [if_pos hq])
        rw [HQ.out] at HSC
        clear hqi
        have HBB : Below wr.heap.size wr ((wr.alloc (.cells #[.int .i64 1, .int .i64 0, .int .i64 0, .int .i64 1] 3)).alloc (.cells #[.int .i64 0, .int .i64 1, .int .i64 1, .int .i64 0] 3)) := (by repeat' (first | with_reducible exact Below.refl _ _ | with_reducible assumption | with_reducible apply Below.alloc | with_reducible apply Below.setCell | with_reducible apply Below.drew | exact Nat.le_refl _ | omega | (simp only [World.size_alloc, World.size_setCell]; omega)))
        have HROW : OwnV 3 wr.heap.size ((wr.alloc (.cells #[.int .i64 1, .int .i64 0, .int .i64 0, .int .i64 1] 3)).alloc (.cells #[.int .i64 0, .int .i64 1, .int .i64 1, .int .i64 0] 3)).heap.size ((wr.alloc (.cells #[.int .i64 1, .int .i64 0, .int .i64 0, .int .i64 1] 3)).alloc (.cells #[.int .i64 0, .int .i64 1, .int .i64 1, .int .i64 0] 3)) (.slice (some ⟨wr.heap.size + 1, 0, none⟩) 4 4) (ints [0, 1, 1, 0]) := by
          have h := OwnV.lit 3 (wr.alloc (.cells #[.int .i64 1, .int .i64 0, .int .i64 0, .int .i64 1] 3)) (ints [0, 1, 1, 0]) (by simp [maxLen])
          rw [World.size_alloc] at h
          exact h.weaken (by omega) (by simp)
        have wr0 := wr
        have hlo := hR.b4
        have g3W : (((wr.alloc (.cells #[.int .i64 1, .int .i64 0, .int .i64 0, .int .i64 1] 3)).alloc (.cells #[.int .i64 0, .int .i64 1, .int .i64 1, .int .i64 0] 3))).cell? ⟨w.heap.size + 1 + 1, 3, none⟩ = some (.slice a i c) := keepCell HBB g3
        have htp : OwnV 33 (w.heap.size + 1) wr.heap.size ((wr.alloc (.cells #[.int .i64 1, .int .i64 0, .int .i64 0, .int .i64 1] 3)).alloc (.cells #[.int .i64 0, .int .i64 1, .int .i64 1, .int .i64 0] 3)) (.slice a i c) vs := by have := hR.rows.top; rw [qRows_length] at this; exact this.kept HBB (Nat.le_refl _)
        go_wp2_with (at_builtin; refine append1_at (m := wr.heap.size + 1 + 1) rfl _ _ 24 33 rfl Tryz.underlying24 Tryz.infoInts rfl htp (by simp) rfl rfl rfl hn9 (by omega) (by simp only [World.size_alloc]; omega) ?_)
        intro a2 c2 w2 hT2 hg2
        obtain ⟨hp1, f1, f2⟩ := hR.push (wr := ((wr.alloc (.cells #[.int .i64 1, .int .i64 0, .int .i64 0, .int .i64 1] 3)).alloc (.cells #[.int .i64 0, .int .i64 1, .int .i64 1, .int .i64 0] 3))) HBB HROW hT2 (by rw [qRows_length]; exact hg2) (by rw [HLV.out]; simp)
        rw [qRows_length] at f1
        rw [HSC.out] at hp1
        clear htp hR hT2 hg2
        go_wp2
        go_roundw
        case rel => exact ⟨i + 1, by omega, by go_num, a2, c2, _, hp1⟩
        case measure => simp [intOf]; omega
      · have hqb : ((i : Int) == (n : Int) - 1) = false := by simp; omega
        have HQ := Lib.hid (show qRow n i = [1, 0, 0, 1] by unfold qRow; rw [if_neg hq])
        rw [HQ.out] at HSC
        have HBB : Below wr.heap.size wr (wr.alloc (.cells #[.int .i64 1, .int .i64 0, .int .i64 0, .int .i64 1] 3)) := (by repeat' (first | with_reducible exact Below.refl _ _ | with_reducible assumption | with_reducible apply Below.alloc | with_reducible apply Below.setCell | with_reducible apply Below.drew | exact Nat.le_refl _ | omega | (simp only [World.size_alloc, World.size_setCell]; omega)))
        have HROW : OwnV 3 wr.heap.size (wr.alloc (.cells #[.int .i64 1, .int .i64 0, .int .i64 0, .int .i64 1] 3)).heap.size (wr.alloc (.cells #[.int .i64 1, .int .i64 0, .int .i64 0, .int .i64 1] 3)) (.slice (some ⟨wr.heap.size, 0, none⟩) 4 4) (ints [1, 0, 0, 1]) := by
          have h := OwnV.lit 3 wr (ints [1, 0, 0, 1]) (by simp [maxLen])
          exact h.weaken (by omega) (by simp)
        have hlo := hR.b4
        have g3W : ((wr.alloc (.cells #[.int .i64 1, .int .i64 0, .int .i64 0, .int .i64 1] 3))).cell? ⟨w.heap.size + 1 + 1, 3, none⟩ = some (.slice a i c) := keepCell HBB g3
        have htp : OwnV 33 (w.heap.size + 1) wr.heap.size (wr.alloc (.cells #[.int .i64 1, .int .i64 0, .int .i64 0, .int .i64 1] 3)) (.slice a i c) vs := by have := hR.rows.top; rw [qRows_length] at this; exact this.kept HBB (Nat.le_refl _)
        go_wp2_with (at_builtin; refine append1_at (m := wr.heap.size + 1) rfl _ _ 24 33 rfl Tryz.underlying24 Tryz.infoInts rfl htp (by simp) rfl rfl rfl hn9 (by omega) (by simp only [World.size_alloc]; omega) ?_)
        intro a2 c2 w2 hT2 hg2
        obtain ⟨hp1, f1, f2⟩ := hR.push (wr := (wr.alloc (.cells #[.int .i64 1, .int .i64 0, .int .i64 0, .int .i64 1] 3))) HBB HROW hT2 (by rw [qRows_length]; exact hg2) (by rw [HLV.out]; simp)
        rw [qRows_length] at f1
        rw [HSC.out] at hp1
        clear htp hR hT2 hg2
        go_wp2
        go_roundw
        case rel => exact ⟨i + 1, by omega, by go_num, a2, c2, _, hp1⟩
        case measure => simp [intOf]; omega
    · obtain rfl : i = n := by omega
      have hrt := hret.kept hR.below (by omega)
      obtain ⟨⟨g0, g1, g2, g3⟩, gf⟩ := hR.cells
      have hrows := hR.rows
      have B5 := hBW.trans (hR.below.mono (by omega))
      rw [qRows_length] at g3 hrows
      obtain ⟨e0, e1, e2, e3, ef⟩ := hrt
      have hend := box_out (g := w.heap.size) B5 (by omega) (by omega) hrows (.int .i64 X) (.int .i64 Y) (.int .i64 2) (.slice a i c)
      clear hrows hR
      go_wp2
      refine bodyPost_ret (v := .agg #[.int .i64 X, .int .i64 Y, .int .i64 2, .slice a i c]) ?_ rfl ?_
      · simp [results, Tryz.results104, go_sem, e0, e1, e2, e3]
      · have hl : (X : Int).toNat * (Y : Int).toNat = i := by rw [Int.toNat_natCast, Int.toNat_natCast]; exact HN.out.symm
        exact ⟨a, c, vs, by rw [hl], by rw [hl]; exact hend.1, hend.2⟩
end Go.Proofs.YtcifpfdlkpddeaaGreatDoor
set_option linter.unusedSimpArgs false
set_option linter.unusedVariables false
namespace Go.Proofs.YtcifpfdlkpddeaaGreatDoor
open Go.RowKit

def BoxMade (W : World) (D : BoxD) (s6 : Value) (wx : World) : Prop :=
  ∃ (gR : Nat) (aR : Option Addr) (cR : Nat) (zR : List Value), s6 = .pointer (some ⟨gR, 0, none⟩) ∧ W.heap.size ≤ gR ∧ gR < wx.heap.size ∧
    (wx.cell? ⟨gR, 0, none⟩ = some (.int .i64 D.X) ∧ wx.cell? ⟨gR, 1, none⟩ = some (.int .i64 D.Y) ∧ wx.cell? ⟨gR, 2, none⟩ = some (.int .i64 D.Whole) ∧ wx.cell? ⟨gR, 3, none⟩ = some (.slice aR D.Rows.length cR)) ∧
    OwnII 33 3 W.heap.size wx.heap.size wx (.slice aR D.Rows.length cR) D.Rows zR ∧ Below W.heap.size W wx
theorem boxMade_new {W w3 : World} {lo : Nat} {D : BoxD} {aR : Option Addr} {cR : Nat} {zR : List Value} (hB : Below W.heap.size W w3) (hlo : W.heap.size ≤ lo)
    (oR : OwnII 33 3 lo w3.heap.size w3 (.slice aR D.Rows.length cR) D.Rows zR) :
    BoxMade W D (.pointer (some ⟨w3.heap.size, 0, none⟩)) (w3.alloc (.cells #[.int .i64 D.X, .int .i64 D.Y, .int .i64 D.Whole, .slice aR D.Rows.length cR] 26)) :=
  ⟨_, aR, cR, zR, rfl, hB.size, by rw [World.size_alloc]; omega, ⟨(by repeat' (first | with_reducible assumption | (refine cell_top ?_ rfl; first | with_reducible rfl | (simp only [World.size_alloc, World.size_setCell]; done)) | (refine cell_under ?_ ?_; (first | omega | (simp only [World.size_alloc, World.size_setCell]; omega))) | refine cell_drew ?_)), (by repeat' (first | with_reducible assumption | (refine cell_top ?_ rfl; first | with_reducible rfl | (simp only [World.size_alloc, World.size_setCell]; done)) | (refine cell_under ?_ ?_; (first | omega | (simp only [World.size_alloc, World.size_setCell]; omega))) | refine cell_drew ?_)), (by repeat' (first | with_reducible assumption | (refine cell_top ?_ rfl; first | with_reducible rfl | (simp only [World.size_alloc, World.size_setCell]; done)) | (refine cell_under ?_ ?_; (first | omega | (simp only [World.size_alloc, World.size_setCell]; omega))) | refine cell_drew ?_)), (by repeat' (first | with_reducible assumption | (refine cell_top ?_ rfl; first | with_reducible rfl | (simp only [World.size_alloc, World.size_setCell]; done)) | (refine cell_under ?_ ?_; (first | omega | (simp only [World.size_alloc, World.size_setCell]; omega))) | refine cell_drew ?_))⟩,
    (oR.kept ((Below.refl _ _).alloc (Nat.le_refl _) _) (Nat.le_refl _)).weaken hlo (by rw [World.size_alloc]; omega), hB.alloc hB.size _⟩
theorem boxMade_old {W w3 : World} {lo g : Nat} {D : BoxD} {aR : Option Addr} {cR : Nat} {zR : List Value} (hB : Below W.heap.size W w3) (hlo : g < lo) (hg : W.heap.size ≤ g) (hR : RetAt w3 g)
    (oR : OwnII 33 3 lo w3.heap.size w3 (.slice aR D.Rows.length cR) D.Rows zR) :
    BoxMade W D (.pointer (some ⟨g, 0, none⟩)) ((((w3.setCell ⟨g, 0, none⟩ (.int .i64 D.X)).setCell ⟨g, 1, none⟩ (.int .i64 D.Y)).setCell ⟨g, 2, none⟩ (.int .i64 D.Whole)).setCell ⟨g, 3, none⟩ (.slice aR D.Rows.length cR)) := by
  have hend := box_out (g := g) hB hg hlo oR (.int .i64 D.X) (.int .i64 D.Y) (.int .i64 D.Whole) (.slice aR D.Rows.length cR)
  have hl := hR.lt
  obtain ⟨r0, r1, r2, r3, rf⟩ := hR
  exact ⟨g, aR, cR, zR, rfl, hg, by simpa only [World.size_setCell] using hl, ⟨by simp [go_sem, r0, r1, r2, r3], by simp [go_sem, r0, r1, r2, r3], by simp [go_sem, r0, r1, r2, r3], by simp [go_sem, r0, r1, r2, r3]⟩, hend.1, hend.2⟩
theorem retTop {W w3 : World} (b : Below (W.alloc (.cells #[.int .i64 0, .int .i64 0, .int .i64 0, .slice none 0 0] 26)).heap.size (W.alloc (.cells #[.int .i64 0, .int .i64 0, .int .i64 0, .slice none 0 0] 26)) w3) : RetAt w3 W.heap.size :=
  RetAt.call b (RetAt.top rfl)
theorem retTopD {W w3 : World} (b : Below (W.alloc (.cells #[.int .i64 0, .int .i64 0, .int .i64 0, .slice none 0 0] 26)).drew.heap.size (W.alloc (.cells #[.int .i64 0, .int .i64 0, .int .i64 0, .slice none 0 0] 26)).drew w3) : RetAt w3 W.heap.size :=
  RetAt.call b ((RetAt.top (W := W) rfl).kept ((Below.refl (W.alloc (.cells #[.int .i64 0, .int .i64 0, .int .i64 0, .slice none 0 0] 26)).heap.size _).drew) (RetAt.top (W := W) rfl).lt)
theorem retSize {W w3 : World} (b : Below (W.alloc (.cells #[.int .i64 0, .int .i64 0, .int .i64 0, .slice none 0 0] 26)).heap.size (W.alloc (.cells #[.int .i64 0, .int .i64 0, .int .i64 0, .slice none 0 0] 26)) w3) : W.heap.size + 1 ≤ w3.heap.size := by
  have h := b.size
  rw [World.size_alloc] at h
  exact h
theorem retSizeD {W w3 : World} (b : Below (W.alloc (.cells #[.int .i64 0, .int .i64 0, .int .i64 0, .slice none 0 0] 26)).drew.heap.size (W.alloc (.cells #[.int .i64 0, .int .i64 0, .int .i64 0, .slice none 0 0] 26)).drew w3) : W.heap.size + 1 ≤ w3.heap.size := by
  have h : (W.alloc (.cells #[.int .i64 0, .int .i64 0, .int .i64 0, .slice none 0 0] 26)).heap.size ≤ w3.heap.size := b.size
  rw [World.size_alloc] at h
  exact h
theorem retThen {w : World} {g : Nat} {C : Prop} (h : RetAt w g) (k : w.cell? ⟨g, 0, none⟩ = some (.int .i64 0) → w.cell? ⟨g, 1, none⟩ = some (.int .i64 0) → w.cell? ⟨g, 2, none⟩ = some (.int .i64 0) → w.cell? ⟨g, 3, none⟩ = some (.slice none 0 0) → (∀ o, w.frozen? ⟨g, o, none⟩ = false) → C) : C :=
  k h.e0 h.e1 h.e2 h.e3 h.ef
end Go.Proofs.YtcifpfdlkpddeaaGreatDoor
