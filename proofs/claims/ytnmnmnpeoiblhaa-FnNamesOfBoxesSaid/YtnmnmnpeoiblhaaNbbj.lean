/- All plays: contracts of the program's and the reference's function. -/
import Derived.Test.YtnmnmnpeoiblhaaNbag
set_option linter.unusedSimpArgs false
set_option linter.unusedVariables false
namespace Go.Proofs.Ytnmnmnpeoiblhaa
open Go.RowKit

def bitsTo (n k j : Nat) : List Int := List.map (fun i : Nat => ((k / 2 ^ (n - 1 - i) % 2 : Nat) : Int)) (List.range j)
def playsTo (n k : Nat) : List (List Int) := List.map (fun c : Nat => bitsTo n c n) (List.range k)
theorem bit_at (k e : Nat) (hk : k < 64) (he : e < 6) : bits BinOp.and IntKind.i64 ((k : Int) / 2 ^ e) 1 = ((k / 2 ^ e % 2 : Nat) : Int) := by
  have h : ∀ k : Fin 64, ∀ e : Fin 6, bits BinOp.and IntKind.i64 (((k : Nat) : Int) / 2 ^ (e : Nat)) 1 = (((k : Nat) / 2 ^ (e : Nat) % 2 : Nat) : Int) := by decide +kernel
  exact h ⟨k, hk⟩ ⟨e, he⟩

set_option maxHeartbeats 1600000 in
theorem plays_any (X Y : Nat) (hX : 1 ≤ X ∧ X ≤ 3) (hY : 1 ≤ Y ∧ Y ≤ 3) (w : World) :
    Calls Try.prog 120 #[.int .i64 X, .int .i64 Y] w fun e w' => ∃ a c vs, e = .returned (.slice a (playsTo (X + Y) (2 ^ (X + Y))).length c) ∧ OwnII 27 3 w.heap.size w'.heap.size w' (.slice a (playsTo (X + Y) (2 ^ (X + Y))).length c) (playsTo (X + Y) (2 ^ (X + Y))) vs ∧ Below w.heap.size w w' := by
  obtain ⟨hX1, hX3⟩ := hX
  obtain ⟨hY1, hY3⟩ := hY
  obtain ⟨M, hM⟩ : ∃ M, M = 2 ^ (X + Y) := ⟨_, rfl⟩
  have hM64 : M ≤ 64 := by rw [hM]; exact Nat.le_trans (Nat.pow_le_pow_right (by omega) (show X + Y ≤ 6 by omega)) (by decide)
  have hM0 : 0 < M := by rw [hM]; exact Nat.two_pow_pos _
  have hpw : wrap64 (2 ^ (X + Y)) = (M : Int) := by
    have h1 : ((2 : Int) ^ (X + Y)) = (M : Int) := by rw [hM]; simp
    rw [h1]
    exact IntWalk.wrap64_in _ ⟨by omega, by omega⟩
  rw [← hM]
  clear hM
  have hE := OwnII.empty 27 3 w
  go_enter Try.func120, Try.ntmps120
  go_wp2
  try rw [hpw]
  go_loopw [14, 5] (fun s so wr => ∃ k : Nat, k ≤ M ∧ s = .int .i64 k ∧ ∃ a c vs, so = .slice a k c ∧ OwnII 27 3 w.heap.size wr.heap.size wr (.slice a k c) (playsTo (X + Y) k) vs ∧ Below w.heap.size w wr) (fun s _ _ => M - (intOf s).toNat)
  case atStart => exact ⟨0, by omega, rfl, _, _, _, rfl, by simpa [playsTo] using hE, (by repeat' (first | with_reducible exact Below.refl _ _ | with_reducible assumption | with_reducible apply Below.alloc | with_reducible apply Below.setCell | with_reducible apply Below.drew | exact Nat.le_refl _ | omega | (simp only [World.size_alloc, World.size_setCell]; omega)))⟩
  case round =>
    clear hE
    obtain ⟨k, hk, rfl, a, c, vs, rfl, hO, hB⟩ := hrel
    by_cases hlt : k < M
    · obtain ⟨wo, rfl⟩ : ∃ wo : World, wo = wr := ⟨_, rfl⟩
      have hE := OwnV.empty 3 wo
      have hBe : Below wo.heap.size wo (wo.alloc (.cells #[] 3)) := (by repeat' (first | with_reducible exact Below.refl _ _ | with_reducible assumption | with_reducible apply Below.alloc | with_reducible apply Below.setCell | with_reducible apply Below.drew | exact Nat.le_refl _ | omega | (simp only [World.size_alloc, World.size_setCell]; omega)))
      go_wp2
      try rw [hpw]
      go_loopw [21, 7] (fun s t wz => ∃ j : Nat, j ≤ X + Y ∧ s = .int .i64 j ∧ ∃ ar cr, t = .slice ar j cr ∧ OwnV 3 wo.heap.size wz.heap.size wz (.slice ar j cr) (ints (bitsTo (X + Y) k j)) ∧ Below wo.heap.size wo wz) (fun s _ _ => X + Y - (intOf s).toNat)
      case atStart => exact ⟨0, by omega, rfl, _, _, rfl, by simpa [bitsTo, ints] using hE, hBe⟩
      case round =>
        clear hE hBe
        obtain ⟨j, hj, rfl, ar, cr, rfl, hR, hBz⟩ := hrel
        by_cases hjt : j < X + Y
        · obtain ⟨r, hr1, hr2⟩ : ∃ r : Int, bits BinOp.and IntKind.i64 ((k : Int) / 2 ^ (X + Y - 1 - j)) 1 = r ∧ r = ((k / 2 ^ (X + Y - 1 - j) % 2 : Nat) : Int) :=
            ⟨_, bit_at k (X + Y - 1 - j) (by omega) (by omega), rfl⟩
          have hlen : (ints (bitsTo (X + Y) k j)).length = j := by simp [bitsTo]
          generalize hL : ints (bitsTo (X + Y) k j) = L at *
          have HL := Lib.hid hL
          have HN := Lib.hid hlen
          have HR := Lib.hid hr2
          have hsz := hBz.size
          have hn6 : L.length ≤ 6 := by omega
          clear hL hlen hr2
          go_wp2_with (at_builtin; refine append1_own rfl _ _ 27 3 rfl Try.underlying27 Try.infoInt rfl hR rfl rfl rfl (by omega) (by omega) hsz ?_)
          intro a2 c2 w2 hO2 hg2
          have hB2 : Below wo.heap.size wo w2 := hBz.grown hg2 hsz (fun g hg => (hR.lt g hg).1)
          have hx : L ++ [Value.int .i64 r] = ints (bitsTo (X + Y) k (j + 1)) := by rw [← HL.out, HR.out]; simp [ints, bitsTo, List.range_succ]
          rw [hx] at hO2
          clear hR hx
          go_wp2
          go_roundw
          case rel => exact ⟨j + 1, by omega, by go_num, a2, c2, by rw [HN.out], by rw [HN.out] at hO2; exact hO2, hB2⟩
          case measure => simp [intOf]; omega
        · obtain rfl : j = X + Y := by omega
          have hO1 := hO.kept hBz (Nat.le_refl _)
          have ht := hO1.top
          have hlen : vs.length = k := by have := hO1.len; simpa [playsTo] using this
          have HN := Lib.hid hlen
          have hsz := hBz.size
          have hsz0 := hB.size
          have hn6 : vs.length ≤ 64 := by omega
          have hlo : w.heap.size ≤ wr.heap.size := by omega
          clear hlen
          go_wp2_with (at_builtin; refine append1_own rfl _ _ 24 27 rfl Try.underlying24 Try.infoInts rfl ht rfl rfl rfl (by omega) (by omega) hlo ?_)
          intro a2 c2 w2 hO2 hg2
          have hsn := hO1.snoc hR (Nat.le_refl _) hsz0 hsz hO2 hg2 hg2.size (by decide)
          have hB2 : Below w.heap.size w w2 := (hB.trans (hBz.mono hsz0)).grown hg2 hlo (fun g hg => (ht.lt g hg).1)
          have hx : playsTo (X + Y) k ++ [bitsTo (X + Y) k (X + Y)] = playsTo (X + Y) (k + 1) := by simp [playsTo, List.range_succ]
          rw [hx] at hsn
          clear hO1 ht hO hR hO2 hx
          go_wp2
          go_roundw
          case rel => exact ⟨k + 1, by omega, by go_num, a2, c2, _, by rw [HN.out], by rw [HN.out] at hsn; exact hsn, hB2⟩
          case measure => simp [intOf]; omega
    · obtain rfl : k = M := by omega
      go_wp2
      go_ret
      exact ⟨a, c, vs, by simp [playsTo], by simpa [playsTo] using hO, hB⟩
set_option maxHeartbeats 1600000 in
theorem l2Plays_any (X Y : Nat) (hX : 1 ≤ X ∧ X ≤ 3) (hY : 1 ≤ Y ∧ Y ≤ 3) (w : World) :
    Calls Try.prog 71 #[.int .i64 X, .int .i64 Y] w fun e w' => ∃ a c vs, e = .returned (.slice a (playsTo (X + Y) (2 ^ (X + Y))).length c) ∧ OwnII 27 3 w.heap.size w'.heap.size w' (.slice a (playsTo (X + Y) (2 ^ (X + Y))).length c) (playsTo (X + Y) (2 ^ (X + Y))) vs ∧ Below w.heap.size w w' := by
  obtain ⟨hX1, hX3⟩ := hX
  obtain ⟨hY1, hY3⟩ := hY
  obtain ⟨M, hM⟩ : ∃ M, M = 2 ^ (X + Y) := ⟨_, rfl⟩
  have hM64 : M ≤ 64 := by rw [hM]; exact Nat.le_trans (Nat.pow_le_pow_right (by omega) (show X + Y ≤ 6 by omega)) (by decide)
  have hM0 : 0 < M := by rw [hM]; exact Nat.two_pow_pos _
  have hpw : wrap64 (2 ^ (X + Y)) = (M : Int) := by
    have h1 : ((2 : Int) ^ (X + Y)) = (M : Int) := by rw [hM]; simp
    rw [h1]
    exact IntWalk.wrap64_in _ ⟨by omega, by omega⟩
  rw [← hM]
  clear hM
  have hE := OwnII.empty 27 3 w
  go_enter Try.func71, Try.ntmps71
  go_wp2
  try rw [hpw]
  go_loopw [6, 5] (fun s so wr => ∃ k : Nat, k ≤ M ∧ s = .int .i64 k ∧ ∃ a c vs, so = .slice a k c ∧ OwnII 27 3 w.heap.size wr.heap.size wr (.slice a k c) (playsTo (X + Y) k) vs ∧ Below w.heap.size w wr) (fun s _ _ => M - (intOf s).toNat)
  case atStart => exact ⟨0, by omega, rfl, _, _, _, rfl, by simpa [playsTo] using hE, (by repeat' (first | with_reducible exact Below.refl _ _ | with_reducible assumption | with_reducible apply Below.alloc | with_reducible apply Below.setCell | with_reducible apply Below.drew | exact Nat.le_refl _ | omega | (simp only [World.size_alloc, World.size_setCell]; omega)))⟩
  case round =>
    clear hE
    obtain ⟨k, hk, rfl, a, c, vs, rfl, hO, hB⟩ := hrel
    by_cases hlt : k < M
    · obtain ⟨wo, rfl⟩ : ∃ wo : World, wo = wr := ⟨_, rfl⟩
      have hE := OwnV.empty 3 wo
      have hBe : Below wo.heap.size wo (wo.alloc (.cells #[] 3)) := (by repeat' (first | with_reducible exact Below.refl _ _ | with_reducible assumption | with_reducible apply Below.alloc | with_reducible apply Below.setCell | with_reducible apply Below.drew | exact Nat.le_refl _ | omega | (simp only [World.size_alloc, World.size_setCell]; omega)))
      go_wp2
      try rw [hpw]
      go_loopw [8, 7] (fun s t wz => ∃ j : Nat, j ≤ X + Y ∧ s = .int .i64 j ∧ ∃ ar cr, t = .slice ar j cr ∧ OwnV 3 wo.heap.size wz.heap.size wz (.slice ar j cr) (ints (bitsTo (X + Y) k j)) ∧ Below wo.heap.size wo wz) (fun s _ _ => X + Y - (intOf s).toNat)
      case atStart => exact ⟨0, by omega, rfl, _, _, rfl, by simpa [bitsTo, ints] using hE, hBe⟩
      case round =>
        clear hE hBe
        obtain ⟨j, hj, rfl, ar, cr, rfl, hR, hBz⟩ := hrel
        by_cases hjt : j < X + Y
        · obtain ⟨r, hr1, hr2⟩ : ∃ r : Int, bits BinOp.and IntKind.i64 ((k : Int) / 2 ^ (X + Y - 1 - j)) 1 = r ∧ r = ((k / 2 ^ (X + Y - 1 - j) % 2 : Nat) : Int) :=
            ⟨_, bit_at k (X + Y - 1 - j) (by omega) (by omega), rfl⟩
          have hlen : (ints (bitsTo (X + Y) k j)).length = j := by simp [bitsTo]
          generalize hL : ints (bitsTo (X + Y) k j) = L at *
          have HL := Lib.hid hL
          have HN := Lib.hid hlen
          have HR := Lib.hid hr2
          have hsz := hBz.size
          have hn6 : L.length ≤ 6 := by omega
          clear hL hlen hr2
          go_wp2_with (at_builtin; refine append1_own rfl _ _ 27 3 rfl Try.underlying27 Try.infoInt rfl hR rfl rfl rfl (by omega) (by omega) hsz ?_)
          intro a2 c2 w2 hO2 hg2
          have hB2 : Below wo.heap.size wo w2 := hBz.grown hg2 hsz (fun g hg => (hR.lt g hg).1)
          have hx : L ++ [Value.int .i64 r] = ints (bitsTo (X + Y) k (j + 1)) := by rw [← HL.out, HR.out]; simp [ints, bitsTo, List.range_succ]
          rw [hx] at hO2
          clear hR hx
          go_wp2
          go_roundw
          case rel => exact ⟨j + 1, by omega, by go_num, a2, c2, by rw [HN.out], by rw [HN.out] at hO2; exact hO2, hB2⟩
          case measure => simp [intOf]; omega
        · obtain rfl : j = X + Y := by omega
          have hO1 := hO.kept hBz (Nat.le_refl _)
          have ht := hO1.top
          have hlen : vs.length = k := by have := hO1.len; simpa [playsTo] using this
          have HN := Lib.hid hlen
          have hsz := hBz.size
          have hsz0 := hB.size
          have hn6 : vs.length ≤ 64 := by omega
          have hlo : w.heap.size ≤ wr.heap.size := by omega
          clear hlen
          go_wp2_with (at_builtin; refine append1_own rfl _ _ 24 27 rfl Try.underlying24 Try.infoInts rfl ht rfl rfl rfl (by omega) (by omega) hlo ?_)
          intro a2 c2 w2 hO2 hg2
          have hsn := hO1.snoc hR (Nat.le_refl _) hsz0 hsz hO2 hg2 hg2.size (by decide)
          have hB2 : Below w.heap.size w w2 := (hB.trans (hBz.mono hsz0)).grown hg2 hlo (fun g hg => (ht.lt g hg).1)
          have hx : playsTo (X + Y) k ++ [bitsTo (X + Y) k (X + Y)] = playsTo (X + Y) (k + 1) := by simp [playsTo, List.range_succ]
          rw [hx] at hsn
          clear hO1 ht hO hR hO2 hx
          go_wp2
          go_roundw
          case rel => exact ⟨k + 1, by omega, by go_num, a2, c2, _, by rw [HN.out], by rw [HN.out] at hsn; exact hsn, hB2⟩
          case measure => simp [intOf]; omega
    · obtain rfl : k = M := by omega
      go_wp2
      go_ret
      exact ⟨a, c, vs, by simp [playsTo], by simpa [playsTo] using hO, hB⟩
end Go.Proofs.Ytnmnmnpeoiblhaa
