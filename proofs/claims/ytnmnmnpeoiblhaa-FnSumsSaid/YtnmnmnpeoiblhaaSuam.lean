/- The greatest sum of a box, and the first that has it. No program in sight. All pairs of questions: contracts of the program's and the reference's function. All plays: contracts of the program's and the reference's function. -/
import Derived.Test.YtnmnmnpeoiblhaaSuah
import Derived.Test.YtnmnmnpeoiblhaaSual
import Derived.Test.YtnmnmnpeoiblhaaSuae
import Derived.Test.YtnmnmnpeoiblhaaSuad
set_option linter.unusedSimpArgs false
set_option linter.unusedVariables false
namespace Go.Proofs.Ytnmnmnpeoiblhaa

structure Gr where
  best : Int
  F0 : Nat
  F1 : Nat
  S0 : Nat
  S1 : Nat
  m : Nat
  there : Bool
def Gr.zero : Gr := ⟨0, 0, 0, 0, 0, 0, false⟩
def absI (n : Int) : Int := if n < -n then -n else n
def grStep (b : BoxD) (p q : Nat × Nat) (g : Gr) (m : Nat) : Gr :=
  if (!g.there || decide (g.best < absI (sumB b p.1 p.2 q.1 q.2 m))) = true then ⟨absI (sumB b p.1 p.2 q.1 q.2 m), p.1, p.2, q.1, q.2, m, true⟩ else g
def gr4 (b : BoxD) (p q : Nat × Nat) (g : Gr) : Nat → Gr
  | 0 => g
  | k + 1 => grStep b p q (gr4 b p q g k) k
def grQ (b : BoxD) (p : Nat × Nat) (Q : List (Nat × Nat)) (g : Gr) : Nat → Gr
  | 0 => g
  | j + 1 => gr4 b p (Q.getD j (0, 0)) (grQ b p Q g j) 4
def grP (b : BoxD) (P Q : List (Nat × Nat)) : Nat → Gr
  | 0 => Gr.zero
  | i + 1 => grQ b (P.getD i (0, 0)) Q (grP b P Q i) Q.length
def great (b : BoxD) : Gr := grP b (pairsTo b.X.toNat b.X.toNat) (pairsTo b.Y.toNat b.Y.toNat) (pairsTo b.X.toNat b.X.toNat).length

theorem agB_bd {b : BoxD} (hb : boxB b = true) (i j : Nat) (hi : (i : Int) < b.X) (hj : (j : Int) < b.Y) : -2000 ≤ agB b i j ∧ agB b i j ≤ 2000 := by
  have hw := (boxB_iff.1 hb).2.1
  have h1 := numB_bound hb i j hi hj 0 0 (by omega) (by omega)
  have h2 := numB_bound hb i j hi hj 0 1 (by omega) (by omega)
  have h3 := numB_bound hb i j hi hj 1 0 (by omega) (by omega)
  have h4 := numB_bound hb i j hi hj 1 1 (by omega) (by omega)
  rw [show ((0 : Nat) : Int) = 0 from rfl] at *
  rw [show ((1 : Nat) : Int) = 1 from rfl] at *
  unfold agB
  omega
theorem sumB_bd {b : BoxD} (hb : boxB b = true) {F0 F1 S0 S1 : Nat} (m : Int) (hF : F0 < F1 ∧ (F1 : Int) < b.X) (hS : S0 < S1 ∧ (S1 : Int) < b.Y) : -8000 ≤ sumB b F0 F1 S0 S1 m ∧ sumB b F0 F1 S0 S1 m ≤ 8000 := by
  have key : ∀ k, -2000 ≤ agK b F0 F1 S0 S1 k ∧ agK b F0 F1 S0 S1 k ≤ 2000 := fun k => by
    unfold agK
    split <;> split <;> exact agB_bd hb _ _ (by omega) (by omega)
  have step : ∀ k : Nat, -(2000 * (k : Int)) ≤ sumUp (agK b F0 F1 S0 S1) m k ∧ sumUp (agK b F0 F1 S0 S1) m k ≤ 2000 * (k : Int) := by
    intro k
    induction k with
    | zero => exact ⟨Int.le_refl _, Int.le_refl _⟩
    | succ k ih =>
      have := key k
      unfold sumUp
      split <;> omega
  have := step 4
  unfold sumB
  omega
theorem absI_bd {n : Int} (h : -8000 ≤ n ∧ n ≤ 8000) : 0 ≤ absI n ∧ absI n ≤ 8000 := by unfold absI; split <;> omega

/-- What is known of a state: its greatest is small, its questions fit. -/
structure GrOk (b : BoxD) (g : Gr) : Prop where
  b0 : 0 ≤ g.best
  b1 : g.best ≤ 8000
  m3 : g.m ≤ 3
  f1 : g.F0 ≤ 3 ∧ g.F1 ≤ 3
  s1 : g.S0 ≤ 3 ∧ g.S1 ≤ 3
theorem GrOk.zero (b : BoxD) : GrOk b Gr.zero := ⟨by decide, by decide, by decide, by decide, by decide⟩
theorem GrOk.step {b : BoxD} {g : Gr} (h : GrOk b g) (hb : boxB b = true) {p q : Nat × Nat} {k : Nat} (hk : k ≤ 3) (hF : p.1 < p.2 ∧ (p.2 : Int) < b.X) (hS : q.1 < q.2 ∧ (q.2 : Int) < b.Y) : GrOk b (grStep b p q g k) := by
  have hx := (boxB_iff.1 hb).1
  have hs := absI_bd (sumB_bd hb (k : Int) hF hS)
  unfold grStep
  split
  · exact ⟨hs.1, hs.2, hk, ⟨by show p.1 ≤ 3; omega, by show p.2 ≤ 3; omega⟩, ⟨by show q.1 ≤ 3; omega, by show q.2 ≤ 3; omega⟩⟩
  · exact h
theorem grStep_yes {b : BoxD} {p q : Nat × Nat} {g : Gr} {m : Nat} {n c : Int} (hn : sumB b p.1 p.2 q.1 q.2 m = n) (hc : absI n = c) (h : g.there = false ∨ g.best < c) : grStep b p q g m = ⟨c, p.1, p.2, q.1, q.2, m, true⟩ := by
  subst hn hc
  unfold grStep
  rw [if_pos]
  rcases h with h | h <;> simp [h]
theorem grStep_no {b : BoxD} {p q : Nat × Nat} {g : Gr} {m : Nat} {n c : Int} (hn : sumB b p.1 p.2 q.1 q.2 m = n) (hc : absI n = c) (h : g.there = true) (h2 : ¬ g.best < c) : grStep b p q g m = g := by
  subst hn hc
  unfold grStep
  rw [if_neg]
  simp [h]; omega
theorem pair_fits {n : Int} {p : Nat × Nat} (hn : 1 ≤ n) (h : p ∈ pairsTo n.toNat n.toNat) : p.1 < p.2 ∧ (p.2 : Int) < n := by
  have := pairsTo_mem (Nat.le_refl _) h
  omega
end Go.Proofs.Ytnmnmnpeoiblhaa
set_option linter.unusedSimpArgs false
set_option linter.unusedVariables false
namespace Go.Proofs.Ytnmnmnpeoiblhaa
open Go.RowKit

theorem pairInfo : (Try.prog.info? 47).map (fun i => (i.zero, i.size, i.bytes)) = some (some (.agg #[.int .i64 0, .int .i64 0]), 2, 16) := by kernel_rfl
def PairsRes (w : World) (ps : List (Nat × Nat)) (e : Ending) (w' : World) : Prop :=
  ∃ v, e = .returned v ∧ RdP w.heap.size w' v ps ∧ Below w.heap.size w w'
set_option maxHeartbeats 1600000 in
theorem pairs_any (n : Nat) (hn : n ≤ 3) (w : World) :
    Calls Try.prog 119 #[.int .i64 n] w (PairsRes w (pairsTo n n)) := by
  have hE := OwnP.empty 47 w
  go_enter Try.func119, Try.ntmps119
  go_wp2
  go_loopw [8, 3] (fun s so wr => ∃ i : Nat, i ≤ n ∧ s = .int .i64 i ∧ ∃ a c, so = .slice a (pairsTo n i).length c ∧ OwnP 47 w.heap.size wr.heap.size wr (.slice a (pairsTo n i).length c) (pairsTo n i) ∧ Below w.heap.size w wr) (fun s _ _ => n - (intOf s).toNat)
  case atStart => exact ⟨0, by omega, rfl, _, _, rfl, by simpa [pairsTo] using hE, (by repeat' (first | with_reducible exact Below.refl _ _ | with_reducible assumption | with_reducible apply Below.alloc | with_reducible apply Below.setCell | with_reducible apply Below.drew | exact Nat.le_refl _ | omega | (simp only [World.size_alloc, World.size_setCell]; omega)))⟩
  case round =>
    clear hE
    obtain ⟨i, hi, rfl, a, c, rfl, hO, hB⟩ := hrel
    by_cases hlt : i < n
    · have hpl := pairsTo_length n i
      have hin : i * n ≤ 9 := Nat.mul_le_mul (show i ≤ 3 by omega) hn
      go_wp2
      go_loopw [5, 3] (fun s so wz => ∃ t : Nat, i + 1 + t ≤ n ∧ s = .int .i64 ((i + 1 + t : Nat) : Int) ∧ ∃ a c, so = .slice a (pairsTo n i ++ pairsRow i t).length c ∧ OwnP 47 w.heap.size wz.heap.size wz (.slice a (pairsTo n i ++ pairsRow i t).length c) (pairsTo n i ++ pairsRow i t) ∧ Below w.heap.size w wz) (fun s _ _ => n - (intOf s).toNat)
      case atStart => exact ⟨0, by omega, by first | rfl | go_num | simp, a, c, by simp [pairsRow], by simpa [pairsRow] using hO, hB⟩
      case round =>
        clear hO hB
        obtain ⟨t, ht, rfl, a, c, rfl, hO, hB⟩ := hrel
        obtain ⟨q, hq⟩ : ∃ q, q = i + 1 + t := ⟨_, rfl⟩
        rw [← hq] at ht
        rw [← hq]
        have hl2 : (pairsTo n i ++ pairsRow i t).length ≤ 20 := by rw [List.length_append, pairsRow_length]; omega
        have hx : (pairsTo n i ++ pairsRow i t) ++ [(i, q)] = pairsTo n i ++ pairsRow i (t + 1) := by
          rw [List.append_assoc, hq]; rfl
        have HQ := Lib.hid hq
        have HX := Lib.hid hx
        generalize hL : pairsTo n i ++ pairsRow i t = L at *
        have HL := Lib.hid hL
        have hsz := hB.size
        clear hx hL hq hpl
        by_cases hjt : q < n
        · go_wp2_with (at_builtin; refine append2_own rfl _ _ 116 47 rfl Try.underlying116 pairInfo rfl hO rfl rfl rfl rfl (by omega) (by omega) hsz ?_)
          intro a2 c2 w2 hO2 hg2
          have hB2 : Below w.heap.size w w2 := hB.grown hg2 hsz (fun g hg => (hO.lt g hg).1)
          have hl3 : (L ++ [(i, q)]).length = L.length + 1 := by simp
          rw [← hl3] at hO2
          rw [HX.out] at hO2
          rw [HX.out] at hl3
          clear hO
          go_wp2
          go_roundw
          case rel => exact ⟨t + 1, by have := HQ.out; omega, by have := HQ.out; first | go_num | (congr 1; omega), a2, c2, by rw [hl3], hO2, hB2⟩
          case measure => simp [intOf]; omega
        · go_wp2
          go_roundw
          have e1 : t = n - (i + 1) := by have := HQ.out; omega
          case rel => exact ⟨i + 1, by omega, by go_num, a, c, by rw [← HL.out, e1]; rfl, by rw [← HL.out, e1] at hO; exact hO, hB⟩
          case measure => simp [intOf]; omega
    · obtain rfl : i = n := by omega
      go_wp2
      go_ret
      exact ⟨_, rfl, hO.rd, hB⟩
set_option maxHeartbeats 1600000 in
theorem l3Pairs_any (n : Nat) (hn : n ≤ 3) (w : World) :
    Calls Try.prog 117 #[.int .i64 n] w (PairsRes w (pairsTo n n)) := by
  have hE := OwnP.empty 47 w
  go_enter Try.func117, Try.ntmps117
  go_wp2
  go_loopw [4, 3] (fun s so wr => ∃ i : Nat, i ≤ n ∧ s = .int .i64 i ∧ ∃ a c, so = .slice a (pairsTo n i).length c ∧ OwnP 47 w.heap.size wr.heap.size wr (.slice a (pairsTo n i).length c) (pairsTo n i) ∧ Below w.heap.size w wr) (fun s _ _ => n - (intOf s).toNat)
  case atStart => exact ⟨0, by omega, rfl, _, _, rfl, by simpa [pairsTo] using hE, (by repeat' (first | with_reducible exact Below.refl _ _ | with_reducible assumption | with_reducible apply Below.alloc | with_reducible apply Below.setCell | with_reducible apply Below.drew | exact Nat.le_refl _ | omega | (simp only [World.size_alloc, World.size_setCell]; omega)))⟩
  case round =>
    clear hE
    obtain ⟨i, hi, rfl, a, c, rfl, hO, hB⟩ := hrel
    by_cases hlt : i < n
    · have hpl := pairsTo_length n i
      have hin : i * n ≤ 9 := Nat.mul_le_mul (show i ≤ 3 by omega) hn
      go_wp2
      go_loopw [5, 3] (fun s so wz => ∃ t : Nat, i + 1 + t ≤ n ∧ s = .int .i64 ((i + 1 + t : Nat) : Int) ∧ ∃ a c, so = .slice a (pairsTo n i ++ pairsRow i t).length c ∧ OwnP 47 w.heap.size wz.heap.size wz (.slice a (pairsTo n i ++ pairsRow i t).length c) (pairsTo n i ++ pairsRow i t) ∧ Below w.heap.size w wz) (fun s _ _ => n - (intOf s).toNat)
      case atStart => exact ⟨0, by omega, by first | rfl | go_num | simp, a, c, by simp [pairsRow], by simpa [pairsRow] using hO, hB⟩
      case round =>
        clear hO hB
        obtain ⟨t, ht, rfl, a, c, rfl, hO, hB⟩ := hrel
        obtain ⟨q, hq⟩ : ∃ q, q = i + 1 + t := ⟨_, rfl⟩
        rw [← hq] at ht
        rw [← hq]
        have hl2 : (pairsTo n i ++ pairsRow i t).length ≤ 20 := by rw [List.length_append, pairsRow_length]; omega
        have hx : (pairsTo n i ++ pairsRow i t) ++ [(i, q)] = pairsTo n i ++ pairsRow i (t + 1) := by
          rw [List.append_assoc, hq]; rfl
        have HQ := Lib.hid hq
        have HX := Lib.hid hx
        generalize hL : pairsTo n i ++ pairsRow i t = L at *
        have HL := Lib.hid hL
        have hsz := hB.size
        clear hx hL hq hpl
        by_cases hjt : q < n
        · go_wp2_with (at_builtin; refine append2_own rfl _ _ 116 47 rfl Try.underlying116 pairInfo rfl hO rfl rfl rfl rfl (by omega) (by omega) hsz ?_)
          intro a2 c2 w2 hO2 hg2
          have hB2 : Below w.heap.size w w2 := hB.grown hg2 hsz (fun g hg => (hO.lt g hg).1)
          have hl3 : (L ++ [(i, q)]).length = L.length + 1 := by simp
          rw [← hl3] at hO2
          rw [HX.out] at hO2
          rw [HX.out] at hl3
          clear hO
          go_wp2
          go_roundw
          case rel => exact ⟨t + 1, by have := HQ.out; omega, by have := HQ.out; first | go_num | (congr 1; omega), a2, c2, by rw [hl3], hO2, hB2⟩
          case measure => simp [intOf]; omega
        · go_wp2
          go_roundw
          have e1 : t = n - (i + 1) := by have := HQ.out; omega
          case rel => exact ⟨i + 1, by omega, by go_num, a, c, by rw [← HL.out, e1]; rfl, by rw [← HL.out, e1] at hO; exact hO, hB⟩
          case measure => simp [intOf]; omega
    · obtain rfl : i = n := by omega
      go_wp2
      go_ret
      exact ⟨_, rfl, hO.rd, hB⟩
theorem pairs_int (n : Int) (hn : 1 ≤ n ∧ n ≤ 3) (w : World) :
    Calls Try.prog 119 #[.int .i64 n] w (PairsRes w (pairsTo n.toNat n.toNat)) := by
  obtain ⟨N, rfl⟩ := Int.eq_ofNat_of_zero_le (show 0 ≤ n by omega)
  exact pairs_any N (by omega) w
theorem l3Pairs_int (n : Int) (hn : 1 ≤ n ∧ n ≤ 3) (w : World) :
    Calls Try.prog 117 #[.int .i64 n] w (PairsRes w (pairsTo n.toNat n.toNat)) := by
  obtain ⟨N, rfl⟩ := Int.eq_ofNat_of_zero_le (show 0 ≤ n by omega)
  exact l3Pairs_any N (by omega) w
end Go.Proofs.Ytnmnmnpeoiblhaa
set_option linter.unusedSimpArgs false
set_option linter.unusedVariables false
namespace Go.Proofs.Ytnmnmnpeoiblhaa
open Go.RowKit

def bitsTo (n k j : Nat) : List Int := List.map (fun i : Nat => ((k / 2 ^ (n - 1 - i) % 2 : Nat) : Int)) (List.range j)
def playsTo (n k : Nat) : List (List Int) := List.map (fun c : Nat => bitsTo n c n) (List.range k)
theorem bit_at (k e : Nat) (hk : k < 64) (he : e < 6) : bits BinOp.and IntKind.i64 ((k : Int) / 2 ^ e) 1 = ((k / 2 ^ e % 2 : Nat) : Int) := by
  have h : ∀ k : Fin 64, ∀ e : Fin 6, bits BinOp.and IntKind.i64 (((k : Nat) : Int) / 2 ^ (e : Nat)) 1 = (((k : Nat) / 2 ^ (e : Nat) % 2 : Nat) : Int) := by decide +kernel
  exact h ⟨k, hk⟩ ⟨e, he⟩

set_option maxHeartbeats 1600000 in
theorem plays_any (X Y : Nat) (hX : 1 ≤ X ∧ X ≤ 3) (hY : 1 ≤ Y ∧ Y ≤ 3) (w : World) :
    Calls Try.prog 120 #[.int .i64 X, .int .i64 Y] w fun e w' => ∃ a c vs, e = .returned (.slice a (playsTo (X + Y) (2 ^ (X + Y))).length c) ∧ OwnII 27 3 w.heap.size w'.heap.size w' (.slice a (playsTo (X + Y) (2 ^ (X + Y))).length c) (playsTo (X + Y) (2 ^ (X + Y))) vs ∧ Below w.heap.size w w' := by
  obtain ⟨hX1, hX3⟩ := hX
  obtain ⟨hY1, hY3⟩ := hY
  obtain ⟨M, hM⟩ : ∃ M, M = 2 ^ (X + Y) := ⟨_, rfl⟩
  have hM64 : M ≤ 64 := by rw [hM]; exact Nat.le_trans (Nat.pow_le_pow_right (by omega) (show X + Y ≤ 6 by omega)) (by decide)
  have hM0 : 0 < M := by rw [hM]; exact Nat.two_pow_pos _
  have hpw : wrap64 (2 ^ (X + Y)) = (M : Int) := by
    have h1 : ((2 : Int) ^ (X + Y)) = (M : Int) := by rw [hM]; simp
    rw [h1]
    exact IntWalk.wrap64_in _ ⟨by omega, by omega⟩
  rw [← hM]
  clear hM
  have hE := OwnII.empty 27 3 w
  go_enter Try.func120, Try.ntmps120
  go_wp2
  try rw [hpw]
  go_loopw [14, 5] (fun s so wr => ∃ k : Nat, k ≤ M ∧ s = .int .i64 k ∧ ∃ a c vs, so = .slice a k c ∧ OwnII 27 3 w.heap.size wr.heap.size wr (.slice a k c) (playsTo (X + Y) k) vs ∧ Below w.heap.size w wr) (fun s _ _ => M - (intOf s).toNat)
  case atStart => exact ⟨0, by omega, rfl, _, _, _, rfl, by simpa [playsTo] using hE, (by repeat' (first | with_reducible exact Below.refl _ _ | with_reducible assumption | with_reducible apply Below.alloc | with_reducible apply Below.setCell | with_reducible apply Below.drew | exact Nat.le_refl _ | omega | (simp only [World.size_alloc, World.size_setCell]; omega)))⟩
  case round =>
    clear hE
    obtain ⟨k, hk, rfl, a, c, vs, rfl, hO, hB⟩ := hrel
    by_cases hlt : k < M
    · obtain ⟨wo, rfl⟩ : ∃ wo : World, wo = wr := ⟨_, rfl⟩
      have hE := OwnV.empty 3 wo
      have hBe : Below wo.heap.size wo (wo.alloc (.cells #[] 3)) := (by repeat' (first | with_reducible exact Below.refl _ _ | with_reducible assumption | with_reducible apply Below.alloc | with_reducible apply Below.setCell | with_reducible apply Below.drew | exact Nat.le_refl _ | omega | (simp only [World.size_alloc, World.size_setCell]; omega)))
      go_wp2
      try rw [hpw]
      go_loopw [21, 7] (fun s t wz => ∃ j : Nat, j ≤ X + Y ∧ s = .int .i64 j ∧ ∃ ar cr, t = .slice ar j cr ∧ OwnV 3 wo.heap.size wz.heap.size wz (.slice ar j cr) (ints (bitsTo (X + Y) k j)) ∧ Below wo.heap.size wo wz) (fun s _ _ => X + Y - (intOf s).toNat)
      case atStart => exact ⟨0, by omega, rfl, _, _, rfl, by simpa [bitsTo, ints] using hE, hBe⟩
      case round =>
        clear hE hBe
        obtain ⟨j, hj, rfl, ar, cr, rfl, hR, hBz⟩ := hrel
        by_cases hjt : j < X + Y
        · obtain ⟨r, hr1, hr2⟩ : ∃ r : Int, bits BinOp.and IntKind.i64 ((k : Int) / 2 ^ (X + Y - 1 - j)) 1 = r ∧ r = ((k / 2 ^ (X + Y - 1 - j) % 2 : Nat) : Int) :=
            ⟨_, bit_at k (X + Y - 1 - j) (by omega) (by omega), rfl⟩
          have hlen : (ints (bitsTo (X + Y) k j)).length = j := by simp [bitsTo]
          generalize hL : ints (bitsTo (X + Y) k j) = L at *
          have HL := Lib.hid hL
          have HN := Lib.hid hlen
          have HR := Lib.hid hr2
          have hsz := hBz.size
          have hn6 : L.length ≤ 6 := by omega
          clear hL hlen hr2
          go_wp2_with (at_builtin; refine append1_own rfl _ _ 27 3 rfl Try.underlying27 Try.infoInt rfl hR rfl rfl rfl (by omega) (by omega) hsz ?_)
          intro a2 c2 w2 hO2 hg2
          have hB2 : Below wo.heap.size wo w2 := hBz.grown hg2 hsz (fun g hg => (hR.lt g hg).1)
          have hx : L ++ [Value.int .i64 r] = ints (bitsTo (X + Y) k (j + 1)) := by rw [← HL.out, HR.out]; simp [ints, bitsTo, List.range_succ]
          rw [hx] at hO2
          clear hR hx
          go_wp2
          go_roundw
          case rel => exact ⟨j + 1, by omega, by go_num, a2, c2, by rw [HN.out], by rw [HN.out] at hO2; exact hO2, hB2⟩
          case measure => simp [intOf]; omega
        · obtain rfl : j = X + Y := by omega
          have hO1 := hO.kept hBz (Nat.le_refl _)
          have ht := hO1.top
          have hlen : vs.length = k := by have := hO1.len; simpa [playsTo] using this
          have HN := Lib.hid hlen
          have hsz := hBz.size
          have hsz0 := hB.size
          have hn6 : vs.length ≤ 64 := by omega
          have hlo : w.heap.size ≤ wr.heap.size := by omega
          clear hlen
          go_wp2_with (at_builtin; refine append1_own rfl _ _ 24 27 rfl Try.underlying24 Try.infoInts rfl ht rfl rfl rfl (by omega) (by omega) hlo ?_)
          intro a2 c2 w2 hO2 hg2
          have hsn := hO1.snoc hR (Nat.le_refl _) hsz0 hsz hO2 hg2 hg2.size (by decide)
          have hB2 : Below w.heap.size w w2 := (hB.trans (hBz.mono hsz0)).grown hg2 hlo (fun g hg => (ht.lt g hg).1)
          have hx : playsTo (X + Y) k ++ [bitsTo (X + Y) k (X + Y)] = playsTo (X + Y) (k + 1) := by simp [playsTo, List.range_succ]
          rw [hx] at hsn
          clear hO1 ht hO hR hO2 hx
          go_wp2
          go_roundw
          case rel => exact ⟨k + 1, by omega, by go_num, a2, c2, _, by rw [HN.out], by rw [HN.out] at hsn; exact hsn, hB2⟩
          case measure => simp [intOf]; omega
    · obtain rfl : k = M := by omega
      go_wp2
      go_ret
      exact ⟨a, c, vs, by simp [playsTo], by simpa [playsTo] using hO, hB⟩
set_option maxHeartbeats 1600000 in
theorem l2Plays_any (X Y : Nat) (hX : 1 ≤ X ∧ X ≤ 3) (hY : 1 ≤ Y ∧ Y ≤ 3) (w : World) :
    Calls Try.prog 71 #[.int .i64 X, .int .i64 Y] w fun e w' => ∃ a c vs, e = .returned (.slice a (playsTo (X + Y) (2 ^ (X + Y))).length c) ∧ OwnII 27 3 w.heap.size w'.heap.size w' (.slice a (playsTo (X + Y) (2 ^ (X + Y))).length c) (playsTo (X + Y) (2 ^ (X + Y))) vs ∧ Below w.heap.size w w' := by
  obtain ⟨hX1, hX3⟩ := hX
  obtain ⟨hY1, hY3⟩ := hY
  obtain ⟨M, hM⟩ : ∃ M, M = 2 ^ (X + Y) := ⟨_, rfl⟩
  have hM64 : M ≤ 64 := by rw [hM]; exact Nat.le_trans (Nat.pow_le_pow_right (by omega) (show X + Y ≤ 6 by omega)) (by decide)
  have hM0 : 0 < M := by rw [hM]; exact Nat.two_pow_pos _
  have hpw : wrap64 (2 ^ (X + Y)) = (M : Int) := by
    have h1 : ((2 : Int) ^ (X + Y)) = (M : Int) := by rw [hM]; simp
    rw [h1]
    exact IntWalk.wrap64_in _ ⟨by omega, by omega⟩
  rw [← hM]
  clear hM
  have hE := OwnII.empty 27 3 w
  go_enter Try.func71, Try.ntmps71
  go_wp2
  try rw [hpw]
  go_loopw [6, 5] (fun s so wr => ∃ k : Nat, k ≤ M ∧ s = .int .i64 k ∧ ∃ a c vs, so = .slice a k c ∧ OwnII 27 3 w.heap.size wr.heap.size wr (.slice a k c) (playsTo (X + Y) k) vs ∧ Below w.heap.size w wr) (fun s _ _ => M - (intOf s).toNat)
  case atStart => exact ⟨0, by omega, rfl, _, _, _, rfl, by simpa [playsTo] using hE, (by repeat' (first | with_reducible exact Below.refl _ _ | with_reducible assumption | with_reducible apply Below.alloc | with_reducible apply Below.setCell | with_reducible apply Below.drew | exact Nat.le_refl _ | omega | (simp only [World.size_alloc, World.size_setCell]; omega)))⟩
  case round =>
    clear hE
    obtain ⟨k, hk, rfl, a, c, vs, rfl, hO, hB⟩ := hrel
    by_cases hlt : k < M
    · obtain ⟨wo, rfl⟩ : ∃ wo : World, wo = wr := ⟨_, rfl⟩
      have hE := OwnV.empty 3 wo
      have hBe : Below wo.heap.size wo (wo.alloc (.cells #[] 3)) := (by repeat' (first | with_reducible exact Below.refl _ _ | with_reducible assumption | with_reducible apply Below.alloc | with_reducible apply Below.setCell | with_reducible apply Below.drew | exact Nat.le_refl _ | omega | (simp only [World.size_alloc, World.size_setCell]; omega)))
      go_wp2
      try rw [hpw]
      go_loopw [8, 7] (fun s t wz => ∃ j : Nat, j ≤ X + Y ∧ s = .int .i64 j ∧ ∃ ar cr, t = .slice ar j cr ∧ OwnV 3 wo.heap.size wz.heap.size wz (.slice ar j cr) (ints (bitsTo (X + Y) k j)) ∧ Below wo.heap.size wo wz) (fun s _ _ => X + Y - (intOf s).toNat)
      case atStart => exact ⟨0, by omega, rfl, _, _, rfl, by simpa [bitsTo, ints] using hE, hBe⟩
      case round =>
        clear hE hBe
        obtain ⟨j, hj, rfl, ar, cr, rfl, hR, hBz⟩ := hrel
        by_cases hjt : j < X + Y
        · obtain ⟨r, hr1, hr2⟩ : ∃ r : Int, bits BinOp.and IntKind.i64 ((k : Int) / 2 ^ (X + Y - 1 - j)) 1 = r ∧ r = ((k / 2 ^ (X + Y - 1 - j) % 2 : Nat) : Int) :=
            ⟨_, bit_at k (X + Y - 1 - j) (by omega) (by omega), rfl⟩
          have hlen : (ints (bitsTo (X + Y) k j)).length = j := by simp [bitsTo]
          generalize hL : ints (bitsTo (X + Y) k j) = L at *
          have HL := Lib.hid hL
          have HN := Lib.hid hlen
          have HR := Lib.hid hr2
          have hsz := hBz.size
          have hn6 : L.length ≤ 6 := by omega
          clear hL hlen hr2
          go_wp2_with (at_builtin; refine append1_own rfl _ _ 27 3 rfl Try.underlying27 Try.infoInt rfl hR rfl rfl rfl (by omega) (by omega) hsz ?_)
          intro a2 c2 w2 hO2 hg2
          have hB2 : Below wo.heap.size wo w2 := hBz.grown hg2 hsz (fun g hg => (hR.lt g hg).1)
          have hx : L ++ [Value.int .i64 r] = ints (bitsTo (X + Y) k (j + 1)) := by rw [← HL.out, HR.out]; simp [ints, bitsTo, List.range_succ]
          rw [hx] at hO2
          clear hR hx
          go_wp2
          go_roundw
          case rel => exact ⟨j + 1, by omega, by go_num, a2, c2, by rw [HN.out], by rw [HN.out] at hO2; exact hO2, hB2⟩
          case measure => simp [intOf]; omega
        · obtain rfl : j = X + Y := by omega
          have hO1 := hO.kept hBz (Nat.le_refl _)
          have ht := hO1.top
          have hlen : vs.length = k := by have := hO1.len; simpa [playsTo] using this
          have HN := Lib.hid hlen
          have hsz := hBz.size
          have hsz0 := hB.size
          have hn6 : vs.length ≤ 64 := by omega
          have hlo : w.heap.size ≤ wr.heap.size := by omega
          clear hlen
          go_wp2_with (at_builtin; refine append1_own rfl _ _ 24 27 rfl Try.underlying24 Try.infoInts rfl ht rfl rfl rfl (by omega) (by omega) hlo ?_)
          intro a2 c2 w2 hO2 hg2
          have hsn := hO1.snoc hR (Nat.le_refl _) hsz0 hsz hO2 hg2 hg2.size (by decide)
          have hB2 : Below w.heap.size w w2 := (hB.trans (hBz.mono hsz0)).grown hg2 hlo (fun g hg => (ht.lt g hg).1)
          have hx : playsTo (X + Y) k ++ [bitsTo (X + Y) k (X + Y)] = playsTo (X + Y) (k + 1) := by simp [playsTo, List.range_succ]
          rw [hx] at hsn
          clear hO1 ht hO hR hO2 hx
          go_wp2
          go_roundw
          case rel => exact ⟨k + 1, by omega, by go_num, a2, c2, _, by rw [HN.out], by rw [HN.out] at hsn; exact hsn, hB2⟩
          case measure => simp [intOf]; omega
    · obtain rfl : k = M := by omega
      go_wp2
      go_ret
      exact ⟨a, c, vs, by simp [playsTo], by simpa [playsTo] using hO, hB⟩
end Go.Proofs.Ytnmnmnpeoiblhaa
