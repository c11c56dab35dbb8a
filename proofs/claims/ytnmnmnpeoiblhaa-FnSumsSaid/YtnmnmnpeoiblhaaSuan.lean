/- Shares of plays: what the reference and the program ask of them. A mixture's rows: what the nested loops lay. No program in sight. A box variable whose rows' numbers are raised in place. -/
import Derived.Test.YtnmnmnpeoiblhaaSuae
import Derived.Test.YtnmnmnpeoiblhaaSuac
import Derived.Test.YtnmnmnpeoiblhaaSuam
import Derived.Test.YtnmnmnpeoiblhaaSuag
import Derived.Test.YtnmnmnpeoiblhaaSuak
set_option linter.unusedSimpArgs false
set_option linter.unusedVariables false
namespace Go.Proofs.Ytnmnmnpeoiblhaa
open Go.RowKit

def sharesB (x y : Int) (xs : List Int) : Bool := sizesB x y && (decide (xs.length = 2 ^ (x.toNat + y.toNat)) && (allIn xs 0 1000 && inB xs.sum 1 1000))
theorem sharesB_in {x y : Int} {xs : List Int} (h : allIn xs 0 1000 = false) : sharesB x y xs = false := by unfold sharesB; simp [h]
theorem sharesB_sizes {x y : Int} {xs : List Int} (h : sizesB x y = false) : sharesB x y xs = false := by unfold sharesB; simp [h]
theorem sharesB_of {x y : Int} {xs : List Int} {t : Bool} (h1 : sizesB x y = true) (h2 : decide (xs.length = 2 ^ (x.toNat + y.toNat)) = t) (h3 : allIn xs 0 1000 = true) : sharesB x y xs = (t && inB xs.sum 1 1000) := by
  unfold sharesB
  rw [h1, h2, h3]
  simp
theorem pow_wrap {X Y M : Nat} (hX : X ≤ 3) (hY : Y ≤ 3) (hM : M = 2 ^ (X + Y)) : wrap64 (2 ^ (X + Y)) = (M : Int) ∧ M ≤ 64 ∧ 0 < M := by
  have hM64 : M ≤ 64 := by rw [hM]; exact Nat.le_trans (Nat.pow_le_pow_right (by omega) (show X + Y ≤ 6 by omega)) (by decide)
  have h1 : ((2 : Int) ^ (X + Y)) = (M : Int) := by rw [hM]; simp
  refine ⟨?_, hM64, by rw [hM]; exact Nat.two_pow_pos _⟩
  rw [h1]
  exact IntWalk.wrap64_in _ ⟨by omega, by omega⟩

set_option maxHeartbeats 1600000 in
theorem l3Shares_any (x y : Int) (v : Value) (xs : List Int) (w : World) (h : RdI w v xs) (hn : xs.length ≤ 1048576) :
    Calls Try.prog 114 #[.int .i64 x, .int .i64 y, v] w fun e w' => e = .returned (.bool (sharesB x y xs)) ∧ w = w' := by
  obtain ⟨a, b, off, cap, rfl, hm, ha, hc⟩ := h
  unfold maxLen at hm
  go_enter Try.func114, Try.ntmps114
  go_wp2
  go_loop [7, 8] (fun s7 s8 => ∃ k : Nat, k ≤ xs.length ∧ s8 = .int .i64 k ∧ s7 = .int .i64 (xs.take k).sum ∧ (0 ≤ (xs.take k).sum ∧ (xs.take k).sum ≤ 1000 * k) ∧ ∀ (j : Nat) (x : Int), j < k → xs[j]? = some x → inB x 0 1000 = true) (fun _ s8 => xs.length - (intOf s8).toNat)
  case atStart => exact ⟨0, by omega, rfl, rfl, by simp, fun j x hj => by omega⟩
  case round =>
    obtain ⟨k, hk, rfl, rfl, hsum, hall⟩ := hrel
    have HA := Lib.hid hall
    clear hall
    by_cases hlt : k < xs.length
    · obtain rfl := ha (by omega)
      obtain ⟨z, hx⟩ : ∃ z, xs[k]? = some z := ⟨_, List.getElem?_eq_getElem hlt⟩
      have hcell := hc k z hx
      have hst := sum_take xs k z hx
      have HX := Lib.hid hx
      have HS := Lib.hid hst
      generalize (xs.take k).sum = u at *
      clear hc hx hst
      rcases Bool.eq_false_or_eq_true (inB z 0 1000) with h1 | h1
      · have hz := inB_iff.1 h1
        go_wp2_with (go_at_call 104; refine (l1In_any _ _ _ _).mono ?_; rintro e w' ⟨rfl, rfl⟩)
        go_round
        case rel => exact ⟨k + 1, by omega, by go_num, by rw [HS.out], by rw [HS.out]; omega, fun j x' hj hx' => by
          by_cases e : j = k
          · subst e; rw [HX.out] at hx'; cases hx'; exact h1
          · exact HA.out j x' (by omega) hx'⟩
        case measure => simp [intOf]; omega
      · go_wp2_with (go_at_call 104; refine (l1In_any _ _ _ _).mono ?_; rintro e w' ⟨rfl, rfl⟩)
        go_ret
        exact ⟨ret_bool (sharesB_in (allIn_false HX.out h1)).symm, rfl⟩
    · obtain rfl : k = xs.length := by omega
      rw [List.take_length] at hsum ⊢
      have hin : allIn xs 0 1000 = true := allIn_true (fun j x' hx' => HA.out j x' (List.getElem?_eq_some_iff.1 hx').1 hx')
      rcases Bool.eq_false_or_eq_true (sizesB x y) with h1 | h1
      · obtain ⟨⟨hx0, hx1⟩, hy0, hy1⟩ := sizesB_iff.1 h1
        obtain ⟨X, rfl⟩ := Int.eq_ofNat_of_zero_le (show 0 ≤ x by omega)
        obtain ⟨Y, rfl⟩ := Int.eq_ofNat_of_zero_le (show 0 ≤ y by omega)
        obtain ⟨M, hM⟩ : ∃ M, M = 2 ^ (X + Y) := ⟨_, rfl⟩
        obtain ⟨hpw, hM64, hM0⟩ := pow_wrap (by omega) (by omega) hM
        have HO := Lib.hid (fun (t : Bool) (ht : decide (xs.length = M) = t) => sharesB_of (t := t) h1 (by rw [Int.toNat_natCast, Int.toNat_natCast, ← hM]; exact ht) hin)
        clear hin hM hc ha
        by_cases hl : xs.length = M
        · have hle : ((xs.length : Int) == (M : Int)) = true := by simp [hl]
          have HL := Lib.hid (decide_eq_true hl)
          clear hl
          go_wp2_with (first | (go_at_call 69; refine (l2Sizes_any _ _ _).mono ?_; rintro e w' ⟨rfl, rfl⟩) | (go_at_call 104; refine (l1In_any _ _ _ _).mono ?_; rintro e w' ⟨rfl, rfl⟩))
          go_ret
          exact ⟨ret_bool (by rw [HO.out _ HL.out]; rfl), rfl⟩
        · have hle : ((xs.length : Int) == (M : Int)) = false := by rw [beq_eq_false_iff_ne]; omega
          have HL := Lib.hid (decide_eq_false hl)
          clear hl
          go_wp2_with (first | (go_at_call 69; refine (l2Sizes_any _ _ _).mono ?_; rintro e w' ⟨rfl, rfl⟩) | (go_at_call 104; refine (l1In_any _ _ _ _).mono ?_; rintro e w' ⟨rfl, rfl⟩))
          go_ret
          exact ⟨ret_bool (by rw [HO.out _ HL.out]; rfl), rfl⟩
      · have HR := Lib.hid (sharesB_sizes (xs := xs) h1)
        clear hin hc ha
        go_wp2_with (go_at_call 69; refine (l2Sizes_any _ _ _).mono ?_; rintro e w' ⟨rfl, rfl⟩)
        go_ret
        exact ⟨ret_bool HR.out.symm, rfl⟩
end Go.Proofs.Ytnmnmnpeoiblhaa
set_option linter.unusedSimpArgs false
set_option linter.unusedVariables false
namespace Go.Proofs.Ytnmnmnpeoiblhaa

/-- One number of one row is raised. -/
def upd (R : List (List Int)) (k at_ : Nat) (s : Int) : List (List Int) := R.set k ((R.getD k []).set at_ ((R.getD k []).getD at_ 0 + s))
/-- Where a play puts its share. -/
def bitN (pl : List Int) (j : Nat) : Nat := (pl.getD j 0).toNat
def mixAt (pl : List Int) (X Y k : Nat) : Nat := 2 * bitN pl (k / Y) + bitN pl (X + k % Y)
def stepTo (R : List (List Int)) (pl : List Int) (s : Int) (X Y : Nat) : Nat → List (List Int)
  | 0 => R
  | k + 1 => upd (stepTo R pl s X Y k) k (mixAt pl X Y k) s
def zeroR (n : Nat) : List (List Int) := List.replicate n [0, 0, 0, 0]
def mixR (X Y : Nat) (pls : List (List Int)) (xs : List Int) : Nat → List (List Int)
  | 0 => zeroR (X * Y)
  | i + 1 => stepTo (mixR X Y pls xs i) (pls.getD i []) (xs.getD i 0) X Y (X * Y)

/-- Rows of four numbers, each within bounds. -/
def Four (R : List (List Int)) (n : Nat) (B : Int) : Prop := R.length = n ∧ ∀ (k : Nat) (rs : List Int), R[k]? = some rs → rs.length = 4 ∧ ∀ (q : Nat) (x : Int), rs[q]? = some x → 0 ≤ x ∧ x ≤ B
theorem Four.zero (n : Nat) : Four (zeroR n) n 0 := by
  refine ⟨by simp [zeroR], fun k rs h => ?_⟩
  unfold zeroR at h
  rw [List.getElem?_replicate] at h
  split at h
  · cases h
    refine ⟨rfl, fun q x hx => ?_⟩
    have : q = 0 ∨ q = 1 ∨ q = 2 ∨ q = 3 := by have := (List.getElem?_eq_some_iff.1 hx).1; simp at this; omega
    rcases this with rfl | rfl | rfl | rfl <;> (simp at hx; omega)
  · cases h
theorem Four.upd {R : List (List Int)} {n : Nat} {B : Int} (h : Four R n B) (k at_ : Nat) (s : Int) (hs : 0 ≤ s ∧ s ≤ 1000) : Four (upd R k at_ s) n (B + 1000) := by
  obtain ⟨hl, hr⟩ := h
  refine ⟨by unfold Go.Proofs.Ytnmnmnpeoiblhaa.upd; rw [List.length_set]; exact hl, fun j rs hj => ?_⟩
  unfold Go.Proofs.Ytnmnmnpeoiblhaa.upd at hj
  rw [List.getElem?_set] at hj
  split at hj
  · rename_i e
    subst e
    split at hj
    · rename_i hk
      cases hj
      have hg := List.getElem?_eq_getElem hk
      obtain ⟨h4, hx⟩ := hr k _ hg
      rw [List.getD_eq_getElem?_getD, hg]
      simp only [Option.getD_some]
      refine ⟨by rw [List.length_set]; exact h4, fun q x hq => ?_⟩
      rw [List.getElem?_set] at hq
      split at hq
      · split at hq
        · rename_i hq4
          cases hq
          rw [List.getD_eq_getElem?_getD, List.getElem?_eq_getElem hq4, Option.getD_some]
          have := hx at_ _ (List.getElem?_eq_getElem hq4)
          omega
        · cases hq
      · have := hx q x hq; omega
    · cases hj
  · obtain ⟨h4, hx⟩ := hr j rs hj
    exact ⟨h4, fun q x hq => by have := hx q x hq; omega⟩
theorem Four.mono {R : List (List Int)} {n : Nat} {B C : Int} (h : Four R n B) (hBC : B ≤ C) : Four R n C :=
  ⟨h.1, fun k rs hr => ⟨(h.2 k rs hr).1, fun q x hq => by have := (h.2 k rs hr).2 q x hq; omega⟩⟩
theorem Four.step {R : List (List Int)} {n : Nat} {B : Int} (h : Four R n B) (pl : List Int) (s : Int) (hs : 0 ≤ s ∧ s ≤ 1000) (X Y : Nat) (k : Nat) : Four (stepTo R pl s X Y k) n (B + 1000 * k) := by
  induction k with
  | zero => simpa [stepTo] using h
  | succ k ih =>
    have := ih.upd k (mixAt pl X Y k) s hs
    exact this.mono (by push_cast; omega)
theorem Four.mix {X Y : Nat} (pls : List (List Int)) {xs : List Int} (hx : ∀ (j : Nat) (x : Int), xs[j]? = some x → 0 ≤ x ∧ x ≤ 1000) (hn : X * Y ≤ 9) (i : Nat) : Four (mixR X Y pls xs i) (X * Y) (9000 * i) := by
  induction i with
  | zero => simpa [mixR] using Four.zero (X * Y)
  | succ i ih =>
    have hs : 0 ≤ xs.getD i 0 ∧ xs.getD i 0 ≤ 1000 := by
      rw [List.getD_eq_getElem?_getD]
      cases hc : xs[i]? with
      | none => simp
      | some z => exact hx i z hc
    have := ih.step (pls.getD i []) (xs.getD i 0) hs X Y (X * Y)
    exact this.mono (by push_cast; omega)
theorem Four.size {R : List (List Int)} {n : Nat} {B : Int} (h : Four R n B) : sumLen R ≤ 4 * n := by
  have : ∀ (R : List (List Int)), (∀ rs ∈ R, rs.length = 4) → sumLen R = 4 * R.length := by
    intro R
    induction R with
    | nil => intro _; rfl
    | cons r R ih =>
      intro hh
      have h1 := hh r (List.mem_cons_self ..)
      have h2 := ih (fun rs hrs => hh rs (List.mem_cons_of_mem _ hrs))
      have : sumLen (r :: R) = r.length + sumLen R := by simp [sumLen]
      rw [this, h1, h2, List.length_cons]
      omega
  rw [this R (fun rs hrs => by obtain ⟨k, hk⟩ := List.mem_iff_getElem?.1 hrs; exact (h.2 k rs hk).1), h.1]
  exact Nat.le_refl _

/-- A play's numbers are 0 or 1. -/
theorem playsTo_get {n M i : Nat} (h : i < M) : (playsTo n M)[i]? = some (bitsTo n i n) := by simp [playsTo, h]
theorem bitsTo_get {n k m j : Nat} (h : j < m) : (bitsTo n k m)[j]? = some ((k / 2 ^ (n - 1 - j) % 2 : Nat) : Int) := by simp [bitsTo, h]
theorem bitsTo_bit {n k m j : Nat} (h : j < m) : ∃ b : Nat, b ≤ 1 ∧ (bitsTo n k m)[j]? = some (b : Int) ∧ bitN (bitsTo n k m) j = b := by
  refine ⟨k / 2 ^ (n - 1 - j) % 2, by omega, bitsTo_get h, ?_⟩
  unfold bitN
  rw [List.getD_eq_getElem?_getD, bitsTo_get h, Option.getD_some, Int.toNat_natCast]

/-- The mixture's box. -/
def mixtD (x y : Int) (xs : List Int) : BoxD := if sharesB x y xs then { X := x, Y := y, Whole := xs.sum, Rows := mixR x.toNat y.toNat (playsTo (x.toNat + y.toNat) (2 ^ (x.toNat + y.toNat))) xs (2 ^ (x.toNat + y.toNat)) } else { X := 0, Y := 0, Whole := 0, Rows := [] }
theorem mixtD_size (x y : Int) (xs : List Int) : (mixtD x y xs).Rows.length + sumLen (mixtD x y xs).Rows ≤ 4194304 := by
  unfold mixtD
  split
  · rename_i h
    unfold sharesB at h
    simp only [Bool.and_eq_true] at h
    obtain ⟨h1, _, h3, _⟩ := h
    obtain ⟨⟨hx0, hx1⟩, hy0, hy1⟩ := sizesB_iff.1 h1
    have hn : x.toNat * y.toNat ≤ 9 := Nat.mul_le_mul (show x.toNat ≤ 3 by omega) (show y.toNat ≤ 3 by omega)
    have hf := Four.mix (X := x.toNat) (Y := y.toNat) (playsTo (x.toNat + y.toNat) (2 ^ (x.toNat + y.toNat))) (xs := xs) (fun j z hz => allIn_get h3 hz) hn (2 ^ (x.toNat + y.toNat))
    have h5 := hf.size
    have h6 := hf.1
    simp only
    omega
  · simp [sumLen]
end Go.Proofs.Ytnmnmnpeoiblhaa
set_option linter.unusedSimpArgs false
set_option linter.unusedVariables false
namespace Go.Proofs.Ytnmnmnpeoiblhaa
open Go.RowKit

theorem mid_set {lo hi : Nat} {w : World} {p : Addr} (h1 : lo ≤ p.block) (h2 : p.block < hi) (u : Value) : Mid lo hi w (w.setCell p u) :=
  ⟨rfl, rfl, rfl, by simp [World.setCell], fun k _ hx => Below.heap_setCell _ _ _ _ (by omega)⟩
theorem mid_drew {lo hi : Nat} {w w' : World} (h : Mid lo hi w w') : Mid lo hi w w'.drew := ⟨h.os, h.tape, h.output, h.size, h.block⟩

/-- The box variable in block gb, its rows below P0; since world wp nothing else was turned. -/
structure MixS (lo gb P0 : Nat) (wp wz : World) (x y whole : Int) (R : List (List Int)) (a : Option Addr) (n c : Nat) (vs : List Value) : Prop where
  g1 : lo ≤ gb
  g2 : gb < P0
  g3 : P0 ≤ wp.heap.size
  len : R.length = n
  box : wz.heap[gb]? = some (.cells #[.int .i64 x, .int .i64 y, .int .i64 whole, .slice a n c] 26 (0, 0))
  rows : OwnII 27 3 lo P0 wz (.slice a n c) R vs
  mid : Mid lo P0 wp wz
section
variable {lo gb P0 : Nat} {wp wz : World} {x y whole : Int} {R : List (List Int)} {a : Option Addr} {n c : Nat} {vs : List Value}
theorem MixS.cells (h : MixS lo gb P0 wp wz x y whole R a n c vs) :
    (wz.cell? ⟨gb, 0, none⟩ = some (.int .i64 x) ∧ wz.cell? ⟨gb, 1, none⟩ = some (.int .i64 y) ∧ wz.cell? ⟨gb, 2, none⟩ = some (.int .i64 whole) ∧ wz.cell? ⟨gb, 3, none⟩ = some (.slice a n c)) ∧ (∀ o, wz.frozen? ⟨gb, o, none⟩ = false) := by
  refine ⟨⟨?_, ?_, ?_, ?_⟩, fun o => ?_⟩ <;> simp [World.cell?, World.frozen?, h.box]
theorem MixS.drew (h : MixS lo gb P0 wp wz x y whole R a n c vs) : MixS lo gb P0 wp wz.drew x y whole R a n c vs :=
  ⟨h.g1, h.g2, h.g3, h.len, h.box, h.rows.sameHeap rfl, mid_drew h.mid⟩
theorem MixS.sameHeap {wz' : World} (h : MixS lo gb P0 wp wz x y whole R a n c vs) (d : Drw wz wz') : MixS lo gb P0 wp wz' x y whole R a n c vs :=
  ⟨h.g1, h.g2, h.g3, h.len, by rw [d.heap]; exact h.box, h.rows.sameHeap d.heap, h.mid.trans (Mid.of_below (d.below _) (Nat.le_refl _))⟩
theorem MixS.addWhole (h : MixS lo gb P0 wp wz x y whole R a n c vs) (u : Int) : MixS lo gb P0 wp (wz.setCell ⟨gb, 2, none⟩ (.int .i64 u)) x y u R a n c vs := by
  refine ⟨h.g1, h.g2, h.g3, h.len, ?_, ?_, h.mid.trans (mid_set h.g1 h.g2 _)⟩
  · simp [World.setCell, Array.getElem?_modify, h.box]
  · exact h.rows.tag h.box (by decide) (by decide) (fun k hk => Below.heap_setCell _ _ _ _ (by simpa using fun e => hk e))
theorem MixS.row (h : MixS lo gb P0 wp wz x y whole R a n c vs) {k : Nat} {rs : List Int} (hk : R[k]? = some rs) (h4 : rs.length = 4) :
    ∃ tb rb rc : Nat, a = some ⟨tb, 0, none⟩ ∧ wz.cell? ⟨tb, k, none⟩ = some (.slice (some ⟨rb, 0, none⟩) 4 rc) ∧ (∀ (q : Nat) (z : Int), rs[q]? = some z → wz.cell? ⟨rb, q, none⟩ = some (.int .i64 z)) ∧ (∀ q, wz.frozen? ⟨rb, q, none⟩ = false) ∧
      ∀ (q : Nat) (u : Int), q < 4 → MixS lo gb P0 wp (wz.setCell ⟨rb, q, none⟩ (.int .i64 u)) x y whole (R.set k (rs.set q u)) a n c vs := by
  have hkl := (List.getElem?_eq_some_iff.1 hk).1
  have hvl : k < vs.length := by rw [h.rows.len]; exact hkl
  obtain ⟨ta, tb, tc, htv, _, hta, htc, _⟩ := h.rows.top.shape
  obtain ⟨rfl, _⟩ := hta (by omega)
  obtain ⟨rfl, _, _⟩ := Value.slice.inj htv
  have hv := List.getElem?_eq_getElem hvl
  have hrow := h.rows.row k _ rs hv hk
  have htk := htc k _ hv
  obtain ⟨ra, rb, rc, hrv, _, hra, hrc, hrf⟩ := hrow.shape
  rw [ints_length, h4] at hrv hra hrf
  obtain ⟨rfl, hlb, hub, hwb⟩ := hra (by decide)
  rw [hrv] at htk hv hrow
  refine ⟨tb, rb, rc, rfl, htk, fun q z hz => hrc q _ (by simp [ints, hz]), hrf (by decide), fun q u hq => ?_⟩
  have hset := hrow.set (g := rb) (j := q) rfl (by rw [ints_length, h4]; exact hq) (.int .i64 u)
  have hints : (ints rs).set q (.int .i64 u) = ints (rs.set q u) := by simp [ints, List.map_set]
  rw [hints] at hset
  have hne : gb ≠ rb := fun e => hrow.ne_tag h.box (by decide) (by rw [e]; rfl)
  refine ⟨h.g1, h.g2, h.g3, by rw [List.length_set]; exact h.len, ?_, h.rows.rowChanged hv (grown_setCell wz rb q _) hset, h.mid.trans (mid_set hlb hub _)⟩
  rw [Below.heap_setCell _ _ _ _ (by simpa using fun e => hne e)]
  exact h.box
end
end Go.Proofs.Ytnmnmnpeoiblhaa
