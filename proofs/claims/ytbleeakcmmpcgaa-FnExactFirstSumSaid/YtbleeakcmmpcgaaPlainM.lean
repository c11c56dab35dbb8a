/- A mixture's rows: what the nested loops lay. No program in sight. -/
import Derived.Test.YtbleeakcmmpcgaaFnPlays
import Derived.Test.YtbleeakcmmpcgaaFnShares
set_option linter.unusedSimpArgs false
set_option linter.unusedVariables false
namespace Go.Proofs.Ytbleeakcmmpcgaa

/-- One number of one row is raised. -/
def upd (R : List (List Int)) (k at_ : Nat) (s : Int) : List (List Int) := R.set k ((R.getD k []).set at_ ((R.getD k []).getD at_ 0 + s))
/-- Where a play puts its share. -/
def bitN (pl : List Int) (j : Nat) : Nat := (pl.getD j 0).toNat
def mixAt (pl : List Int) (X Y k : Nat) : Nat := 2 * bitN pl (k / Y) + bitN pl (X + k % Y)
def stepTo (R : List (List Int)) (pl : List Int) (s : Int) (X Y : Nat) : Nat → List (List Int)
  | 0 => R
  | k + 1 => upd (stepTo R pl s X Y k) k (mixAt pl X Y k) s
def zeroR (n : Nat) : List (List Int) := List.replicate n [0, 0, 0, 0]
def mixR (X Y : Nat) (pls : List (List Int)) (xs : List Int) : Nat → List (List Int)
  | 0 => zeroR (X * Y)
  | i + 1 => stepTo (mixR X Y pls xs i) (pls.getD i []) (xs.getD i 0) X Y (X * Y)

/-- Rows of four numbers, each within bounds. -/
def Four (R : List (List Int)) (n : Nat) (B : Int) : Prop := R.length = n ∧ ∀ (k : Nat) (rs : List Int), R[k]? = some rs → rs.length = 4 ∧ ∀ (q : Nat) (x : Int), rs[q]? = some x → 0 ≤ x ∧ x ≤ B
theorem Four.zero (n : Nat) : Four (zeroR n) n 0 := by
  refine ⟨by simp [zeroR], fun k rs h => ?_⟩
  unfold zeroR at h
  rw [List.getElem?_replicate] at h
  split at h
  · cases h
    refine ⟨rfl, fun q x hx => ?_⟩
    have : q = 0 ∨ q = 1 ∨ q = 2 ∨ q = 3 := by have := (List.getElem?_eq_some_iff.1 hx).1; simp at this; omega
    rcases this with rfl | rfl | rfl | rfl <;> (simp at hx; omega)
  · cases h
theorem Four.upd {R : List (List Int)} {n : Nat} {B : Int} (h : Four R n B) (k at_ : Nat) (s : Int) (hs : 0 ≤ s ∧ s ≤ 1000) : Four (upd R k at_ s) n (B + 1000) := by
  obtain ⟨hl, hr⟩ := h
  refine ⟨by unfold Go.Proofs.Ytbleeakcmmpcgaa.upd; rw [List.length_set]; exact hl, fun j rs hj => ?_⟩
  unfold Go.Proofs.Ytbleeakcmmpcgaa.upd at hj
  rw [List.getElem?_set] at hj
  split at hj
  · rename_i e
    subst e
    split at hj
    · rename_i hk
      cases hj
      have hg := List.getElem?_eq_getElem hk
      obtain ⟨h4, hx⟩ := hr k _ hg
      rw [List.getD_eq_getElem?_getD, hg]
      simp only [Option.getD_some]
      refine ⟨by rw [List.length_set]; exact h4, fun q x hq => ?_⟩
      rw [List.getElem?_set] at hq
      split at hq
      · split at hq
        · rename_i hq4
          cases hq
          rw [List.getD_eq_getElem?_getD, List.getElem?_eq_getElem hq4, Option.getD_some]
          have := hx at_ _ (List.getElem?_eq_getElem hq4)
          omega
        · cases hq
      · have := hx q x hq; omega
    · cases hj
  · obtain ⟨h4, hx⟩ := hr j rs hj
    exact ⟨h4, fun q x hq => by have := hx q x hq; omega⟩
theorem Four.mono {R : List (List Int)} {n : Nat} {B C : Int} (h : Four R n B) (hBC : B ≤ C) : Four R n C :=
  ⟨h.1, fun k rs hr => ⟨(h.2 k rs hr).1, fun q x hq => by have := (h.2 k rs hr).2 q x hq; omega⟩⟩
theorem Four.step {R : List (List Int)} {n : Nat} {B : Int} (h : Four R n B) (pl : List Int) (s : Int) (hs : 0 ≤ s ∧ s ≤ 1000) (X Y : Nat) (k : Nat) : Four (stepTo R pl s X Y k) n (B + 1000 * k) := by
  induction k with
  | zero => simpa [stepTo] using h
  | succ k ih =>
    have := ih.upd k (mixAt pl X Y k) s hs
    exact this.mono (by push_cast; omega)
theorem Four.mix {X Y : Nat} (pls : List (List Int)) {xs : List Int} (hx : ∀ (j : Nat) (x : Int), xs[j]? = some x → 0 ≤ x ∧ x ≤ 1000) (hn : X * Y ≤ 9) (i : Nat) : Four (mixR X Y pls xs i) (X * Y) (9000 * i) := by
  induction i with
  | zero => simpa [mixR] using Four.zero (X * Y)
  | succ i ih =>
    have hs : 0 ≤ xs.getD i 0 ∧ xs.getD i 0 ≤ 1000 := by
      rw [List.getD_eq_getElem?_getD]
      cases hc : xs[i]? with
      | none => simp
      | some z => exact hx i z hc
    have := ih.step (pls.getD i []) (xs.getD i 0) hs X Y (X * Y)
    exact this.mono (by push_cast; omega)
theorem Four.size {R : List (List Int)} {n : Nat} {B : Int} (h : Four R n B) : sumLen R ≤ 4 * n := by
  have : ∀ (R : List (List Int)), (∀ rs ∈ R, rs.length = 4) → sumLen R = 4 * R.length := by
    intro R
    induction R with
    | nil => intro _; rfl
    | cons r R ih =>
      intro hh
      have h1 := hh r (List.mem_cons_self ..)
      have h2 := ih (fun rs hrs => hh rs (List.mem_cons_of_mem _ hrs))
      have : sumLen (r :: R) = r.length + sumLen R := by simp [sumLen]
      rw [this, h1, h2, List.length_cons]
      omega
  rw [this R (fun rs hrs => by obtain ⟨k, hk⟩ := List.mem_iff_getElem?.1 hrs; exact (h.2 k rs hk).1), h.1]
  exact Nat.le_refl _

/-- A play's numbers are 0 or 1. -/
theorem playsTo_get {n M i : Nat} (h : i < M) : (playsTo n M)[i]? = some (bitsTo n i n) := by simp [playsTo, h]
theorem bitsTo_get {n k m j : Nat} (h : j < m) : (bitsTo n k m)[j]? = some ((k / 2 ^ (n - 1 - j) % 2 : Nat) : Int) := by simp [bitsTo, h]
theorem bitsTo_bit {n k m j : Nat} (h : j < m) : ∃ b : Nat, b ≤ 1 ∧ (bitsTo n k m)[j]? = some (b : Int) ∧ bitN (bitsTo n k m) j = b := by
  refine ⟨k / 2 ^ (n - 1 - j) % 2, by omega, bitsTo_get h, ?_⟩
  unfold bitN
  rw [List.getD_eq_getElem?_getD, bitsTo_get h, Option.getD_some, Int.toNat_natCast]

/-- The mixture's box. -/
def mixtD (x y : Int) (xs : List Int) : BoxD := if sharesB x y xs then { X := x, Y := y, Whole := xs.sum, Rows := mixR x.toNat y.toNat (playsTo (x.toNat + y.toNat) (2 ^ (x.toNat + y.toNat))) xs (2 ^ (x.toNat + y.toNat)) } else { X := 0, Y := 0, Whole := 0, Rows := [] }
theorem mixtD_size (x y : Int) (xs : List Int) : (mixtD x y xs).Rows.length + sumLen (mixtD x y xs).Rows ≤ 4194304 := by
  unfold mixtD
  split
  · rename_i h
    unfold sharesB at h
    simp only [Bool.and_eq_true] at h
    obtain ⟨h1, _, h3, _⟩ := h
    obtain ⟨⟨hx0, hx1⟩, hy0, hy1⟩ := sizesB_iff.1 h1
    have hn : x.toNat * y.toNat ≤ 9 := Nat.mul_le_mul (show x.toNat ≤ 3 by omega) (show y.toNat ≤ 3 by omega)
    have hf := Four.mix (X := x.toNat) (Y := y.toNat) (playsTo (x.toNat + y.toNat) (2 ^ (x.toNat + y.toNat))) (xs := xs) (fun j z hz => allIn_get h3 hz) hn (2 ^ (x.toNat + y.toNat))
    have h5 := hf.size
    have h6 := hf.1
    simp only
    omega
  · simp [sumLen]
end Go.Proofs.Ytbleeakcmmpcgaa
