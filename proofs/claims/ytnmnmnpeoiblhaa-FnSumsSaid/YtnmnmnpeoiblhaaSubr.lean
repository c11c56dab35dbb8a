/- MixtureBox: the program's mixture. A mixture's box is a box: its rows' numbers sum to the shares' sum. No program in sight. MixtureBox, IsMixture: contracts of the program's and the reference's functions. -/
import Derived.Test.YtnmnmnpeoiblhaaSubq
import Derived.Test.YtnmnmnpeoiblhaaSuan
import Derived.Test.YtnmnmnpeoiblhaaSuac
import Derived.Test.YtnmnmnpeoiblhaaSuay
set_option linter.unusedSimpArgs false
set_option linter.unusedVariables false
namespace Go.Proofs.Ytnmnmnpeoiblhaa
open Go.RowKit

/-- The plays' rows, wherever nothing of them was turned. -/
theorem plays_fixed {n M i P0 P1 lo cp : Nat} {wp : World} {ap : Option Addr} {pvs : List Value} (oP : OwnII 27 3 P0 P1 wp (.slice ap M cp) (playsTo n M) pvs) (hi : i < M) (h0 : 0 < n) :
    ∃ pb qb qc : Nat, ap = some ⟨pb, 0, none⟩ ∧ ∀ W : World, Mid lo P0 wp W → W.cell? ⟨pb, i, none⟩ = some (.slice (some ⟨qb, 0, none⟩) n qc) ∧
      ∀ j : Nat, j < n → ∃ b : Nat, b ≤ 1 ∧ bitN (bitsTo n i n) j = b ∧ W.cell? ⟨qb, j, none⟩ = some (.int .i64 (b : Int)) := by
  have hpl : (playsTo n M).length = M := by simp [playsTo]
  have hvl : pvs.length = M := by rw [oP.len, hpl]
  obtain ⟨ta, tb, tc, htv, _, hta, htc, _⟩ := oP.top.shape
  obtain ⟨rfl, hlb, _, hwb⟩ := hta (by omega)
  obtain ⟨rfl, _, _⟩ := Value.slice.inj htv
  have hv := List.getElem?_eq_getElem (show i < pvs.length by omega)
  have hrow := oP.row i _ _ hv (playsTo_get hi)
  have hbl : (bitsTo n i n).length = n := by simp [bitsTo]
  obtain ⟨ra, rb, rc, hrv, _, hra, hrc, _⟩ := hrow.shape
  rw [ints_length, hbl] at hrv hra
  obtain ⟨rfl, hrlb, _, hrwb⟩ := hra h0
  have htk := htc i _ hv
  rw [hrv] at htk
  refine ⟨tb, rb, rc, rfl, fun W hm => ⟨?_, fun j hj => ?_⟩⟩
  · rw [World.cell?_of_block (w := wp) (a := ⟨tb, i, none⟩) (hm.block tb hwb (Or.inr hlb))]
    exact htk
  · obtain ⟨b, hb, hg, hbn⟩ := bitsTo_bit (n := n) (k := i) hj
    refine ⟨b, hb, hbn, ?_⟩
    rw [World.cell?_of_block (w := wp) (a := ⟨rb, j, none⟩) (hm.block rb hrwb (Or.inr hrlb))]
    exact hrc j _ (by simp [ints, hg])
end Go.Proofs.Ytnmnmnpeoiblhaa
set_option linter.unusedSimpArgs false
set_option linter.unusedVariables false
namespace Go.Proofs.Ytnmnmnpeoiblhaa

theorem sum_set_add : ∀ (l : List Int) (n : Nat) (s : Int), n < l.length → (l.set n (l.getD n 0 + s)).sum = l.sum + s
  | [], n, s, h => by simp at h
  | x :: l, 0, s, _ => by
    show (x + s) + l.sum = x + l.sum + s
    omega
  | x :: l, n + 1, s, h => by
    have ih := sum_set_add l n s (by simpa using h)
    show x + (l.set n (l.getD n 0 + s)).sum = x + l.sum + s
    rw [ih]
    omega
def RowSum (R : List (List Int)) (f : Nat → Int) : Prop := ∀ (k : Nat) (rs : List Int), R[k]? = some rs → rs.sum = f k
theorem RowSum.upd {R : List (List Int)} {f : Nat → Int} (h : RowSum R f) {k n : Nat} {s : Int} (h4 : ∀ rs, R[k]? = some rs → n < rs.length) : RowSum (upd R k n s) (fun j => if j = k then f k + s else f j) := by
  intro j rs hj
  unfold Go.Proofs.Ytnmnmnpeoiblhaa.upd at hj
  rw [List.getElem?_set] at hj
  by_cases e : k = j
  · subst e
    rw [if_pos rfl] at hj
    split at hj
    · rename_i hk
      have hg := List.getElem?_eq_getElem hk
      rw [List.getD_eq_getElem?_getD, hg, Option.getD_some] at hj
      cases hj
      simp only [if_true]
      rw [sum_set_add _ _ _ (h4 _ hg), h k _ hg]
    · cases hj
  · rw [if_neg e] at hj
    have e2 : ¬ j = k := fun e' => e e'.symm
    simp only [if_neg e2]
    exact h j rs hj
theorem bitN_le (n k m j : Nat) : bitN (bitsTo n k m) j ≤ 1 := by
  unfold bitN
  rw [List.getD_eq_getElem?_getD]
  by_cases h : j < m
  · rw [bitsTo_get h, Option.getD_some, Int.toNat_natCast]
    omega
  · rw [List.getElem?_eq_none (by simp [bitsTo]; omega)]
    simp
theorem mixAt_lt (n k m X Y q : Nat) : mixAt (bitsTo n k m) X Y q < 4 := by
  unfold mixAt
  have h1 := bitN_le n k m (q / Y)
  have h2 := bitN_le n k m (X + q % Y)
  omega
theorem RowSum.step {R : List (List Int)} {N : Nat} {B S s : Int} (hF : Four R N B) (hs : 0 ≤ s ∧ s ≤ 1000) (h : RowSum R (fun _ => S)) (n k m X Y : Nat) (q : Nat) :
    RowSum (stepTo R (bitsTo n k m) s X Y q) (fun j => if j < q then S + s else S) := by
  induction q with
  | zero => simpa [stepTo] using h
  | succ q ih =>
    have hFq := hF.step (bitsTo n k m) s hs X Y q
    have hu := ih.upd (k := q) (n := mixAt (bitsTo n k m) X Y q) (s := s) (fun rs hr => by rw [(hFq.2 q rs hr).1]; exact mixAt_lt n k m X Y q)
    intro j rs hj
    have := hu j rs hj
    rw [this]
    by_cases e : j = q
    · subst e
      simp
    · by_cases hlt : j < q
      · simp [e, hlt, Nat.lt_succ_of_lt hlt]
      · simp [e, hlt, show ¬ j < q + 1 by omega]
theorem zeroR_sum (n : Nat) : RowSum (zeroR n) (fun _ => 0) := by
  intro k rs h
  unfold zeroR at h
  rw [List.getElem?_replicate] at h
  split at h
  · cases h; rfl
  · cases h
theorem mix_sum {X Y n M : Nat} {xs : List Int} (hx : ∀ (j : Nat) (x : Int), xs[j]? = some x → 0 ≤ x ∧ x ≤ 1000) (hN : X * Y ≤ 9) (hl : xs.length = M) (i : Nat) (hi : i ≤ M) :
    RowSum (mixR X Y (playsTo n M) xs i) (fun _ => (xs.take i).sum) := by
  induction i with
  | zero => simpa [mixR] using zeroR_sum (X * Y)
  | succ i ih =>
    have hxi := List.getElem?_eq_getElem (show i < xs.length by omega)
    have hF := Four.mix (X := X) (Y := Y) (playsTo n M) hx hN i
    have hg : xs.getD i 0 = xs[i]'(by omega) := getD_some xs i 0 _ hxi
    have hb := hx i _ hxi
    have hst := RowSum.step hF (s := xs.getD i 0) (by rw [hg]; exact hb) (ih (by omega)) n i n X Y (X * Y)
    have hp : (playsTo n M).getD i [] = bitsTo n i n := getD_some _ i [] _ (playsTo_get (by omega))
    intro k rs hk
    have hk' : (stepTo (mixR X Y (playsTo n M) xs i) (bitsTo n i n) (xs.getD i 0) X Y (X * Y))[k]? = some rs := by rw [← hp]; exact hk
    have h1 := hst k rs hk'
    have hkl : k < X * Y := by
      have := (List.getElem?_eq_some_iff.1 hk').1
      have hlen := (hF.step (bitsTo n i n) (xs.getD i 0) (by rw [hg]; exact hb) X Y (X * Y)).1
      omega
    rw [h1]
    show (if k < X * Y then (xs.take i).sum + xs.getD i 0 else (xs.take i).sum) = (xs.take (i + 1)).sum
    rw [if_pos hkl, hg, sum_take xs i _ hxi]
theorem four_of {rs : List Int} {W B : Int} (h4 : rs.length = 4) (hb : ∀ (q : Nat) (x : Int), rs[q]? = some x → 0 ≤ x ∧ x ≤ B) (hs : rs.sum = W) : fourB rs W = true := by
  obtain ⟨p, q, r, s, rfl⟩ : ∃ p q r s : Int, rs = [p, q, r, s] := by
    match rs, h4 with
    | [p, q, r, s], _ => exact ⟨p, q, r, s, rfl⟩
  have h0 := hb 0 p rfl
  have h1 := hb 1 q rfl
  have h2 := hb 2 r rfl
  have h3 := hb 3 s rfl
  have hs' : p + (q + (r + (s + 0))) = W := hs
  refine fourB_iff.2 ⟨rfl, allIn_true (fun j x hj => ?_), hs⟩
  rw [inB_iff]
  match j, hj with
  | 0, hj => cases hj; omega
  | 1, hj => cases hj; omega
  | 2, hj => cases hj; omega
  | 3, hj => cases hj; omega
theorem mixt_box {x y : Int} {xs : List Int} (h : sharesB x y xs = true) : boxB (mixtD x y xs) = true := by
  have hD : mixtD x y xs = { X := x, Y := y, Whole := xs.sum, Rows := mixR x.toNat y.toNat (playsTo (x.toNat + y.toNat) (2 ^ (x.toNat + y.toNat))) xs (2 ^ (x.toNat + y.toNat)) } := by unfold mixtD; rw [if_pos h]
  rw [hD]
  unfold sharesB at h
  simp only [Bool.and_eq_true, decide_eq_true_eq] at h
  obtain ⟨h1, h2, h3, h4⟩ := h
  obtain ⟨⟨hx0, hx1⟩, hy0, hy1⟩ := sizesB_iff.1 h1
  have hn : x.toNat * y.toNat ≤ 9 := Nat.mul_le_mul (show x.toNat ≤ 3 by omega) (show y.toNat ≤ 3 by omega)
  have hf := Four.mix (X := x.toNat) (Y := y.toNat) (playsTo (x.toNat + y.toNat) (2 ^ (x.toNat + y.toNat))) (xs := xs) (fun j z hz => allIn_get h3 hz) hn (2 ^ (x.toNat + y.toNat))
  have hs := mix_sum (X := x.toNat) (Y := y.toNat) (n := x.toNat + y.toNat) (xs := xs) (fun j z hz => allIn_get h3 hz) hn h2 (2 ^ (x.toNat + y.toNat)) (Nat.le_refl _)
  refine boxB_iff.2 ⟨sizesB_iff.1 h1, inB_iff.1 h4, ?_, rowsB_true (fun k rs hk => ?_)⟩
  · show (((mixR _ _ _ _ _).length : Nat) : Int) = x * y
    rw [hf.1]
    obtain ⟨X, rfl⟩ := Int.eq_ofNat_of_zero_le (show 0 ≤ x by omega)
    obtain ⟨Y, rfl⟩ := Int.eq_ofNat_of_zero_le (show 0 ≤ y by omega)
    simp
  · obtain ⟨h5, h6⟩ := hf.2 k rs hk
    have h7 := hs k rs hk
    rw [List.take_of_length_le (by omega)] at h7
    exact four_of h5 h6 h7
end Go.Proofs.Ytnmnmnpeoiblhaa
set_option linter.unusedSimpArgs false
set_option linter.unusedVariables false
namespace Go.Proofs.Ytnmnmnpeoiblhaa
open Go.RowKit

/-- The mixture of shares that are shares. -/
def mixtE (x y : Int) (xs : List Int) : BoxD := { X := x, Y := y, Whole := xs.sum, Rows := mixR x.toNat y.toNat (playsTo (x.toNat + y.toNat) (2 ^ (x.toNat + y.toNat))) xs (2 ^ (x.toNat + y.toNat)) }
theorem mixtD_yes {x y : Int} {xs : List Int} (h : sharesB x y xs = true) : mixtD x y xs = mixtE x y xs := by unfold mixtD; rw [if_pos h]; rfl
theorem mixtD_no {x y : Int} {xs : List Int} (h : sharesB x y xs = false) : mixtD x y xs = zeroD := by unfold mixtD; rw [h]; rfl
theorem mixtE_len {x y : Int} {xs : List Int} (h : sharesB x y xs = true) : (mixtE x y xs).Rows.length = x.toNat * y.toNat := by
  have hb := mixt_box h
  rw [mixtD_yes h] at hb
  obtain ⟨⟨hx0, hy0⟩, _, hl, _⟩ := boxB_iff.1 hb
  have e1 : (mixtE x y xs).X = x := rfl
  have e2 : (mixtE x y xs).Y = y := rfl
  rw [e1] at hx0 hl
  rw [e2] at hy0 hl
  obtain ⟨X, rfl⟩ := Int.eq_ofNat_of_zero_le (show 0 ≤ x by omega)
  obtain ⟨Y, rfl⟩ := Int.eq_ofNat_of_zero_le (show 0 ≤ y by omega)
  rw [Int.toNat_natCast, Int.toNat_natCast]
  exact Int.ofNat_inj.1 (hl.trans (Int.natCast_mul X Y).symm)
theorem shares_parts {x y : Int} {xs : List Int} (h : sharesB x y xs = true) : ((1 ≤ x ∧ x ≤ 3) ∧ (1 ≤ y ∧ y ≤ 3)) ∧ xs.length = 2 ^ (x.toNat + y.toNat) ∧ allIn xs 0 1000 = true ∧ xs.sum ≤ 1000 := by
  unfold sharesB at h
  simp only [Bool.and_eq_true, decide_eq_true_eq] at h
  obtain ⟨h1, h2, h3, h4⟩ := h
  exact ⟨sizesB_iff.1 h1, h2, h3, (inB_iff.1 h4).2⟩
theorem l3Mixture_int (x y : Int) (v : Value) (xs : List Int) (hs : sharesB x y xs = true) (w : World) (h : RdI w v xs) :
    Calls Try.prog 115 #[.int .i64 x, .int .i64 y, v] w (BoxOnly w x y xs.sum (mixtE x y xs).Rows) := by
  obtain ⟨⟨hx, hy⟩, h2, h3, h4⟩ := shares_parts hs
  obtain ⟨X, rfl⟩ := Int.eq_ofNat_of_zero_le (show 0 ≤ x by omega)
  obtain ⟨Y, rfl⟩ := Int.eq_ofNat_of_zero_le (show 0 ≤ y by omega)
  exact l3Mixture_any X Y (by omega) (by omega) v xs w h (by simpa using h2) h3 h4


def isMixtOk (b : BoxD) (xs : List Int) : Bool := boxB b && sharesB b.X b.Y xs
def isMixtD (b : BoxD) (xs : List Int) : Bool := isMixtOk b xs && alikeR b.Rows (mixtE b.X b.Y xs).Rows b.Whole xs.sum
theorem isMixt_same {b : BoxD} {xs : List Int} (hb : boxB b = true) (hs : sharesB b.X b.Y xs = true) : sameB b (mixtE b.X b.Y xs) = true :=
  sameB_iff.2 ⟨hb, mixtD_yes hs ▸ mixt_box hs, rfl, rfl⟩
end Go.Proofs.Ytnmnmnpeoiblhaa
