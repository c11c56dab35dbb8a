/- Quiet boxes: plays and products are quiet. No program in sight. What a law's row hands to its walk: arguments opened, and the row closed from the walk's contract. -/
import Derived.Test.YtcifpfdlkpddeaaGreatDoorQxau
import Derived.Test.YtcifpfdlkpddeaaGreatDoorQxaw
import Derived.Test.YtcifpfdlkpddeaaGreatDoorQxax
import Derived.Test.YtcifpfdlkpddeaaGreatDoorQxbb
import Derived.Test.YtcifpfdlkpddeaaGreatDoorQxay
import Derived.Test.YtcifpfdlkpddeaaGreatDoorQxaz
import Derived.Test.YtcifpfdlkpddeaaGreatDoorQxaa
import Derived.Test.YtcifpfdlkpddeaaGreatDoorRows
import Derived.Deep.Matrix
set_option linter.unusedSimpArgs false
set_option linter.unusedVariables false
namespace Go.Proofs.YtcifpfdlkpddeaaGreatDoor

theorem mem_getDq {fs : List Int} {lo hi : Int} (h : allIn fs lo hi = true) (i : Nat) (hi' : i < fs.length) : lo ≤ fs.getD i 0 ∧ fs.getD i 0 ≤ hi := by
  obtain ⟨f, hf⟩ : ∃ f, fs[i]? = some f := ⟨_, List.getElem?_eq_getElem hi'⟩
  have := allIn_get h hf
  rw [List.getD_eq_getElem?_getD, hf]
  exact this
theorem nat2q {a : Nat} (h : a < 2) : a = 0 ∨ a = 1 := by omega
theorem bits_atq {fl : List Int} {n : Int} (h : bitsB fl n = true) (i : Nat) (hi : (i : Int) < n) : ∃ f : Nat, fl.getD i 0 = (f : Int) ∧ f < 2 := by
  obtain ⟨hall, hlen⟩ := bits_iff.1 h
  have := mem_getDq hall i (by omega)
  obtain ⟨f, e⟩ := Int.eq_ofNat_of_zero_le this.1
  exact ⟨f, e, by omega⟩
theorem quiet_iffq {b : BoxD} : quietB b = true ↔ (∀ x y : Nat, (x : Int) < b.X → (y : Int) < b.Y → oneB b 0 x y = oneB b 0 x 0) ∧ (∀ x y : Nat, (x : Int) < b.X → (y : Int) < b.Y → oneB b 1 x y = oneB b 1 0 y) := by
  unfold quietB
  constructor
  · intro h
    have hn : loudF b = none := by cases e : loudF b <;> simp_all
    refine ⟨fun x y hx hy => ?_, fun x y hx hy => ?_⟩
    · by_cases e : oneB b 0 x y = oneB b 0 x 0
      · exact e
      · exfalso
        have ht := loudX_true hy e
        unfold loudF at hn
        cases hf : (List.range b.X.toNat).find? (loudX b) with
        | some z => rw [hf] at hn; cases hn
        | none =>
          have := List.find?_eq_none.1 hf x (List.mem_range.2 (by omega))
          exact this ht
    · by_cases e : oneB b 1 x y = oneB b 1 0 y
      · exact e
      · exfalso
        have ht := loudY_true hx e
        unfold loudF at hn
        cases hf : (List.range b.X.toNat).find? (loudX b) with
        | some z => rw [hf] at hn; cases hn
        | none =>
          rw [hf] at hn
          simp only [Option.map_eq_none_iff] at hn
          have := List.find?_eq_none.1 hn y (List.mem_range.2 (by omega))
          exact this ht
  · rintro ⟨h1, h2⟩
    have e1 : (List.range b.X.toNat).find? (loudX b) = none := by
      refine List.find?_eq_none.2 fun x hx => ?_
      have hx' := List.mem_range.1 hx
      unfold loudX
      simp only [List.any_eq_true, not_exists, not_and, List.mem_range, decide_eq_true_eq, Classical.not_not]
      exact fun y hy => h1 x y (by omega) (by omega)
    have e2 : (List.range b.Y.toNat).find? (loudY b) = none := by
      refine List.find?_eq_none.2 fun y hy => ?_
      have hy' := List.mem_range.1 hy
      unfold loudY
      simp only [List.any_eq_true, not_exists, not_and, List.mem_range, decide_eq_true_eq, Classical.not_not]
      exact fun x hx => h2 x y (by omega) (by omega)
    unfold loudF
    rw [e1, e2]
    rfl
theorem playN_atq {x : Int} {ps : List Int} {wh : Int} (i j a c p q : Nat) (hp : ps.getD i 0 = (p : Int)) (hq : ps.getD (x.toNat + j) 0 = (q : Int)) : playN x ps wh i j a c = if p = a ∧ q = c then wh else 0 := by
  unfold playN
  simp only [Int.toNat_natCast, hp, hq]
  by_cases h : p = a ∧ q = c
  · rw [if_pos h, if_pos ⟨by omega, by omega⟩]
  · rw [if_neg h, if_neg (fun h' => h ⟨by omega, by omega⟩)]
theorem playZ_boxq {x y : Int} {ps : List Int} {wh : Int} (hs : sizesB x y = true) (hp : bitsB ps (x + y) = true) (h1 : 1 ≤ wh) (h2 : wh ≤ 1000) : boxB (boxOf x y wh (playN x ps wh)) = true := by
  have hs' := sizesB_iff.1 hs
  rw [boxOf_boxB _ _ _ _ hs]
  · exact inB_iff.2 (by omega)
  · intro i j hi hj
    obtain ⟨p, hp1, p2⟩ := bits_atq hp i (by omega)
    obtain ⟨q, hq1, q2⟩ := bits_atq hp (x.toNat + j) (by omega)
    have e := fun a c : Nat => playN_atq (x := x) (ps := ps) (wh := wh) i j a c p q hp1 hq1
    have e00 := e 0 0
    have e01 := e 0 1
    have e10 := e 1 0
    have e11 := e 1 1
    rw [show ((0 : Nat) : Int) = 0 from rfl] at *
    rw [show ((1 : Nat) : Int) = 1 from rfl] at *
    unfold FourN
    rw [e00, e01, e10, e11]
    rcases nat2q p2 with rfl | rfl <;> rcases nat2q q2 with rfl | rfl <;> simp <;> omega
theorem playL_boxq {x y : Int} {ps : List Int} {wh : Int} (hs : sizesB x y = true) (hp : bitsB ps (x + y) = true) (h1 : 1 ≤ wh) : playL (boxOf x y wh (playN x ps wh)) = ps := by
  have hs' := sizesB_iff.1 hs
  have l1 := (bits_iff.1 hp).2
  have hl : (playL (boxOf x y wh (playN x ps wh))).length = ps.length := by
    unfold playL
    rw [seqTo_len]
    show x.toNat + y.toNat = _
    omega
  refine eq_of_get hl fun k hk => ?_
  rw [hl] at hk
  obtain ⟨P, e1, P2⟩ := bits_atq hp k (by omega)
  have hk' := List.getElem?_eq_getElem hk
  have hpk : ps[k]? = some (P : Int) := by
    rw [List.getD_eq_getElem?_getD, hk', Option.getD_some] at e1
    rw [hk', e1]
  rw [hpk]
  unfold playL
  rw [seqTo_get _ _ _ (by show k < x.toNat + y.toNat; omega)]
  congr 1
  unfold playAt
  have hww : wh / wh = 1 := Int.ediv_self (by omega)
  have z0 : (0 : Int) / wh = 0 := Int.zero_ediv _
  show _ / wh = _
  by_cases hkx : (k : Int) < x
  · rw [countAt_x (b := boxOf x y wh (playN x ps wh)) (show (k : Int) < x from hkx), oneB_0]
    obtain ⟨Q, e2, Q2⟩ := bits_atq hp (x.toNat + 0) (by omega)
    have n10 := numB_boxOf x y wh (playN x ps wh) k 0 1 0 hkx (by omega) (by omega) (by omega)
    have n11 := numB_boxOf x y wh (playN x ps wh) k 0 1 1 hkx (by omega) (by omega) (by omega)
    rw [playN_atq k 0 1 0 P Q e1 e2] at n10
    rw [playN_atq k 0 1 1 P Q e1 e2] at n11
    rw [show ((0 : Nat) : Int) = 0 from rfl] at *
    rw [show ((1 : Nat) : Int) = 1 from rfl] at *
    rw [n10, n11]
    rcases nat2q P2 with rfl | rfl <;> rcases nat2q Q2 with rfl | rfl <;> simp [hww]
  · obtain ⟨j, hj⟩ : ∃ j, x.toNat + j = k := ⟨k - x.toNat, by omega⟩
    rw [countAt_y (b := boxOf x y wh (playN x ps wh)) (show (0 : Int) ≤ x by omega) (show x.toNat + j = k from hj), oneB_1]
    obtain ⟨Q, e2, Q2⟩ := bits_atq hp 0 (by omega)
    have e1' : ps.getD (x.toNat + j) 0 = (P : Int) := by rw [hj]; exact e1
    have n01 := numB_boxOf x y wh (playN x ps wh) 0 j 0 1 (by omega) (by omega) (by omega) (by omega)
    have n11 := numB_boxOf x y wh (playN x ps wh) 0 j 1 1 (by omega) (by omega) (by omega) (by omega)
    rw [playN_atq 0 j 0 1 Q P e2 e1'] at n01
    rw [playN_atq 0 j 1 1 Q P e2 e1'] at n11
    rw [show ((0 : Nat) : Int) = 0 from rfl] at *
    rw [show ((1 : Nat) : Int) = 1 from rfl] at *
    rw [n01, n11]
    rcases nat2q P2 with rfl | rfl <;> rcases nat2q Q2 with rfl | rfl <;> simp [hww]
theorem playOf_boxq {x y : Int} {ps : List Int} {wh : Int} (hs : sizesB x y = true) (hp : bitsB ps (x + y) = true) (h1 : 1 ≤ wh) (h2 : wh ≤ 1000) :
    playOfOk (boxOf x y wh (playN x ps wh)) = true ∧ playOfD (boxOf x y wh (playN x ps wh)) = ps := by
  have hL := playL_boxq hs hp h1
  have hok : playOfOk (boxOf x y wh (playN x ps wh)) = true := by
    unfold playOfOk
    rw [playZ_boxq hs hp h1 h2, hL, Bool.true_and]
    show alikeR (rowsTo (playN x ps wh) y.toNat (x.toNat * y.toNat)) (rowsTo (playN x ps 1) y.toNat (x.toNat * y.toNat)) wh 1 = true
    unfold alikeR
    rw [List.all_eq_true]
    intro i hi
    rw [List.mem_range, rowsTo_length] at hi
    rw [List.all_eq_true]
    intro q hq
    rw [List.mem_range] at hq
    apply decide_eq_true
    have hr : ∀ num : Num, cellAt (rowsTo num y.toNat (x.toNat * y.toNat)) i q = (rowOf num ((i / y.toNat : Nat) : Int) ((i % y.toNat : Nat) : Int)).getD q 0 := by
      intro num
      unfold cellAt
      rw [List.getD_eq_getElem?_getD (l := rowsTo num y.toNat (x.toNat * y.toNat))]
      simp [rowsTo, hi]
    rw [hr, hr]
    have : q = 0 ∨ q = 1 ∨ q = 2 ∨ q = 3 := by omega
    rcases this with rfl | rfl | rfl | rfl <;> (unfold rowOf playN; simp only [List.getD_cons_zero, List.getD_cons_succ]; split <;> simp)
  refine ⟨hok, ?_⟩
  unfold playOfD
  rw [if_pos hok, hL]
theorem qb_loud (b : BoxD) : (firstD b).2.2 = (boxB b && !isQuietD b) := by
  unfold firstD isQuietD quietB loudI
  cases boxB b with
  | false => rfl
  | true =>
    cases loudF b with
    | none => rfl
    | some p => rfl
theorem qb_counts (b : BoxD) : countsOk b = (boxB b && isQuietD b) := by
  unfold countsOk isQuietD
  cases boxB b <;> rfl
theorem qb_play {x y : Int} {ps : List Int} {wh : Int} (h : playOk x y ps wh = true) : boxB (playBoxD x y ps wh) = true ∧ isQuietD (playBoxD x y ps wh) = true ∧ playOfOk (playBoxD x y ps wh) = true ∧ playOfD (playBoxD x y ps wh) = ps := by
  have e : playBoxD x y ps wh = boxOf x y wh (playN x ps wh) := by unfold playBoxD; rw [if_pos h]
  obtain ⟨h1, h2, h3⟩ : sizesB x y = true ∧ bitsB ps (x + y) = true ∧ inB wh 1 1000 = true := by unfold playOk at h; simpa using h
  have hw := inB_iff.1 h3
  have hs := sizesB_iff.1 h1
  have hb := playZ_boxq h1 h2 hw.1 hw.2
  obtain ⟨p1, p2⟩ := playOf_boxq h1 h2 hw.1 hw.2
  rw [e]
  refine ⟨hb, ?_, p1, p2⟩
  unfold isQuietD
  rw [hb, Bool.true_and]
  have one0 : ∀ i j : Nat, (i : Int) < x → (j : Int) < y → oneB (boxOf x y wh (playN x ps wh)) 0 i j = if ps.getD i 0 = 1 then wh else 0 := fun i j hi hj => by
    obtain ⟨P, e1, P2⟩ := bits_atq h2 i (by omega)
    obtain ⟨Q, e2, Q2⟩ := bits_atq h2 (x.toNat + j) (by omega)
    have n10 := numB_boxOf x y wh (playN x ps wh) i j 1 0 hi hj (by omega) (by omega)
    have n11 := numB_boxOf x y wh (playN x ps wh) i j 1 1 hi hj (by omega) (by omega)
    rw [playN_atq i j 1 0 P Q e1 e2] at n10
    rw [playN_atq i j 1 1 P Q e1 e2] at n11
    rw [show ((0 : Nat) : Int) = 0 from rfl] at *
    rw [show ((1 : Nat) : Int) = 1 from rfl] at *
    show (if (0 : Nat) = 0 then _ else _) = _
    rw [if_pos rfl, n10, n11, e1]
    rcases nat2q P2 with rfl | rfl <;> rcases nat2q Q2 with rfl | rfl <;> simp
  have one1 : ∀ i j : Nat, (i : Int) < x → (j : Int) < y → oneB (boxOf x y wh (playN x ps wh)) 1 i j = if ps.getD (x.toNat + j) 0 = 1 then wh else 0 := fun i j hi hj => by
    obtain ⟨P, e1, P2⟩ := bits_atq h2 i (by omega)
    obtain ⟨Q, e2, Q2⟩ := bits_atq h2 (x.toNat + j) (by omega)
    have n01 := numB_boxOf x y wh (playN x ps wh) i j 0 1 hi hj (by omega) (by omega)
    have n11 := numB_boxOf x y wh (playN x ps wh) i j 1 1 hi hj (by omega) (by omega)
    rw [playN_atq i j 0 1 P Q e1 e2] at n01
    rw [playN_atq i j 1 1 P Q e1 e2] at n11
    rw [show ((0 : Nat) : Int) = 0 from rfl] at *
    rw [show ((1 : Nat) : Int) = 1 from rfl] at *
    show (if (1 : Nat) = 0 then _ else _) = _
    rw [if_neg (by decide), n01, n11, e2]
    rcases nat2q P2 with rfl | rfl <;> rcases nat2q Q2 with rfl | rfl <;> simp
  refine quiet_iffq.2 ⟨fun i j hi hj => ?_, fun i j hi hj => ?_⟩
  · rw [one0 i j hi hj, one0 i 0 hi (by omega)]
  · rw [one1 i j hi hj, one1 0 j (by omega) hj]
theorem qb_prod {xs ys : List Int} {m : Int} (h : prodOk xs ys m = true) : boxB (prodD xs ys m) = true ∧ isQuietD (prodD xs ys m) = true ∧ countsOk (prodD xs ys m) = true ∧ (countsD (prodD xs ys m)).length = xs.length + ys.length ∧ ∃ x0, xs[0]? = some x0 ∧ 0 ≤ x0 ∧ x0 ≤ 31 ∧ 1 ≤ m ∧ m ≤ 31 ∧ (countsD (prodD xs ys m))[0]? = some (x0 * m) := by
  have e : prodD xs ys m = boxOf xs.length ys.length (m * m) (prodN m xs ys) := by unfold prodD; rw [if_pos h]; rfl
  have h' := h
  rw [prodOk_eq] at h'
  simp only [Bool.and_eq_true] at h'
  obtain ⟨h1, h2, h3, h4⟩ := h'
  have hs := sizesB_iff.1 h1
  have hm := inB_iff.1 h2
  have hxb : ∀ i : Nat, i < xs.length → 0 ≤ xs.getD i 0 ∧ xs.getD i 0 ≤ m := fun i hi => by
    rw [List.getD_eq_getElem?_getD, List.getElem?_eq_getElem hi]
    exact allIn_get h3 (List.getElem?_eq_getElem hi)
  have hyb : ∀ i : Nat, i < ys.length → 0 ≤ ys.getD i 0 ∧ ys.getD i 0 ≤ m := fun i hi => by
    rw [List.getD_eq_getElem?_getD, List.getElem?_eq_getElem hi]
    exact allIn_get h4 (List.getElem?_eq_getElem hi)
  have num : ∀ i j a c : Nat, i < xs.length → j < ys.length → a < 2 → c < 2 → numB (boxOf xs.length ys.length (m * m) (prodN m xs ys)) i j a c = partN m (xs.getD i 0) a * partN m (ys.getD j 0) c := fun i j a c hi hj ha hc => by
    rw [numB_boxOf _ _ _ _ i j a c (by omega) (by omega) ha hc]
    unfold prodN
    simp only [Int.toNat_natCast]
  have hmm : 1 ≤ m * m ∧ m * m ≤ 1000 := by
    constructor
    · have := Int.mul_le_mul hm.1 hm.1 (by decide) (by omega); omega
    · have := Int.mul_le_mul hm.2 hm.2 (by omega) (by decide); omega
  have hb : boxB (boxOf xs.length ys.length (m * m) (prodN m xs ys)) = true := by
    rw [boxOf_boxB _ _ _ _ h1]
    · exact inB_iff.2 hmm
    · intro i j hi hj
      have hx := hxb i (by omega)
      have hy := hyb j (by omega)
      unfold FourN prodN
      simp only [Int.toNat_natCast]
      generalize xs.getD i 0 = p at *
      generalize ys.getD j 0 = q at *
      have q1 : 0 ≤ partN m p 0 ∧ 0 ≤ partN m p 1 ∧ partN m p 0 + partN m p 1 = m := by unfold partN; simp; omega
      have q2 : 0 ≤ partN m q 0 ∧ 0 ≤ partN m q 1 ∧ partN m q 0 + partN m q 1 = m := by unfold partN; simp; omega
      generalize partN m p 0 = p0 at *
      generalize partN m p 1 = p1 at *
      generalize partN m q 0 = q0 at *
      generalize partN m q 1 = q1' at *
      refine ⟨Int.mul_nonneg q1.1 q2.1, Int.mul_nonneg q1.1 q2.2.1, Int.mul_nonneg q1.2.1 q2.1, Int.mul_nonneg q1.2.1 q2.2.1, ?_⟩
      have e1 : p0 * q0 + p0 * q1' = p0 * m := by rw [← Int.mul_add, q2.2.2]
      have e2 : p1 * q0 + p1 * q1' = p1 * m := by rw [← Int.mul_add, q2.2.2]
      have e3 : p0 * m + p1 * m = m * m := by rw [← Int.add_mul, q1.2.2]
      omega
  have one0 : ∀ i j : Nat, i < xs.length → j < ys.length → oneB (boxOf xs.length ys.length (m * m) (prodN m xs ys)) 0 i j = xs.getD i 0 * m := fun i j hi hj => by
    show (if (0 : Nat) = 0 then _ else _) = _
    have n10 := num i j 1 0 hi hj (by omega) (by omega)
    have n11 := num i j 1 1 hi hj (by omega) (by omega)
    rw [show ((0 : Nat) : Int) = 0 from rfl] at *
    rw [show ((1 : Nat) : Int) = 1 from rfl] at *
    rw [if_pos rfl, n10, n11, ← Int.mul_add]
    unfold partN
    simp
  have one1 : ∀ i j : Nat, i < xs.length → j < ys.length → oneB (boxOf xs.length ys.length (m * m) (prodN m xs ys)) 1 i j = m * ys.getD j 0 := fun i j hi hj => by
    show (if (1 : Nat) = 0 then _ else _) = _
    have n01 := num i j 0 1 hi hj (by omega) (by omega)
    have n11 := num i j 1 1 hi hj (by omega) (by omega)
    rw [show ((0 : Nat) : Int) = 0 from rfl] at *
    rw [show ((1 : Nat) : Int) = 1 from rfl] at *
    rw [if_neg (by decide), n01, n11, ← Int.add_mul]
    unfold partN
    simp
  have hq : isQuietD (boxOf xs.length ys.length (m * m) (prodN m xs ys)) = true := by
    unfold isQuietD
    rw [hb, Bool.true_and]
    refine quiet_iffq.2 ⟨fun i j hi hj => ?_, fun i j hi hj => ?_⟩
    · have hi' : (i : Int) < xs.length := hi
      have hj' : (j : Int) < ys.length := hj
      rw [one0 i j (by omega) (by omega), one0 i 0 (by omega) (by omega)]
    · have hi' : (i : Int) < xs.length := hi
      have hj' : (j : Int) < ys.length := hj
      rw [one1 i j (by omega) (by omega), one1 0 j (by omega) (by omega)]
  have hc : countsOk (boxOf xs.length ys.length (m * m) (prodN m xs ys)) = true := by rw [qb_counts, hb, hq]; rfl
  rw [e]
  have hcd : countsD (boxOf xs.length ys.length (m * m) (prodN m xs ys)) = countsL (boxOf xs.length ys.length (m * m) (prodN m xs ys)) := by unfold countsD; rw [if_pos hc]
  obtain ⟨x0, hx0⟩ : ∃ x0, xs[0]? = some x0 := ⟨_, List.getElem?_eq_getElem (by omega)⟩
  have hg0 : xs.getD 0 0 = x0 := by rw [List.getD_eq_getElem?_getD, hx0]; rfl
  have hx := hxb 0 (by omega)
  rw [hg0] at hx
  refine ⟨hb, hq, hc, ?_, x0, hx0, hx.1, by omega, hm.1, hm.2, ?_⟩
  · rw [hcd]
    unfold countsL
    rw [seqTo_len]
    show (xs.length : Int).toNat + (ys.length : Int).toNat = _
    omega
  · rw [hcd]
    unfold countsL
    rw [seqTo_get _ _ _ (by show 0 < (xs.length : Int).toNat + (ys.length : Int).toNat; omega)]
    congr 1
    unfold countAt
    rw [if_pos (by show ((0 : Nat) : Int) < (xs.length : Int); omega), one0 0 0 (by omega) (by omega), hg0]
end Go.Proofs.YtcifpfdlkpddeaaGreatDoor
set_option linter.unusedSimpArgs false
set_option linter.unusedVariables false
namespace Go.Proofs.YtcifpfdlkpddeaaGreatDoor
open Go.ChangeShapes Go.WideShapes Go.ChangeAt Go.RowKit
open Go.ChangeMaps (open_string shut_string)
open Go.Deep

theorem Tryz.own : ownKnob Tryz.prog.godebug = none := by kernel_rfl
theorem Tryz.laidOut : laidOutB Tryz.prog = true := by kernel_rfl

theorem Tryz.cellsInt : Tryz.prog.cellsOf 3 = 1 := by kernel_rfl
section
variable {H : Type} {enc : TypeId × Value → H} {P : Program} {w : World}

theorem rdI_of {t e : TypeId} {v : Value} {r : Reach} {b0 : Nat} {d : DataW H} {p : List MemPlace} (ht : P.underlying t = some (.slice e)) (he : P.underlying e = some (.int .i64)) (hc : P.cellsOf e = 1)
    (hval : Value.okWide P w r b0 t v) (h : DataW.Trod enc P w 0 (fun _ => true) true t v d p) : ∃ xs, RdI w v xs := by
  obtain ⟨a0, len, cap, rfl⟩ := okWide_slice ht hval
  obtain ⟨fuel, hf⟩ := h
  rcases open_ints ht he hc hf with ⟨hcs, hx⟩ | ⟨a, len', cap', zs, hcs, _, hl, hm, hz, hx, hcell, hwz⟩
  · simp [Value.cells] at hcs
    obtain ⟨rfl, rfl, rfl⟩ := hcs
    exact ⟨[], none, 0, 0, 0, rfl, Nat.zero_le _, fun h => by simp at h, fun j x hx => by simp at hx⟩
  · simp [Value.cells] at hcs
    obtain ⟨rfl, rfl, rfl⟩ := hcs
    simp only [if_true] at hz
    have hlen : (zs.take len).length = len := by simp; omega
    by_cases hp : 0 < zs.length
    · obtain ⟨b, off, rfl, hcc⟩ := ints_at hcell hp
      refine ⟨zs.take len, some ⟨b, off, none⟩, b, off, cap, by rw [hlen], by rw [hlen]; omega, fun _ => rfl, fun j x hx => ?_⟩
      rw [List.getElem?_take] at hx
      split at hx
      · have hj : j < zs.length := (List.getElem?_eq_some_iff.1 hx).1
        rw [hcc j hj, List.getD_eq_getElem?_getD, hx]; rfl
      · cases hx
    · have h0 : len = 0 := by omega
      subst h0
      exact ⟨[], some a, 0, 0, cap, rfl, Nat.zero_le _, fun h => by simp at h, fun j x hx => by simp at hx⟩

/-- The same of a value that is one cell of a struct. -/
theorem rdI_of_cell {t e : TypeId} {v : Value} {fuel : Nat} {x : DataW H × List MemPlace} (ht : P.underlying t = some (.slice e)) (he : P.underlying e = some (.int .i64)) (hc : P.cellsOf e = 1)
    (h : DataW.trod enc P w 0 (fun _ => true) true fuel t [v] = some x) : ∃ xs, RdI w v xs := by
  rcases open_ints ht he hc h with ⟨hcs, hx⟩ | ⟨a, len, cap, zs, hcs, _, hl, hm, hz, hx, hcell, hwz⟩
  · simp at hcs
    subst hcs
    exact ⟨[], none, 0, 0, 0, rfl, Nat.zero_le _, fun h => by simp at h, fun j x hx => by simp at hx⟩
  · simp at hcs
    subst hcs
    simp only [if_true] at hz
    have hlen : (zs.take len).length = len := by simp; omega
    by_cases hp : 0 < zs.length
    · obtain ⟨b, off, rfl, hcc⟩ := ints_at hcell hp
      refine ⟨zs.take len, some ⟨b, off, none⟩, b, off, cap, by rw [hlen], by rw [hlen]; omega, fun _ => rfl, fun j x hx => ?_⟩
      rw [List.getElem?_take] at hx
      split at hx
      · have hj : j < zs.length := (List.getElem?_eq_some_iff.1 hx).1
        rw [hcc j hj, List.getD_eq_getElem?_getD, hx]; rfl
      · cases hx
    · have h0 : len = 0 := by omega
      subst h0
      exact ⟨[], some a, 0, 0, cap, rfl, Nat.zero_le _, fun h => by simp at h, fun j x hx => by simp at hx⟩

theorem addr_spot {a : Addr} {v : Value} (h : w.cell? (a.add 0) = some v) : ∃ b off, a = ⟨b, off, none⟩ := by
  obtain ⟨b, off, spot⟩ := a
  have hspot : spot = none := by simpa [Addr.add] using World.cell?_spot h
  subst hspot
  exact ⟨b, off, rfl⟩

theorem rdII_of_cell {t e q : TypeId} {v : Value} {fuel : Nat} {x : DataW H × List MemPlace} (ht : P.underlying t = some (.slice e)) (he : P.underlying e = some (.slice q)) (hq : P.underlying q = some (.int .i64))
    (ce : P.cellsOf e = 1) (cq : P.cellsOf q = 1) (h : DataW.trod enc P w 0 (fun _ => true) true fuel t [v] = some x) : ∃ rss, RdII w v rss := by
  rcases open_int_rows ht he hq ce cq h with ⟨hcs, hx⟩ | ⟨a, len, cap, A, L, C, Z, hcs, _, hl, hm, hx, hrow⟩
  · simp at hcs
    subst hcs
    exact ⟨[], none, 0, 0, 0, rfl, Nat.zero_le _, fun h => by simp at h, fun j x hx => by simp at hx⟩
  · simp at hcs
    subst hcs
    have hlen : (List.map (fun r => (Z r).take (L r)) (List.range len)).length = len := by simp
    by_cases hp : 0 < len
    · obtain ⟨b, off, rfl⟩ := addr_spot (hrow 0 (by omega)).1
      refine ⟨List.map (fun r => (Z r).take (L r)) (List.range len), some ⟨b, off, none⟩, b, off, cap, by rw [hlen], by rw [hlen]; omega, fun _ => rfl, fun j rs hj => ?_⟩
      have hjl : j < len := by
        have := (List.getElem?_eq_some_iff.1 hj).1
        rw [hlen] at this; exact this
      simp [hjl] at hj
      subst hj
      obtain ⟨h1, h2, h3, h4, h5, h6, h7⟩ := hrow j (by omega)
      refine ⟨_, by rw [← add_plain]; exact h1, ?_⟩
      have hlen2 : ((Z j).take (L j)).length = L j := by simp; omega
      by_cases hpj : 0 < L j
      · cases hA : A j with
        | none => have := h6 hA; omega
        | some a' =>
          obtain ⟨h8, h9⟩ := h7 a' hA
          obtain ⟨b', off', rfl⟩ := addr_spot (h9 0 (by omega))
          refine ⟨some ⟨b', off', none⟩, b', off', C j, by rw [hlen2], by rw [hlen2]; omega, fun _ => rfl, fun i y hy => ?_⟩
          rw [List.getElem?_take] at hy
          split at hy
          · have hi : i < (Z j).length := (List.getElem?_eq_some_iff.1 hy).1
            have := h9 i (by omega)
            rw [add_plain] at this
            rw [this, List.getD_eq_getElem?_getD, hy]; rfl
          · cases hy
      · have h0 : L j = 0 := by omega
        rw [h0]
        exact ⟨A j, 0, 0, C j, by simp, by simp, fun h => by simp at h, fun i y hy => by simp at hy⟩
    · have h0 : len = 0 := by omega
      subst h0
      exact ⟨[], some a, 0, 0, cap, rfl, Nat.zero_le _, fun h => by simp at h, fun j x hx => by simp at hx⟩

theorem rdII_of {t e q : TypeId} {v : Value} {r : Reach} {b0 : Nat} {d : DataW H} {p : List MemPlace} (ht : P.underlying t = some (.slice e)) (he : P.underlying e = some (.slice q)) (hq : P.underlying q = some (.int .i64))
    (ce : P.cellsOf e = 1) (cq : P.cellsOf q = 1) (hval : Value.okWide P w r b0 t v) (h : DataW.Trod enc P w 0 (fun _ => true) true t v d p) : ∃ rss, RdII w v rss := by
  obtain ⟨a0, len, cap, rfl⟩ := okWide_slice ht hval
  obtain ⟨fuel, hf⟩ := h
  exact rdII_of_cell ht he hq ce cq (by simpa [Value.cells] using hf)
end

end Go.Proofs.YtcifpfdlkpddeaaGreatDoor
