/- Boxes by other names: flips turn agreements, and turn plays. No program in sight. Slices of pairs, of the call's own: each element lies in two cells. -/
import Derived.Test.YtnmnmnpeoiblhaaNbaw
import Derived.Test.YtnmnmnpeoiblhaaNbax
import Derived.Test.YtnmnmnpeoiblhaaNbay
import Derived.Test.YtnmnmnpeoiblhaaNbam
import Derived.Test.YtnmnmnpeoiblhaaNbbc
import Derived.Test.YtnmnmnpeoiblhaaNbba
import Derived.Test.YtnmnmnpeoiblhaaNbag
set_option linter.unusedSimpArgs false
set_option linter.unusedVariables false
namespace Go.Proofs.Ytnmnmnpeoiblhaa

theorem rows_at {b : BoxD} (hb : boxB b = true) (k : Nat) (hk : k < b.X.toNat * b.Y.toNat) : b.Rows[k]? = some (rowOf (numB b) ((k / b.Y.toNat : Nat) : Int) ((k % b.Y.toNat : Nat) : Int)) := by
  have h : b.Rows = rowsTo (numB b) b.Y.toNat (b.X.toNat * b.Y.toNat) := congrArg BoxD.Rows (box_eq_boxOf hb)
  rw [h]
  simp [rowsTo, hk]
theorem agree_len {b : BoxD} (hb : boxB b = true) : (agreeD b).length = b.X.toNat * b.Y.toNat := by
  unfold agreeD
  rw [if_pos hb, List.length_map, boxB_len2 hb]
theorem agree_at {b : BoxD} (hb : boxB b = true) (k : Nat) (hk : k < b.X.toNat * b.Y.toNat) : (agreeD b)[k]? = some (agB b (k / b.Y.toNat) (k % b.Y.toNat)) := by
  unfold agreeD
  rw [if_pos hb, List.getElem?_map, rows_at hb k hk]
  rfl
/-- The sign that two flips give an agreement. -/
def flSign (f g : Nat) : Int := 1 - 2 * (((f + g) % 2 : Nat) : Int)
theorem agB_flip {b : BoxD} {fl : List Int} (hb : boxB b = true) (hf : bitsB fl (b.X + b.Y) = true) (i j f g : Nat) (hi : (i : Int) < b.X) (hj : (j : Int) < b.Y) (e1 : fl.getD i 0 = (f : Int)) (e2 : fl.getD (b.X.toNat + j) 0 = (g : Int)) (h1 : f < 2) (h2 : g < 2) :
    agB (flipBL b fl) i j = flSign f g * agB b i j := by
  have e : ∀ p q : Nat, p < 2 → q < 2 → numB (flipBL b fl) i j p q = numB b i j (xorN p f) (xorN q g) := fun p q hp hq => numB_flip i j p q f g hi hj hp hq e1 e2
  have e00 := e 0 0 (by omega) (by omega)
  have e01 := e 0 1 (by omega) (by omega)
  have e10 := e 1 0 (by omega) (by omega)
  have e11 := e 1 1 (by omega) (by omega)
  rw [show ((0 : Nat) : Int) = 0 from rfl] at *
  rw [show ((1 : Nat) : Int) = 1 from rfl] at *
  unfold agB
  rw [e00, e01, e10, e11]
  rcases nat2 h1 with rfl | rfl <;> rcases nat2 h2 with rfl | rfl <;> simp only [show xorN 0 0 = 0 from rfl, show xorN 0 1 = 1 from rfl, show xorN 1 0 = 1 from rfl, show xorN 1 1 = 0 from rfl, show ((0 : Nat) : Int) = 0 from rfl, show ((1 : Nat) : Int) = 1 from rfl, show flSign 0 0 = 1 from rfl, show flSign 0 1 = -1 from rfl, show flSign 1 0 = -1 from rfl, show flSign 1 1 = 1 from rfl] <;> omega

theorem flipL_len {ps fs : List Int} (h : ps.length = fs.length) : (flipL ps fs).length = ps.length := by simp [flipL, h]
theorem flipL_at {ps fs : List Int} (k p f : Nat) (hp : ps.getD k 0 = (p : Int)) (hf : fs.getD k 0 = (f : Int)) (h1 : k < ps.length) (h2 : k < fs.length) : (flipL ps fs).getD k 0 = (xorN p f : Int) := by
  have a := List.getElem?_eq_getElem h1
  have b := List.getElem?_eq_getElem h2
  rw [List.getD_eq_getElem?_getD, a, Option.getD_some] at hp
  rw [List.getD_eq_getElem?_getD, b, Option.getD_some] at hf
  rw [List.getD_eq_getElem?_getD]
  unfold flipL
  rw [List.getElem?_zipWith, a, b]
  simp only [Option.getD_some, hp, hf]
  unfold xorN
  by_cases h : p = f
  · rw [if_pos h, if_pos (by omega)]; rfl
  · rw [if_neg h, if_neg (by omega)]; rfl
/-- A play's box, its numbers. -/
theorem playN_at {x : Int} {ps : List Int} {wh : Int} (i j a c p q : Nat) (hp : ps.getD i 0 = (p : Int)) (hq : ps.getD (x.toNat + j) 0 = (q : Int)) : playN x ps wh i j a c = if p = a ∧ q = c then wh else 0 := by
  unfold playN
  simp only [Int.toNat_natCast, hp, hq]
  by_cases h : p = a ∧ q = c
  · rw [if_pos h, if_pos ⟨by omega, by omega⟩]
  · rw [if_neg h, if_neg (fun h' => h ⟨by omega, by omega⟩)]
theorem playZ_box {x y : Int} {ps : List Int} {wh : Int} (hs : sizesB x y = true) (hp : bitsB ps (x + y) = true) (h1 : 1 ≤ wh) (h2 : wh ≤ 1000) : boxB (boxOf x y wh (playN x ps wh)) = true := by
  have hs' := sizesB_iff.1 hs
  rw [boxOf_boxB _ _ _ _ hs]
  · exact inB_iff.2 (by omega)
  · intro i j hi hj
    obtain ⟨p, hp1, p2⟩ := bits_at hp i (by omega)
    obtain ⟨q, hq1, q2⟩ := bits_at hp (x.toNat + j) (by omega)
    have e := fun a c : Nat => playN_at (x := x) (ps := ps) (wh := wh) i j a c p q hp1 hq1
    have e00 := e 0 0
    have e01 := e 0 1
    have e10 := e 1 0
    have e11 := e 1 1
    rw [show ((0 : Nat) : Int) = 0 from rfl] at *
    rw [show ((1 : Nat) : Int) = 1 from rfl] at *
    unfold FourN
    rw [e00, e01, e10, e11]
    rcases nat2 p2 with rfl | rfl <;> rcases nat2 q2 with rfl | rfl <;> simp <;> omega
theorem flipL_bits {ps fs : List Int} {n : Int} (hp : bitsB ps n = true) (hf : bitsB fs n = true) : bitsB (flipL ps fs) n = true := by
  have l1 := (bits_iff.1 hp).2
  have l2 := (bits_iff.1 hf).2
  refine bits_iff.2 ⟨allIn_true fun j z hz => ?_, by rw [flipL_len (by omega)]; exact l1⟩
  unfold flipL at hz
  rw [List.getElem?_zipWith] at hz
  cases h1 : ps[j]? <;> cases h2 : fs[j]? <;> simp only [h1, h2] at hz <;> try cases hz
  split <;> decide
theorem flip_playbox {x y : Int} {ps fs : List Int} {wh : Int} (hs : sizesB x y = true) (hp : bitsB ps (x + y) = true) (hf : bitsB fs (x + y) = true) (h1 : 1 ≤ wh) (h2 : wh ≤ 1000) :
    flipBL (boxOf x y wh (playN x ps wh)) fs = boxOf x y wh (playN x (flipL ps fs) wh) := by
  have hs' := sizesB_iff.1 hs
  have hb := playZ_box hs hp h1 h2
  have l1 := (bits_iff.1 hp).2
  have l2 := (bits_iff.1 hf).2
  refine box_ext (flip_box (b := boxOf x y wh (playN x ps wh)) hb hf) (playZ_box hs (flipL_bits hp hf) h1 h2) rfl rfl rfl fun i j p q hi hj hp' hq' => ?_
  have hi' : (i : Int) < x := hi
  have hj' : (j : Int) < y := hj
  obtain ⟨P, e1, P2⟩ := bits_at hp i (by omega)
  obtain ⟨Q, e2, Q2⟩ := bits_at hp (x.toNat + j) (by omega)
  obtain ⟨f, d1, f2⟩ := bits_at hf i (by omega)
  obtain ⟨g, d2, g2⟩ := bits_at hf (x.toNat + j) (by omega)
  have c1 := flipL_at i P f e1 d1 (by omega) (by omega)
  have c2 := flipL_at (x.toNat + j) Q g e2 d2 (by omega) (by omega)
  rw [numB_flip (b := boxOf x y wh (playN x ps wh)) i j p q f g hi hj hp' hq' d1 d2, numB_boxOf _ _ _ _ i j _ _ hi' hj' (xorN_lt _ _) (xorN_lt _ _), numB_boxOf _ _ _ _ i j p q hi' hj' hp' hq', playN_at i j _ _ P Q e1 e2, playN_at i j _ _ _ _ c1 c2]
  rcases nat2 P2 with rfl | rfl <;> rcases nat2 Q2 with rfl | rfl <;> rcases nat2 f2 with rfl | rfl <;> rcases nat2 g2 with rfl | rfl <;> rcases nat2 hp' with rfl | rfl <;> rcases nat2 hq' with rfl | rfl <;> rfl
theorem playL_box {x y : Int} {ps : List Int} {wh : Int} (hs : sizesB x y = true) (hp : bitsB ps (x + y) = true) (h1 : 1 ≤ wh) : playL (boxOf x y wh (playN x ps wh)) = ps := by
  have hs' := sizesB_iff.1 hs
  have l1 := (bits_iff.1 hp).2
  have hl : (playL (boxOf x y wh (playN x ps wh))).length = ps.length := by
    unfold playL
    rw [seqTo_len]
    show x.toNat + y.toNat = _
    omega
  refine eq_of_get hl fun k hk => ?_
  rw [hl] at hk
  obtain ⟨P, e1, P2⟩ := bits_at hp k (by omega)
  have hk' := List.getElem?_eq_getElem hk
  have hpk : ps[k]? = some (P : Int) := by
    rw [List.getD_eq_getElem?_getD, hk', Option.getD_some] at e1
    rw [hk', e1]
  rw [hpk]
  unfold playL
  rw [seqTo_get _ _ _ (by show k < x.toNat + y.toNat; omega)]
  congr 1
  unfold playAt
  have hww : wh / wh = 1 := Int.ediv_self (by omega)
  have z0 : (0 : Int) / wh = 0 := Int.zero_ediv _
  show _ / wh = _
  by_cases hkx : (k : Int) < x
  · rw [countAt_x (b := boxOf x y wh (playN x ps wh)) (show (k : Int) < x from hkx), oneB_0]
    obtain ⟨Q, e2, Q2⟩ := bits_at hp (x.toNat + 0) (by omega)
    have n10 := numB_boxOf x y wh (playN x ps wh) k 0 1 0 hkx (by omega) (by omega) (by omega)
    have n11 := numB_boxOf x y wh (playN x ps wh) k 0 1 1 hkx (by omega) (by omega) (by omega)
    rw [playN_at k 0 1 0 P Q e1 e2] at n10
    rw [playN_at k 0 1 1 P Q e1 e2] at n11
    rw [show ((0 : Nat) : Int) = 0 from rfl] at *
    rw [show ((1 : Nat) : Int) = 1 from rfl] at *
    rw [n10, n11]
    rcases nat2 P2 with rfl | rfl <;> rcases nat2 Q2 with rfl | rfl <;> simp [hww]
  · obtain ⟨j, hj⟩ : ∃ j, x.toNat + j = k := ⟨k - x.toNat, by omega⟩
    rw [countAt_y (b := boxOf x y wh (playN x ps wh)) (show (0 : Int) ≤ x by omega) (show x.toNat + j = k from hj), oneB_1]
    obtain ⟨Q, e2, Q2⟩ := bits_at hp 0 (by omega)
    have e1' : ps.getD (x.toNat + j) 0 = (P : Int) := by rw [hj]; exact e1
    have n01 := numB_boxOf x y wh (playN x ps wh) 0 j 0 1 (by omega) (by omega) (by omega) (by omega)
    have n11 := numB_boxOf x y wh (playN x ps wh) 0 j 1 1 (by omega) (by omega) (by omega) (by omega)
    rw [playN_at 0 j 0 1 Q P e2 e1'] at n01
    rw [playN_at 0 j 1 1 Q P e2 e1'] at n11
    rw [show ((0 : Nat) : Int) = 0 from rfl] at *
    rw [show ((1 : Nat) : Int) = 1 from rfl] at *
    rw [n01, n11]
    rcases nat2 P2 with rfl | rfl <;> rcases nat2 Q2 with rfl | rfl <;> simp [hww]
theorem playOf_box {x y : Int} {ps : List Int} {wh : Int} (hs : sizesB x y = true) (hp : bitsB ps (x + y) = true) (h1 : 1 ≤ wh) (h2 : wh ≤ 1000) :
    playOfOk (boxOf x y wh (playN x ps wh)) = true ∧ playOfD (boxOf x y wh (playN x ps wh)) = ps := by
  have hL := playL_box hs hp h1
  have hok : playOfOk (boxOf x y wh (playN x ps wh)) = true := by
    unfold playOfOk
    rw [playZ_box hs hp h1 h2, hL, Bool.true_and]
    show alikeR (rowsTo (playN x ps wh) y.toNat (x.toNat * y.toNat)) (rowsTo (playN x ps 1) y.toNat (x.toNat * y.toNat)) wh 1 = true
    unfold alikeR
    rw [List.all_eq_true]
    intro i hi
    rw [List.mem_range, rowsTo_length] at hi
    rw [List.all_eq_true]
    intro q hq
    rw [List.mem_range] at hq
    apply decide_eq_true
    have hr : ∀ num : Num, cellAt (rowsTo num y.toNat (x.toNat * y.toNat)) i q = (rowOf num ((i / y.toNat : Nat) : Int) ((i % y.toNat : Nat) : Int)).getD q 0 := by
      intro num
      unfold cellAt
      rw [List.getD_eq_getElem?_getD (l := rowsTo num y.toNat (x.toNat * y.toNat))]
      simp [rowsTo, hi]
    rw [hr, hr]
    have : q = 0 ∨ q = 1 ∨ q = 2 ∨ q = 3 := by omega
    rcases this with rfl | rfl | rfl | rfl <;> (unfold rowOf playN; simp only [List.getD_cons_zero, List.getD_cons_succ]; split <;> simp)
  refine ⟨hok, ?_⟩
  unfold playOfD
  rw [if_pos hok, hL]
end Go.Proofs.Ytnmnmnpeoiblhaa
set_option linter.unusedSimpArgs false
set_option linter.unusedVariables false
namespace Go.Proofs.Ytnmnmnpeoiblhaa
open Go.RowKit

def flatP : List (Nat × Nat) → List Value
  | [] => []
  | p :: ps => .int .i64 (p.1 : Int) :: .int .i64 (p.2 : Int) :: flatP ps
theorem flatP_length : ∀ ps : List (Nat × Nat), (flatP ps).length = ps.length * 2
  | [] => rfl
  | p :: ps => by
    show (flatP ps).length + 1 + 1 = (ps.length + 1) * 2
    rw [flatP_length ps]; omega
theorem flatP_snoc : ∀ (ps : List (Nat × Nat)) (i k : Nat), flatP ps ++ [.int .i64 (i : Int), .int .i64 (k : Int)] = flatP (ps ++ [(i, k)])
  | [], _, _ => rfl
  | p :: ps, i, k => by
    show _ :: _ :: (flatP ps ++ _) = _ :: _ :: flatP (ps ++ [(i, k)])
    rw [flatP_snoc ps i k]
theorem flatP_get : ∀ (ps : List (Nat × Nat)) (j : Nat) (p : Nat × Nat), ps[j]? = some p → (flatP ps)[j * 2]? = some (.int .i64 (p.1 : Int)) ∧ (flatP ps)[j * 2 + 1]? = some (.int .i64 (p.2 : Int))
  | [], j, p, h => by simp at h
  | q :: ps, 0, p, h => by
    simp at h; subst h
    exact ⟨rfl, rfl⟩
  | q :: ps, j + 1, p, h => by
    have h' : ps[j]? = some p := by simpa using h
    have := flatP_get ps j p h'
    rw [show (j + 1) * 2 = j * 2 + 1 + 1 by omega]
    exact this
/-- The pairs that begin with i, the first c of them. -/
def pairsRow (i : Nat) : Nat → List (Nat × Nat)
  | 0 => []
  | c + 1 => pairsRow i c ++ [(i, i + 1 + c)]
def pairsTo (n : Nat) : Nat → List (Nat × Nat)
  | 0 => []
  | i + 1 => pairsTo n i ++ pairsRow i (n - (i + 1))
theorem pairsRow_length (i : Nat) : ∀ c, (pairsRow i c).length = c
  | 0 => rfl
  | c + 1 => by show (pairsRow i c ++ _).length = _; simp [pairsRow_length i c]
theorem pairsTo_length (n i : Nat) : (pairsTo n i).length ≤ i * n := by
  induction i with
  | zero => simp [pairsTo]
  | succ i ih =>
    show (pairsTo n i ++ pairsRow i (n - (i + 1))).length ≤ _
    rw [List.length_append, pairsRow_length, Nat.succ_mul]
    omega
theorem pairsRow_mem {i c : Nat} {p : Nat × Nat} (h : p ∈ pairsRow i c) : p.1 = i ∧ i < p.2 ∧ p.2 < i + 1 + c := by
  induction c with
  | zero => cases h
  | succ c ih =>
    rcases List.mem_append.1 h with h | h
    · obtain ⟨h1, h2, h3⟩ := ih h
      exact ⟨h1, h2, by omega⟩
    · simp at h; subst h
      exact ⟨rfl, by show i < i + 1 + c; omega, by show i + 1 + c < i + 1 + (c + 1); omega⟩
theorem pairsTo_mem {n i : Nat} {p : Nat × Nat} (hi : i ≤ n) (h : p ∈ pairsTo n i) : p.1 < p.2 ∧ p.2 < n := by
  induction i with
  | zero => cases h
  | succ i ih =>
    rcases List.mem_append.1 h with h | h
    · exact ih (by omega) h
    · obtain ⟨h1, h2, h3⟩ := pairsRow_mem h
      omega

def OwnP (T lo hi : Nat) (w : World) (v : Value) (ps : List (Nat × Nat)) : Prop :=
  w.ownsRow lo T 2 v ps.length (flatP ps) ∧ ∀ g, v.ownBlock = some g → g < hi
theorem OwnP.lt {T lo hi : Nat} {w : World} {v : Value} {ps : List (Nat × Nat)} (h : OwnP T lo hi w v ps) : ∀ g, v.ownBlock = some g → lo ≤ g ∧ g < hi ∧ g < w.heap.size :=
  fun g hg => ⟨(h.1.lt g hg).1, h.2 g hg, (h.1.lt g hg).2⟩
theorem OwnP.empty (T : Nat) (w : World) : OwnP T w.heap.size (w.heap.size + 1) (w.alloc (.cells #[] T)) (.slice (some ⟨w.heap.size, 0, none⟩) 0 0) [] :=
  ⟨World.ownsRow_made w #[] 0 (Nat.le_refl _) (Nat.zero_le _) rfl, fun g hg => by simp [Value.ownBlock] at hg; omega⟩
theorem OwnP.of_block {T lo hi : Nat} {w w' : World} {v : Value} {ps : List (Nat × Nat)} (h : OwnP T lo hi w v ps)
    (hs : ∀ g, v.ownBlock = some g → w'.heap[g]? = w.heap[g]?) : OwnP T lo hi w' v ps := by
  obtain ⟨⟨h1, h2⟩, h3⟩ := h
  refine ⟨⟨h1, ?_⟩, h3⟩
  rcases h2 with h2 | ⟨g, cap, cur, rfl, hb, hh, r⟩
  · exact Or.inl h2
  · exact Or.inr ⟨g, cap, cur, rfl, hb, by rw [hs g rfl]; exact hh, r⟩

/-- A slice that reads as pairs, its cells in a block from lo on. -/
def RdP (lo : Nat) (w : World) (v : Value) (ps : List (Nat × Nat)) : Prop :=
  ∃ (b cap : Nat) (a : Option Addr), v = .slice a ps.length cap ∧ ps.length ≤ maxLen ∧ (0 < ps.length → a = some ⟨b, 0, none⟩ ∧ lo ≤ b ∧ b < w.heap.size) ∧
    ∀ j p, ps[j]? = some p → w.cell? ⟨b, j * 2, none⟩ = some (.int .i64 (p.1 : Int)) ∧ w.cell? ⟨b, j * 2 + 1, none⟩ = some (.int .i64 (p.2 : Int))
theorem OwnP.rd {T lo hi : Nat} {w : World} {v : Value} {ps : List (Nat × Nat)} (h : OwnP T lo hi w v ps) : RdP lo w v ps := by
  have hlt := h.lt
  obtain ⟨⟨h1, h2⟩, h3⟩ := h
  rcases h2 with ⟨rfl, hn⟩ | ⟨g, cap, cur, rfl, hb, hh, hnc, hcm, hcs, htk⟩
  · refine ⟨0, 0, none, by rw [hn], by rw [hn]; exact Nat.zero_le _, fun hp => by omega, fun j p hp => ?_⟩
    have : ps = [] := List.eq_nil_of_length_eq_zero hn
    subst this
    simp at hp
  · refine ⟨g, cap, some ⟨g, 0, none⟩, rfl, Nat.le_trans hnc hcm, fun _ => ⟨rfl, hb, (hlt g rfl).2.2⟩, fun j p hp => ?_⟩
    obtain ⟨q1, q2⟩ := flatP_get ps j p hp
    have key : ∀ k u, (flatP ps)[k]? = some u → w.cell? ⟨g, k, none⟩ = some u := by
      intro k u hu
      rw [← htk, List.getElem?_take] at hu
      split at hu
      · rw [cell_of_row w g k cur T (0, 0) hh]; simpa using hu
      · cases hu
    exact ⟨key _ _ q1, key _ _ q2⟩
theorem Mid.cell {lo hi : Nat} {w w' : World} (h : Mid lo hi w w') {b o : Nat} (hb : b < w.heap.size) (hx : b < lo ∨ hi ≤ b) : w'.cell? ⟨b, o, none⟩ = w.cell? ⟨b, o, none⟩ :=
  World.cell?_of_block (h.block b hb hx)
theorem Mid.keep {lo hi : Nat} {w w' : World} (h : Mid lo hi w w') {b o : Nat} {u : Value} (hx : b < lo ∨ hi ≤ b) (hc : w.cell? ⟨b, o, none⟩ = some u) : w'.cell? ⟨b, o, none⟩ = some u :=
  (h.cell (World.block_lt_of_cell? _ _ hc) hx).trans hc
theorem RdP.mid {lo lo' hi' : Nat} {w w' : World} {v : Value} {ps : List (Nat × Nat)} (h : RdP lo w v ps) (hm : Mid lo' hi' w w') (hd : hi' ≤ lo) : RdP lo w' v ps := by
  obtain ⟨b, cap, a, hv, hl, ha, hc⟩ := h
  refine ⟨b, cap, a, hv, hl, fun hp => ⟨(ha hp).1, (ha hp).2.1, Nat.lt_of_lt_of_le (ha hp).2.2 hm.size⟩, fun j p hp => ?_⟩
  have hp0 : 0 < ps.length := by have := (List.getElem?_eq_some_iff.1 hp).1; omega
  have hb := ha hp0
  obtain ⟨c1, c2⟩ := hc j p hp
  exact ⟨hm.keep (Or.inr (by omega)) c1, hm.keep (Or.inr (by omega)) c2⟩
theorem RdP.kept {lo : Nat} {w w' : World} {v : Value} {ps : List (Nat × Nat)} (h : RdP lo w v ps) (hb : Below w.heap.size w w') : RdP lo w' v ps :=
  h.mid (lo' := lo) (hi' := lo) (Mid.of_below hb (Nat.le_refl _)) (Nat.le_refl _)

section
variable {P : Program} {ops : Array Oper} {rest : List Oper} {o : Oper} {a : Act} {Q : Exit → Act → World → Prop}
/-- append(s, [2]int{i, k}): the pair lies in a block that was laid just before. -/
theorem append2_own (hgd : o.guard = none) (s x : Operand) (t e : TypeId)
    (ho : o.op = .call { callee := .builtin .append, args := #[s, x], argTypes := #[t, t] })
    {z : Value} {bytes : Nat} (ht : P.underlying t = some (.slice e)) (hinfo : (P.info? e).map (fun i => (i.zero, i.size, i.bytes)) = some (some z, 2, bytes)) (hz : z.cells.size = 2)
    {lo hi : Nat} {W : World} {v : Value} {i k : Nat} {x1 x2 : Value} {ps : List (Nat × Nat)} (hown : OwnP e lo hi W v ps) (hs : a.eval s = v) (e1 : x1 = .int .i64 (i : Int)) (e2 : x2 = .int .i64 (k : Int))
    (hx : a.eval x = .slice (some ⟨W.heap.size, 0, none⟩) 1 1) (hlen : ps.length ≤ 4194304) (hby : bytes ≤ 1024) (hlo : lo ≤ W.heap.size)
    (h : ∀ (a' : Option Addr) (c : Nat) (w' : World), OwnP e lo w'.heap.size w' (.slice a' (ps.length + 1) c) (ps ++ [(i, k)]) → W.grownBy w' v.ownBlock →
      wpList P ops Q rest (a.put o.dst (.slice a' (ps.length + 1) c)) w') :
    wpList P ops Q (o :: rest) a (W.alloc (.cells #[x1, x2] e)) := by
  subst e1 e2
  obtain ⟨i', hi0, hi1, hi2, hi3⟩ := info_parts hinfo
  refine wpList_append_own _ hgd s x t ho lo e i' z 2 bytes ht hi0 hi1 hi2 hi3 hz (by omega) v ps.length (flatP ps) hs (hown.1.alloc _) ⟨W.heap.size, 0, none⟩ 1 1 [.int .i64 (i : Int), .int .i64 (k : Int)] hx rfl ?_ ?_ ?_ ?_ ?_ ?_
  · intro j u' hj
    match j, hj with
    | 0, hj => simp at hj; subst hj; simp [Addr.add]
    | 1, hj => simp at hj; subst hj; simp [Addr.add]
  · intro u' hu'
    simp at hu'
    rcases hu' with rfl | rfl <;> rfl
  · unfold maxLen; omega
  · have : (ps.length + 1) * bytes ≤ 4194305 * 1024 := Nat.mul_le_mul (by omega) hby
    omega
  · simp; omega
  · intro v' w' hown' hg _
    rw [flatP_snoc] at hown'
    have hl : (ps ++ [(i, k)]).length = ps.length + 1 := by simp
    have hsh : ∃ a c, v' = .slice a (ps.length + 1) c := by
      rcases hown'.2 with ⟨rfl, h0⟩ | ⟨g, cap, cur, rfl, _⟩
      · omega
      · exact ⟨_, cap, rfl⟩
    obtain ⟨a', c, rfl⟩ := hsh
    exact h a' c w' ⟨by rw [hl]; exact hown', fun g hg' => (hown'.lt g hg').2⟩ (grown_trans (World.grownBy_alloc W _ _) hg)
end
end Go.Proofs.Ytnmnmnpeoiblhaa
