/- What the reference draws: a box that is mostly quiet. -/
import Derived.Test.YtcifpfdlkpddeaaGreatDoorQxbj
import Derived.Test.YtcifpfdlkpddeaaGreatDoorQxaz
import Derived.Test.YtcifpfdlkpddeaaGreatDoorQxbk
set_option linter.unusedSimpArgs false
set_option linter.unusedVariables false
namespace Go.Proofs.YtcifpfdlkpddeaaGreatDoor
open Go.RowKit Go.WideShapes

/-- A box that is valid, of given sizes, its whole at most M. -/
structure QBox (x y : Int) (M : Nat) (b : BoxD) : Prop where
  ok : boxB b = true
  X : b.X = x
  Y : b.Y = y
  le : b.Whole ≤ M
theorem QBox.up {x y : Int} {M N : Nat} {b : BoxD} (h : QBox x y M b) (hMN : M ≤ N) : QBox x y N b := ⟨h.ok, h.X, h.Y, by have := h.le; omega⟩
theorem QBox.small {x y : Int} {M : Nat} {b : BoxD} (h : QBox x y M b) : SmB b := by
  obtain ⟨hs, hw, hl, hr⟩ := boxB_iff.1 h.ok
  have h9 := boxB_len h.ok
  refine ⟨by omega, fun i rs hi => ?_, by omega⟩
  have h4 := rowsB_get hr hi
  unfold fourB at h4
  rw [Bool.and_eq_true, Bool.and_eq_true, decide_eq_true_eq] at h4
  obtain ⟨⟨h1, h2⟩, _⟩ := h4
  exact ⟨h1, fun j n hj => by have := allIn_get h2 hj; omega⟩
/-- The plays, in their places. -/
theorem plays_own {T2 T1 lo hi N M : Nat} {w : World} {pa : Option Addr} {pc : Nat} {ps : List Value} (o : OwnII T2 T1 lo hi w (.slice pa M pc) (playsTo N M) ps) (hM : 0 < M) :
    ∃ gp, pa = some ⟨gp, 0, none⟩ ∧ lo ≤ gp ∧ gp < hi ∧ ∀ k, k < M → w.cell? ⟨gp, k, none⟩ = some (ps.getD k (.bool false)) ∧ RdI w (ps.getD k (.bool false)) (bitsTo N k N) := by
  have hl : ps.length = M := by rw [o.len]; simp [playsTo]
  obtain ⟨aa, gp, cap, hv, _, ha, hc, _⟩ := o.top.shape
  injection hv with e1 e2 e3
  subst e1 e3
  obtain ⟨rfl, h1, h2, _⟩ := ha (by rw [hl]; exact hM)
  refine ⟨gp, rfl, h1, h2, fun k hk => ?_⟩
  have hk' : ps[k]? = some ps[k] := List.getElem?_eq_getElem (by rw [hl]; exact hk)
  have hd : ps.getD k (.bool false) = ps[k] := by rw [List.getD_eq_getElem?_getD, hk']; rfl
  rw [hd]
  exact ⟨hc k _ hk', (o.row k _ (bitsTo N k N) hk' (by simp [playsTo, hk])).rdI⟩
theorem playN_box {x y : Int} {ps : List Int} {wh : Nat} (hs : sizesB x y = true) (hp : bitsB ps (x + y) = true) (h1 : 1 ≤ wh) (h2 : wh ≤ 1000) : boxB (boxOf x y wh (playN x ps wh)) = true := by
  obtain ⟨⟨hx0, hx1⟩, hy0, hy1⟩ := sizesB_iff.1 hs
  obtain ⟨X, rfl⟩ := Int.eq_ofNat_of_zero_le (show 0 ≤ x by omega)
  obtain ⟨Y, rfl⟩ := Int.eq_ofNat_of_zero_le (show 0 ≤ y by omega)
  rw [boxOf_boxB _ _ _ _ hs]
  · exact inB_iff.2 (by omega)
  · intro i j hi hj
    obtain ⟨p, hp1, p2⟩ := bits_get hp (j := i) (by omega)
    obtain ⟨q, hq1, q2⟩ := bits_get hp (j := X + j) (by omega)
    unfold FourN playN
    simp only [Int.toNat_natCast, List.getD_eq_getElem?_getD, hp1, hq1, Option.getD_some]
    have hp' : p = 0 ∨ p = 1 := by omega
    have hq' : q = 0 ∨ q = 1 := by omega
    rcases hp' with rfl | rfl <;> rcases hq' with rfl | rfl <;> simp
/-- A zero box in a block. -/
def ZB (w : World) (r : Nat) : Prop := w.heap[r]? = some (.cells #[.int .i64 0, .int .i64 0, .int .i64 0, .slice none 0 0] 26 (0, 0))
theorem ZB.made (w : World) : ZB (w.alloc (.cells #[.int .i64 0, .int .i64 0, .int .i64 0, .slice none 0 0] 26)) w.heap.size := heap_alloc_new w _
theorem ZB.lt {w : World} {r : Nat} (h : ZB w r) : r < w.heap.size := (Array.getElem?_eq_some_iff.1 h).1
theorem ZB.kept {w w' : World} {r B : Nat} (h : ZB w r) (hb : Below B w w') (hB : r < B) : ZB w' r := (hb.block r hB).trans h
theorem ZB.midc {w w' : World} {r g : Nat} (h : ZB w r) (hm : Mid g (g + 1) w w') (hg : g < r) : ZB w' r := (hm.block r h.lt (by omega)).trans h
theorem ZB.retAt {w : World} {r : Nat} (h : ZB w r) : RetAt w r := by
  unfold ZB at h
  refine ⟨?_, ?_, ?_, ?_, fun o => ?_⟩ <;> simp [World.cell?, World.frozen?, h]
theorem set4W_heap {w : World} {r : Nat} {x0 y0 z0 u0 : Value} {T : Nat} {fr : Nat × Nat} (h : w.heap[r]? = some (.cells #[x0, y0, z0, u0] T fr)) (x y z u : Value) : (set4W w r x y z u).heap[r]? = some (.cells #[x, y, z, u] T fr) := by
  simp [set4W, World.setCell, Array.getElem?_modify, h]
theorem set4W_other {w : World} {r k : Nat} (hk : k ≠ r) (x y z u : Value) : (set4W w r x y z u).heap[k]? = w.heap[k]? := by
  rw [set4W, Below.heap_setCell _ _ _ _ hk, Below.heap_setCell _ _ _ _ hk, Below.heap_setCell _ _ _ _ hk, Below.heap_setCell _ _ _ _ hk]
theorem set4W_size (w : World) (r : Nat) (x y z u : Value) : (set4W w r x y z u).heap.size = w.heap.size := by simp [set4W]
theorem set4W_new (w : World) (x0 y0 z0 u0 x y z u : Value) (T : Nat) : set4W (w.alloc (.cells #[x0, y0, z0, u0] T)) w.heap.size x y z u = w.alloc (.cells #[x, y, z, u] T) := by
  simp [set4W, World.setCell_alloc_new]
/-- The box variable, the result's, the plays and the cursor, while the box is put together. -/
structure QSt (w : World) (g : Nat) (v : Value) (n A : Nat) (gb hp : Nat) (pa : Option Addr) (pc : Nat) (ps : List Value) (N M : Nat) (x y : Int) (K : Nat) (wr : World) : Prop where
  bx : ∃ (b : BoxD) (a : Option Addr) (c : Nat) (vs : List Value), SpSt w gb w.heap.size wr b.X b.Y b.Whole b.Rows a c vs ∧ QBox x y K b
  pl : OwnII 33 3 (w.heap.size + 1) hp wr (.slice pa M pc) (playsTo N M) ps
  hp : hp ≤ gb
  cur : CurB g v n A wr
  mid : Mid g (g + 1) w wr
/-- A box is laid into the box variable. -/
theorem QSt.lay {w wr : World} {g n A gb hp N M K lo : Nat} {v : Value} {pa : Option Addr} {pc : Nat} {ps vs : List Value} {x y : Int} {b : BoxD} {a : Option Addr} {c : Nat} {x0 y0 z0 u0 : Value} {L : Nat} (hL : b.Rows.length = L) (hg : g < w.heap.size) (hrd : RdC g w v n)
    (hgb : wr.heap[gb]? = some (.cells #[x0, y0, z0, u0] 26 (0, 0))) (hr : ZB wr w.heap.size) (hpl : OwnII 33 3 (w.heap.size + 1) hp wr (.slice pa M pc) (playsTo N M) ps) (hhp : hp ≤ gb) (hhp0 : w.heap.size + 1 ≤ hp)
    (ob : OwnII 33 3 lo wr.heap.size wr (.slice a L c) b.Rows vs) (hlo : w.heap.size ≤ lo) (hq : QBox x y K b) (hc : CurB g v n A wr) (hm : Mid g (g + 1) w wr) :
    QSt w g v n A gb hp pa pc ps N M x y K (set4W wr gb (.int .i64 b.X) (.int .i64 b.Y) (.int .i64 b.Whole) (.slice a L c)) := by
  subst hL
  have hb := set4W_below (w := wr) (r := gb) (B := w.heap.size) (by omega) (.int .i64 b.X) (.int .i64 b.Y) (.int .i64 b.Whole) (.slice a b.Rows.length c)
  have hne : w.heap.size ≠ gb := by omega
  refine ⟨⟨b, a, c, vs, ⟨set4W_heap hgb _ _ _ _, (set4W_other hne _ _ _ _).trans hr, ?_, fun e => hne e.symm, by omega, Nat.le_refl _, by rw [set4W_size]; exact hm.size⟩, hq⟩, hpl.of_block fun k h1 h2 => set4W_other (by omega) _ _ _ _, hhp, hc.far hrd hg (Nat.le_refl _) hm hb, hm.low hb⟩
  have h := ob.tag hgb (w' := set4W wr gb (.int .i64 b.X) (.int .i64 b.Y) (.int .i64 b.Whole) (.slice a b.Rows.length c)) (by decide) (by decide) (fun k hk => set4W_other hk _ _ _ _)
  rw [set4W_size]
  exact h.weaken hlo (Nat.le_refl _)
theorem QSt.up {w wr : World} {g n A A' gb hp N M K K' : Nat} {v : Value} {pa : Option Addr} {pc : Nat} {ps : List Value} {x y : Int} (h : QSt w g v n A gb hp pa pc ps N M x y K wr) (hA : A ≤ A') (hK : K ≤ K') : QSt w g v n A' gb hp pa pc ps N M x y K' wr := by
  obtain ⟨⟨b, a, c, vs, sp, hq⟩, pl, hh, hc, hm⟩ := h
  exact ⟨⟨b, a, c, vs, sp, hq.up hK⟩, pl, hh, hc.up hA, hm⟩
theorem QSt.move {w wr wz : World} {g n A A' gb hp N M K : Nat} {v : Value} {pa : Option Addr} {pc : Nat} {ps : List Value} {x y : Int} (h : QSt w g v n A gb hp pa pc ps N M x y K wr) (hg : g < w.heap.size) (hm2 : Mid g (g + 1) wr wz) (hc2 : CurB g v n A' wz) : QSt w g v n A' gb hp pa pc ps N M x y K wz := by
  obtain ⟨⟨b, a, c, vs, sp, hq⟩, pl, hh, hc, hm⟩ := h
  exact ⟨⟨b, a, c, vs, sp.cur hm2 hg, hq⟩, pl.mid hm2 (Or.inr (by omega)), hh, hc2, hm.trans hm2⟩
theorem SpSt.lay {w wr : World} {gb lo L : Nat} {x y wh x0 y0 z0 : Int} {rss rss0 : List (List Int)} {a a0 : Option Addr} {c c0 : Nat} {vs vs0 : List Value} (hL : rss.length = L) (sp : SpSt w gb w.heap.size wr x0 y0 z0 rss0 a0 c0 vs0)
    (ob : OwnII 33 3 lo wr.heap.size wr (.slice a L c) rss vs) (hlo : w.heap.size ≤ lo) :
    SpSt w gb w.heap.size (set4W wr gb (.int .i64 x) (.int .i64 y) (.int .i64 wh) (.slice a L c)) x y wh rss a c vs ∧ Below w.heap.size wr (set4W wr gb (.int .i64 x) (.int .i64 y) (.int .i64 wh) (.slice a L c)) := by
  subst hL
  refine ⟨⟨set4W_heap sp.box _ _ _ _, (set4W_other (fun e => sp.ne e.symm) _ _ _ _).trans sp.ret, ?_, sp.ne, sp.b1, Nat.le_refl _, by rw [set4W_size]; exact sp.z1⟩, set4W_below sp.b1 _ _ _ _⟩
  have h := ob.tag sp.box (w' := set4W wr gb (.int .i64 x) (.int .i64 y) (.int .i64 wh) (.slice a rss.length c)) (by decide) (by decide) (fun k hk => set4W_other hk _ _ _ _)
  rw [set4W_size]
  exact h.weaken hlo (Nat.le_refl _)
/-- Two boxes mixed. -/
theorem mixq_any {X Y Ka Kb : Nat} {a b : BoxD} (qa : QBox X Y Ka a) (qb : QBox X Y Kb b) (va vb : Value) (W : World) (ra : RdII W va a.Rows) (rb : RdII W vb b.Rows) :
    Calls Tryz.prog 102 #[.agg #[.int .i64 X, .int .i64 Y, .int .i64 a.Whole, va], .agg #[.int .i64 X, .int .i64 Y, .int .i64 b.Whole, vb]] W fun e w' => ∃ a' c vs, e = .returned (.agg #[.int .i64 X, .int .i64 Y, .int .i64 (a.Whole + b.Whole), .slice a' (X * Y) c]) ∧
      OwnII 33 3 W.heap.size w'.heap.size w' (.slice a' (X * Y) c) (boxOf X Y (a.Whole + b.Whole) (mixN a b)).Rows vs ∧ Below W.heap.size W w' := by
  have hs : sameB a b = true := sameB_iff.2 ⟨qa.ok, qb.ok, by rw [qa.X, qb.X], by rw [qa.Y, qb.Y]⟩
  have h := l2Mix_any va a vb b hs W ra rb
  rw [qa.X, qa.Y, qb.X, qb.Y] at h
  unfold BoxOnly at h
  rw [Int.toNat_natCast, Int.toNat_natCast] at h
  exact h
theorem mixq_four {a b : BoxD} (hs : sameB a b = true) (i j : Nat) (hi : (i : Int) < a.X) (hj : (j : Int) < a.Y) : FourN (mixN a b) (a.Whole + b.Whole) i j := by
  obtain ⟨qa, qb, hX, hY⟩ := sameB_iff.1 hs
  obtain ⟨h0, h1, h2, h3, h4⟩ := boxB_four qa i j hi hj
  obtain ⟨k0, k1, k2, k3, k4⟩ := boxB_four qb i j (by rw [← hX]; exact hi) (by rw [← hY]; exact hj)
  unfold FourN mixN
  omega
theorem mixq_boxB {a b : BoxD} (hs : sameB a b = true) : boxB (boxOf a.X a.Y (a.Whole + b.Whole) (mixN a b)) = decide (a.Whole + b.Whole ≤ 1000) := by
  obtain ⟨qa, qb, _, _⟩ := sameB_iff.1 hs
  rw [boxOf_boxB _ _ _ _ (boxB_sizes qa) (mixq_four hs)]
  have h1 := (boxB_iff.1 qa).2.1
  have h2 := (boxB_iff.1 qb).2.1
  rw [Bool.eq_iff_iff, inB_iff, decide_eq_true_iff]
  omega
theorem mixq_q {X Y Ka Kb K : Nat} {a b : BoxD} (qa : QBox X Y Ka a) (qb : QBox X Y Kb b) (hK : Ka + Kb ≤ K) (h1 : K ≤ 1000) : QBox X Y K (boxOf X Y (a.Whole + b.Whole) (mixN a b)) := by
  have hs : sameB a b = true := sameB_iff.2 ⟨qa.ok, qb.ok, by rw [qa.X, qb.X], by rw [qa.Y, qb.Y]⟩
  have h := mixq_boxB hs
  have ha := qa.le
  have hb := qb.le
  rw [qa.X, qa.Y, decide_eq_true (by omega)] at h
  exact ⟨h, rfl, rfl, by show a.Whole + b.Whole ≤ (K : Int); omega⟩
theorem QBox.len {X Y K : Nat} {b : BoxD} (h : QBox X Y K b) : b.Rows.length = X * Y := by
  rw [boxB_len2 h.ok, h.X, h.Y, Int.toNat_natCast, Int.toNat_natCast]
theorem q_cells {w W : World} {gb r hp gp N M : Nat} {x y wh : Int} {rss : List (List Int)} {a : Option Addr} {c pc : Nat} {vs ps : List Value} {pv : Nat → Value} (hpv : ∀ k, pv k = ps.getD k (.bool false)) (hM : 0 < M)
    (sp : SpSt w gb r W x y wh rss a c vs) (o : OwnII 33 3 (w.heap.size + 1) hp W (.slice (some ⟨gp, 0, none⟩) M pc) (playsTo N M) ps) :
    (∀ k, k < M → W.cell? ⟨gp, k, none⟩ = some (pv k)) ∧ W.cell? ⟨gb, 0, none⟩ = some (.int .i64 x) ∧ W.cell? ⟨gb, 1, none⟩ = some (.int .i64 y) ∧ W.cell? ⟨gb, 2, none⟩ = some (.int .i64 wh) ∧ W.cell? ⟨gb, 3, none⟩ = some (.slice a rss.length c) := by
  obtain ⟨gq, hgq, _, _, hcp⟩ := plays_own o hM
  obtain rfl : gp = gq := by simpa using hgq
  obtain ⟨⟨h0, h1, h2, h3⟩, _⟩ := sp.cells
  exact ⟨fun k hk => by rw [hpv]; exact (hcp k hk).1, h0, h1, h2, h3⟩
theorem noiseq_any (X Y : Nat) (hs : sizesB X Y = true) (W : World) :
    Calls Tryz.prog 28 #[.int .i64 X, .int .i64 Y, .int .i64 1] W fun e w' => ∃ a c vs, e = .returned (.tuple #[.agg #[.int .i64 X, .int .i64 Y, .int .i64 4, .slice a (X * Y) c], .bool true]) ∧
      OwnII 33 3 W.heap.size w'.heap.size w' (.slice a (X * Y) c) (rowsTo (noiseN 1) Y (X * Y)) vs ∧ Below W.heap.size W w' := by
  have h := specNoiseBox_any X Y 1 W
  have ho : noiseOk X Y 1 = true := by unfold noiseOk; rw [hs]; rfl
  have hd : noiseD X Y 1 = ⟨X, Y, 4, rowsTo (noiseN 1) Y (X * Y)⟩ := by unfold noiseD; rw [if_pos ho]; rfl
  rw [ho, hd] at h
  unfold BoxRes at h
  simp only [rowsTo_length] at h
  exact h
theorem noiseq_q {X Y : Nat} (hs : sizesB X Y = true) : QBox X Y 4 ⟨X, Y, 4, rowsTo (noiseN 1) Y (X * Y)⟩ :=
  ⟨noise_boxB X Y 1 hs (by decide), rfl, rfl, by show (4 : Int) ≤ ((4 : Nat) : Int); omega⟩
theorem qSum_ok {X Y : Nat} (hX : 1 ≤ X ∧ X ≤ 3) (hY : 1 ≤ Y ∧ Y ≤ 3) : boxB ⟨X, Y, 2, qRows (X * Y) (X * Y)⟩ = true := by
  have h1 : X = 1 ∨ X = 2 ∨ X = 3 := by omega
  have h2 : Y = 1 ∨ Y = 2 ∨ Y = 3 := by omega
  rcases h1 with rfl | rfl | rfl <;> rcases h2 with rfl | rfl | rfl <;> decide
theorem sumq_any (X Y : Nat) (hX : 1 ≤ X ∧ X ≤ 3) (hY : 1 ≤ Y ∧ Y ≤ 3) (W : World) :
    Calls Tryz.prog 104 #[.int .i64 X, .int .i64 Y] W fun e w' => ∃ a c vs, e = .returned (.agg #[.int .i64 X, .int .i64 Y, .int .i64 2, .slice a (X * Y) c]) ∧
      OwnII 33 3 W.heap.size w'.heap.size w' (.slice a (X * Y) c) (qRows (X * Y) (X * Y)) vs ∧ Below W.heap.size W w' := by
  have h := l2Sum_any X Y hX hY W
  unfold BoxOnly at h
  rw [Int.toNat_natCast, Int.toNat_natCast] at h
  exact h
def qFlip (X Y N k : Nat) : BoxD := flipBL ⟨X, Y, 2, qRows (X * Y) (X * Y)⟩ (bitsTo N k N)
theorem flipq_any (X Y N k : Nat) (hX : 1 ≤ X ∧ X ≤ 3) (hY : 1 ≤ Y ∧ Y ≤ 3) (hN : N = X + Y) (vs v1 : Value) (W : World) (h : RdII W vs (qRows (X * Y) (X * Y))) (r1 : RdI W v1 (bitsTo N k N)) :
    Calls Tryz.prog 103 #[.agg #[.int .i64 X, .int .i64 Y, .int .i64 2, vs], v1] W fun e w' => ∃ a c zs, e = .returned (.agg #[.int .i64 X, .int .i64 Y, .int .i64 2, .slice a (X * Y) c]) ∧
      OwnII 33 3 W.heap.size w'.heap.size w' (.slice a (X * Y) c) (qFlip X Y N k).Rows zs ∧ Below W.heap.size W w' := by
  have h1 := l2Flip_any vs ⟨X, Y, 2, qRows (X * Y) (X * Y)⟩ v1 (bitsTo N k N) (qSum_ok hX hY) (bitsTo_bits N k _ (by rw [hN]; simp)) W h r1
  unfold BoxOnly at h1
  simp only [Int.toNat_natCast] at h1
  exact h1
theorem flipq_q {X Y N k : Nat} (hX : 1 ≤ X ∧ X ≤ 3) (hY : 1 ≤ Y ∧ Y ≤ 3) (hN : N = X + Y) : QBox X Y 2 (qFlip X Y N k) :=
  ⟨flip_box (b := ⟨X, Y, 2, qRows (X * Y) (X * Y)⟩) (qSum_ok hX hY) (bitsTo_bits N k _ (by rw [hN]; simp)), rfl, rfl, by show (2 : Int) ≤ ((2 : Nat) : Int); omega⟩
theorem pbox_any (X Y N k q : Nat) (v : Value) (hs : sizesB X Y = true) (hN : N = X + Y) (W : World) (h : RdI W v (bitsTo N k N)) :
    Calls Tryz.prog 65 #[.int .i64 X, .int .i64 Y, v, .int .i64 (1 + (q : Int))] W fun e w' => ∃ a c vs, e = .returned (.agg #[.int .i64 X, .int .i64 Y, .int .i64 (1 + (q : Int)), .slice a (X * Y) c]) ∧
      OwnII 33 3 W.heap.size w'.heap.size w' (.slice a (X * Y) c) (boxOf X Y ((1 + q : Nat) : Int) (playN X (bitsTo N k N) ((1 + q : Nat) : Int))).Rows vs ∧ Below W.heap.size W w' := by
  have h1 := l2PlayBox_any X Y v (bitsTo N k N) (1 + (q : Int)) hs (bitsTo_bits N k _ (by rw [hN]; simp)) W h
  have e : (1 + (q : Int)) = ((1 + q : Nat) : Int) := by simp
  rw [e] at h1 ⊢
  unfold BoxOnly at h1
  rw [Int.toNat_natCast, Int.toNat_natCast] at h1
  exact h1
theorem pbox_q {X Y N k q : Nat} (hs : sizesB X Y = true) (hN : N = X + Y) (hq : q < 3) : QBox X Y 3 (boxOf X Y ((1 + q : Nat) : Int) (playN X (bitsTo N k N) ((1 + q : Nat) : Int))) :=
  ⟨playN_box hs (bitsTo_bits N k _ (by rw [hN]; simp)) (by omega) (by omega), rfl, rfl, by show ((1 + q : Nat) : Int) ≤ ((3 : Nat) : Int); omega⟩
set_option maxRecDepth 20000 in
set_option maxHeartbeats 12800000 in
theorem quietOf_any (g : Nat) (v : Value) (n A : Nat) (x y : Int) (w : World) (hc : CurB g v n A w) (hA : A ≤ 900000) :
    Calls Tryz.prog 87 #[.pointer (some ⟨g, 0, none⟩), .int .i64 x, .int .i64 y] w fun e w' => BoxDrawn w (fun b => SmB b ∧ b.X = x ∧ b.Y = y) e w' ∧ CurB g v n (A + 2000) w' ∧ Mid g (g + 1) w w' := by
  have hg := hc.lt
  have HRD := Lib.hid hc.rd
  have CSZ := fun W => l2Sizes_any x y W
  have R0 : RetAt (w.alloc (.cells #[.int .i64 0, .int .i64 0, .int .i64 0, .slice none 0 0] 26)) w.heap.size := RetAt.made w
  have hc0 : CurB g v n A (w.alloc (.cells #[.int .i64 0, .int .i64 0, .int .i64 0, .slice none 0 0] 26)) := hc.kept (Nat.le_refl _) ((Below.refl _ _).alloc (Nat.le_refl _) _)
  have hm0 : Mid g (g + 1) w (w.alloc (.cells #[.int .i64 0, .int .i64 0, .int .i64 0, .slice none 0 0] 26)) := mid_alloc g w _
  rcases Bool.eq_false_or_eq_true (sizesB x y) with hs | hs
  · rw [hs] at CSZ
    obtain ⟨hx, hy⟩ := sizesB_iff.1 hs
    have HS := Lib.hid hs
    obtain ⟨X, rfl⟩ := Int.eq_ofNat_of_zero_le (show 0 ≤ x by omega)
    obtain ⟨Y, rfl⟩ := Int.eq_ofNat_of_zero_le (show 0 ≤ y by omega)
    have CP := l2Plays_any X Y (by omega) (by omega) (w.alloc (.cells #[.int .i64 0, .int .i64 0, .int .i64 0, .slice none 0 0] 26))
    rw [World.size_alloc] at CP
    clear hs
    go_enter Tryz.func87, Tryz.ntmps87
    go_wp2_with fail
    refine (CSZ _).mono ?_
    rintro e w1 ⟨rfl, rfl⟩
    go_wp2_with fail
    refine CP.mono ?_
    rintro e w1 ⟨pa, pc, ps, rfl, op, b1⟩
    obtain ⟨N, hN⟩ : ∃ N, N = X + Y := ⟨_, rfl⟩
    obtain ⟨M, hM⟩ : ∃ M, M = 2 ^ N := ⟨_, rfl⟩
    rw [← hN, ← hM] at op ⊢
    have hpl : (playsTo N M).length = M := by simp [playsTo]
    rw [hpl] at op ⊢
    have hM1 : 0 < M := by rw [hM]; exact Nat.two_pow_pos _
    have hM64 : M ≤ 64 := by rw [hM]; exact Nat.le_trans (Nat.pow_le_pow_right (by omega) (show N ≤ 6 by omega)) (by decide)
    have HNM := Lib.hid (And.intro hN hM)
    have B1 : Below (w.heap.size + 1) (w.alloc (.cells #[.int .i64 0, .int .i64 0, .int .i64 0, .slice none 0 0] 26)) w1 := b1
    have Z1 : ZB w1 w.heap.size := (ZB.made w).kept B1 (by omega)
    have h1 := hc0.kept (by simp) B1
    have m1 := hm0.trans (Mid.of_below B1 (by simp))
    have z1 := B1.size
    rw [World.size_alloc] at z1
    have hp1 : ∀ k, k < M → w1.cell? ⟨0, k, none⟩ = w1.cell? ⟨0, k, none⟩ := fun _ _ => rfl
    obtain ⟨gp, rfl, hg0, hg1, hcp⟩ := plays_own op hM1
    have HCP := Lib.hid hcp
    clear CP CSZ hpl hN hM b1 B1 hc0 hm0 hp1 hcp hc
    obtain ⟨pv, hpv⟩ : ∃ pv : Nat → Value, ∀ k, pv k = ps.getD k (.bool false) := ⟨fun k => ps.getD k (.bool false), fun k => rfl⟩
    have HPV := Lib.hid hpv
    have hS1 : ∀ k, k < M → w1.cell? ⟨gp, k, none⟩ = some (pv k) := fun k hk => by rw [hpv]; exact (HCP.out k hk).1
    clear hpv
    go_wp2
    go_cut [8] (fun s8 wx => ∃ gb, s8 = .pointer (some ⟨gb, 0, none⟩) ∧ QSt w g v n (A + 4) gb w1.heap.size (some ⟨gp, 0, none⟩) pc ps N M X Y 3 wx)
    case first =>
      have BD : Below w1.heap.size w1 w1.drew := (Below.refl _ _).drew
      have hcD := h1.kept (Nat.le_refl _) BD
      have mD := m1.trans (Mid.of_below BD (Nat.le_refl _))
      have oD := op.kept BD (Nat.le_refl _)
      have ZD := ZB.kept Z1 BD (by omega)
      have zD : w1.drew.heap.size = w1.heap.size := rfl
      have hSD : ∀ k, k < M → w1.drew.cell? ⟨gp, k, none⟩ = some (pv k) := hS1
      refine wp_region_cut_held (S := fun W => ∀ k, k < M → W.cell? ⟨gp, k, none⟩ = some (pv k)) 14 _ rfl (by kernel_rfl) (by kernel_rfl) hSD (fun hHeld => ?_)
      simp only [List.take_succ_cons, List.take_zero]
      refine wpAnyH_take (i := 0) (v := ?_) rfl (by kernel_rfl) (by kernel_rfl) (by kernel_rfl) (fun _ _ _ h => h) (Or.inl ⟨by rfl, ?_⟩) (by assumption) ?_
      rotate_left
      · (intro w hSw; (try dsimp only at hSw); go_simp; try with_reducible rfl)
      try simp only [Act.put, List.getElem_toArray, List.getElem_cons_zero, List.getElem_cons_succ, List.setIfInBounds_toArray, List.set_cons_zero, List.set_cons_succ]
      refine wpAnyH_take (i := 1) (v := ?_) rfl (by kernel_rfl) (by kernel_rfl) (by kernel_rfl) (fun _ _ _ h => h) (Or.inl ⟨by rfl, ?_⟩) (by assumption) ?_
      rotate_left
      · (intro w hSw; (try dsimp only at hSw); go_simp; try with_reducible rfl)
      try simp only [Act.put, List.getElem_toArray, List.getElem_cons_zero, List.getElem_cons_succ, List.setIfInBounds_toArray, List.set_cons_zero, List.set_cons_succ]
      refine wpAnyH_take (i := 2) (v := ?_) rfl (by kernel_rfl) (by kernel_rfl) (by kernel_rfl) (fun _ _ _ h => h) (Or.inl ⟨by rfl, ?_⟩) (by assumption) ?_
      rotate_left
      · (intro w hSw; (try dsimp only at hSw); go_simp; try with_reducible rfl)
      try simp only [Act.put, List.getElem_toArray, List.getElem_cons_zero, List.getElem_cons_succ, List.setIfInBounds_toArray, List.set_cons_zero, List.set_cons_succ]
      refine wpAnyH_take (i := 3) (v := ?_) rfl (by kernel_rfl) (by kernel_rfl) (by kernel_rfl) (fun _ _ _ h => h) (Or.inl ⟨by rfl, ?_⟩) (by assumption) ?_
      rotate_left
      · (intro w hSw; (try dsimp only at hSw); go_simp; try with_reducible rfl)
      try simp only [Act.put, List.getElem_toArray, List.getElem_cons_zero, List.getElem_cons_succ, List.setIfInBounds_toArray, List.set_cons_zero, List.set_cons_succ]
      refine wpAnyH_take (i := 4) (v := ?_) rfl (by kernel_rfl) (by kernel_rfl) (by kernel_rfl) (fun _ _ _ h => h) (Or.inl ⟨by rfl, ?_⟩) (by assumption) ?_
      rotate_left
      · (intro w hSw; (try dsimp only at hSw); go_simp; try with_reducible rfl)
      try simp only [Act.put, List.getElem_toArray, List.getElem_cons_zero, List.getElem_cons_succ, List.setIfInBounds_toArray, List.set_cons_zero, List.set_cons_succ]
      refine wpAnyH_take (i := 5) (v := ?_) rfl (by kernel_rfl) (by kernel_rfl) (by kernel_rfl) (fun _ _ _ h => h) (Or.inl ⟨by rfl, ?_⟩) (by assumption) ?_
      rotate_left
      · (intro w hSw; (try dsimp only at hSw); go_simp; try with_reducible rfl)
      try simp only [Act.put, List.getElem_toArray, List.getElem_cons_zero, List.getElem_cons_succ, List.setIfInBounds_toArray, List.set_cons_zero, List.set_cons_succ]
      refine wpAnyH_take (i := 9) (v := ?_) rfl (by kernel_rfl) (by kernel_rfl) (by kernel_rfl) (fun _ _ _ h => h) (Or.inl ⟨by rfl, ?_⟩) (by assumption) ?_
      rotate_left
      · (intro w hSw; (try dsimp only at hSw); go_simp; try with_reducible rfl)
      try simp only [Act.put, List.getElem_toArray, List.getElem_cons_zero, List.getElem_cons_succ, List.setIfInBounds_toArray, List.set_cons_zero, List.set_cons_succ]
      refine wpAnyH_ready (rs := [6, 13]) (by kernel_rfl) (by simp) ?_
      refine AllReadyH.cons rfl (fun K hK => ?_) (AllReadyH.cons rfl (fun K hK => ?_) AllReadyH.nil)
      · go_simp
        have C1 := pick_any g v n A M w1.drew hcD.cur hcD.rd (by omega) (by omega) (by omega)
        refine C1.mono ?_
        rintro e w2 ⟨k, rfl, hk, hc2, hm2⟩
        have h2 := hcD.step hc2 hm2
        have m2 := mD.trans hm2
        have o2 := oD.mid hm2 (Or.inr (by omega))
        have Z2 := ZB.midc ZD hm2 hg
        have z2 := hm2.size
        have hS2 : ∀ k, k < M → w2.cell? ⟨gp, k, none⟩ = some (pv k) := fun j hj => hm2.keep (Or.inr (by omega)) (hSD j hj)
        have hki : (k : Int) < (M : Int) := by omega
        have hk0 : (0 : Int) ≤ (k : Int) := by omega
        clear C1 hc2
        go_wp2_with fail
        refine hK.out _ _ ?_ (fun hHeld => ?_)
        · exact hS2
        clear hK K
        try simp only [Act.put, List.setIfInBounds_toArray, List.set_cons_zero, List.set_cons_succ]
        refine wpAnyH_take (i := 7) (v := ?_) rfl (by kernel_rfl) (by kernel_rfl) (by kernel_rfl) (fun _ _ _ h => h) (Or.inl ⟨by rfl, ?_⟩) (by assumption) ?_
        rotate_left
        · (intro w hSw; (try dsimp only at hSw); go_simp; try with_reducible rfl)
        try simp only [Act.put, List.getElem_toArray, List.getElem_cons_zero, List.getElem_cons_succ, List.setIfInBounds_toArray, List.set_cons_zero, List.set_cons_succ]
        refine wpAnyH_take (i := 8) (v := ?_) rfl (by kernel_rfl) (by kernel_rfl) (by kernel_rfl) (fun _ _ _ h => h) (Or.inl ⟨by rfl, ?_⟩) (by assumption) ?_
        rotate_left
        · (intro w hSw; (try dsimp only at hSw); go_simp; try with_reducible rfl)
        try simp only [Act.put, List.getElem_toArray, List.getElem_cons_zero, List.getElem_cons_succ, List.setIfInBounds_toArray, List.set_cons_zero, List.set_cons_succ]
        refine wpAnyH_ready (rs := [10, 13]) (by kernel_rfl) (by simp) ?_
        refine AllReadyH.cons rfl (fun K hK => ?_) (AllReadyH.cons rfl (fun K hK => ?_) AllReadyH.nil)
        · go_simp
          have C2 := pick_any g v n (A + 2) 3 w2 h2.cur h2.rd (by omega) (by decide) (by decide)
          refine C2.mono ?_
          rintro e w3 ⟨q, rfl, hq, hc3, hm3⟩
          have h3 := h2.step hc3 hm3
          have m3 := m2.trans hm3
          have o3 := o2.mid hm3 (Or.inr (by omega))
          have Z3 := ZB.midc Z2 hm3 hg
          have z3 := hm3.size
          have hwq := wrap_in (1 + (q : Int)) (by omega) (by omega)
          have hS3 : ∀ k, k < M → w3.cell? ⟨gp, k, none⟩ = some (pv k) := fun j hj => hm3.keep (Or.inr (by omega)) (hS2 j hj)
          clear C2 hc3
          go_wp2_with fail
          refine hK.out _ _ ?_ (fun hHeld => ?_)
          · exact hS3
          clear hK K
          try simp only [Act.put, List.setIfInBounds_toArray, List.set_cons_zero, List.set_cons_succ]
          refine wpAnyH_take (i := 11) (v := ?_) rfl (by kernel_rfl) (by kernel_rfl) (by kernel_rfl) (fun _ _ _ h => h) (Or.inl ⟨by rfl, ?_⟩) (by assumption) ?_
          rotate_left
          · (intro w hSw; (try dsimp only at hSw); go_simp; try with_reducible rfl)
          try simp only [Act.put, List.getElem_toArray, List.getElem_cons_zero, List.getElem_cons_succ, List.setIfInBounds_toArray, List.set_cons_zero, List.set_cons_succ]
          refine wpAnyH_ready (rs := [12, 13]) (by kernel_rfl) (by simp) ?_
          refine AllReadyH.cons rfl (fun K hK => ?_) (AllReadyH.cons rfl (fun K hK => ?_) AllReadyH.nil)
          · go_simp
            obtain ⟨gq, hgq, _, _, hcp⟩ := plays_own o3 hM1
            obtain rfl : gp = gq := by simpa using hgq
            clear hgq
            have C3 := pbox_any X Y N k q (pv k) HS.out HNM.out.1 w3 (by rw [HPV.out]; exact (hcp k hk).2)
            refine C3.mono ?_
            rintro e w4 ⟨ba, bc, bs, rfl, ob, b4⟩
            have h4 := h3.kept (Nat.le_refl _) b4
            have m4 := m3.trans (Mid.of_below b4 (Nat.le_refl _))
            have z4 := b4.size
            have o4 := o3.kept b4 (by omega)
            have Z4 := ZB.kept Z3 b4 (ZB.lt Z3)
            have hS4 : ∀ k, k < M → w4.cell? ⟨gp, k, none⟩ = some (pv k) := fun j hj => keepCell b4 (hS3 j hj)
            clear C3 hcp
            go_wp2_with fail
            refine hK.out _ _ ?_ (fun hHeld => ?_)
            · exact hS4
            clear hK K
            try simp only [Act.put, List.setIfInBounds_toArray, List.set_cons_zero, List.set_cons_succ]
            refine wpAnyH_ready (rs := [13]) (by kernel_rfl) (by simp) ?_
            refine AllReadyH.cons rfl (fun K hK => ?_) AllReadyH.nil
            have BA : Below w4.heap.size w4 (w4.alloc (.cells #[.int .i64 0, .int .i64 0, .int .i64 0, .slice none 0 0] 26)) := (Below.refl _ _).alloc (Nat.le_refl _) _
            have hA5 := h4.kept (Nat.le_refl _) BA
            have mA5 := m4.trans (Mid.of_below BA (Nat.le_refl _))
            have oA5 := o4.kept BA (by omega)
            have ZA5 := ZB.kept Z4 BA (ZB.lt Z4)
            have GA5 := ZB.made w4
            have zA5 : (w4.alloc (.cells #[.int .i64 0, .int .i64 0, .int .i64 0, .slice none 0 0] 26)).heap.size = w4.heap.size + 1 := World.size_alloc _ _
            have hSA : ∀ k, k < M → (w4.alloc (.cells #[.int .i64 0, .int .i64 0, .int .i64 0, .slice none 0 0] 26)).cell? ⟨gp, k, none⟩ = some (pv k) := fun j hj => keepCell BA (hS4 j hj)
            go_simp
            refine hK.out _ _ ?_ (fun hHeld => ?_)
            · exact hSA
            clear hK K
            try simp only [Act.put, List.setIfInBounds_toArray, List.set_cons_zero, List.set_cons_succ]
            have OB5 := (ob.kept BA (Nat.le_refl _)).weaken (hi' := (w4.alloc (.cells #[.int .i64 0, .int .i64 0, .int .i64 0, .slice none 0 0] 26)).heap.size) (Nat.le_refl _) (by rw [World.size_alloc]; omega)
            refine wpAnyH_done (by kernel_rfl) ?_ _
            show wpList _ _ _ _ _ _
            obtain ⟨e0, e1, e2, e3, ef⟩ := ZB.retAt GA5
            have hQ := QSt.lay (b := boxOf X Y ((1 + q : Nat) : Int) (playN X (bitsTo N k N) ((1 + q : Nat) : Int))) (by rw [boxOf_len, Int.toNat_natCast, Int.toNat_natCast]) hg HRD.out (gb := w4.heap.size) GA5 ZA5 oA5 (by omega) (by omega) OB5 (by omega) (pbox_q HS.out HNM.out.1 hq) hA5 mA5
            rw [set4W_new] at hQ; go_wp2
            go_meet
            exact ⟨_, rfl, hQ⟩
          · skip
            have BA : Below w3.heap.size w3 (w3.alloc (.cells #[.int .i64 0, .int .i64 0, .int .i64 0, .slice none 0 0] 26)) := (Below.refl _ _).alloc (Nat.le_refl _) _
            have hA5 := h3.kept (Nat.le_refl _) BA
            have mA5 := m3.trans (Mid.of_below BA (Nat.le_refl _))
            have oA5 := o3.kept BA (by omega)
            have ZA5 := ZB.kept Z3 BA (ZB.lt Z3)
            have GA5 := ZB.made w3
            have zA5 : (w3.alloc (.cells #[.int .i64 0, .int .i64 0, .int .i64 0, .slice none 0 0] 26)).heap.size = w3.heap.size + 1 := World.size_alloc _ _
            have hSA : ∀ k, k < M → (w3.alloc (.cells #[.int .i64 0, .int .i64 0, .int .i64 0, .slice none 0 0] 26)).cell? ⟨gp, k, none⟩ = some (pv k) := fun j hj => keepCell BA (hS3 j hj)
            go_simp
            refine hK.out _ _ ?_ (fun hHeld => ?_)
            · exact hSA
            clear hK K
            try simp only [Act.put, List.setIfInBounds_toArray, List.set_cons_zero, List.set_cons_succ]
            refine wpAnyH_ready (rs := [12]) (by kernel_rfl) (by simp) ?_
            refine AllReadyH.cons rfl (fun K hK => ?_) AllReadyH.nil
            go_simp
            obtain ⟨gq, hgq, _, _, hcp⟩ := plays_own oA5 hM1
            obtain rfl : gp = gq := by simpa using hgq
            clear hgq
            have C3 := pbox_any X Y N k q (pv k) HS.out HNM.out.1 (w3.alloc (.cells #[.int .i64 0, .int .i64 0, .int .i64 0, .slice none 0 0] 26)) (by rw [HPV.out]; exact (hcp k hk).2)
            refine C3.mono ?_
            rintro e w4 ⟨ba, bc, bs, rfl, ob, b4⟩
            have h4 := hA5.kept (Nat.le_refl _) b4
            have m4 := mA5.trans (Mid.of_below b4 (Nat.le_refl _))
            have z4 := b4.size
            have o4 := oA5.kept b4 (by omega)
            have Z4 := ZB.kept ZA5 b4 (ZB.lt ZA5)
            have hS4 : ∀ k, k < M → w4.cell? ⟨gp, k, none⟩ = some (pv k) := fun j hj => keepCell b4 (hSA j hj)
            clear C3 hcp
            go_wp2_with fail
            refine hK.out _ _ ?_ (fun hHeld => ?_)
            · exact hS4
            clear hK K
            try simp only [Act.put, List.setIfInBounds_toArray, List.set_cons_zero, List.set_cons_succ]
            have G4 := GA5.kept b4 GA5.lt
            refine wpAnyH_done (by kernel_rfl) ?_ _
            show wpList _ _ _ _ _ _
            obtain ⟨e0, e1, e2, e3, ef⟩ := ZB.retAt G4
            have hQ := QSt.lay (b := boxOf X Y ((1 + q : Nat) : Int) (playN X (bitsTo N k N) ((1 + q : Nat) : Int))) (by rw [boxOf_len, Int.toNat_natCast, Int.toNat_natCast]) hg HRD.out (gb := w3.heap.size) G4 Z4 o4 (by omega) (by omega) ob (by omega) (pbox_q HS.out HNM.out.1 hq) h4 m4
            go_wp2
            go_meet
            exact ⟨_, rfl, hQ⟩
        · skip
          have BA : Below w2.heap.size w2 (w2.alloc (.cells #[.int .i64 0, .int .i64 0, .int .i64 0, .slice none 0 0] 26)) := (Below.refl _ _).alloc (Nat.le_refl _) _
          have hA5 := h2.kept (Nat.le_refl _) BA
          have mA5 := m2.trans (Mid.of_below BA (Nat.le_refl _))
          have oA5 := o2.kept BA (by omega)
          have ZA5 := ZB.kept Z2 BA (ZB.lt Z2)
          have GA5 := ZB.made w2
          have zA5 : (w2.alloc (.cells #[.int .i64 0, .int .i64 0, .int .i64 0, .slice none 0 0] 26)).heap.size = w2.heap.size + 1 := World.size_alloc _ _
          have hSA : ∀ k, k < M → (w2.alloc (.cells #[.int .i64 0, .int .i64 0, .int .i64 0, .slice none 0 0] 26)).cell? ⟨gp, k, none⟩ = some (pv k) := fun j hj => keepCell BA (hS2 j hj)
          go_simp
          refine hK.out _ _ ?_ (fun hHeld => ?_)
          · exact hSA
          clear hK K
          try simp only [Act.put, List.setIfInBounds_toArray, List.set_cons_zero, List.set_cons_succ]
          refine wpAnyH_ready (rs := [10]) (by kernel_rfl) (by simp) ?_
          refine AllReadyH.cons rfl (fun K hK => ?_) AllReadyH.nil
          go_simp
          have C2 := pick_any g v n (A + 2) 3 (w2.alloc (.cells #[.int .i64 0, .int .i64 0, .int .i64 0, .slice none 0 0] 26)) hA5.cur hA5.rd (by omega) (by decide) (by decide)
          refine C2.mono ?_
          rintro e w3 ⟨q, rfl, hq, hc3, hm3⟩
          have h3 := hA5.step hc3 hm3
          have m3 := mA5.trans hm3
          have o3 := oA5.mid hm3 (Or.inr (by omega))
          have Z3 := ZB.midc ZA5 hm3 hg
          have z3 := hm3.size
          have hwq := wrap_in (1 + (q : Int)) (by omega) (by omega)
          have hS3 : ∀ k, k < M → w3.cell? ⟨gp, k, none⟩ = some (pv k) := fun j hj => hm3.keep (Or.inr (by omega)) (hSA j hj)
          clear C2 hc3
          go_wp2_with fail
          refine hK.out _ _ ?_ (fun hHeld => ?_)
          · exact hS3
          clear hK K
          try simp only [Act.put, List.setIfInBounds_toArray, List.set_cons_zero, List.set_cons_succ]
          refine wpAnyH_take (i := 11) (v := ?_) rfl (by kernel_rfl) (by kernel_rfl) (by kernel_rfl) (fun _ _ _ h => h) (Or.inl ⟨by rfl, ?_⟩) (by assumption) ?_
          rotate_left
          · (intro w hSw; (try dsimp only at hSw); go_simp; try with_reducible rfl)
          try simp only [Act.put, List.getElem_toArray, List.getElem_cons_zero, List.getElem_cons_succ, List.setIfInBounds_toArray, List.set_cons_zero, List.set_cons_succ]
          have G3 := GA5.midc hm3 (by omega)
          refine wpAnyH_ready (rs := [12]) (by kernel_rfl) (by simp) ?_
          refine AllReadyH.cons rfl (fun K hK => ?_) AllReadyH.nil
          go_simp
          obtain ⟨gq, hgq, _, _, hcp⟩ := plays_own o3 hM1
          obtain rfl : gp = gq := by simpa using hgq
          clear hgq
          have C3 := pbox_any X Y N k q (pv k) HS.out HNM.out.1 w3 (by rw [HPV.out]; exact (hcp k hk).2)
          refine C3.mono ?_
          rintro e w4 ⟨ba, bc, bs, rfl, ob, b4⟩
          have h4 := h3.kept (Nat.le_refl _) b4
          have m4 := m3.trans (Mid.of_below b4 (Nat.le_refl _))
          have z4 := b4.size
          have o4 := o3.kept b4 (by omega)
          have Z4 := ZB.kept Z3 b4 (ZB.lt Z3)
          have hS4 : ∀ k, k < M → w4.cell? ⟨gp, k, none⟩ = some (pv k) := fun j hj => keepCell b4 (hS3 j hj)
          clear C3 hcp
          go_wp2_with fail
          refine hK.out _ _ ?_ (fun hHeld => ?_)
          · exact hS4
          clear hK K
          try simp only [Act.put, List.setIfInBounds_toArray, List.set_cons_zero, List.set_cons_succ]
          have G4 := G3.kept b4 G3.lt
          refine wpAnyH_done (by kernel_rfl) ?_ _
          show wpList _ _ _ _ _ _
          obtain ⟨e0, e1, e2, e3, ef⟩ := ZB.retAt G4
          have hQ := QSt.lay (b := boxOf X Y ((1 + q : Nat) : Int) (playN X (bitsTo N k N) ((1 + q : Nat) : Int))) (by rw [boxOf_len, Int.toNat_natCast, Int.toNat_natCast]) hg HRD.out (gb := w2.heap.size) G4 Z4 o4 (by omega) (by omega) ob (by omega) (pbox_q HS.out HNM.out.1 hq) h4 m4
          go_wp2
          go_meet
          exact ⟨_, rfl, hQ⟩
      · skip
        have BA : Below w1.drew.heap.size w1.drew (w1.drew.alloc (.cells #[.int .i64 0, .int .i64 0, .int .i64 0, .slice none 0 0] 26)) := (Below.refl _ _).alloc (Nat.le_refl _) _
        have hA5 := hcD.kept (Nat.le_refl _) BA
        have mA5 := mD.trans (Mid.of_below BA (Nat.le_refl _))
        have oA5 := oD.kept BA (by omega)
        have ZA5 := ZB.kept ZD BA (ZB.lt ZD)
        have GA5 := ZB.made w1.drew
        have zA5 : (w1.drew.alloc (.cells #[.int .i64 0, .int .i64 0, .int .i64 0, .slice none 0 0] 26)).heap.size = w1.drew.heap.size + 1 := World.size_alloc _ _
        have hSA : ∀ k, k < M → (w1.drew.alloc (.cells #[.int .i64 0, .int .i64 0, .int .i64 0, .slice none 0 0] 26)).cell? ⟨gp, k, none⟩ = some (pv k) := fun j hj => keepCell BA (hSD j hj)
        go_simp
        refine hK.out _ _ ?_ (fun hHeld => ?_)
        · exact hSA
        clear hK K
        try simp only [Act.put, List.setIfInBounds_toArray, List.set_cons_zero, List.set_cons_succ]
        refine wpAnyH_ready (rs := [6]) (by kernel_rfl) (by simp) ?_
        refine AllReadyH.cons rfl (fun K hK => ?_) AllReadyH.nil
        go_simp
        have C1 := pick_any g v n A M (w1.drew.alloc (.cells #[.int .i64 0, .int .i64 0, .int .i64 0, .slice none 0 0] 26)) hA5.cur hA5.rd (by omega) (by omega) (by omega)
        refine C1.mono ?_
        rintro e w2 ⟨k, rfl, hk, hc2, hm2⟩
        have h2 := hA5.step hc2 hm2
        have m2 := mA5.trans hm2
        have o2 := oA5.mid hm2 (Or.inr (by omega))
        have Z2 := ZB.midc ZA5 hm2 hg
        have z2 := hm2.size
        have hS2 : ∀ k, k < M → w2.cell? ⟨gp, k, none⟩ = some (pv k) := fun j hj => hm2.keep (Or.inr (by omega)) (hSA j hj)
        have hki : (k : Int) < (M : Int) := by omega
        have hk0 : (0 : Int) ≤ (k : Int) := by omega
        clear C1 hc2
        go_wp2_with fail
        refine hK.out _ _ ?_ (fun hHeld => ?_)
        · exact hS2
        clear hK K
        try simp only [Act.put, List.setIfInBounds_toArray, List.set_cons_zero, List.set_cons_succ]
        refine wpAnyH_take (i := 7) (v := ?_) rfl (by kernel_rfl) (by kernel_rfl) (by kernel_rfl) (fun _ _ _ h => h) (Or.inl ⟨by rfl, ?_⟩) (by assumption) ?_
        rotate_left
        · (intro w hSw; (try dsimp only at hSw); go_simp; try with_reducible rfl)
        try simp only [Act.put, List.getElem_toArray, List.getElem_cons_zero, List.getElem_cons_succ, List.setIfInBounds_toArray, List.set_cons_zero, List.set_cons_succ]
        refine wpAnyH_take (i := 8) (v := ?_) rfl (by kernel_rfl) (by kernel_rfl) (by kernel_rfl) (fun _ _ _ h => h) (Or.inl ⟨by rfl, ?_⟩) (by assumption) ?_
        rotate_left
        · (intro w hSw; (try dsimp only at hSw); go_simp; try with_reducible rfl)
        try simp only [Act.put, List.getElem_toArray, List.getElem_cons_zero, List.getElem_cons_succ, List.setIfInBounds_toArray, List.set_cons_zero, List.set_cons_succ]
        have G2 := GA5.midc hm2 (by omega)
        refine wpAnyH_ready (rs := [10]) (by kernel_rfl) (by simp) ?_
        refine AllReadyH.cons rfl (fun K hK => ?_) AllReadyH.nil
        go_simp
        have C2 := pick_any g v n (A + 2) 3 w2 h2.cur h2.rd (by omega) (by decide) (by decide)
        refine C2.mono ?_
        rintro e w3 ⟨q, rfl, hq, hc3, hm3⟩
        have h3 := h2.step hc3 hm3
        have m3 := m2.trans hm3
        have o3 := o2.mid hm3 (Or.inr (by omega))
        have Z3 := ZB.midc Z2 hm3 hg
        have z3 := hm3.size
        have hwq := wrap_in (1 + (q : Int)) (by omega) (by omega)
        have hS3 : ∀ k, k < M → w3.cell? ⟨gp, k, none⟩ = some (pv k) := fun j hj => hm3.keep (Or.inr (by omega)) (hS2 j hj)
        clear C2 hc3
        go_wp2_with fail
        refine hK.out _ _ ?_ (fun hHeld => ?_)
        · exact hS3
        clear hK K
        try simp only [Act.put, List.setIfInBounds_toArray, List.set_cons_zero, List.set_cons_succ]
        refine wpAnyH_take (i := 11) (v := ?_) rfl (by kernel_rfl) (by kernel_rfl) (by kernel_rfl) (fun _ _ _ h => h) (Or.inl ⟨by rfl, ?_⟩) (by assumption) ?_
        rotate_left
        · (intro w hSw; (try dsimp only at hSw); go_simp; try with_reducible rfl)
        try simp only [Act.put, List.getElem_toArray, List.getElem_cons_zero, List.getElem_cons_succ, List.setIfInBounds_toArray, List.set_cons_zero, List.set_cons_succ]
        have G3 := G2.midc hm3 (by omega)
        refine wpAnyH_ready (rs := [12]) (by kernel_rfl) (by simp) ?_
        refine AllReadyH.cons rfl (fun K hK => ?_) AllReadyH.nil
        go_simp
        obtain ⟨gq, hgq, _, _, hcp⟩ := plays_own o3 hM1
        obtain rfl : gp = gq := by simpa using hgq
        clear hgq
        have C3 := pbox_any X Y N k q (pv k) HS.out HNM.out.1 w3 (by rw [HPV.out]; exact (hcp k hk).2)
        refine C3.mono ?_
        rintro e w4 ⟨ba, bc, bs, rfl, ob, b4⟩
        have h4 := h3.kept (Nat.le_refl _) b4
        have m4 := m3.trans (Mid.of_below b4 (Nat.le_refl _))
        have z4 := b4.size
        have o4 := o3.kept b4 (by omega)
        have Z4 := ZB.kept Z3 b4 (ZB.lt Z3)
        have hS4 : ∀ k, k < M → w4.cell? ⟨gp, k, none⟩ = some (pv k) := fun j hj => keepCell b4 (hS3 j hj)
        clear C3 hcp
        go_wp2_with fail
        refine hK.out _ _ ?_ (fun hHeld => ?_)
        · exact hS4
        clear hK K
        try simp only [Act.put, List.setIfInBounds_toArray, List.set_cons_zero, List.set_cons_succ]
        have G4 : ZB w4 w1.heap.size := G3.kept b4 G3.lt
        refine wpAnyH_done (by kernel_rfl) ?_ _
        show wpList _ _ _ _ _ _
        obtain ⟨e0, e1, e2, e3, ef⟩ := ZB.retAt G4
        have hQ := QSt.lay (b := boxOf X Y ((1 + q : Nat) : Int) (playN X (bitsTo N k N) ((1 + q : Nat) : Int))) (by rw [boxOf_len, Int.toNat_natCast, Int.toNat_natCast]) hg HRD.out (gb := w1.heap.size) G4 Z4 o4 (by omega) (by omega) ob (by omega) (pbox_q HS.out HNM.out.1 hq) h4 m4
        go_wp2
        go_meet
        exact ⟨_, rfl, hQ⟩
    case rest =>
      obtain ⟨gb, rfl, hQ⟩ := hcut
      have hQc := hQ.cur
      have hgb := hQ.hp
      have C9 := pick_any g v n (A + 4) 4 wc hQc.cur hQc.rd (by omega) (by decide) (by decide)
      clear hS1 op h1 m1 Z1 HCP
      go_wp2_with fail
      refine C9.mono ?_
      rintro e w2 ⟨m, rfl, hm, hc2, hm2⟩
      have hQ2 := hQ.move hg hm2 (hQc.step hc2 hm2)
      clear C9 hQ hQc hc2 hm2
      go_wp2
      go_loopw [9] (fun s9 wr => ∃ (m : Nat), m ≤ 3 ∧ s9 = .int .i64 m ∧ QSt w g v n (A + 6 + 10 * (3 - m)) gb w1.heap.size (some ⟨gp, 0, none⟩) pc ps N M X Y (3 + 3 * (3 - m)) wr) (fun s9 _ => (intOf s9).toNat)
      case atStart => exact ⟨m, by omega, rfl, hQ2.up (by omega) (by omega)⟩
      case round =>
        clear hQ2 hm
        obtain ⟨m, hm, rfl, hQ⟩ := hrel
        by_cases hmp : 0 < m
        · have hmi : (0 : Int) < (m : Int) := by omega
          obtain ⟨⟨⟨bX, bY, bW, bR⟩, ba, bc, bs, sp, hq⟩, op, _, hcr, hmr⟩ := hQ
          have hbX : bX = X := hq.X
          have hbY : bY = Y := hq.Y
          subst hbX hbY
          have hrl : bR.length = X * Y := hq.len
          have BD : Below wr.heap.size wr wr.drew := (Below.refl _ _).drew
          have spD := sp.drew
          have oD : OwnII 33 3 (w.heap.size + 1) w1.heap.size wr.drew (.slice (some ⟨gp, 0, none⟩) M pc) (playsTo N M) ps := op.of_block (fun _ _ _ => rfl)
          have hcD := hcr.kept (Nat.le_refl _) BD
          have mD := hmr.trans (Mid.of_below BD (Nat.le_refl _))
          have hSD := q_cells HPV.out hM1 spD oD
          have HRL := Lib.hid hrl
          rw [hrl] at hSD
          clear hrl sp op hcr hmr BD
          go_wp2
          refine wp_region_cut_held (S := fun W => (∀ k, k < M → W.cell? ⟨gp, k, none⟩ = some (pv k)) ∧ W.cell? ⟨gb, 0, none⟩ = some (.int .i64 X) ∧ W.cell? ⟨gb, 1, none⟩ = some (.int .i64 Y) ∧ W.cell? ⟨gb, 2, none⟩ = some (.int .i64 bW) ∧ W.cell? ⟨gb, 3, none⟩ = some (.slice ba (X * Y) bc)) 15 _ rfl (by kernel_rfl) (by kernel_rfl) hSD (fun hHeld => ?_)
          simp only [List.take_succ_cons, List.take_zero]
          refine wpAnyH_take (i := 0) (v := ?_) rfl (by kernel_rfl) (by kernel_rfl) (by kernel_rfl) (fun _ _ _ h => h) (Or.inl ⟨by rfl, ?_⟩) (by assumption) ?_
          rotate_left
          · (intro w hSw; (try dsimp only at hSw); go_simp; try with_reducible rfl)
          try simp only [Act.put, List.getElem_toArray, List.getElem_cons_zero, List.getElem_cons_succ, List.setIfInBounds_toArray, List.set_cons_zero, List.set_cons_succ]
          refine wpAnyH_take (i := 1) (v := ?_) rfl (by kernel_rfl) (by kernel_rfl) (by kernel_rfl) (fun _ _ _ h => h) (Or.inl ⟨by rfl, ?_⟩) (by assumption) ?_
          rotate_left
          · (intro w hSw; (try dsimp only at hSw); go_simp; try with_reducible rfl)
          try simp only [Act.put, List.getElem_toArray, List.getElem_cons_zero, List.getElem_cons_succ, List.setIfInBounds_toArray, List.set_cons_zero, List.set_cons_succ]
          refine wpAnyH_take (i := 2) (v := ?_) rfl (by kernel_rfl) (by kernel_rfl) (by kernel_rfl) (fun _ _ _ h => h) (Or.inl ⟨by rfl, ?_⟩) (by assumption) ?_
          rotate_left
          · (intro w hSw; (try dsimp only at hSw); go_simp; try with_reducible rfl)
          try simp only [Act.put, List.getElem_toArray, List.getElem_cons_zero, List.getElem_cons_succ, List.setIfInBounds_toArray, List.set_cons_zero, List.set_cons_succ]
          refine wpAnyH_take (i := 3) (v := ?_) rfl (by kernel_rfl) (by kernel_rfl) (by kernel_rfl) (fun _ _ _ h => h) (Or.inl ⟨by rfl, ?_⟩) (by assumption) ?_
          rotate_left
          · (intro w hSw; (try dsimp only at hSw); go_simp; try with_reducible rfl)
          try simp only [Act.put, List.getElem_toArray, List.getElem_cons_zero, List.getElem_cons_succ, List.setIfInBounds_toArray, List.set_cons_zero, List.set_cons_succ]
          refine wpAnyH_take (i := 4) (v := ?_) rfl (by kernel_rfl) (by kernel_rfl) (by kernel_rfl) (fun _ _ _ h => h) (Or.inl ⟨by rfl, ?_⟩) (by assumption) ?_
          rotate_left
          · (intro w hSw; (try dsimp only at hSw); go_simp; try with_reducible rfl)
          try simp only [Act.put, List.getElem_toArray, List.getElem_cons_zero, List.getElem_cons_succ, List.setIfInBounds_toArray, List.set_cons_zero, List.set_cons_succ]
          refine wpAnyH_take (i := 5) (v := ?_) rfl (by kernel_rfl) (by kernel_rfl) (by kernel_rfl) (fun _ _ _ h => h) (Or.inl ⟨by rfl, ?_⟩) (by assumption) ?_
          rotate_left
          · (intro w hSw; (try dsimp only at hSw); go_simp; try with_reducible rfl)
          try simp only [Act.put, List.getElem_toArray, List.getElem_cons_zero, List.getElem_cons_succ, List.setIfInBounds_toArray, List.set_cons_zero, List.set_cons_succ]
          refine wpAnyH_take (i := 6) (v := ?_) rfl (by kernel_rfl) (by kernel_rfl) (by kernel_rfl) (fun _ _ _ h => h) (Or.inl ⟨by rfl, ?_⟩) (by assumption) ?_
          rotate_left
          · (intro w hSw; (try dsimp only at hSw); go_simp; try with_reducible rfl)
          try simp only [Act.put, List.getElem_toArray, List.getElem_cons_zero, List.getElem_cons_succ, List.setIfInBounds_toArray, List.set_cons_zero, List.set_cons_succ]
          refine wpAnyH_take (i := 10) (v := ?_) rfl (by kernel_rfl) (by kernel_rfl) (by kernel_rfl) (fun _ _ _ h => h) (Or.inl ⟨by rfl, ?_⟩) (by assumption) ?_
          rotate_left
          · (intro w hSw; (try dsimp only at hSw); go_simp; try with_reducible rfl)
          try simp only [Act.put, List.getElem_toArray, List.getElem_cons_zero, List.getElem_cons_succ, List.setIfInBounds_toArray, List.set_cons_zero, List.set_cons_succ]
          refine wpAnyH_ready (rs := [7]) (by kernel_rfl) (by simp) ?_
          refine AllReadyH.cons rfl (fun K hK => ?_) AllReadyH.nil
          go_simp
          have C1 := pick_any g v n (A + 6 + 10 * (3 - m)) M wr.drew hcD.cur hcD.rd (by omega) (by omega) (by omega)
          refine C1.mono ?_
          rintro e w2 ⟨k, rfl, hk, hc2, hm2⟩
          have h2 := hcD.step hc2 hm2
          have m2 := mD.trans hm2
          have sp2 := spD.cur hm2 hg
          have o2 := oD.mid hm2 (Or.inr (by omega))
          have hS2 := q_cells HPV.out hM1 sp2 o2
          rw [HRL.out] at hS2
          have hki : (k : Int) < (M : Int) := by omega
          have hk0 : (0 : Int) ≤ (k : Int) := by omega
          clear C1 hc2 spD oD hcD mD hSD
          go_wp2_with fail
          refine hK.out _ _ ?_ (fun hHeld => ?_)
          · exact hS2
          clear hK K
          try simp only [Act.put, List.setIfInBounds_toArray, List.set_cons_zero, List.set_cons_succ]
          refine wpAnyH_take (i := 8) (v := ?_) rfl (by kernel_rfl) (by kernel_rfl) (by kernel_rfl) (fun _ _ _ h => h) (Or.inl ⟨by rfl, ?_⟩) (by assumption) ?_
          rotate_left
          · (intro w hSw; (try dsimp only at hSw); go_simp; try with_reducible rfl)
          try simp only [Act.put, List.getElem_toArray, List.getElem_cons_zero, List.getElem_cons_succ, List.setIfInBounds_toArray, List.set_cons_zero, List.set_cons_succ]
          refine wpAnyH_take (i := 9) (v := ?_) rfl (by kernel_rfl) (by kernel_rfl) (by kernel_rfl) (fun _ _ _ h => h) (Or.inl ⟨by rfl, ?_⟩) (by assumption) ?_
          rotate_left
          · (intro w hSw; (try dsimp only at hSw); go_simp; try with_reducible rfl)
          try simp only [Act.put, List.getElem_toArray, List.getElem_cons_zero, List.getElem_cons_succ, List.setIfInBounds_toArray, List.set_cons_zero, List.set_cons_succ]
          refine wpAnyH_ready (rs := [11]) (by kernel_rfl) (by simp) ?_
          refine AllReadyH.cons rfl (fun K hK => ?_) AllReadyH.nil
          go_simp
          have C2 := pick_any g v n (A + 6 + 10 * (3 - m) + 2) 3 w2 h2.cur h2.rd (by omega) (by decide) (by decide)
          refine C2.mono ?_
          rintro e w3 ⟨q, rfl, hqq, hc3, hm3⟩
          have h3 := h2.step hc3 hm3
          have m3 := m2.trans hm3
          have sp3 := sp2.cur hm3 hg
          have o3 := o2.mid hm3 (Or.inr (by omega))
          have hS3 := q_cells HPV.out hM1 sp3 o3
          rw [HRL.out] at hS3
          have hwq := wrap_in (1 + (q : Int)) (by omega) (by omega)
          clear C2 hc3 sp2 o2 h2 m2 hS2
          go_wp2_with fail
          refine hK.out _ _ ?_ (fun hHeld => ?_)
          · exact hS3
          clear hK K
          try simp only [Act.put, List.setIfInBounds_toArray, List.set_cons_zero, List.set_cons_succ]
          refine wpAnyH_take (i := 12) (v := ?_) rfl (by kernel_rfl) (by kernel_rfl) (by kernel_rfl) (fun _ _ _ h => h) (Or.inl ⟨by rfl, ?_⟩) (by assumption) ?_
          rotate_left
          · (intro w hSw; (try dsimp only at hSw); go_simp; try with_reducible rfl)
          try simp only [Act.put, List.getElem_toArray, List.getElem_cons_zero, List.getElem_cons_succ, List.setIfInBounds_toArray, List.set_cons_zero, List.set_cons_succ]
          refine wpAnyH_ready (rs := [13]) (by kernel_rfl) (by simp) ?_
          refine AllReadyH.cons rfl (fun K hK => ?_) AllReadyH.nil
          go_simp
          obtain ⟨gq, hgq, _, _, hcp⟩ := plays_own o3 hM1
          obtain rfl : gp = gq := by simpa using hgq
          clear hgq
          have C3 := pbox_any X Y N k q (pv k) HS.out HNM.out.1 w3 (by rw [HPV.out]; exact (hcp k hk).2)
          refine C3.mono ?_
          rintro e w4 ⟨pba, pbc, pbs, rfl, ob, b4⟩
          have hm4 : Mid g (g + 1) w3 w4 := Mid.of_below b4 (Nat.le_refl _)
          have h4 := h3.kept (Nat.le_refl _) b4
          have m4 := m3.trans hm4
          have sp4 := sp3.cur hm4 hg
          have o4 := o3.mid hm4 (Or.inr (by omega))
          have hS4 := q_cells HPV.out hM1 sp4 o4
          rw [HRL.out] at hS4
          clear C3 hcp sp3 o3 h3 m3 hS3
          go_wp2_with fail
          refine hK.out _ _ ?_ (fun hHeld => ?_)
          · exact hS4
          clear hK K
          try simp only [Act.put, List.setIfInBounds_toArray, List.set_cons_zero, List.set_cons_succ]
          refine wpAnyH_ready (rs := [14]) (by kernel_rfl) (by simp) ?_
          refine AllReadyH.cons rfl (fun K hK => ?_) AllReadyH.nil
          go_simp
          have hpb := pbox_q (k := k) HS.out HNM.out.1 hqq
          have hra := sp4.rows.rdII
          have C4 := mixq_any hq hpb (.slice ba bR.length bc) (.slice pba (X * Y) pbc) w4 hra ob.rdII
          have hq5 := mixq_q (K := 3 + 3 * (3 - (m - 1))) hq hpb (by omega) (by omega)
          simp only [HRL.out] at C4
          refine C4.mono ?_
          rintro e w5 ⟨mba, mbc, mbs, rfl, om, b5⟩
          have hm5 : Mid g (g + 1) w4 w5 := Mid.of_below b5 (Nat.le_refl _)
          have h5 := h4.kept (Nat.le_refl _) b5
          have m5 := m4.trans hm5
          have sp5 := sp4.cur hm5 hg
          have o5 := o4.mid hm5 (Or.inr (by omega))
          have hS5 := q_cells HPV.out hM1 sp5 o5
          rw [HRL.out] at hS5
          have z5 := b5.size
          have zz5 := sp4.z1
          clear C4 sp4 o4 h4 m4 hS4 hra ob
          go_wp2_with fail
          refine hK.out _ _ ?_ (fun hHeld => ?_)
          · exact hS5
          clear hK K
          try simp only [Act.put, List.setIfInBounds_toArray, List.set_cons_zero, List.set_cons_succ]
          refine wpAnyH_done (by kernel_rfl) ?_ _
          show wpList _ _ _ _ _ _
          have hQ := QSt.lay (by rw [boxOf_len, Int.toNat_natCast, Int.toNat_natCast]) hg HRD.out sp5.box sp5.ret o5 hgb (by omega) om (by omega) hq5 h5 m5
          obtain ⟨⟨e0, e1, e2, e3⟩, ef⟩ := sp5.cells
          rw [HRL.out] at e3
          clear sp5 o5 h5 m5 hHeld hq5 om
          go_wp2
          go_roundw
          case rel => exact ⟨m - 1, by omega, by congr 1; omega, hQ.up (by omega) (by omega)⟩
          case measure => simp [intOf]; omega
        · obtain rfl : m = 0 := by omega
          replace hQ := hQ.up (A' := A + 36) (K' := 12) (by omega) (by omega)
          have C := one_any g v n (A + 36) 2 wr hQ.cur.cur hQ.cur.rd (by omega) (by decide) (by decide)
          go_wp2_with fail
          refine C.mono ?_
          rintro e w2 ⟨b, rfl, hc2, hm2⟩
          have hQ2 := hQ.move hg hm2 (hQ.cur.step hc2 hm2)
          clear C hQ hc2 hm2
          cases b with
          | false =>
            have hQ := hQ2.up (A' := A + 200) (K' := 56) (by omega) (by omega)
            obtain ⟨wq, hwq⟩ : ∃ wq, wq = w2 := ⟨_, rfl⟩
            subst hwq
            clear hQ2
            have CN := noiseq_any X Y HS.out wq
            go_wp2_with fail
            refine CN.mono ?_
            rintro e wn ⟨na, nc, ns, rfl, on, bn⟩
            have hmn : Mid g (g + 1) wq wn := Mid.of_below bn (Nat.le_refl _)
            have hQn := hQ.move hg hmn (hQ.cur.kept (Nat.le_refl _) bn)
            obtain ⟨wv, hwv⟩ : ∃ wv, wv = wn.alloc (.cells #[.int .i64 X, .int .i64 Y, .int .i64 4, .slice na (X * Y) nc] 26) := ⟨_, rfl⟩
            have bv : Below wn.heap.size wn wv := by rw [hwv]; exact (Below.refl _ _).alloc (Nat.le_refl _) _
            have hQv := hQn.move hg (Mid.of_below bv (Nat.le_refl _)) (hQn.cur.kept (Nat.le_refl _) bv)
            have NA : BoxAt wv wn.heap.size X Y 4 (.slice na (X * Y) nc) := by rw [hwv]; exact BoxAt.top rfl
            have ov := on.kept bv (Nat.le_refl _)
            have zn := bn.size
            have zw := hQ.mid.size
            have CO := one_any g v n (A + 200) 4 wv hQv.cur.cur hQv.cur.rd (by omega) (by decide) (by decide)
            clear CN hQ hQn bn bv on hmn
            go_wp2_with fail
            rw [← hwv]
            clear hwv
            refine CO.mono ?_
            rintro e wo ⟨bb, rfl, hco, hmo⟩
            have hQo := hQv.move hg hmo (hQv.cur.step hco hmo)
            cases bb with
            | false =>
              have hQ := hQo
              clear CO hQv hQo NA ov
              obtain ⟨⟨⟨bX, bY, bW, bR⟩, ba, bc, bs, sp, hq⟩, op, _, hcr, hmr⟩ := hQ
              have hbX : bX = X := hq.X
              have hbY : bY = Y := hq.Y
              subst hbX hbY
              have HRL := Lib.hid (show bR.length = X * Y from hq.len)
              clear op
              obtain ⟨⟨g0, g1, g2, g3⟩, gf⟩ := sp.cells
              rw [HRL.out] at g3
              obtain ⟨e0, e1, e2, e3, ef⟩ := sp.retAt
              have hend := sp.out
              have hcE := hcr.far HRD.out hg (Nat.le_refl _) hmr hend.2
              have hmE := hmr.low hend.2
              simp only [HRL.out] at hend hcE hmE
              clear sp hcr hmr
              go_wp2
              refine bodyPost_ret (v := .agg #[.int .i64 X, .int .i64 Y, .int .i64 bW, .slice ba (X * Y) bc]) ?_ rfl ?_
              · simp [results, Tryz.results87, go_sem, e0, e1, e2, e3]
              · exact ⟨⟨⟨X, Y, bW, bR⟩, ba, bc, bs, by rw [HRL.out], ⟨hq.small, rfl, rfl⟩, by rw [HRL.out]; exact hend.1⟩, hcE.up (by omega), hmE⟩
            | true =>
              have NO : BoxAt wo wn.heap.size X Y 4 (.slice na (X * Y) nc) := ⟨hmo.keep (Or.inr (by omega)) NA.e0, hmo.keep (Or.inr (by omega)) NA.e1, hmo.keep (Or.inr (by omega)) NA.e2, hmo.keep (Or.inr (by omega)) NA.e3⟩
              have oo := ov.mid hmo (Or.inr (by omega))
              obtain ⟨⟨⟨bX, bY, bW, bR⟩, ba, bc, bs, sp, hq⟩, op, _, hcr, hmr⟩ := hQo
              have hbX : bX = X := hq.X
              have hbY : bY = Y := hq.Y
              subst hbX hbY
              have hrl : bR.length = X * Y := hq.len
              have hra := sp.rows.rdII
              have CM := mixq_any hq (noiseq_q HS.out) (.slice ba bR.length bc) (.slice na (X * Y) nc) wo hra oo.rdII
              have hq5 := mixq_q (K := 60) hq (noiseq_q HS.out) (by omega) (by omega)
              simp only [hrl] at CM
              obtain ⟨⟨g0, g1, g2, g3⟩, gf⟩ := sp.cells
              rw [hrl] at g3
              obtain ⟨n0, n1, n2, n3⟩ := NO
              have HRL := Lib.hid hrl
              clear hrl hra CO hQv
              go_wp2_with fail
              refine CM.mono ?_
              rintro e wm ⟨mba, mbc, mbs, rfl, om, bm⟩
              have hmm : Mid g (g + 1) wo wm := Mid.of_below bm (Nat.le_refl _)
              have hcm := hcr.kept (Nat.le_refl _) bm
              have mm := hmr.trans hmm
              have spm := sp.cur hmm hg
              have opm := op.mid hmm (Or.inr (by omega))
              have zz := sp.z1
              obtain ⟨⟨k0, k1, k2, k3⟩, kf⟩ := spm.cells
              rw [HRL.out] at k3
              have hne := spm.ne
              have hlen : (boxOf X Y (bW + 4) (mixN ⟨X, Y, bW, bR⟩ ⟨X, Y, 4, rowsTo (noiseN 1) Y (X * Y)⟩)).Rows.length = X * Y := by rw [boxOf_len, Int.toNat_natCast, Int.toNat_natCast]
              obtain ⟨sp, hb4⟩ := SpSt.lay (x := (X : Int)) (y := (Y : Int)) (wh := bW + 4) hlen spm om (by omega)
              have hcr := hcm.far HRD.out hg (Nat.le_refl _) mm hb4
              have hmr := mm.low hb4
              have HRL := Lib.hid hlen
              have hq : QBox X Y 60 ⟨X, Y, bW + 4, (boxOf X Y (bW + 4) (mixN ⟨X, Y, bW, bR⟩ ⟨X, Y, 4, rowsTo (noiseN 1) Y (X * Y)⟩)).Rows⟩ := hq5
              clear op g0 g1 g2 g3 gf hmm CM hlen hb4 hq5 hcm mm spm opm om
              obtain ⟨⟨g0, g1, g2, g3⟩, gf⟩ := sp.cells
              rw [HRL.out] at g3
              obtain ⟨e0, e1, e2, e3, ef⟩ := sp.retAt
              have hend := sp.out
              have hcE := hcr.far HRD.out hg (Nat.le_refl _) hmr hend.2
              have hmE := hmr.low hend.2
              simp only [HRL.out] at hend hcE hmE
              clear sp hcr hmr
              go_wp2
              refine bodyPost_ret (v := .agg #[.int .i64 X, .int .i64 Y, .int .i64 (bW + 4), .slice mba (X * Y) mbc]) ?_ rfl ?_
              · simp [results, Tryz.results87, go_sem, e0, e1, e2, e3]
              · exact ⟨⟨⟨X, Y, (bW + 4), (boxOf X Y (bW + 4) (mixN ⟨X, Y, bW, bR⟩ ⟨X, Y, 4, rowsTo (noiseN 1) Y (X * Y)⟩)).Rows⟩, mba, mbc, mbs, by rw [HRL.out], ⟨hq.small, rfl, rfl⟩, by rw [HRL.out]; exact hend.1⟩, hcE.up (by omega), hmE⟩
          | true =>
            have hQ := hQ2.up (A' := A + 40) (K' := 12) (by omega) (by omega)
            have hX3 : 1 ≤ X ∧ X ≤ 3 := by omega
            have hY3 : 1 ≤ Y ∧ Y ≤ 3 := by omega
            have CS := sumq_any X Y hX3 hY3 w2
            go_wp2_with fail
            refine CS.mono ?_
            rintro e w3 ⟨sa, sc, ss, rfl, os, b3⟩
            have hQ3 := hQ.move hg (Mid.of_below b3 (Nat.le_refl _)) (hQ.cur.kept (Nat.le_refl _) b3)
            have zq2 := hQ.mid.size
            have zq3 := b3.size
            have hgb2 : gb < w2.heap.size := by
              obtain ⟨⟨_, _, _, _, sp, _⟩, _⟩ := hQ
              exact sp.lt.1
            have C := pick_any g v n (A + 40) M w3 hQ3.cur.cur hQ3.cur.rd (by omega) (by omega) (by omega)
            clear CS hQ hQ2 b3
            go_wp2_with fail
            refine C.mono ?_
            rintro e w4 ⟨k, rfl, hk, hc4, hm4⟩
            have hQ4 := hQ3.move hg hm4 (hQ3.cur.step hc4 hm4)
            have os4 := os.mid hm4 (Or.inr (by omega))
            obtain ⟨gq, hgq, _, _, hcp⟩ := plays_own hQ4.pl hM1
            obtain rfl : gp = gq := by simpa using hgq
            have ck : w4.cell? ⟨gp, k, none⟩ = some (pv k) := by rw [HPV.out]; exact (hcp k hk).1
            have hki : (k : Int) < (M : Int) := by omega
            have hk0 : (0 : Int) ≤ (k : Int) := by omega
            have CF := flipq_any X Y N k hX3 hY3 HNM.out.1 (.slice sa (X * Y) sc) (pv k) w4 os4.rdII (by rw [HPV.out]; exact (hcp k hk).2)
            have HF := Lib.hid (flipq_q (k := k) hX3 hY3 HNM.out.1)
            clear hgq hcp C hQ3 os hc4
            go_wp2_with fail
            refine CF.mono ?_
            rintro e w5 ⟨fa, fc, fs, rfl, of, b5⟩
            have hQ5 := hQ4.move hg (Mid.of_below b5 (Nat.le_refl _)) (hQ4.cur.kept (Nat.le_refl _) b5)
            obtain ⟨w6, hw6⟩ : ∃ w6, w6 = w5.alloc (.cells #[.int .i64 X, .int .i64 Y, .int .i64 2, .slice fa (X * Y) fc] 26) := ⟨_, rfl⟩
            have b6 : Below w5.heap.size w5 w6 := by rw [hw6]; exact (Below.refl _ _).alloc (Nat.le_refl _) _
            have hQ6 := hQ5.move hg (Mid.of_below b6 (Nat.le_refl _)) (hQ5.cur.kept (Nat.le_refl _) b6)
            have S6 : BoxAt w6 w5.heap.size X Y 2 (.slice fa (X * Y) fc) := by rw [hw6]; exact BoxAt.top rfl
            have of6 := of.kept b6 (Nat.le_refl _)
            have zq4 := hm4.size
            have zq5 := b5.size
            have zq6 := b6.size
            have C := pick_any g v n (A + 40 + 2) 4 w6 hQ6.cur.cur hQ6.cur.rd (by omega) (by decide) (by decide)
            have HFW := Lib.hid (show (qFlip X Y N k).Whole = 2 from rfl)
            generalize hF : qFlip X Y N k = F at *
            clear CF hQ4 hQ5 of b5 b6 os4 ck hF
            go_wp2_with fail
            rw [← hw6]
            refine C.mono ?_
            rintro e w7 ⟨p, rfl, hp, hc7, hm7⟩
            have hQ7 := hQ6.move hg hm7 (hQ6.cur.step hc7 hm7)
            have S7 : BoxAt w7 w5.heap.size X Y 2 (.slice fa (X * Y) fc) := ⟨hm7.keep (Or.inr (by omega)) S6.e0, hm7.keep (Or.inr (by omega)) S6.e1, hm7.keep (Or.inr (by omega)) S6.e2, hm7.keep (Or.inr (by omega)) S6.e3⟩
            have of7 := of6.mid hm7 (Or.inr (by omega))
            have hwp := wrap_in (1 + (p : Int)) (by omega) (by omega)
            have hQ7 := hQ7.up (A' := A + 60) (K' := 12) (by omega) (by omega)
            clear C hQ6 S6 of6 hc7 hm7 hw6
            go_wp2
            go_loopw [11] (fun s11 wr => ∃ (m : Nat), m ≤ 4 ∧ s11 = .int .i64 m ∧ QSt w g v n (A + 60) gb w1.heap.size (some ⟨gp, 0, none⟩) pc ps N M X Y (12 + 2 * (4 - m)) wr ∧ BoxAt wr w5.heap.size X Y 2 (.slice fa (X * Y) fc) ∧ OwnII 33 3 w4.heap.size w5.heap.size wr (.slice fa (X * Y) fc) F.Rows fs) (fun s11 _ => (intOf s11).toNat)
            case atStart => exact ⟨1 + p, by omega, by simp, hQ7.up (Nat.le_refl _) (by omega), S7, of7⟩
            case round =>
              clear hQ7 S7 of7 hp hwp
              obtain ⟨m, hm, rfl, hQ, SF, oF⟩ := hrel
              by_cases hmp : 0 < m
              · have hmi : (0 : Int) < (m : Int) := by omega
                obtain ⟨⟨⟨bX, bY, bW, bR⟩, ba, bc, bs, sp, hq⟩, op, _, hcr, hmr⟩ := hQ
                have hbX : bX = X := hq.X
                have hbY : bY = Y := hq.Y
                subst hbX hbY
                have hrl : bR.length = X * Y := hq.len
                have hra := sp.rows.rdII
                have CM := mixq_any hq HF.out (.slice ba bR.length bc) (.slice fa (X * Y) fc) wr hra oF.rdII
                have hq5 := mixq_q (K := 12 + 2 * (4 - (m - 1))) hq HF.out (by omega) (by omega)
                have hFW : F.Whole = 2 := HFW.out
                simp only [hrl, hFW] at CM
                obtain ⟨⟨g0, g1, g2, g3⟩, gf⟩ := sp.cells
                rw [hrl] at g3
                obtain ⟨n0, n1, n2, n3⟩ := id SF
                have HRL := Lib.hid hrl
                clear hrl hra hFW
                go_wp2_with fail
                refine CM.mono ?_
                rintro e wm ⟨mba, mbc, mbs, rfl, om, bm⟩
                have hmm : Mid g (g + 1) wr wm := Mid.of_below bm (Nat.le_refl _)
                have hcm := hcr.kept (Nat.le_refl _) bm
                have mm := hmr.trans hmm
                have spm := sp.cur hmm hg
                have opm := op.mid hmm (Or.inr (by omega))
                have zz := sp.z1
                have SFm := SF.kept bm SF.lt
                have oFm := oF.kept bm (by have := SF.lt; omega)
                obtain ⟨⟨k0, k1, k2, k3⟩, kf⟩ := spm.cells
                rw [HRL.out] at k3
                have hlen : (boxOf X Y (bW + 2) (mixN ⟨X, Y, bW, bR⟩ F)).Rows.length = X * Y := by rw [boxOf_len, Int.toNat_natCast, Int.toNat_natCast]
                have hQn := QSt.lay hlen hg HRD.out spm.box spm.ret opm hgb (by omega) om (by omega) (by rw [HFW.out] at hq5; exact hq5) hcm mm
                have SFn : BoxAt (set4W wm gb (.int .i64 X) (.int .i64 Y) (.int .i64 (bW + 2)) (.slice mba (X * Y) mbc)) w5.heap.size X Y 2 (.slice fa (X * Y) fc) := by
                  have hbk := set4W_other (w := wm) (r := gb) (k := w5.heap.size) (by omega) (.int .i64 X) (.int .i64 Y) (.int .i64 (bW + 2)) (.slice mba (X * Y) mbc)
                  have hcc : ∀ j, (set4W wm gb (.int .i64 X) (.int .i64 Y) (.int .i64 (bW + 2)) (.slice mba (X * Y) mbc)).cell? ⟨w5.heap.size, j, none⟩ = wm.cell? ⟨w5.heap.size, j, none⟩ := fun j => World.cell?_of_block (w := wm) (a := ⟨w5.heap.size, j, none⟩) hbk
                  exact ⟨by rw [hcc]; exact SFm.e0, by rw [hcc]; exact SFm.e1, by rw [hcc]; exact SFm.e2, by rw [hcc]; exact SFm.e3⟩
                have oFn : OwnII 33 3 w4.heap.size w5.heap.size (set4W wm gb (.int .i64 X) (.int .i64 Y) (.int .i64 (bW + 2)) (.slice mba (X * Y) mbc)) (.slice fa (X * Y) fc) F.Rows fs := oFm.of_block fun b hb1 hb2 => set4W_other (by omega) _ _ _ _
                clear sp op hcr hmr g0 g1 g2 g3 gf hcm mm spm opm om hmm CM SF oF SFm oFm n0 n1 n2 n3 hq5 hlen
                go_wp2
                go_roundw
                case rel => exact ⟨m - 1, by omega, by congr 1; omega, hQn, SFn, oFn⟩
                case measure => simp [intOf]; omega
              · obtain rfl : m = 0 := by omega
                have hQ := hQ.up (A' := A + 60) (K' := 20) (Nat.le_refl _) (by omega)
                have C := one_any g v n (A + 60) 4 wr hQ.cur.cur hQ.cur.rd (by omega) (by decide) (by decide)
                go_wp2_with fail
                refine C.mono ?_
                rintro e w8 ⟨b, rfl, hc8, hm8⟩
                have hQ8 := (hQ.move hg hm8 (hQ.cur.step hc8 hm8)).up (A' := A + 200) (K' := 56) (by omega) (by omega)
                have S8 : BoxAt w8 w5.heap.size X Y 2 (.slice fa (X * Y) fc) := ⟨hm8.keep (Or.inr (by omega)) SF.e0, hm8.keep (Or.inr (by omega)) SF.e1, hm8.keep (Or.inr (by omega)) SF.e2, hm8.keep (Or.inr (by omega)) SF.e3⟩
                have o8 := oF.mid hm8 (Or.inr (by omega))
                clear hQ C hc8 SF oF
                cases b with
                | false =>
                  have hQ := hQ8
                  clear hQ8 S8 o8
                  obtain ⟨wq, hwq⟩ : ∃ wq, wq = w8 := ⟨_, rfl⟩
                  subst hwq
                  have CN := noiseq_any X Y HS.out wq
                  go_wp2_with fail
                  refine CN.mono ?_
                  rintro e wn ⟨na, nc, ns, rfl, on, bn⟩
                  have hmn : Mid g (g + 1) wq wn := Mid.of_below bn (Nat.le_refl _)
                  have hQn := hQ.move hg hmn (hQ.cur.kept (Nat.le_refl _) bn)
                  obtain ⟨wv, hwv⟩ : ∃ wv, wv = wn.alloc (.cells #[.int .i64 X, .int .i64 Y, .int .i64 4, .slice na (X * Y) nc] 26) := ⟨_, rfl⟩
                  have bv : Below wn.heap.size wn wv := by rw [hwv]; exact (Below.refl _ _).alloc (Nat.le_refl _) _
                  have hQv := hQn.move hg (Mid.of_below bv (Nat.le_refl _)) (hQn.cur.kept (Nat.le_refl _) bv)
                  have NA : BoxAt wv wn.heap.size X Y 4 (.slice na (X * Y) nc) := by rw [hwv]; exact BoxAt.top rfl
                  have ov := on.kept bv (Nat.le_refl _)
                  have zn := bn.size
                  have zw := hQ.mid.size
                  have CO := one_any g v n (A + 200) 4 wv hQv.cur.cur hQv.cur.rd (by omega) (by decide) (by decide)
                  clear CN hQ hQn bn bv on hmn
                  go_wp2_with fail
                  rw [← hwv]
                  clear hwv
                  refine CO.mono ?_
                  rintro e wo ⟨bb, rfl, hco, hmo⟩
                  have hQo := hQv.move hg hmo (hQv.cur.step hco hmo)
                  cases bb with
                  | false =>
                    have hQ := hQo
                    clear CO hQv hQo NA ov
                    obtain ⟨⟨⟨bX, bY, bW, bR⟩, ba, bc, bs, sp, hq⟩, op, _, hcr, hmr⟩ := hQ
                    have hbX : bX = X := hq.X
                    have hbY : bY = Y := hq.Y
                    subst hbX hbY
                    have HRL := Lib.hid (show bR.length = X * Y from hq.len)
                    clear op
                    obtain ⟨⟨g0, g1, g2, g3⟩, gf⟩ := sp.cells
                    rw [HRL.out] at g3
                    obtain ⟨e0, e1, e2, e3, ef⟩ := sp.retAt
                    have hend := sp.out
                    have hcE := hcr.far HRD.out hg (Nat.le_refl _) hmr hend.2
                    have hmE := hmr.low hend.2
                    simp only [HRL.out] at hend hcE hmE
                    clear sp hcr hmr
                    go_wp2
                    refine bodyPost_ret (v := .agg #[.int .i64 X, .int .i64 Y, .int .i64 bW, .slice ba (X * Y) bc]) ?_ rfl ?_
                    · simp [results, Tryz.results87, go_sem, e0, e1, e2, e3]
                    · exact ⟨⟨⟨X, Y, bW, bR⟩, ba, bc, bs, by rw [HRL.out], ⟨hq.small, rfl, rfl⟩, by rw [HRL.out]; exact hend.1⟩, hcE.up (by omega), hmE⟩
                  | true =>
                    have NO : BoxAt wo wn.heap.size X Y 4 (.slice na (X * Y) nc) := ⟨hmo.keep (Or.inr (by omega)) NA.e0, hmo.keep (Or.inr (by omega)) NA.e1, hmo.keep (Or.inr (by omega)) NA.e2, hmo.keep (Or.inr (by omega)) NA.e3⟩
                    have oo := ov.mid hmo (Or.inr (by omega))
                    obtain ⟨⟨⟨bX, bY, bW, bR⟩, ba, bc, bs, sp, hq⟩, op, _, hcr, hmr⟩ := hQo
                    have hbX : bX = X := hq.X
                    have hbY : bY = Y := hq.Y
                    subst hbX hbY
                    have hrl : bR.length = X * Y := hq.len
                    have hra := sp.rows.rdII
                    have CM := mixq_any hq (noiseq_q HS.out) (.slice ba bR.length bc) (.slice na (X * Y) nc) wo hra oo.rdII
                    have hq5 := mixq_q (K := 60) hq (noiseq_q HS.out) (by omega) (by omega)
                    simp only [hrl] at CM
                    obtain ⟨⟨g0, g1, g2, g3⟩, gf⟩ := sp.cells
                    rw [hrl] at g3
                    obtain ⟨n0, n1, n2, n3⟩ := NO
                    have HRL := Lib.hid hrl
                    clear hrl hra CO hQv
                    go_wp2_with fail
                    refine CM.mono ?_
                    rintro e wm ⟨mba, mbc, mbs, rfl, om, bm⟩
                    have hmm : Mid g (g + 1) wo wm := Mid.of_below bm (Nat.le_refl _)
                    have hcm := hcr.kept (Nat.le_refl _) bm
                    have mm := hmr.trans hmm
                    have spm := sp.cur hmm hg
                    have opm := op.mid hmm (Or.inr (by omega))
                    have zz := sp.z1
                    obtain ⟨⟨k0, k1, k2, k3⟩, kf⟩ := spm.cells
                    rw [HRL.out] at k3
                    have hne := spm.ne
                    have hlen : (boxOf X Y (bW + 4) (mixN ⟨X, Y, bW, bR⟩ ⟨X, Y, 4, rowsTo (noiseN 1) Y (X * Y)⟩)).Rows.length = X * Y := by rw [boxOf_len, Int.toNat_natCast, Int.toNat_natCast]
                    obtain ⟨sp, hb4⟩ := SpSt.lay (x := (X : Int)) (y := (Y : Int)) (wh := bW + 4) hlen spm om (by omega)
                    have hcr := hcm.far HRD.out hg (Nat.le_refl _) mm hb4
                    have hmr := mm.low hb4
                    have HRL := Lib.hid hlen
                    have hq : QBox X Y 60 ⟨X, Y, bW + 4, (boxOf X Y (bW + 4) (mixN ⟨X, Y, bW, bR⟩ ⟨X, Y, 4, rowsTo (noiseN 1) Y (X * Y)⟩)).Rows⟩ := hq5
                    clear op g0 g1 g2 g3 gf hmm CM hlen hb4 hq5 hcm mm spm opm om
                    obtain ⟨⟨g0, g1, g2, g3⟩, gf⟩ := sp.cells
                    rw [HRL.out] at g3
                    obtain ⟨e0, e1, e2, e3, ef⟩ := sp.retAt
                    have hend := sp.out
                    have hcE := hcr.far HRD.out hg (Nat.le_refl _) hmr hend.2
                    have hmE := hmr.low hend.2
                    simp only [HRL.out] at hend hcE hmE
                    clear sp hcr hmr
                    go_wp2
                    refine bodyPost_ret (v := .agg #[.int .i64 X, .int .i64 Y, .int .i64 (bW + 4), .slice mba (X * Y) mbc]) ?_ rfl ?_
                    · simp [results, Tryz.results87, go_sem, e0, e1, e2, e3]
                    · exact ⟨⟨⟨X, Y, (bW + 4), (boxOf X Y (bW + 4) (mixN ⟨X, Y, bW, bR⟩ ⟨X, Y, 4, rowsTo (noiseN 1) Y (X * Y)⟩)).Rows⟩, mba, mbc, mbs, by rw [HRL.out], ⟨hq.small, rfl, rfl⟩, by rw [HRL.out]; exact hend.1⟩, hcE.up (by omega), hmE⟩
                | true =>
                  have hFq : QBox X Y 56 ⟨X, Y, 2, F.Rows⟩ := by
                    have h := HF.out.up (N := 56) (by omega)
                    have hw := HFW.out
                    obtain ⟨fx, fy, fw, fr⟩ := F
                    have e1 : fx = X := h.X
                    have e2 : fy = Y := h.Y
                    have e3 : fw = 2 := hw
                    subst e1 e2 e3
                    exact h
                  have hFl : F.Rows.length = X * Y := HF.out.len
                  obtain ⟨⟨⟨bX, bY, bW, bR⟩, ba, bc, bs, sp, hq⟩, op, _, hcr, hmr⟩ := hQ8
                  have z8 := hm8.size
                  have o9 := o8.weaken (hi' := w8.heap.size) (Nat.le_refl _) (by have := S8.lt; omega)
                  have hQn := QSt.lay (b := ⟨X, Y, 2, F.Rows⟩) hFl hg HRD.out sp.box sp.ret op hgb (by omega) o9 (by omega) hFq hcr hmr
                  obtain ⟨⟨k0, k1, k2, k3⟩, kf⟩ := sp.cells
                  obtain ⟨n0, n1, n2, n3⟩ := S8
                  obtain ⟨wq, hwq⟩ : ∃ wq, wq = (((w8.setCell ⟨gb, 0, none⟩ (.int .i64 X)).setCell ⟨gb, 1, none⟩ (.int .i64 Y)).setCell ⟨gb, 2, none⟩ (.int .i64 2)).setCell ⟨gb, 3, none⟩ (.slice fa (X * Y) fc) := ⟨_, rfl⟩
                  have hQ : QSt w g v n (A + 200) gb w1.heap.size (some ⟨gp, 0, none⟩) pc ps N M X Y 56 wq := by rw [hwq]; exact hQn
                  clear hQn sp op hcr hmr o8 o9 hq hFl hFq
                  go_wp2_with fail
                  rw [← hwq]
                  clear hwq k0 k1 k2 k3 kf n0 n1 n2 n3
                  have CN := noiseq_any X Y HS.out wq
                  skip
                  refine CN.mono ?_
                  rintro e wn ⟨na, nc, ns, rfl, on, bn⟩
                  have hmn : Mid g (g + 1) wq wn := Mid.of_below bn (Nat.le_refl _)
                  have hQn := hQ.move hg hmn (hQ.cur.kept (Nat.le_refl _) bn)
                  obtain ⟨wv, hwv⟩ : ∃ wv, wv = wn.alloc (.cells #[.int .i64 X, .int .i64 Y, .int .i64 4, .slice na (X * Y) nc] 26) := ⟨_, rfl⟩
                  have bv : Below wn.heap.size wn wv := by rw [hwv]; exact (Below.refl _ _).alloc (Nat.le_refl _) _
                  have hQv := hQn.move hg (Mid.of_below bv (Nat.le_refl _)) (hQn.cur.kept (Nat.le_refl _) bv)
                  have NA : BoxAt wv wn.heap.size X Y 4 (.slice na (X * Y) nc) := by rw [hwv]; exact BoxAt.top rfl
                  have ov := on.kept bv (Nat.le_refl _)
                  have zn := bn.size
                  have zw := hQ.mid.size
                  have CO := one_any g v n (A + 200) 4 wv hQv.cur.cur hQv.cur.rd (by omega) (by decide) (by decide)
                  clear CN hQ hQn bn bv on hmn
                  go_wp2_with fail
                  rw [← hwv]
                  clear hwv
                  refine CO.mono ?_
                  rintro e wo ⟨bb, rfl, hco, hmo⟩
                  have hQo := hQv.move hg hmo (hQv.cur.step hco hmo)
                  cases bb with
                  | false =>
                    have hQ := hQo
                    clear CO hQv hQo NA ov
                    obtain ⟨⟨⟨bX, bY, bW, bR⟩, ba, bc, bs, sp, hq⟩, op, _, hcr, hmr⟩ := hQ
                    have hbX : bX = X := hq.X
                    have hbY : bY = Y := hq.Y
                    subst hbX hbY
                    have HRL := Lib.hid (show bR.length = X * Y from hq.len)
                    clear op
                    obtain ⟨⟨g0, g1, g2, g3⟩, gf⟩ := sp.cells
                    rw [HRL.out] at g3
                    obtain ⟨e0, e1, e2, e3, ef⟩ := sp.retAt
                    have hend := sp.out
                    have hcE := hcr.far HRD.out hg (Nat.le_refl _) hmr hend.2
                    have hmE := hmr.low hend.2
                    simp only [HRL.out] at hend hcE hmE
                    clear sp hcr hmr
                    go_wp2
                    refine bodyPost_ret (v := .agg #[.int .i64 X, .int .i64 Y, .int .i64 bW, .slice ba (X * Y) bc]) ?_ rfl ?_
                    · simp [results, Tryz.results87, go_sem, e0, e1, e2, e3]
                    · exact ⟨⟨⟨X, Y, bW, bR⟩, ba, bc, bs, by rw [HRL.out], ⟨hq.small, rfl, rfl⟩, by rw [HRL.out]; exact hend.1⟩, hcE.up (by omega), hmE⟩
                  | true =>
                    have NO : BoxAt wo wn.heap.size X Y 4 (.slice na (X * Y) nc) := ⟨hmo.keep (Or.inr (by omega)) NA.e0, hmo.keep (Or.inr (by omega)) NA.e1, hmo.keep (Or.inr (by omega)) NA.e2, hmo.keep (Or.inr (by omega)) NA.e3⟩
                    have oo := ov.mid hmo (Or.inr (by omega))
                    obtain ⟨⟨⟨bX, bY, bW, bR⟩, ba, bc, bs, sp, hq⟩, op, _, hcr, hmr⟩ := hQo
                    have hbX : bX = X := hq.X
                    have hbY : bY = Y := hq.Y
                    subst hbX hbY
                    have hrl : bR.length = X * Y := hq.len
                    have hra := sp.rows.rdII
                    have CM := mixq_any hq (noiseq_q HS.out) (.slice ba bR.length bc) (.slice na (X * Y) nc) wo hra oo.rdII
                    have hq5 := mixq_q (K := 60) hq (noiseq_q HS.out) (by omega) (by omega)
                    simp only [hrl] at CM
                    obtain ⟨⟨g0, g1, g2, g3⟩, gf⟩ := sp.cells
                    rw [hrl] at g3
                    obtain ⟨n0, n1, n2, n3⟩ := NO
                    have HRL := Lib.hid hrl
                    clear hrl hra CO hQv
                    go_wp2_with fail
                    refine CM.mono ?_
                    rintro e wm ⟨mba, mbc, mbs, rfl, om, bm⟩
                    have hmm : Mid g (g + 1) wo wm := Mid.of_below bm (Nat.le_refl _)
                    have hcm := hcr.kept (Nat.le_refl _) bm
                    have mm := hmr.trans hmm
                    have spm := sp.cur hmm hg
                    have opm := op.mid hmm (Or.inr (by omega))
                    have zz := sp.z1
                    obtain ⟨⟨k0, k1, k2, k3⟩, kf⟩ := spm.cells
                    rw [HRL.out] at k3
                    have hne := spm.ne
                    have hlen : (boxOf X Y (bW + 4) (mixN ⟨X, Y, bW, bR⟩ ⟨X, Y, 4, rowsTo (noiseN 1) Y (X * Y)⟩)).Rows.length = X * Y := by rw [boxOf_len, Int.toNat_natCast, Int.toNat_natCast]
                    obtain ⟨sp, hb4⟩ := SpSt.lay (x := (X : Int)) (y := (Y : Int)) (wh := bW + 4) hlen spm om (by omega)
                    have hcr := hcm.far HRD.out hg (Nat.le_refl _) mm hb4
                    have hmr := mm.low hb4
                    have HRL := Lib.hid hlen
                    have hq : QBox X Y 60 ⟨X, Y, bW + 4, (boxOf X Y (bW + 4) (mixN ⟨X, Y, bW, bR⟩ ⟨X, Y, 4, rowsTo (noiseN 1) Y (X * Y)⟩)).Rows⟩ := hq5
                    clear op g0 g1 g2 g3 gf hmm CM hlen hb4 hq5 hcm mm spm opm om
                    obtain ⟨⟨g0, g1, g2, g3⟩, gf⟩ := sp.cells
                    rw [HRL.out] at g3
                    obtain ⟨e0, e1, e2, e3, ef⟩ := sp.retAt
                    have hend := sp.out
                    have hcE := hcr.far HRD.out hg (Nat.le_refl _) hmr hend.2
                    have hmE := hmr.low hend.2
                    simp only [HRL.out] at hend hcE hmE
                    clear sp hcr hmr
                    go_wp2
                    refine bodyPost_ret (v := .agg #[.int .i64 X, .int .i64 Y, .int .i64 (bW + 4), .slice mba (X * Y) mbc]) ?_ rfl ?_
                    · simp [results, Tryz.results87, go_sem, e0, e1, e2, e3]
                    · exact ⟨⟨⟨X, Y, (bW + 4), (boxOf X Y (bW + 4) (mixN ⟨X, Y, bW, bR⟩ ⟨X, Y, 4, rowsTo (noiseN 1) Y (X * Y)⟩)).Rows⟩, mba, mbc, mbs, by rw [HRL.out], ⟨hq.small, rfl, rfl⟩, by rw [HRL.out]; exact hend.1⟩, hcE.up (by omega), hmE⟩
  · rw [hs] at CSZ
    have CB := someBox_any g v n A x y _ hc0 hA
    clear hs
    go_enter Tryz.func87, Tryz.ntmps87
    go_wp2_with fail
    refine (CSZ _).mono ?_
    rintro e w1 ⟨rfl, rfl⟩
    go_wp2_with fail
    refine CB.mono ?_
    rintro e w2 ⟨⟨b, ba, bc, bs, rfl, ⟨hsm, hbx, hby⟩, ob⟩, hc2, hm2⟩
    have R2 := R0.midc hm2 hg
    obtain ⟨e0, e1, e2, e3, ef⟩ := R2
    have m2 := hm0.trans hm2
    have hb4 := set4W_below (w := w2) (r := w.heap.size) (B := w.heap.size) (Nat.le_refl _) (.int .i64 b.X) (.int .i64 b.Y) (.int .i64 b.Whole) (.slice ba b.Rows.length bc)
    have hend := (ob.set4 (g := w.heap.size) (by rw [World.size_alloc]; omega) (.int .i64 b.X) (.int .i64 b.Y) (.int .i64 b.Whole) (.slice ba b.Rows.length bc)).weaken (lo' := w.heap.size) (by rw [World.size_alloc]; omega) (Nat.le_refl _)
    have hc4 := hc2.far HRD.out hg (Nat.le_refl _) m2 hb4
    have hm4 := m2.low hb4
    have HSM := Lib.hid (And.intro hsm (And.intro hbx hby))
    clear CB CSZ R0 hc0 hm0 hsm hbx hby ob hc2 hm2 hb4 m2 hc
    go_wp2
    refine bodyPost_ret (v := .agg #[.int .i64 b.X, .int .i64 b.Y, .int .i64 b.Whole, .slice ba b.Rows.length bc]) ?_ rfl ?_
    · simp [results, Tryz.results87, go_sem, e0, e1, e2, e3]
    · exact ⟨⟨b, ba, bc, bs, rfl, HSM.out, by simp only [World.size_setCell]; exact hend⟩, hc4.up (by omega), hm4⟩
end Go.Proofs.YtcifpfdlkpddeaaGreatDoor
