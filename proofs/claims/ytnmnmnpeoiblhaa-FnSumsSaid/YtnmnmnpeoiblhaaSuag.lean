/- append of one element at a step of a region that draws its order. Plain facts of functionals, of the worth of a functional, and of boxes that are alike. The end of a function that hands a box back. -/
import Derived.Test.YtnmnmnpeoiblhaaSuac
import Derived.Test.YtnmnmnpeoiblhaaSuaf
import Derived.Deep.RegionHeld3
import Derived.Deep.AppendLies
import Derived.IntWalk
set_option linter.unusedSimpArgs false
set_option linter.unusedVariables false
namespace Go.Proofs.Ytnmnmnpeoiblhaa
open Go.RowKit

theorem step_append1 {P : Program} {ops : Array Oper} {o : Oper} {a : Act} {K : Act → World → Prop} {Q : Exit → Act → World → Prop} {E : Prop} (hgd : o.guard = none) (s x : Operand) (t e : TypeId)
    (ho : o.op = .call { callee := .builtin .append, args := #[s, x], argTypes := #[t, t] })
    {z : Value} {bytes : Nat} (ht : P.underlying t = some (.slice e)) (hinfo : (P.info? e).map (fun i => (i.zero, i.size, i.bytes)) = some (some z, 1, bytes)) (hz : z.cells.size = 1)
    {lo hi m : Nat} {V : World} {v u : Value} {vs : List Value} (hown : OwnV e lo hi V v vs) (hs : a.eval s = v)
    (hx : a.eval x = .slice (some ⟨m, 0, none⟩) 1 1) (hm : V.cell? ⟨m, 0, none⟩ = some u) (hu : u.oneCell' = true) (hlen : vs.length ≤ 4194304) (hby : bytes ≤ 1024) (hlo : lo ≤ V.heap.size)
    (h : ∀ (a' : Option Addr) (c : Nat) (w' : World), OwnV e lo w'.heap.size w' (.slice a' (vs.length + 1) c) (vs ++ [u]) → V.grownBy w' v.ownBlock → K (a.put o.dst (.slice a' (vs.length + 1) c)) w') :
    if Region.wanted o (yielded ops a.tmps) = true then Oper.wp P o a V K Q else E := by
  have hw : Region.wanted o (yielded ops a.tmps) = true := by simp [Region.wanted, hgd]
  rw [if_pos hw]
  obtain ⟨i, hi0, hi1, hi2, hi3⟩ := info_parts hinfo
  refine wp_append_own V s x t ho lo e i z 1 bytes ht hi0 hi1 hi2 hi3 hz (by omega) v vs.length vs hs hown.1 ⟨m, 0, none⟩ 1 1 [u] hx rfl ?_ ?_ ?_ ?_ hlo ?_
  · intro j u' hj
    match j, hj with
    | 0, hj => simp at hj; subst hj; simpa [Addr.add] using hm
  · intro u' hu'; simp at hu'; subst hu'; exact hu
  · unfold maxLen; omega
  · have : (vs.length + 1) * bytes ≤ 4194305 * 1024 := Nat.mul_le_mul (by omega) hby
    omega
  · intro v' w' hown' hg _
    obtain ⟨a', c, rfl⟩ := ownsRow_shape hown'
    have hl : (vs ++ [u]).length = vs.length + 1 := by simp
    exact h a' c w' ⟨by rw [hl]; exact hown', fun g hg' => (hown'.lt g hg').2⟩ hg

/-- At an append alone: a guard ahead of an arm. -/
def isAppendOp : Op → Bool
  | .call c => match c.callee with
    | .builtin .append => true
    | _ => false
  | _ => false
theorem step_is_append {P : Program} {ops : Array Oper} {o : Oper} {a : Act} {V : World} {K : Act → World → Prop} {Q : Exit → Act → World → Prop} {E : Prop}
    (_ : isAppendOp o.op = true) (h : if Region.wanted o (yielded ops a.tmps) = true then Oper.wp P o a V K Q else E) :
    if Region.wanted o (yielded ops a.tmps) = true then Oper.wp P o a V K Q else E := h

end Go.Proofs.Ytnmnmnpeoiblhaa
set_option linter.unusedSimpArgs false
set_option linter.unusedVariables false
namespace Go.Proofs.Ytnmnmnpeoiblhaa

theorem mul_bd (a b A B : Int) (h : -A ≤ a ∧ a ≤ A) (hb : 0 ≤ b ∧ b ≤ B) : -(A * B) ≤ a * b ∧ a * b ≤ A * B := by
  have hA : 0 ≤ A := by omega
  have h1 : a * b ≤ A * b := Int.mul_le_mul_of_nonneg_right h.2 hb.1
  have h2 : A * b ≤ A * B := Int.mul_le_mul_of_nonneg_left hb.2 hA
  have h3 : (-A) * b ≤ a * b := Int.mul_le_mul_of_nonneg_right h.1 hb.1
  rw [Int.neg_mul] at h3
  omega

/-! ### Functionals -/
def funcRowB (rs : List Int) : Bool := decide (rs.length = 4) && allIn rs (-99) 99
def funcB (x y : Int) (f : List (List Int)) : Bool := sizesB x y && (decide ((f.length : Int) = x * y) && f.all funcRowB)
theorem all_true {α : Type} {p : α → Bool} {l : List α} (h : ∀ (j : Nat) (r : α), l[j]? = some r → p r = true) : l.all p = true := by
  rw [List.all_eq_true]
  intro x hx
  obtain ⟨j, hj⟩ := List.mem_iff_getElem?.1 hx
  exact h j x hj
theorem all_false {α : Type} {p : α → Bool} {l : List α} {k : Nat} {r : α} (h : l[k]? = some r) (hr : p r = false) : l.all p = false := by
  rw [List.all_eq_false]
  exact ⟨r, List.mem_of_getElem? h, by simp [hr]⟩
theorem all_get {α : Type} {p : α → Bool} {l : List α} (h : l.all p = true) {k : Nat} {r : α} (hr : l[k]? = some r) : p r = true := by
  rw [List.all_eq_true] at h
  exact h r (List.mem_of_getElem? hr)
theorem funcB_iff {x y : Int} {f : List (List Int)} : funcB x y f = true ↔ sizesB x y = true ∧ (f.length : Int) = x * y ∧ f.all funcRowB = true := by
  unfold funcB
  rw [Bool.and_eq_true, Bool.and_eq_true, decide_eq_true_iff]
theorem funcRow_four {rs : List Int} (h : funcRowB rs = true) : ∃ p q r s : Int, rs = [p, q, r, s] ∧ (-99 ≤ p ∧ p ≤ 99) ∧ (-99 ≤ q ∧ q ≤ 99) ∧ (-99 ≤ r ∧ r ≤ 99) ∧ (-99 ≤ s ∧ s ≤ 99) := by
  unfold funcRowB at h
  rw [Bool.and_eq_true, decide_eq_true_iff] at h
  obtain ⟨h1, h2⟩ := h
  match rs, h1 with
  | [p, q, r, s], _ => exact ⟨p, q, r, s, rfl, allIn_get h2 (k := 0) rfl, allIn_get h2 (k := 1) rfl, allIn_get h2 (k := 2) rfl, allIn_get h2 (k := 3) rfl⟩

/-! ### Worth -/
def cellAt (rss : List (List Int)) (i k : Nat) : Int := (rss.getD i []).getD k 0
theorem cellAt_get {rss : List (List Int)} {i k : Nat} {rs : List Int} {x : Int} (h : rss[i]? = some rs) (hx : rs[k]? = some x) : cellAt rss i k = x := by
  simp [cellAt, List.getD_eq_getElem?_getD, h, hx]
def wRow (f rows : List (List Int)) (i k : Nat) : Int := (List.map (fun q => cellAt f i q * cellAt rows i q) (List.range k)).sum
theorem wRow_zero (f rows : List (List Int)) (i : Nat) : wRow f rows i 0 = 0 := rfl
theorem wRow_succ (f rows : List (List Int)) (i k : Nat) : wRow f rows i (k + 1) = wRow f rows i k + cellAt f i k * cellAt rows i k := by
  simp [wRow, List.range_succ]
def worthTo (f rows : List (List Int)) (n : Nat) : Int := (List.map (fun i => wRow f rows i 4) (List.range n)).sum
theorem worthTo_zero (f rows : List (List Int)) : worthTo f rows 0 = 0 := rfl
theorem worthTo_succ (f rows : List (List Int)) (n : Nat) : worthTo f rows (n + 1) = worthTo f rows n + wRow f rows n 4 := by
  simp [worthTo, List.range_succ]
def worthR (f rows : List (List Int)) : Int := worthTo f rows rows.length

/-! ### Alike -/
/-- All places before place k of row n agree. -/
def AlikeTo (ra rb : List (List Int)) (wa wb : Int) (n k : Nat) : Prop := ∀ i q : Nat, q < 4 → (i < n ∨ (i = n ∧ q < k)) → cellAt ra i q * wb = cellAt rb i q * wa
def alikeR (ra rb : List (List Int)) (wa wb : Int) : Bool := (List.range ra.length).all fun i => (List.range 4).all fun q => decide (cellAt ra i q * wb = cellAt rb i q * wa)
theorem alikeR_true {ra rb : List (List Int)} {wa wb : Int} (h : AlikeTo ra rb wa wb ra.length 0) : alikeR ra rb wa wb = true := by
  unfold alikeR
  rw [List.all_eq_true]
  intro i hi
  rw [List.all_eq_true]
  intro q hq
  exact decide_eq_true (h i q (List.mem_range.1 hq) (Or.inl (List.mem_range.1 hi)))
theorem alikeR_false {ra rb : List (List Int)} {wa wb : Int} {i q : Nat} (hi : i < ra.length) (hq : q < 4) (h : ¬ cellAt ra i q * wb = cellAt rb i q * wa) : alikeR ra rb wa wb = false := by
  unfold alikeR
  rw [List.all_eq_false]
  refine ⟨i, List.mem_range.2 hi, ?_⟩
  rw [Bool.not_eq_true, List.all_eq_false]
  exact ⟨q, List.mem_range.2 hq, by simp [h]⟩
theorem AlikeTo.next {ra rb : List (List Int)} {wa wb : Int} {n k : Nat} (h : AlikeTo ra rb wa wb n k) (e : cellAt ra n k * wb = cellAt rb n k * wa) : AlikeTo ra rb wa wb n (k + 1) := by
  intro i q hq hd
  by_cases h1 : i < n ∨ (i = n ∧ q < k)
  · exact h i q hq h1
  · obtain rfl : i = n := by omega
    obtain rfl : q = k := by omega
    exact e
theorem AlikeTo.row {ra rb : List (List Int)} {wa wb : Int} {n : Nat} (h : AlikeTo ra rb wa wb n 4) : AlikeTo ra rb wa wb (n + 1) 0 := by
  intro i q hq hd
  exact h i q hq (by omega)

end Go.Proofs.Ytnmnmnpeoiblhaa
set_option linter.unusedSimpArgs false
set_option linter.unusedVariables false
namespace Go.Proofs.Ytnmnmnpeoiblhaa
open Go.RowKit

theorem cell_top {W : World} {cs : Array Value} {T m j : Nat} {v : Value} (hm : W.heap.size = m) (hv : cs[j]? = some v) : (W.alloc (.cells cs T)).cell? ⟨m, j, none⟩ = some v := by
  subst hm
  have e : (W.alloc (.cells cs T)).heap[W.heap.size]? = some (.cells cs T) := heap_alloc_new W _
  simp only [World.cell?]
  rw [e]
  exact hv
theorem cell_under {W : World} {o : Obj} {b j : Nat} {v : Value} (hb : b < W.heap.size) (h : W.cell? ⟨b, j, none⟩ = some v) : (W.alloc o).cell? ⟨b, j, none⟩ = some v := by
  rw [((Below.refl W.heap.size W).alloc (Nat.le_refl _) o).cell (p := ⟨b, j, none⟩) hb]; exact h
theorem cell_drew {W : World} {a : Addr} {v : Value} (h : W.cell? a = some v) : W.drew.cell? a = some v := h

theorem box_out {w w1 : World} {g lo : Nat} {v : Value} {rss : List (List Int)} {vs : List Value} (B1 : Below w.heap.size w w1) (hg : w.heap.size ≤ g) (hgl : g < lo)
    (o : OwnII 27 3 lo w1.heap.size w1 v rss vs) (x y z u : Value) :
    OwnII 27 3 w.heap.size ((((w1.setCell ⟨g, 0, none⟩ x).setCell ⟨g, 1, none⟩ y).setCell ⟨g, 2, none⟩ z).setCell ⟨g, 3, none⟩ u).heap.size ((((w1.setCell ⟨g, 0, none⟩ x).setCell ⟨g, 1, none⟩ y).setCell ⟨g, 2, none⟩ z).setCell ⟨g, 3, none⟩ u) v rss vs ∧
      Below w.heap.size w ((((w1.setCell ⟨g, 0, none⟩ x).setCell ⟨g, 1, none⟩ y).setCell ⟨g, 2, none⟩ z).setCell ⟨g, 3, none⟩ u) := by
  refine ⟨?_, (((B1.setCell (by show w.heap.size ≤ g; exact hg) _).setCell (by show w.heap.size ≤ g; exact hg) _).setCell (by show w.heap.size ≤ g; exact hg) _).setCell (by show w.heap.size ≤ g; exact hg) _⟩
  have := (o.set4 hgl x y z u).weaken (lo' := w.heap.size) (by omega) (Nat.le_refl _)
  simpa only [World.size_setCell] using this

/-- A call handed back a box of its own. -/
def BoxOnly (w : World) (x y whole : Int) (rss : List (List Int)) (e : Ending) (w' : World) : Prop :=
  ∃ a c vs, e = .returned (.agg #[.int .i64 x, .int .i64 y, .int .i64 whole, .slice a (x.toNat * y.toNat) c]) ∧
    OwnII 27 3 w.heap.size w'.heap.size w' (.slice a (x.toNat * y.toNat) c) rss vs ∧ Below w.heap.size w w'

theorem RetAt.lt {w : World} {g : Nat} (h : RetAt w g) : g < w.heap.size := World.block_lt_of_cell? w ⟨g, 0, none⟩ h.e0
theorem RetAt.top {W : World} {m : Nat} (hm : W.heap.size = m) : RetAt (W.alloc (.cells #[.int .i64 0, .int .i64 0, .int .i64 0, .slice none 0 0] 26)) m := by subst hm; exact RetAt.made W
theorem RetAt.under {W : World} {o : Obj} {g : Nat} (h : RetAt W g) : RetAt (W.alloc o) g := h.kept ((Below.refl W.heap.size W).alloc (Nat.le_refl _) o) h.lt
/-- Behind a call. -/
theorem RetAt.call {w w' : World} {g : Nat} (hb : Below w.heap.size w w') (h : RetAt w g) : RetAt w' g := h.kept hb h.lt
/-- The cells of a box variable. -/
structure BoxAt (w : World) (g : Nat) (x y whole : Int) (v : Value) : Prop where
  e0 : w.cell? ⟨g, 0, none⟩ = some (.int .i64 x)
  e1 : w.cell? ⟨g, 1, none⟩ = some (.int .i64 y)
  e2 : w.cell? ⟨g, 2, none⟩ = some (.int .i64 whole)
  e3 : w.cell? ⟨g, 3, none⟩ = some v
theorem BoxAt.kept {w w' : World} {g B : Nat} {x y whole : Int} {v : Value} (h : BoxAt w g x y whole v) (hb : Below B w w') (hB : g < B) : BoxAt w' g x y whole v := by
  obtain ⟨hc, _⟩ := bcell hb
  exact ⟨by rw [hc _ _ hB]; exact h.e0, by rw [hc _ _ hB]; exact h.e1, by rw [hc _ _ hB]; exact h.e2, by rw [hc _ _ hB]; exact h.e3⟩
theorem BoxAt.lt {w : World} {g : Nat} {x y whole : Int} {v : Value} (h : BoxAt w g x y whole v) : g < w.heap.size := World.block_lt_of_cell? w ⟨g, 0, none⟩ h.e0
theorem keepCell {w w' : World} {a : Addr} {v : Value} (hB : Below w.heap.size w w') (h : w.cell? a = some v) : w'.cell? a = some v :=
  (hB.cell (World.block_lt_of_cell? _ _ h)).trans h
/-- The world is of the age of w, and a box variable's cells are as in w. -/
def BoxHeld (w : World) (g : Nat) (x y whole : Int) (v : Value) (w' : World) : Prop := w'.cell? ⟨g, 0, none⟩ = some (.int .i64 x) ∧ w'.cell? ⟨g, 1, none⟩ = some (.int .i64 y) ∧ w'.cell? ⟨g, 2, none⟩ = some (.int .i64 whole) ∧ w'.cell? ⟨g, 3, none⟩ = some v
theorem held1 {w w' : World} {g : Nat} {x y whole : Int} {v : Value} (hB : Below w.heap.size w w') (c : BoxAt w g x y whole v) :
    Below w.heap.size w w' ∧ w'.cell? ⟨g, 0, none⟩ = some (.int .i64 x) ∧ w'.cell? ⟨g, 1, none⟩ = some (.int .i64 y) ∧ w'.cell? ⟨g, 2, none⟩ = some (.int .i64 whole) ∧ w'.cell? ⟨g, 3, none⟩ = some v :=
  ⟨hB, keepCell hB c.e0, keepCell hB c.e1, keepCell hB c.e2, keepCell hB c.e3⟩
theorem held2 {w w' : World} {g g2 : Nat} {x y whole x2 y2 whole2 : Int} {v v2 : Value} (hB : Below w.heap.size w w') (c : BoxAt w g x y whole v) (d : BoxAt w g2 x2 y2 whole2 v2) :
    Below w.heap.size w w' ∧ w'.cell? ⟨g, 0, none⟩ = some (.int .i64 x) ∧ w'.cell? ⟨g, 1, none⟩ = some (.int .i64 y) ∧ w'.cell? ⟨g, 2, none⟩ = some (.int .i64 whole) ∧ w'.cell? ⟨g, 3, none⟩ = some v ∧
      w'.cell? ⟨g2, 0, none⟩ = some (.int .i64 x2) ∧ w'.cell? ⟨g2, 1, none⟩ = some (.int .i64 y2) ∧ w'.cell? ⟨g2, 2, none⟩ = some (.int .i64 whole2) ∧ w'.cell? ⟨g2, 3, none⟩ = some v2 :=
  ⟨hB, keepCell hB c.e0, keepCell hB c.e1, keepCell hB c.e2, keepCell hB c.e3, keepCell hB d.e0, keepCell hB d.e1, keepCell hB d.e2, keepCell hB d.e3⟩
/-- A box variable begun in a world of size m. -/
theorem BoxRel.start3 (w1 W3 : World) (m : Nat) (x y whole : Int) (hm : w1.heap.size = m)
    (hW : W3 = ((w1.alloc (.cells #[] 27)).alloc (.cells #[.int .i64 x, .int .i64 y, .int .i64 whole, .slice (some ⟨m, 0, none⟩) 0 0] 26))) :
    BoxRel W3 m (m + 1) m W3 x y whole [] (some ⟨m, 0, none⟩) 0 [] ∧ Below w1.heap.size w1 W3 ∧ W3.heap.size = m + 1 + 1 := by
  subst hm
  exact BoxRel.start2 w1 W3 x y whole hW
def zero4 : Array Value := #[.int .i64 0, .int .i64 0, .int .i64 0, .int .i64 0]
theorem mk4_run (W : World) : (Instr.makeSlice 27 (.int .i64 4) (.int .i64 4)).run Try.prog W = .ok (.slice (some ⟨W.heap.size, 0, none⟩) 4 4) (W.alloc (.cells zero4 3)) :=
  run_make_row' (P := Try.prog) 27 3 (.int .i64 0) 8 Try.underlying27 Try.infoInt rfl .i64 .i64 4 (by omega) (by omega) W |>.trans (by rw [show madeCells #[Value.int .i64 0] 4 = zero4 from by first | rfl | kernel_rfl | simp [madeCells, zero4]])
theorem zero4_own (W : World) : OwnV 3 W.heap.size (W.heap.size + 1) (W.alloc (.cells zero4 3)) (.slice (some ⟨W.heap.size, 0, none⟩) 4 4) (ints (List.replicate 4 0)) :=
  OwnV.lit 3 W (ints (List.replicate 4 0)) (by simp [maxLen])
theorem OwnII.sameHeap {T2 T1 lo hi : Nat} {w w' : World} {v : Value} {rss : List (List Int)} {vs : List Value} (h : OwnII T2 T1 lo hi w v rss vs) (e : w'.heap = w.heap) : OwnII T2 T1 lo hi w' v rss vs := h.of_block fun g _ _ => by rw [e]
/-- A box variable begun: the rows' block first. -/
theorem BoxRel.startA (w1 wx : World) (m : Nat) (x y whole : Int) (hm : w1.heap.size = m)
    (hW : wx.heap = ((w1.alloc (.cells #[] 27)).alloc (.cells #[.int .i64 x, .int .i64 y, .int .i64 whole, .slice (some ⟨m, 0, none⟩) 0 0] 26)).heap) :
    BoxRel wx m (m + 1) m wx x y whole [] (some ⟨m, 0, none⟩) 0 [] := by
  obtain ⟨h, hb, hs⟩ := BoxRel.start3 w1 _ m x y whole hm rfl
  exact ⟨Below.refl _ _, h.b1, h.b2, by rw [hW]; exact h.b3, by rw [hW]; exact h.b4, by rw [hW]; exact h.box, by rw [hW]; exact h.rows.sameHeap hW⟩
/-- A box variable begun: its own block first. -/
theorem BoxRel.startB (w1 wx : World) (m : Nat) (x y whole : Int) (hm : w1.heap.size = m)
    (hW : wx.heap = ((w1.alloc (.cells #[.int .i64 x, .int .i64 y, .int .i64 whole, .slice (some ⟨m + 1, 0, none⟩) 0 0] 26)).alloc (.cells #[] 27)).heap) :
    BoxRel wx m m m wx x y whole [] (some ⟨m + 1, 0, none⟩) 0 [] := by
  subst hm
  have hE := OwnII.empty 27 3 (w1.alloc (.cells #[.int .i64 x, .int .i64 y, .int .i64 whole, .slice (some ⟨w1.heap.size + 1, 0, none⟩) 0 0] 26))
  rw [World.size_alloc] at hE
  have hz : wx.heap.size = w1.heap.size + 1 + 1 := by rw [hW]; simp only [World.size_alloc]
  refine ⟨Below.refl _ _, by omega, Nat.le_refl _, by omega, by omega, ?_, ?_⟩
  · rw [hW]
    show ((w1.heap.push _).push _)[w1.heap.size]? = _
    rw [Array.getElem?_push, if_neg (by simp), Array.getElem?_push, if_pos rfl]
    rfl
  · rw [hz]; exact (hE.sameHeap hW).weaken (by omega) (Nat.le_refl _)
theorem BoxAt.sameHeap {w w' : World} {g : Nat} {x y whole : Int} {v : Value} (h : BoxAt w g x y whole v) (e : w'.heap = w.heap) : BoxAt w' g x y whole v := by
  have hc : ∀ a : Addr, w'.cell? a = w.cell? a := fun a => by unfold World.cell?; rw [e]
  exact ⟨by rw [hc]; exact h.e0, by rw [hc]; exact h.e1, by rw [hc]; exact h.e2, by rw [hc]; exact h.e3⟩
theorem BoxAt.top {W : World} {m : Nat} {x y whole : Int} {v : Value} (hm : W.heap.size = m) : BoxAt (W.alloc (.cells #[.int .i64 x, .int .i64 y, .int .i64 whole, v] 26)) m x y whole v :=
  ⟨cell_top hm rfl, cell_top hm rfl, cell_top hm rfl, cell_top hm rfl⟩
/-- Behind the append of a literal row, laid in a region that draws. -/
theorem BoxRel.push_lit {w0 wd w2 : World} {B gb lo : Nat} {x y whole : Int} {rss : List (List Int)} {a a2 : Option Addr} {c c2 n : Nat} {vs : List Value} (h : BoxRel w0 B gb lo wd x y whole rss a c vs) (rs : List Int) (hm : rs.length ≤ maxLen)
    {cs : Array Value} (hcs : cs = (ints rs).toArray) {o2 : Obj}
    (ht : OwnV 27 lo w2.heap.size w2 (.slice a2 n c2) (vs ++ [.slice (some ⟨wd.heap.size, 0, none⟩) rs.length rs.length]))
    (hg : ((wd.drew.alloc (.cells cs 3)).alloc o2).grownBy w2 (Value.slice a rss.length c).ownBlock) (hn : n = (rss ++ [rs]).length) :
    (BoxRel w0 B gb lo (w2.setCell ⟨gb, 3, none⟩ (.slice a2 n c2)) x y whole (rss ++ [rs]) a2 c2 (vs ++ [.slice (some ⟨wd.heap.size, 0, none⟩) rs.length rs.length]) ∧
      w2.cell? ⟨gb, 3, none⟩ = some (.slice a rss.length c) ∧ w2.frozen? ⟨gb, 3, none⟩ = false) ∧ Below B w0 w2 := by
  subst hcs
  have hl := OwnV.lit 3 wd.drew (ints rs) (by rw [ints_length]; exact hm)
  have e1 : wd.drew.heap.size = wd.heap.size := rfl
  rw [e1, ints_length] at hl
  have hl2 : OwnV 3 wd.heap.size ((wd.drew.alloc (.cells (ints rs).toArray 3)).alloc o2).heap.size ((wd.drew.alloc (.cells (ints rs).toArray 3)).alloc o2) (.slice (some ⟨wd.heap.size, 0, none⟩) rs.length rs.length) (ints rs) :=
    (hl.kept (B := wd.heap.size + 1) ((Below.refl _ _).alloc (by rw [World.size_alloc, e1]; exact Nat.le_refl _) _) (Nat.le_refl _)).weaken (Nat.le_refl _) (by rw [World.size_alloc, World.size_alloc, e1]; omega)
  have hV : Below wd.heap.size wd ((wd.drew.alloc (.cells (ints rs).toArray 3)).alloc o2) := (((Below.refl wd.heap.size wd).drew).alloc (Nat.le_refl _) _).alloc (by rw [World.size_alloc, e1]; omega) _
  refine ⟨h.push hV hl2 ht hg hn, ?_⟩
  have h1 := h.later hV
  exact h1.below.grown hg (Nat.le_trans h.b2 h1.b4) (fun k hk => Nat.le_trans h.b2 (h1.rows.top.lt k hk).1)
/-- Behind the append of an own row, in a region that draws. -/
theorem BoxRel.push_row {w0 wr we w2 : World} {B gb lo lo' : Nat} {x y whole : Int} {rss : List (List Int)} {a a2 ar : Option Addr} {c c2 n nr cr : Nat} {vs : List Value} (h : BoxRel w0 B gb lo wr x y whole rss a c vs) {rs : List Int}
    (hb : Below wr.heap.size wr we) (hrow : OwnV 3 lo' we.heap.size we (.slice ar nr cr) (ints rs)) (hlo : wr.heap.size ≤ lo') {o2 : Obj}
    (ht : OwnV 27 lo w2.heap.size w2 (.slice a2 n c2) (vs ++ [.slice ar nr cr]))
    (hg : (we.alloc o2).grownBy w2 (Value.slice a rss.length c).ownBlock) (hn : n = (rss ++ [rs]).length) :
    (BoxRel w0 B gb lo (w2.setCell ⟨gb, 3, none⟩ (.slice a2 n c2)) x y whole (rss ++ [rs]) a2 c2 (vs ++ [.slice ar nr cr]) ∧
      w2.cell? ⟨gb, 3, none⟩ = some (.slice a rss.length c) ∧ w2.frozen? ⟨gb, 3, none⟩ = false) ∧ Below B w0 w2 := by
  have hV : Below wr.heap.size wr (we.alloc o2) := hb.alloc hb.size _
  have hl2 := (hrow.kept (B := we.heap.size) ((Below.refl _ _).alloc (Nat.le_refl _) o2) (Nat.le_refl _)).weaken (lo' := wr.heap.size) (hi' := (we.alloc o2).heap.size) hlo (by rw [World.size_alloc]; omega)
  refine ⟨h.push hV hl2 ht hg hn, ?_⟩
  have h1 := h.later hV
  exact h1.below.grown hg (Nat.le_trans h.b2 h1.b4) (fun k hk => Nat.le_trans h.b2 (h1.rows.top.lt k hk).1)
theorem rdI4 {w : World} {b2 o2 c2 : Nat} {p q r s : Int} (h : w.cell? ⟨b2, o2, none⟩ = some (.int .i64 p) ∧ w.cell? ⟨b2, o2 + 1, none⟩ = some (.int .i64 q) ∧ w.cell? ⟨b2, o2 + 2, none⟩ = some (.int .i64 r) ∧ w.cell? ⟨b2, o2 + 3, none⟩ = some (.int .i64 s)) :
    RdI w (.slice (some ⟨b2, o2, none⟩) 4 c2) [p, q, r, s] :=
  ⟨_, b2, o2, c2, rfl, by simp [maxLen], fun _ => rfl, fun j x hj => by
    match j, hj with
    | 0, hj => cases hj; exact h.1
    | 1, hj => cases hj; exact h.2.1
    | 2, hj => cases hj; exact h.2.2.1
    | 3, hj => cases hj; exact h.2.2.2⟩
theorem OwnV.at {T lo hi g n c : Nat} {w : World} {vs : List Value} (h : OwnV T lo hi w (.slice (some ⟨g, 0, none⟩) n c) vs) :
    (∀ j u, vs[j]? = some u → w.cell? ⟨g, j, none⟩ = some u) ∧ (∀ j, w.frozen? ⟨g, j, none⟩ = false) ∧ lo ≤ g ∧ g < hi ∧ g < w.heap.size := by
  have hl := h.lt g rfl
  obtain ⟨⟨h1, h2⟩, h3⟩ := h
  rcases h2 with ⟨h2, hn⟩ | ⟨g', cap, cur, hv, hb, hh, hnc, hcm, hcs, htk⟩
  · simp at h2
  · simp only [Value.slice.injEq, Option.some.injEq, Addr.mk.injEq, and_true] at hv
    obtain ⟨rfl, rfl, rfl⟩ := hv
    refine ⟨fun j u hu => ?_, fun j => by simp [World.frozen?, hh], hl⟩
    rw [Nat.mul_one] at htk
    rw [← htk, List.getElem?_take] at hu
    split at hu
    · rw [cell_of_row w g j cur T (0, 0) hh]; simpa using hu
    · cases hu
theorem rd4_cell {w : World} {b2 o2 : Nat} {p q r s : Int} (h : w.cell? ⟨b2, o2, none⟩ = some (.int .i64 p) ∧ w.cell? ⟨b2, o2 + 1, none⟩ = some (.int .i64 q) ∧ w.cell? ⟨b2, o2 + 2, none⟩ = some (.int .i64 r) ∧ w.cell? ⟨b2, o2 + 3, none⟩ = some (.int .i64 s)) (k : Nat) (hk : k < 4) :
    w.cell? ⟨b2, o2 + k, none⟩ = some (.int .i64 ([p, q, r, s].getD k 0)) := by
  have : k = 0 ∨ k = 1 ∨ k = 2 ∨ k = 3 := by omega
  rcases this with rfl | rfl | rfl | rfl
  · exact h.1
  · exact h.2.1
  · exact h.2.2.1
  · exact h.2.2.2
theorem wrap_in (n : Int) (h0 : -1000000000 ≤ n) (h1 : n ≤ 1000000000) : IntKind.i64.wrap n = n := IntWalk.i64_in _ (by omega)
end Go.Proofs.Ytnmnmnpeoiblhaa
