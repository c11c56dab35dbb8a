/- The end of a function that hands a box back. -/
import Derived.Test.YtcifpfdlkpddeaaGreatDoorQxah
import Derived.IntWalk
set_option linter.unusedSimpArgs false
set_option linter.unusedVariables false
namespace Go.Proofs.YtcifpfdlkpddeaaGreatDoor
open Go.RowKit

theorem cell_top {W : World} {cs : Array Value} {T m j : Nat} {v : Value} (hm : W.heap.size = m) (hv : cs[j]? = some v) : (W.alloc (.cells cs T)).cell? ⟨m, j, none⟩ = some v := by
  subst hm
  have e : (W.alloc (.cells cs T)).heap[W.heap.size]? = some (.cells cs T) := heap_alloc_new W _
  simp only [World.cell?]
  rw [e]
  exact hv
theorem cell_under {W : World} {o : Obj} {b j : Nat} {v : Value} (hb : b < W.heap.size) (h : W.cell? ⟨b, j, none⟩ = some v) : (W.alloc o).cell? ⟨b, j, none⟩ = some v := by
  rw [((Below.refl W.heap.size W).alloc (Nat.le_refl _) o).cell (p := ⟨b, j, none⟩) hb]; exact h
theorem cell_drew {W : World} {a : Addr} {v : Value} (h : W.cell? a = some v) : W.drew.cell? a = some v := h

theorem box_out {w w1 : World} {g lo : Nat} {v : Value} {rss : List (List Int)} {vs : List Value} (B1 : Below w.heap.size w w1) (hg : w.heap.size ≤ g) (hgl : g < lo)
    (o : OwnII 33 3 lo w1.heap.size w1 v rss vs) (x y z u : Value) :
    OwnII 33 3 w.heap.size ((((w1.setCell ⟨g, 0, none⟩ x).setCell ⟨g, 1, none⟩ y).setCell ⟨g, 2, none⟩ z).setCell ⟨g, 3, none⟩ u).heap.size ((((w1.setCell ⟨g, 0, none⟩ x).setCell ⟨g, 1, none⟩ y).setCell ⟨g, 2, none⟩ z).setCell ⟨g, 3, none⟩ u) v rss vs ∧
      Below w.heap.size w ((((w1.setCell ⟨g, 0, none⟩ x).setCell ⟨g, 1, none⟩ y).setCell ⟨g, 2, none⟩ z).setCell ⟨g, 3, none⟩ u) := by
  refine ⟨?_, (((B1.setCell (by show w.heap.size ≤ g; exact hg) _).setCell (by show w.heap.size ≤ g; exact hg) _).setCell (by show w.heap.size ≤ g; exact hg) _).setCell (by show w.heap.size ≤ g; exact hg) _⟩
  have := (o.set4 hgl x y z u).weaken (lo' := w.heap.size) (by omega) (Nat.le_refl _)
  simpa only [World.size_setCell] using this

/-- A call handed back a box of its own. -/
def BoxOnly (w : World) (x y whole : Int) (rss : List (List Int)) (e : Ending) (w' : World) : Prop :=
  ∃ a c vs, e = .returned (.agg #[.int .i64 x, .int .i64 y, .int .i64 whole, .slice a (x.toNat * y.toNat) c]) ∧
    OwnII 33 3 w.heap.size w'.heap.size w' (.slice a (x.toNat * y.toNat) c) rss vs ∧ Below w.heap.size w w'

theorem RetAt.lt {w : World} {g : Nat} (h : RetAt w g) : g < w.heap.size := World.block_lt_of_cell? w ⟨g, 0, none⟩ h.e0
theorem RetAt.top {W : World} {m : Nat} (hm : W.heap.size = m) : RetAt (W.alloc (.cells #[.int .i64 0, .int .i64 0, .int .i64 0, .slice none 0 0] 26)) m := by subst hm; exact RetAt.made W
theorem RetAt.under {W : World} {o : Obj} {g : Nat} (h : RetAt W g) : RetAt (W.alloc o) g := h.kept ((Below.refl W.heap.size W).alloc (Nat.le_refl _) o) h.lt
/-- Behind a call. -/
theorem RetAt.call {w w' : World} {g : Nat} (hb : Below w.heap.size w w') (h : RetAt w g) : RetAt w' g := h.kept hb h.lt
/-- The cells of a box variable. -/
structure BoxAt (w : World) (g : Nat) (x y whole : Int) (v : Value) : Prop where
  e0 : w.cell? ⟨g, 0, none⟩ = some (.int .i64 x)
  e1 : w.cell? ⟨g, 1, none⟩ = some (.int .i64 y)
  e2 : w.cell? ⟨g, 2, none⟩ = some (.int .i64 whole)
  e3 : w.cell? ⟨g, 3, none⟩ = some v
theorem BoxAt.kept {w w' : World} {g B : Nat} {x y whole : Int} {v : Value} (h : BoxAt w g x y whole v) (hb : Below B w w') (hB : g < B) : BoxAt w' g x y whole v := by
  obtain ⟨hc, _⟩ := bcell hb
  exact ⟨by rw [hc _ _ hB]; exact h.e0, by rw [hc _ _ hB]; exact h.e1, by rw [hc _ _ hB]; exact h.e2, by rw [hc _ _ hB]; exact h.e3⟩
theorem BoxAt.lt {w : World} {g : Nat} {x y whole : Int} {v : Value} (h : BoxAt w g x y whole v) : g < w.heap.size := World.block_lt_of_cell? w ⟨g, 0, none⟩ h.e0
theorem keepCell {w w' : World} {a : Addr} {v : Value} (hB : Below w.heap.size w w') (h : w.cell? a = some v) : w'.cell? a = some v :=
  (hB.cell (World.block_lt_of_cell? _ _ h)).trans h
/-- The world is of the age of w, and a box variable's cells are as in w. -/
def BoxHeld (w : World) (g : Nat) (x y whole : Int) (v : Value) (w' : World) : Prop := w'.cell? ⟨g, 0, none⟩ = some (.int .i64 x) ∧ w'.cell? ⟨g, 1, none⟩ = some (.int .i64 y) ∧ w'.cell? ⟨g, 2, none⟩ = some (.int .i64 whole) ∧ w'.cell? ⟨g, 3, none⟩ = some v
theorem held1 {w w' : World} {g : Nat} {x y whole : Int} {v : Value} (hB : Below w.heap.size w w') (c : BoxAt w g x y whole v) :
    Below w.heap.size w w' ∧ w'.cell? ⟨g, 0, none⟩ = some (.int .i64 x) ∧ w'.cell? ⟨g, 1, none⟩ = some (.int .i64 y) ∧ w'.cell? ⟨g, 2, none⟩ = some (.int .i64 whole) ∧ w'.cell? ⟨g, 3, none⟩ = some v :=
  ⟨hB, keepCell hB c.e0, keepCell hB c.e1, keepCell hB c.e2, keepCell hB c.e3⟩
theorem held2 {w w' : World} {g g2 : Nat} {x y whole x2 y2 whole2 : Int} {v v2 : Value} (hB : Below w.heap.size w w') (c : BoxAt w g x y whole v) (d : BoxAt w g2 x2 y2 whole2 v2) :
    Below w.heap.size w w' ∧ w'.cell? ⟨g, 0, none⟩ = some (.int .i64 x) ∧ w'.cell? ⟨g, 1, none⟩ = some (.int .i64 y) ∧ w'.cell? ⟨g, 2, none⟩ = some (.int .i64 whole) ∧ w'.cell? ⟨g, 3, none⟩ = some v ∧
      w'.cell? ⟨g2, 0, none⟩ = some (.int .i64 x2) ∧ w'.cell? ⟨g2, 1, none⟩ = some (.int .i64 y2) ∧ w'.cell? ⟨g2, 2, none⟩ = some (.int .i64 whole2) ∧ w'.cell? ⟨g2, 3, none⟩ = some v2 :=
  ⟨hB, keepCell hB c.e0, keepCell hB c.e1, keepCell hB c.e2, keepCell hB c.e3, keepCell hB d.e0, keepCell hB d.e1, keepCell hB d.e2, keepCell hB d.e3⟩
/-- A box variable begun in a world of size m. -/
theorem BoxRel.start3 (w1 W3 : World) (m : Nat) (x y whole : Int) (hm : w1.heap.size = m)
    (hW : W3 = ((w1.alloc (.cells #[] 33)).alloc (.cells #[.int .i64 x, .int .i64 y, .int .i64 whole, .slice (some ⟨m, 0, none⟩) 0 0] 26))) :
    BoxRel W3 m (m + 1) m W3 x y whole [] (some ⟨m, 0, none⟩) 0 [] ∧ Below w1.heap.size w1 W3 ∧ W3.heap.size = m + 1 + 1 := by
  subst hm
  exact BoxRel.start2 w1 W3 x y whole hW
def zero4 : Array Value := #[.int .i64 0, .int .i64 0, .int .i64 0, .int .i64 0]
theorem mk4_run (W : World) : (Instr.makeSlice 33 (.int .i64 4) (.int .i64 4)).run Tryz.prog W = .ok (.slice (some ⟨W.heap.size, 0, none⟩) 4 4) (W.alloc (.cells zero4 3)) :=
  run_make_row' (P := Tryz.prog) 33 3 (.int .i64 0) 8 Tryz.underlying33 Tryz.infoInt rfl .i64 .i64 4 (by omega) (by omega) W |>.trans (by rw [show madeCells #[Value.int .i64 0] 4 = zero4 from by first | rfl | kernel_rfl | simp [madeCells, zero4]])
theorem zero4_own (W : World) : OwnV 3 W.heap.size (W.heap.size + 1) (W.alloc (.cells zero4 3)) (.slice (some ⟨W.heap.size, 0, none⟩) 4 4) (ints (List.replicate 4 0)) :=
  OwnV.lit 3 W (ints (List.replicate 4 0)) (by simp [maxLen])
theorem OwnII.sameHeap {T2 T1 lo hi : Nat} {w w' : World} {v : Value} {rss : List (List Int)} {vs : List Value} (h : OwnII T2 T1 lo hi w v rss vs) (e : w'.heap = w.heap) : OwnII T2 T1 lo hi w' v rss vs := h.of_block fun g _ _ => by rw [e]
/-- A box variable begun: the rows' block first. -/
theorem BoxRel.startA (w1 wx : World) (m : Nat) (x y whole : Int) (hm : w1.heap.size = m)
    (hW : wx.heap = ((w1.alloc (.cells #[] 33)).alloc (.cells #[.int .i64 x, .int .i64 y, .int .i64 whole, .slice (some ⟨m, 0, none⟩) 0 0] 26)).heap) :
    BoxRel wx m (m + 1) m wx x y whole [] (some ⟨m, 0, none⟩) 0 [] := by
  obtain ⟨h, hb, hs⟩ := BoxRel.start3 w1 _ m x y whole hm rfl
  exact ⟨Below.refl _ _, h.b1, h.b2, by rw [hW]; exact h.b3, by rw [hW]; exact h.b4, by rw [hW]; exact h.box, by rw [hW]; exact h.rows.sameHeap hW⟩
/-- A box variable begun: its own block first. -/
theorem BoxRel.startB (w1 wx : World) (m : Nat) (x y whole : Int) (hm : w1.heap.size = m)
    (hW : wx.heap = ((w1.alloc (.cells #[.int .i64 x, .int .i64 y, .int .i64 whole, .slice (some ⟨m + 1, 0, none⟩) 0 0] 26)).alloc (.cells #[] 33)).heap) :
    BoxRel wx m m m wx x y whole [] (some ⟨m + 1, 0, none⟩) 0 [] := by
  subst hm
  have hE := OwnII.empty 33 3 (w1.alloc (.cells #[.int .i64 x, .int .i64 y, .int .i64 whole, .slice (some ⟨w1.heap.size + 1, 0, none⟩) 0 0] 26))
  rw [World.size_alloc] at hE
  have hz : wx.heap.size = w1.heap.size + 1 + 1 := by rw [hW]; simp only [World.size_alloc]
  refine ⟨Below.refl _ _, by omega, Nat.le_refl _, by omega, by omega, ?_, ?_⟩
  · rw [hW]
    show ((w1.heap.push _).push _)[w1.heap.size]? = _
    rw [Array.getElem?_push, if_neg (by simp), Array.getElem?_push, if_pos rfl]
    rfl
  · rw [hz]; exact (hE.sameHeap hW).weaken (by omega) (Nat.le_refl _)
theorem BoxAt.sameHeap {w w' : World} {g : Nat} {x y whole : Int} {v : Value} (h : BoxAt w g x y whole v) (e : w'.heap = w.heap) : BoxAt w' g x y whole v := by
  have hc : ∀ a : Addr, w'.cell? a = w.cell? a := fun a => by unfold World.cell?; rw [e]
  exact ⟨by rw [hc]; exact h.e0, by rw [hc]; exact h.e1, by rw [hc]; exact h.e2, by rw [hc]; exact h.e3⟩
theorem BoxAt.top {W : World} {m : Nat} {x y whole : Int} {v : Value} (hm : W.heap.size = m) : BoxAt (W.alloc (.cells #[.int .i64 x, .int .i64 y, .int .i64 whole, v] 26)) m x y whole v :=
  ⟨cell_top hm rfl, cell_top hm rfl, cell_top hm rfl, cell_top hm rfl⟩
/-- Behind the append of a literal row, laid in a region that draws. -/
theorem BoxRel.push_lit {w0 wd w2 : World} {B gb lo : Nat} {x y whole : Int} {rss : List (List Int)} {a a2 : Option Addr} {c c2 n : Nat} {vs : List Value} (h : BoxRel w0 B gb lo wd x y whole rss a c vs) (rs : List Int) (hm : rs.length ≤ maxLen)
    {cs : Array Value} (hcs : cs = (ints rs).toArray) {o2 : Obj}
    (ht : OwnV 33 lo w2.heap.size w2 (.slice a2 n c2) (vs ++ [.slice (some ⟨wd.heap.size, 0, none⟩) rs.length rs.length]))
    (hg : ((wd.drew.alloc (.cells cs 3)).alloc o2).grownBy w2 (Value.slice a rss.length c).ownBlock) (hn : n = (rss ++ [rs]).length) :
    (BoxRel w0 B gb lo (w2.setCell ⟨gb, 3, none⟩ (.slice a2 n c2)) x y whole (rss ++ [rs]) a2 c2 (vs ++ [.slice (some ⟨wd.heap.size, 0, none⟩) rs.length rs.length]) ∧
      w2.cell? ⟨gb, 3, none⟩ = some (.slice a rss.length c) ∧ w2.frozen? ⟨gb, 3, none⟩ = false) ∧ Below B w0 w2 := by
  subst hcs
  have hl := OwnV.lit 3 wd.drew (ints rs) (by rw [ints_length]; exact hm)
  have e1 : wd.drew.heap.size = wd.heap.size := rfl
  rw [e1, ints_length] at hl
  have hl2 : OwnV 3 wd.heap.size ((wd.drew.alloc (.cells (ints rs).toArray 3)).alloc o2).heap.size ((wd.drew.alloc (.cells (ints rs).toArray 3)).alloc o2) (.slice (some ⟨wd.heap.size, 0, none⟩) rs.length rs.length) (ints rs) :=
    (hl.kept (B := wd.heap.size + 1) ((Below.refl _ _).alloc (by rw [World.size_alloc, e1]; exact Nat.le_refl _) _) (Nat.le_refl _)).weaken (Nat.le_refl _) (by rw [World.size_alloc, World.size_alloc, e1]; omega)
  have hV : Below wd.heap.size wd ((wd.drew.alloc (.cells (ints rs).toArray 3)).alloc o2) := (((Below.refl wd.heap.size wd).drew).alloc (Nat.le_refl _) _).alloc (by rw [World.size_alloc, e1]; omega) _
  refine ⟨h.push hV hl2 ht hg hn, ?_⟩
  have h1 := h.later hV
  exact h1.below.grown hg (Nat.le_trans h.b2 h1.b4) (fun k hk => Nat.le_trans h.b2 (h1.rows.top.lt k hk).1)
/-- Behind the append of an own row, in a region that draws. -/
theorem BoxRel.push_row {w0 wr we w2 : World} {B gb lo lo' : Nat} {x y whole : Int} {rss : List (List Int)} {a a2 ar : Option Addr} {c c2 n nr cr : Nat} {vs : List Value} (h : BoxRel w0 B gb lo wr x y whole rss a c vs) {rs : List Int}
    (hb : Below wr.heap.size wr we) (hrow : OwnV 3 lo' we.heap.size we (.slice ar nr cr) (ints rs)) (hlo : wr.heap.size ≤ lo') {o2 : Obj}
    (ht : OwnV 33 lo w2.heap.size w2 (.slice a2 n c2) (vs ++ [.slice ar nr cr]))
    (hg : (we.alloc o2).grownBy w2 (Value.slice a rss.length c).ownBlock) (hn : n = (rss ++ [rs]).length) :
    (BoxRel w0 B gb lo (w2.setCell ⟨gb, 3, none⟩ (.slice a2 n c2)) x y whole (rss ++ [rs]) a2 c2 (vs ++ [.slice ar nr cr]) ∧
      w2.cell? ⟨gb, 3, none⟩ = some (.slice a rss.length c) ∧ w2.frozen? ⟨gb, 3, none⟩ = false) ∧ Below B w0 w2 := by
  have hV : Below wr.heap.size wr (we.alloc o2) := hb.alloc hb.size _
  have hl2 := (hrow.kept (B := we.heap.size) ((Below.refl _ _).alloc (Nat.le_refl _) o2) (Nat.le_refl _)).weaken (lo' := wr.heap.size) (hi' := (we.alloc o2).heap.size) hlo (by rw [World.size_alloc]; omega)
  refine ⟨h.push hV hl2 ht hg hn, ?_⟩
  have h1 := h.later hV
  exact h1.below.grown hg (Nat.le_trans h.b2 h1.b4) (fun k hk => Nat.le_trans h.b2 (h1.rows.top.lt k hk).1)
theorem rdI4 {w : World} {b2 o2 c2 : Nat} {p q r s : Int} (h : w.cell? ⟨b2, o2, none⟩ = some (.int .i64 p) ∧ w.cell? ⟨b2, o2 + 1, none⟩ = some (.int .i64 q) ∧ w.cell? ⟨b2, o2 + 2, none⟩ = some (.int .i64 r) ∧ w.cell? ⟨b2, o2 + 3, none⟩ = some (.int .i64 s)) :
    RdI w (.slice (some ⟨b2, o2, none⟩) 4 c2) [p, q, r, s] :=
  ⟨_, b2, o2, c2, rfl, by simp [maxLen], fun _ => rfl, fun j x hj => by
    match j, hj with
    | 0, hj => cases hj; exact h.1
    | 1, hj => cases hj; exact h.2.1
    | 2, hj => cases hj; exact h.2.2.1
    | 3, hj => cases hj; exact h.2.2.2⟩
theorem OwnV.at {T lo hi g n c : Nat} {w : World} {vs : List Value} (h : OwnV T lo hi w (.slice (some ⟨g, 0, none⟩) n c) vs) :
    (∀ j u, vs[j]? = some u → w.cell? ⟨g, j, none⟩ = some u) ∧ (∀ j, w.frozen? ⟨g, j, none⟩ = false) ∧ lo ≤ g ∧ g < hi ∧ g < w.heap.size := by
  have hl := h.lt g rfl
  obtain ⟨⟨h1, h2⟩, h3⟩ := h
  rcases h2 with ⟨h2, hn⟩ | ⟨g', cap, cur, hv, hb, hh, hnc, hcm, hcs, htk⟩
  · simp at h2
  · simp only [Value.slice.injEq, Option.some.injEq, Addr.mk.injEq, and_true] at hv
    obtain ⟨rfl, rfl, rfl⟩ := hv
    refine ⟨fun j u hu => ?_, fun j => by simp [World.frozen?, hh], hl⟩
    rw [Nat.mul_one] at htk
    rw [← htk, List.getElem?_take] at hu
    split at hu
    · rw [cell_of_row w g j cur T (0, 0) hh]; simpa using hu
    · cases hu
theorem rd4_cell {w : World} {b2 o2 : Nat} {p q r s : Int} (h : w.cell? ⟨b2, o2, none⟩ = some (.int .i64 p) ∧ w.cell? ⟨b2, o2 + 1, none⟩ = some (.int .i64 q) ∧ w.cell? ⟨b2, o2 + 2, none⟩ = some (.int .i64 r) ∧ w.cell? ⟨b2, o2 + 3, none⟩ = some (.int .i64 s)) (k : Nat) (hk : k < 4) :
    w.cell? ⟨b2, o2 + k, none⟩ = some (.int .i64 ([p, q, r, s].getD k 0)) := by
  have : k = 0 ∨ k = 1 ∨ k = 2 ∨ k = 3 := by omega
  rcases this with rfl | rfl | rfl | rfl
  · exact h.1
  · exact h.2.1
  · exact h.2.2.1
  · exact h.2.2.2
theorem wrap_in (n : Int) (h0 : -1000000000 ≤ n) (h1 : n ≤ 1000000000) : IntKind.i64.wrap n = n := IntWalk.i64_in _ (by omega)
end Go.Proofs.YtcifpfdlkpddeaaGreatDoor
