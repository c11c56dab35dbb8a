/- newBox: the contract of the program's maker of boxes, for any numbers that a function hands back. -/
import Derived.Test.YtcifpfdlkpddeaaDoorPlainB
import Derived.Test.YtcifpfdlkpddeaaDoorHarC
import Derived.Test.YtcifpfdlkpddeaaDoorApp
set_option linter.unusedSimpArgs false
set_option linter.unusedVariables false
namespace Go.Proofs.YtcifpfdlkpddeaaDoor
open Go.RowKit

/-- What holds while newBox fills the box: n rows are made. -/
structure NewRel (w wr : World) (x y whole : Int) (rss : List (List Int)) (a : Option Addr) (c : Nat) (vs : List Value) : Prop where
  below : Below w.heap.size w wr
  size : w.heap.size + 2 ≤ wr.heap.size
  ret : wr.heap[w.heap.size]? = some (.cells #[.int .i64 0, .int .i64 0, .int .i64 0, .slice none 0 0] 24 (0, 0))
  box : wr.heap[w.heap.size + 1]? = some (.cells #[.int .i64 x, .int .i64 y, .int .i64 whole, .slice a rss.length c] 24 (0, 0))
  rows : OwnII 34 3 (w.heap.size + 2) wr.heap.size wr (.slice a rss.length c) rss vs

theorem NewRel.later {w wr wr' : World} {x y whole : Int} {rss : List (List Int)} {a : Option Addr} {c : Nat} {vs : List Value} (h : NewRel w wr x y whole rss a c vs) (hb : Below wr.heap.size wr wr') : NewRel w wr' x y whole rss a c vs := by
  have := h.size
  exact ⟨h.below.trans (hb.mono (by omega)), by have := hb.size; omega, by rw [hb.block _ (by omega)]; exact h.ret, by rw [hb.block _ (by omega)]; exact h.box, (h.rows.kept hb (Nat.le_refl _)).weaken (Nat.le_refl _) hb.size⟩

/-- The cells of the box under construction, as the walk asks for them. -/
theorem NewRel.cells {w wr : World} {x y whole : Int} {rss : List (List Int)} {a : Option Addr} {c : Nat} {vs : List Value} (h : NewRel w wr x y whole rss a c vs) :
    (wr.cell? ⟨w.heap.size + 1, 0, none⟩ = some (.int .i64 x) ∧ wr.cell? ⟨w.heap.size + 1, 1, none⟩ = some (.int .i64 y) ∧ wr.cell? ⟨w.heap.size + 1, 2, none⟩ = some (.int .i64 whole) ∧ wr.cell? ⟨w.heap.size + 1, 3, none⟩ = some (.slice a rss.length c)) ∧
    (∀ o, wr.frozen? ⟨w.heap.size + 1, o, none⟩ = false) ∧
    (wr.cell? ⟨w.heap.size, 0, none⟩ = some (.int .i64 0) ∧ wr.cell? ⟨w.heap.size, 1, none⟩ = some (.int .i64 0) ∧ wr.cell? ⟨w.heap.size, 2, none⟩ = some (.int .i64 0) ∧ wr.cell? ⟨w.heap.size, 3, none⟩ = some (.slice none 0 0)) ∧
    (∀ o, wr.frozen? ⟨w.heap.size, o, none⟩ = false) := by
  refine ⟨⟨?_, ?_, ?_, ?_⟩, fun o => ?_, ⟨?_, ?_, ?_, ?_⟩, fun o => ?_⟩ <;> simp [World.cell?, World.frozen?, h.box, h.ret]

theorem NewRel.start (w : World) (x y whole : Int) : NewRel w ((w.alloc (.cells #[.int .i64 0, .int .i64 0, .int .i64 0, .slice none 0 0] 24)).alloc (.cells #[.int .i64 x, .int .i64 y, .int .i64 whole, .slice none 0 0] 24)) x y whole [] none 0 [] := by
  refine ⟨(by repeat' (first | with_reducible exact Below.refl _ _ | with_reducible assumption | with_reducible apply Below.alloc | with_reducible apply Below.setCell | with_reducible apply Below.drew | exact Nat.le_refl _ | omega | (simp only [World.size_alloc, World.size_setCell]; omega))), by simp, ?_, ?_, OwnII.nil _ _ _ _ _⟩
  · show ((w.heap.push _).push _)[w.heap.size]? = _
    simp [Array.getElem?_push]
  · show ((w.heap.push _).push _)[w.heap.size + 1]? = _
    rw [Array.getElem?_push, if_pos (by simp)]
    rfl

theorem NewRel.push {w wo wr w2 : World} {x y whole : Int} {rss : List (List Int)} {a a2 ar : Option Addr} {c c2 n nr cr : Nat} {vs : List Value} {rs : List Int}
    (h : NewRel w wo x y whole rss a c vs) (hB : Below wo.heap.size wo wr) (hrow : OwnV 3 wo.heap.size wr.heap.size wr (.slice ar nr cr) (ints rs))
    (ht : OwnV 34 (w.heap.size + 2) w2.heap.size w2 (.slice a2 n c2) (vs ++ [.slice ar nr cr])) (hg : wr.grownBy w2 (Value.slice a rss.length c).ownBlock) (hn : n = (rss ++ [rs]).length) :
    NewRel w (w2.setCell ⟨w.heap.size + 1, 3, none⟩ (.slice a2 n c2)) x y whole (rss ++ [rs]) a2 c2 (vs ++ [.slice ar nr cr]) := by
  subst hn
  have h1 := h.later hB
  have hs := h.size
  have hs1 := h1.size
  have hsz := hB.size
  have hob : ∀ g, (Value.slice a rss.length c).ownBlock = some g → w.heap.size + 2 ≤ g := fun g hg' => (h.rows.top.lt g hg').1
  have old : ∀ g, g < w.heap.size + 2 → w2.heap[g]? = wr.heap[g]? := fun g hlt => hg.block g (by omega) (fun e => by have := hob g e.symm; omega)
  have hrows : OwnII 34 3 (w.heap.size + 2) w2.heap.size w2 (.slice a2 (rss ++ [rs]).length c2) (rss ++ [rs]) (vs ++ [.slice ar nr cr]) :=
    (h.rows.kept hB (Nat.le_refl _)).snoc hrow (Nat.le_refl _) hs hsz ht hg hg.size (by decide)
  have hb2 : Below w.heap.size w w2 := ⟨hg.os.trans h1.below.os, hg.tape.trans h1.below.tape, hg.output.trans h1.below.output, Nat.le_trans h1.below.size hg.size, fun k hk => (old k (by omega)).trans (h1.below.block k hk)⟩
  have hsz2 := hg.size
  refine ⟨hb2.setCell (by show w.heap.size ≤ w.heap.size + 1; omega) _, by simp only [World.size_setCell]; omega, ?_, ?_, ?_⟩
  · rw [Below.heap_setCell _ _ _ _ (by show w.heap.size ≠ w.heap.size + 1; omega), old _ (by omega)]
    exact h1.ret
  · have e := (old (w.heap.size + 1) (by omega)).trans h1.box
    simp [World.setCell, Array.getElem?_modify, e]
  · rw [World.size_setCell]
    exact hrows.setCell_off (Or.inl (by show w.heap.size + 1 < w.heap.size + 2; omega)) _

end Go.Proofs.YtcifpfdlkpddeaaDoor
