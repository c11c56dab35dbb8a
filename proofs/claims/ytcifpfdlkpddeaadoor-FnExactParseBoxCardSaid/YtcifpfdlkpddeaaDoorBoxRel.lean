/- What holds while a box is filled row by row. -/
import Derived.Test.YtcifpfdlkpddeaaDoorHarC
import Derived.Test.YtcifpfdlkpddeaaDoorApp
import Derived.Test.YtcifpfdlkpddeaaDoorPlainB
set_option linter.unusedSimpArgs false
set_option linter.unusedVariables false
namespace Go.Proofs.YtcifpfdlkpddeaaDoor
open Go.RowKit

/-- A literal row. -/
theorem OwnV.lit (T : Nat) (w : World) (vs : List Value) (hm : vs.length ≤ maxLen) : OwnV T w.heap.size (w.heap.size + 1) (w.alloc (.cells vs.toArray T)) (.slice (some ⟨w.heap.size, 0, none⟩) vs.length vs.length) vs := by
  refine ⟨⟨by omega, Or.inr ⟨w.heap.size, vs.length, vs.toArray, rfl, Nat.le_refl _, heap_alloc_new w _, Nat.le_refl _, hm, by simp, by simp⟩⟩, fun g hg => by simp [Value.ownBlock] at hg; omega⟩

theorem OwnV.ne_tag {T lo hi : Nat} {w : World} {v : Value} {vs : List Value} (h : OwnV T lo hi w v vs) {g : Nat} {cur : Array Value} {T' : Nat} {fr : Nat × Nat} (hg : w.heap[g]? = some (.cells cur T' fr)) (hT : T' ≠ T) : v.ownBlock ≠ some g := by
  intro e
  obtain ⟨c, hc⟩ := h.block e
  rw [hc] at hg
  simp only [Option.some.injEq, Obj.cells.injEq] at hg
  exact hT hg.2.1.symm

theorem OwnII.tag {T2 T1 lo hi : Nat} {w w' : World} {v : Value} {rss : List (List Int)} {vs : List Value} (h : OwnII T2 T1 lo hi w v rss vs) {g : Nat} {cur : Array Value} {T' : Nat} {fr : Nat × Nat}
    (hg : w.heap[g]? = some (.cells cur T' fr)) (h2 : T' ≠ T2) (h1 : T' ≠ T1) (hs : ∀ k, k ≠ g → w'.heap[k]? = w.heap[k]?) : OwnII T2 T1 lo hi w' v rss vs :=
  ⟨h.len, h.top.of_block fun k hk => hs k (fun e => h.top.ne_tag hg h2 (by rw [hk, e])),
   fun i v' rs hv hr => (h.row i v' rs hv hr).of_block fun k hk => hs k (fun e => (h.row i v' rs hv hr).ne_tag hg h1 (by rw [hk, e])), h.apart, h.off⟩

/-- append1_own, the new block's number spelt otherwise. -/
theorem append1_at {P : Program} {ops : Array Oper} {rest : List Oper} {o : Oper} {a : Act} {Q : Exit → Act → World → Prop} (hgd : o.guard = none) (s x : Operand) (t e : TypeId)
    (ho : o.op = .call { callee := .builtin .append, args := #[s, x], argTypes := #[t, t] })
    {z : Value} {bytes : Nat} (ht : P.underlying t = some (.slice e)) (hinfo : (P.info? e).map (fun i => (i.zero, i.size, i.bytes)) = some (some z, 1, bytes)) (hz : z.cells.size = 1)
    {lo hi m : Nat} {W : World} {v u : Value} {vs : List Value} (hown : OwnV e lo hi W v vs) (hm : W.heap.size = m) (hs : a.eval s = v)
    (hx : a.eval x = .slice (some ⟨m, 0, none⟩) 1 1) (hu : u.oneCell' = true) (hlen : vs.length ≤ 4194304) (hby : bytes ≤ 1024) (hlo : lo ≤ W.heap.size)
    (h : ∀ (a' : Option Addr) (c : Nat) (w' : World), OwnV e lo w'.heap.size w' (.slice a' (vs.length + 1) c) (vs ++ [u]) → W.grownBy w' v.ownBlock →
      wpList P ops Q rest (a.put o.dst (.slice a' (vs.length + 1) c)) w') :
    wpList P ops Q (o :: rest) a (W.alloc (.cells #[u] e)) := by
  subst hm
  exact append1_own hgd s x t e ho ht hinfo hz hown hs hx hu hlen hby hlo h

/-- A box variable at block gb whose rows are the call's own; everything below B is as it was in w0. -/
structure BoxRel (w0 : World) (B gb lo : Nat) (wr : World) (x y whole : Int) (rss : List (List Int)) (a : Option Addr) (c : Nat) (vs : List Value) : Prop where
  below : Below B w0 wr
  b1 : B ≤ gb
  b2 : B ≤ lo
  b3 : B ≤ w0.heap.size
  b4 : lo ≤ wr.heap.size
  box : wr.heap[gb]? = some (.cells #[.int .i64 x, .int .i64 y, .int .i64 whole, .slice a rss.length c] 24 (0, 0))
  rows : OwnII 34 3 lo wr.heap.size wr (.slice a rss.length c) rss vs

section
variable {w0 wr wr' w2 : World} {B gb lo : Nat} {x y whole : Int} {rss : List (List Int)} {a : Option Addr} {c : Nat} {vs : List Value}

theorem BoxRel.lt (h : BoxRel w0 B gb lo wr x y whole rss a c vs) : gb < wr.heap.size := (Array.getElem?_eq_some_iff.1 h.box).1

theorem BoxRel.later (h : BoxRel w0 B gb lo wr x y whole rss a c vs) (hb : Below wr.heap.size wr wr') : BoxRel w0 B gb lo wr' x y whole rss a c vs :=
  ⟨h.below.trans (hb.mono (Nat.le_trans h.b3 h.below.size)), h.b1, h.b2, h.b3, Nat.le_trans h.b4 hb.size, by rw [hb.block _ h.lt]; exact h.box, (h.rows.kept hb (Nat.le_refl _)).weaken (Nat.le_refl _) hb.size⟩

theorem BoxRel.cells (h : BoxRel w0 B gb lo wr x y whole rss a c vs) :
    (wr.cell? ⟨gb, 0, none⟩ = some (.int .i64 x) ∧ wr.cell? ⟨gb, 1, none⟩ = some (.int .i64 y) ∧ wr.cell? ⟨gb, 2, none⟩ = some (.int .i64 whole) ∧ wr.cell? ⟨gb, 3, none⟩ = some (.slice a rss.length c)) ∧
    (∀ o, wr.frozen? ⟨gb, o, none⟩ = false) := by
  refine ⟨⟨?_, ?_, ?_, ?_⟩, fun o => ?_⟩ <;> simp [World.cell?, World.frozen?, h.box]

/-- Behind the append of a fresh row. -/
theorem BoxRel.push {wo : World} {a2 ar : Option Addr} {c2 n nr cr : Nat} {rs : List Int}
    (h : BoxRel w0 B gb lo wo x y whole rss a c vs) (hB : Below wo.heap.size wo wr) (hrow : OwnV 3 wo.heap.size wr.heap.size wr (.slice ar nr cr) (ints rs))
    (ht : OwnV 34 lo w2.heap.size w2 (.slice a2 n c2) (vs ++ [.slice ar nr cr])) (hg : wr.grownBy w2 (Value.slice a rss.length c).ownBlock) (hn : n = (rss ++ [rs]).length) :
    BoxRel w0 B gb lo (w2.setCell ⟨gb, 3, none⟩ (.slice a2 n c2)) x y whole (rss ++ [rs]) a2 c2 (vs ++ [.slice ar nr cr]) ∧
      w2.cell? ⟨gb, 3, none⟩ = some (.slice a rss.length c) ∧ w2.frozen? ⟨gb, 3, none⟩ = false := by
  subst hn
  have h1 := h.later hB
  have hlo := h.b4
  have hrows : OwnII 34 3 lo w2.heap.size w2 (.slice a2 (rss ++ [rs]).length c2) (rss ++ [rs]) (vs ++ [.slice ar nr cr]) :=
    (h.rows.kept hB (Nat.le_refl _)).snoc hrow (Nat.le_refl _) hlo hB.size ht hg hg.size (by decide)
  have hne : (Value.slice a rss.length c).ownBlock ≠ some gb := h1.rows.top.ne_tag h1.box (by decide)
  have e : w2.heap[gb]? = some (.cells #[.int .i64 x, .int .i64 y, .int .i64 whole, .slice a rss.length c] 24 (0, 0)) := by
    rw [hg.block gb h1.lt (fun e => hne e.symm)]; exact h1.box
  have hb2 : Below B w0 w2 := h1.below.grown hg (Nat.le_trans h.b2 h1.b4) (fun k hk => Nat.le_trans h.b2 (h1.rows.top.lt k hk).1)
  refine ⟨⟨hb2.setCell (by show B ≤ gb; exact h.b1) _, h.b1, h.b2, h.b3, ?_, ?_, ?_⟩, ?_, ?_⟩
  · rw [World.size_setCell]; exact Nat.le_trans h1.b4 hg.size
  · simp [World.setCell, Array.getElem?_modify, e]
  · rw [World.size_setCell]
    exact hrows.tag e (by decide) (by decide) fun k hk => Below.heap_setCell _ _ _ _ hk
  · simp [World.cell?, e]
  · simp [World.frozen?, e]
end

/-- The zero box that a function's result variable holds at first. -/
structure RetAt (w : World) (g : Nat) : Prop where
  e0 : w.cell? ⟨g, 0, none⟩ = some (.int .i64 0)
  e1 : w.cell? ⟨g, 1, none⟩ = some (.int .i64 0)
  e2 : w.cell? ⟨g, 2, none⟩ = some (.int .i64 0)
  e3 : w.cell? ⟨g, 3, none⟩ = some (.slice none 0 0)
  ef : ∀ o, w.frozen? ⟨g, o, none⟩ = false
theorem RetAt.kept {w w' : World} {g B : Nat} (h : RetAt w g) (hb : Below B w w') (hB : g < B) : RetAt w' g := by
  obtain ⟨hc, hf⟩ := bcell hb
  exact ⟨by rw [hc _ _ hB]; exact h.e0, by rw [hc _ _ hB]; exact h.e1, by rw [hc _ _ hB]; exact h.e2, by rw [hc _ _ hB]; exact h.e3, fun o => by rw [hf _ _ hB]; exact h.ef o⟩

theorem RetAt.made (w : World) : RetAt (w.alloc (.cells #[.int .i64 0, .int .i64 0, .int .i64 0, .slice none 0 0] 24)) w.heap.size := by
  constructor <;> simp

/-- A function that begins with its result variable, an empty list of rows and the box under construction. -/
theorem BoxRel.start (w W3 : World) (x y whole : Int)
    (hW : W3 = (((w.alloc (.cells #[.int .i64 0, .int .i64 0, .int .i64 0, .slice none 0 0] 24)).alloc (.cells #[] 34)).alloc (.cells #[.int .i64 x, .int .i64 y, .int .i64 whole, .slice (some ⟨w.heap.size + 1, 0, none⟩) 0 0] 24))) :
    BoxRel W3 (w.heap.size + 1) (w.heap.size + 1 + 1) (w.heap.size + 1) W3 x y whole [] (some ⟨w.heap.size + 1, 0, none⟩) 0 [] ∧ RetAt W3 w.heap.size ∧ Below w.heap.size w W3 ∧ W3.heap.size = w.heap.size + 1 + 1 + 1 := by
  subst hW
  have hE := OwnII.empty 34 3 (w.alloc (.cells #[.int .i64 0, .int .i64 0, .int .i64 0, .slice none 0 0] 24))
  rw [World.size_alloc] at hE
  have hE2 := (hE.kept (B := w.heap.size + 1 + 1) (w' := (((w.alloc (.cells #[.int .i64 0, .int .i64 0, .int .i64 0, .slice none 0 0] 24)).alloc (.cells #[] 34)).alloc (.cells #[.int .i64 x, .int .i64 y, .int .i64 whole, .slice (some ⟨w.heap.size + 1, 0, none⟩) 0 0] 24))) (by repeat' (first | with_reducible exact Below.refl _ _ | with_reducible assumption | with_reducible apply Below.alloc | with_reducible apply Below.setCell | with_reducible apply Below.drew | exact Nat.le_refl _ | omega | (simp only [World.size_alloc, World.size_setCell]; omega))) (Nat.le_refl _)).weaken (hi' := w.heap.size + 1 + 1 + 1) (Nat.le_refl _) (by omega)
  refine ⟨⟨Below.refl _ _, by omega, Nat.le_refl _, by simp only [World.size_alloc]; omega, by simp only [World.size_alloc]; omega, ?_, by simpa only [World.size_alloc, List.length_nil] using hE2⟩, (RetAt.made w).kept (B := w.heap.size + 1) (by repeat' (first | with_reducible exact Below.refl _ _ | with_reducible assumption | with_reducible apply Below.alloc | with_reducible apply Below.setCell | with_reducible apply Below.drew | exact Nat.le_refl _ | omega | (simp only [World.size_alloc, World.size_setCell]; omega))) (by omega), (by repeat' (first | with_reducible exact Below.refl _ _ | with_reducible assumption | with_reducible apply Below.alloc | with_reducible apply Below.setCell | with_reducible apply Below.drew | exact Nat.le_refl _ | omega | (simp only [World.size_alloc, World.size_setCell]; omega))), by simp only [World.size_alloc]⟩
  show (((w.heap.push _).push _).push _)[w.heap.size + 1 + 1]? = _
  rw [Array.getElem?_push, if_pos (by simp)]
  rfl

end Go.Proofs.YtcifpfdlkpddeaaDoor
