/- What holds while a game is filled row by row; marking and reading a game. -/
import Derived.Test.YtadnjljpceeolaaBoxRel
import Derived.Test.YtadnjljpceeolaaGameD
import Derived.Test.YtadnjljpceeolaaHarC
import Derived.Test.YtadnjljpceeolaaBoxOut
import Derived.Test.YtadnjljpceeolaaPairs
set_option linter.unusedSimpArgs false
set_option linter.unusedVariables false
namespace Go.Proofs.Ytadnjljpceeolaa
open Go.RowKit

/-- A game variable at block gb whose wins are the call's own; everything below B is as it was in w0. -/
structure GameRel (w0 : World) (B gb lo : Nat) (wr : World) (x y : Int) (u : Value) (rss : List (List Int)) (a : Option Addr) (c : Nat) (vs : List Value) : Prop where
  below : Below B w0 wr
  b1 : B ≤ gb
  b2 : B ≤ lo
  b3 : B ≤ w0.heap.size
  b4 : lo ≤ wr.heap.size
  box : wr.heap[gb]? = some (.cells #[.int .i64 x, .int .i64 y, u, .slice a rss.length c] 29 (0, 0))
  rows : OwnII 22 3 lo wr.heap.size wr (.slice a rss.length c) rss vs

section
variable {w0 wr wr' w2 : World} {B gb lo : Nat} {x y : Int} {u : Value} {rss : List (List Int)} {a : Option Addr} {c : Nat} {vs : List Value}

theorem GameRel.lt (h : GameRel w0 B gb lo wr x y u rss a c vs) : gb < wr.heap.size := (Array.getElem?_eq_some_iff.1 h.box).1

theorem GameRel.later (h : GameRel w0 B gb lo wr x y u rss a c vs) (hb : Below wr.heap.size wr wr') : GameRel w0 B gb lo wr' x y u rss a c vs :=
  ⟨h.below.trans (hb.mono (Nat.le_trans h.b3 h.below.size)), h.b1, h.b2, h.b3, Nat.le_trans h.b4 hb.size, by rw [hb.block _ h.lt]; exact h.box, (h.rows.kept hb (Nat.le_refl _)).weaken (Nat.le_refl _) hb.size⟩

theorem GameRel.cells (h : GameRel w0 B gb lo wr x y u rss a c vs) :
    (wr.cell? ⟨gb, 0, none⟩ = some (.int .i64 x) ∧ wr.cell? ⟨gb, 1, none⟩ = some (.int .i64 y) ∧ wr.cell? ⟨gb, 2, none⟩ = some u ∧ wr.cell? ⟨gb, 3, none⟩ = some (.slice a rss.length c)) ∧
    (∀ o, wr.frozen? ⟨gb, o, none⟩ = false) := by
  refine ⟨⟨?_, ?_, ?_, ?_⟩, fun o => ?_⟩ <;> simp [World.cell?, World.frozen?, h.box]

/-- Behind the append of a fresh row. -/
theorem GameRel.push {wo : World} {a2 ar : Option Addr} {c2 n nr cr : Nat} {rs : List Int}
    (h : GameRel w0 B gb lo wo x y u rss a c vs) (hB : Below wo.heap.size wo wr) (hrow : OwnV 3 wo.heap.size wr.heap.size wr (.slice ar nr cr) (ints rs))
    (ht : OwnV 22 lo w2.heap.size w2 (.slice a2 n c2) (vs ++ [.slice ar nr cr])) (hg : wr.grownBy w2 (Value.slice a rss.length c).ownBlock) (hn : n = (rss ++ [rs]).length) :
    GameRel w0 B gb lo (w2.setCell ⟨gb, 3, none⟩ (.slice a2 n c2)) x y u (rss ++ [rs]) a2 c2 (vs ++ [.slice ar nr cr]) ∧
      w2.cell? ⟨gb, 3, none⟩ = some (.slice a rss.length c) ∧ w2.frozen? ⟨gb, 3, none⟩ = false := by
  subst hn
  have h1 := h.later hB
  have hlo := h.b4
  have hrows : OwnII 22 3 lo w2.heap.size w2 (.slice a2 (rss ++ [rs]).length c2) (rss ++ [rs]) (vs ++ [.slice ar nr cr]) :=
    (h.rows.kept hB (Nat.le_refl _)).snoc hrow (Nat.le_refl _) hlo hB.size ht hg hg.size (by decide)
  have hne : (Value.slice a rss.length c).ownBlock ≠ some gb := h1.rows.top.ne_tag h1.box (by decide)
  have e : w2.heap[gb]? = some (.cells #[.int .i64 x, .int .i64 y, u, .slice a rss.length c] 29 (0, 0)) := by
    rw [hg.block gb h1.lt (fun e => hne e.symm)]; exact h1.box
  have hb2 : Below B w0 w2 := h1.below.grown hg (Nat.le_trans h.b2 h1.b4) (fun k hk => Nat.le_trans h.b2 (h1.rows.top.lt k hk).1)
  refine ⟨⟨hb2.setCell (by show B ≤ gb; exact h.b1) _, h.b1, h.b2, h.b3, ?_, ?_, ?_⟩, ?_, ?_⟩
  · rw [World.size_setCell]; exact Nat.le_trans h1.b4 hg.size
  · simp [World.setCell, Array.getElem?_modify, e]
  · rw [World.size_setCell]
    exact hrows.tag e (by decide) (by decide) fun k hk => Below.heap_setCell _ _ _ _ hk
  · simp [World.cell?, e]
  · simp [World.frozen?, e]
end

/-- The zero game that a function's result variable holds at first. -/
structure GetAt (w : World) (g : Nat) : Prop where
  e0 : w.cell? ⟨g, 0, none⟩ = some (.int .i64 0)
  e1 : w.cell? ⟨g, 1, none⟩ = some (.int .i64 0)
  e2 : w.cell? ⟨g, 2, none⟩ = some (.slice none 0 0)
  e3 : w.cell? ⟨g, 3, none⟩ = some (.slice none 0 0)
  ef : ∀ o, w.frozen? ⟨g, o, none⟩ = false
theorem GetAt.kept {w w' : World} {g B : Nat} (h : GetAt w g) (hb : Below B w w') (hB : g < B) : GetAt w' g := by
  obtain ⟨hc, hf⟩ := bcell hb
  exact ⟨by rw [hc _ _ hB]; exact h.e0, by rw [hc _ _ hB]; exact h.e1, by rw [hc _ _ hB]; exact h.e2, by rw [hc _ _ hB]; exact h.e3, fun o => by rw [hf _ _ hB]; exact h.ef o⟩
theorem GetAt.made (w : World) : GetAt (w.alloc (.cells #[.int .i64 0, .int .i64 0, .slice none 0 0, .slice none 0 0] 29)) w.heap.size := by
  constructor <;> simp
theorem GetAt.lt {w : World} {g : Nat} (h : GetAt w g) : g < w.heap.size := by
  have := World.block_lt_of_cell? _ _ h.e0
  simpa using this

def zeroG : GameD := ⟨0, 0, [], []⟩
/-- A game result: weights and wins are the call's own, the weights' block lies below the wins' blocks. -/
def GameRes (w : World) (D : GameD) (ok : Bool) (e : Ending) (w' : World) : Prop :=
  ∃ a c d f vs m, e = .returned (.tuple #[.agg #[.int .i64 D.X, .int .i64 D.Y, .slice a D.Weights.length c, .slice d D.Wins.length f], .bool ok]) ∧ (w.heap.size ≤ m ∧ m ≤ w'.heap.size) ∧
    OwnV 3 w.heap.size m w' (.slice a D.Weights.length c) (ints D.Weights) ∧ OwnII 22 3 m w'.heap.size w' (.slice d D.Wins.length f) D.Wins vs ∧ Below w.heap.size w w'
theorem GameRes.zero {w w' : World} (hb : Below w.heap.size w w') : GameRes w zeroG false (.returned (.tuple #[.agg #[.int .i64 0, .int .i64 0, .slice none 0 0, .slice none 0 0], .bool false])) w' :=
  ⟨none, 0, none, 0, [], w'.heap.size, rfl, ⟨hb.size, Nat.le_refl _⟩, (OwnII.nil 3 3 w.heap.size w'.heap.size w').top, OwnII.nil _ _ _ _ _, hb⟩

set_option maxHeartbeats 800000 in
theorem markGame_any (lo m hi : Nat) (u v : Value) (g : GameD) (vs : List Value) (k : Int) (w : World) (hp : OwnV 3 lo m w u (ints g.Weights)) (ho : OwnII 22 3 m hi w v g.Wins vs) (hm : lo ≤ m) (hmh : m ≤ hi) (hh : hi ≤ w.heap.size) (h1 : g.Weights.length ≤ 1048576) (hn : g.Wins.length + sumLen g.Wins ≤ 4194304) (h0 : 0 ≤ k) (hk : k ≤ 1048576) :
    Calls Try.prog 21 #[.agg #[.int .i64 g.X, .int .i64 g.Y, u, v], .int .i64 k] w fun e w' => e = .returned (.int .i64 (k + g.Weights.length + (sumLen g.Wins : Int))) ∧ OwnV 3 lo m w' u (ints (marks k g.Weights.length)) ∧ OwnII 22 3 m hi w' v (markRows (k + g.Weights.length) g.Wins) vs ∧ Mid lo hi w w' := by
  have ba : Below w.heap.size w (w.alloc (.cells #[.int .i64 g.X, .int .i64 g.Y, u, v] 29)) := (Below.refl _ _).alloc (Nat.le_refl _) _
  have hp' := hp.kept ba (by omega)
  have ho' := ho.kept ba hh
  have A0 : (w.alloc (.cells #[.int .i64 g.X, .int .i64 g.Y, u, v] 29)).cell? ⟨w.heap.size, 2, none⟩ = some u ∧ (w.alloc (.cells #[.int .i64 g.X, .int .i64 g.Y, u, v] 29)).cell? ⟨w.heap.size, 3, none⟩ = some v := ⟨(by repeat' (first | with_reducible assumption | (refine cell_top ?_ rfl; first | with_reducible rfl | (simp only [World.size_alloc, World.size_setCell]; done)) | (refine cell_under ?_ ?_; (first | omega | (simp only [World.size_alloc, World.size_setCell]; omega))) | refine cell_drew ?_)), (by repeat' (first | with_reducible assumption | (refine cell_top ?_ rfl; first | with_reducible rfl | (simp only [World.size_alloc, World.size_setCell]; done)) | (refine cell_under ?_ ?_; (first | omega | (simp only [World.size_alloc, World.size_setCell]; omega))) | refine cell_drew ?_))⟩
  go_enter Try.func21, Try.ntmps21
  go_wp2_with fail
  refine (markIntS_any _ _ _ u (ints g.Weights) k _ hp' (by rw [ints_length]; omega) h0 (by omega)).mono ?_
  rintro e w1 ⟨rfl, hp1, hg1⟩
  rw [ints_length] at hp1
  rw [ints_length]
  have m1 : Mid lo m (w.alloc (.cells #[.int .i64 g.X, .int .i64 g.Y, u, v] 29)) w1 := Mid.of_grown hg1 (fun b hb => by have := hp'.lt b hb; omega)
  have ho1 := ho'.mid m1 (Or.inr (Nat.le_refl _))
  have c3 : w1.cell? ⟨w.heap.size, 3, none⟩ = some v := m1.keep (Or.inr (by omega)) A0.2
  have hz := m1.size
  simp only [World.size_alloc] at hz
  go_wp2_with fail
  refine (markIntSS_any _ _ _ _ v g.Wins vs _ _ ho1 hn (by omega) (by omega)).mono ?_
  rintro e w2 ⟨rfl, ho2, m2⟩
  have hp2 := hp1.mid m2 (Or.inl (Nat.le_refl _))
  have M : Mid lo hi w w2 := ((Mid.of_below ba (Nat.le_refl _)).trans (m1.mono (Nat.le_refl _) hmh)).trans (m2.mono hm (Nat.le_refl _))
  go_wp2
  go_ret
  exact ⟨rfl, hp2, ho2, M⟩
set_option maxHeartbeats 800000 in
theorem heldGame_any (u v : Value) (g : GameD) (k : Int) (w : World) (hp : RdI w u (marks k g.Weights.length)) (ho : RdII w v (markRows (k + g.Weights.length) g.Wins)) (h1 : g.Weights.length ≤ 1048576) (hn : g.Wins.length + sumLen g.Wins ≤ 4194304) (h0 : 0 ≤ k) (hk : k ≤ 1048576) :
    Calls Try.prog 22 #[.agg #[.int .i64 g.X, .int .i64 g.Y, u, v], .int .i64 k] w fun e w' => e = .returned (.int .i64 (k + g.Weights.length + (sumLen g.Wins : Int))) ∧ Below w.heap.size w w' := by
  go_enter Try.func22, Try.ntmps22
  go_wp2_with fail
  refine (heldIntS_any u _ k _ (hp.kept (Nat.le_refl _) (by repeat' (first | with_reducible exact Below.refl _ _ | with_reducible assumption | with_reducible apply Below.alloc | with_reducible apply Below.setCell | with_reducible apply Below.drew | exact Nat.le_refl _ | omega | (simp only [World.size_alloc, World.size_setCell]; omega)))) (by omega) h0 (by omega)).mono ?_
  rintro e w1 ⟨rfl, rfl⟩
  go_wp2_with fail
  refine (heldIntSS_any v g.Wins _ _ (ho.kept (Nat.le_refl _) (by repeat' (first | with_reducible exact Below.refl _ _ | with_reducible assumption | with_reducible apply Below.alloc | with_reducible apply Below.setCell | with_reducible apply Below.drew | exact Nat.le_refl _ | omega | (simp only [World.size_alloc, World.size_setCell]; omega)))) hn (by omega) (by omega)).mono ?_
  rintro e w1 ⟨rfl, rfl⟩
  go_wp2
  go_ret
  exact ⟨rfl, (by repeat' (first | with_reducible exact Below.refl _ _ | with_reducible assumption | with_reducible apply Below.alloc | with_reducible apply Below.setCell | with_reducible apply Below.drew | exact Nat.le_refl _ | omega | (simp only [World.size_alloc, World.size_setCell]; omega)))⟩
end Go.Proofs.Ytadnjljpceeolaa
