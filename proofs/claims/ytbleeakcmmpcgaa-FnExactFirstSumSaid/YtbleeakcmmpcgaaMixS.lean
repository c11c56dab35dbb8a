/- A box variable whose rows' numbers are raised in place. -/
import Derived.Test.YtbleeakcmmpcgaaBoxOut
import Derived.Test.YtbleeakcmmpcgaaPlainM
import Derived.Test.YtbleeakcmmpcgaaCut
set_option linter.unusedSimpArgs false
set_option linter.unusedVariables false
namespace Go.Proofs.Ytbleeakcmmpcgaa
open Go.RowKit

theorem mid_set {lo hi : Nat} {w : World} {p : Addr} (h1 : lo ≤ p.block) (h2 : p.block < hi) (u : Value) : Mid lo hi w (w.setCell p u) :=
  ⟨rfl, rfl, rfl, by simp [World.setCell], fun k _ hx => Below.heap_setCell _ _ _ _ (by omega)⟩
theorem mid_drew {lo hi : Nat} {w w' : World} (h : Mid lo hi w w') : Mid lo hi w w'.drew := ⟨h.os, h.tape, h.output, h.size, h.block⟩

/-- The box variable in block gb, its rows below P0; since world wp nothing else was turned. -/
structure MixS (lo gb P0 : Nat) (wp wz : World) (x y whole : Int) (R : List (List Int)) (a : Option Addr) (n c : Nat) (vs : List Value) : Prop where
  g1 : lo ≤ gb
  g2 : gb < P0
  g3 : P0 ≤ wp.heap.size
  len : R.length = n
  box : wz.heap[gb]? = some (.cells #[.int .i64 x, .int .i64 y, .int .i64 whole, .slice a n c] 33 (0, 0))
  rows : OwnII 31 3 lo P0 wz (.slice a n c) R vs
  mid : Mid lo P0 wp wz
section
variable {lo gb P0 : Nat} {wp wz : World} {x y whole : Int} {R : List (List Int)} {a : Option Addr} {n c : Nat} {vs : List Value}
theorem MixS.cells (h : MixS lo gb P0 wp wz x y whole R a n c vs) :
    (wz.cell? ⟨gb, 0, none⟩ = some (.int .i64 x) ∧ wz.cell? ⟨gb, 1, none⟩ = some (.int .i64 y) ∧ wz.cell? ⟨gb, 2, none⟩ = some (.int .i64 whole) ∧ wz.cell? ⟨gb, 3, none⟩ = some (.slice a n c)) ∧ (∀ o, wz.frozen? ⟨gb, o, none⟩ = false) := by
  refine ⟨⟨?_, ?_, ?_, ?_⟩, fun o => ?_⟩ <;> simp [World.cell?, World.frozen?, h.box]
theorem MixS.drew (h : MixS lo gb P0 wp wz x y whole R a n c vs) : MixS lo gb P0 wp wz.drew x y whole R a n c vs :=
  ⟨h.g1, h.g2, h.g3, h.len, h.box, h.rows.sameHeap rfl, mid_drew h.mid⟩
theorem MixS.sameHeap {wz' : World} (h : MixS lo gb P0 wp wz x y whole R a n c vs) (d : Drw wz wz') : MixS lo gb P0 wp wz' x y whole R a n c vs :=
  ⟨h.g1, h.g2, h.g3, h.len, by rw [d.heap]; exact h.box, h.rows.sameHeap d.heap, h.mid.trans (Mid.of_below (d.below _) (Nat.le_refl _))⟩
theorem MixS.addWhole (h : MixS lo gb P0 wp wz x y whole R a n c vs) (u : Int) : MixS lo gb P0 wp (wz.setCell ⟨gb, 2, none⟩ (.int .i64 u)) x y u R a n c vs := by
  refine ⟨h.g1, h.g2, h.g3, h.len, ?_, ?_, h.mid.trans (mid_set h.g1 h.g2 _)⟩
  · simp [World.setCell, Array.getElem?_modify, h.box]
  · exact h.rows.tag h.box (by decide) (by decide) (fun k hk => Below.heap_setCell _ _ _ _ (by simpa using fun e => hk e))
theorem MixS.row (h : MixS lo gb P0 wp wz x y whole R a n c vs) {k : Nat} {rs : List Int} (hk : R[k]? = some rs) (h4 : rs.length = 4) :
    ∃ tb rb rc : Nat, a = some ⟨tb, 0, none⟩ ∧ wz.cell? ⟨tb, k, none⟩ = some (.slice (some ⟨rb, 0, none⟩) 4 rc) ∧ (∀ (q : Nat) (z : Int), rs[q]? = some z → wz.cell? ⟨rb, q, none⟩ = some (.int .i64 z)) ∧ (∀ q, wz.frozen? ⟨rb, q, none⟩ = false) ∧
      ∀ (q : Nat) (u : Int), q < 4 → MixS lo gb P0 wp (wz.setCell ⟨rb, q, none⟩ (.int .i64 u)) x y whole (R.set k (rs.set q u)) a n c vs := by
  have hkl := (List.getElem?_eq_some_iff.1 hk).1
  have hvl : k < vs.length := by rw [h.rows.len]; exact hkl
  obtain ⟨ta, tb, tc, htv, _, hta, htc, _⟩ := h.rows.top.shape
  obtain ⟨rfl, _⟩ := hta (by omega)
  obtain ⟨rfl, _, _⟩ := Value.slice.inj htv
  have hv := List.getElem?_eq_getElem hvl
  have hrow := h.rows.row k _ rs hv hk
  have htk := htc k _ hv
  obtain ⟨ra, rb, rc, hrv, _, hra, hrc, hrf⟩ := hrow.shape
  rw [ints_length, h4] at hrv hra hrf
  obtain ⟨rfl, hlb, hub, hwb⟩ := hra (by decide)
  rw [hrv] at htk hv hrow
  refine ⟨tb, rb, rc, rfl, htk, fun q z hz => hrc q _ (by simp [ints, hz]), hrf (by decide), fun q u hq => ?_⟩
  have hset := hrow.set (g := rb) (j := q) rfl (by rw [ints_length, h4]; exact hq) (.int .i64 u)
  have hints : (ints rs).set q (.int .i64 u) = ints (rs.set q u) := by simp [ints, List.map_set]
  rw [hints] at hset
  have hne : gb ≠ rb := fun e => hrow.ne_tag h.box (by decide) (by rw [e]; rfl)
  refine ⟨h.g1, h.g2, h.g3, by rw [List.length_set]; exact h.len, ?_, h.rows.rowChanged hv (grown_setCell wz rb q _) hset, h.mid.trans (mid_set hlb hub _)⟩
  rw [Below.heap_setCell _ _ _ _ (by simpa using fun e => hne e)]
  exact h.box
end
end Go.Proofs.Ytbleeakcmmpcgaa
