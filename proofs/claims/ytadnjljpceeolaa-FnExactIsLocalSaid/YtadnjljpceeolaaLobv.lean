/- What a law's row hands to its walk: arguments opened, and the row closed from the walk's contract. A game as data. Arguments that are structs, opened for a law's row. Small facts for the laws' walks: cells of a struct behind a call. -/
import Derived.Test.YtadnjljpceeolaaLoaa
import Derived.Test.YtadnjljpceeolaaLoaf
import Derived.Test.YtadnjljpceeolaaRows
import Derived.Deep.Matrix
import Derived.Deep.RegionHeld3
set_option linter.unusedSimpArgs false
set_option linter.unusedVariables false
namespace Go.Proofs.Ytadnjljpceeolaa
open Go.ChangeShapes Go.WideShapes Go.ChangeAt Go.RowKit
open Go.ChangeMaps (open_string shut_string)
open Go.Deep

theorem Try.own : ownKnob Try.prog.godebug = none := by kernel_rfl
theorem Try.laidOut : laidOutB Try.prog = true := by kernel_rfl

theorem Try.cellsInt : Try.prog.cellsOf 3 = 1 := by kernel_rfl
theorem Try.cellsInts : Try.prog.cellsOf 22 = 1 := by kernel_rfl
section
variable {H : Type} {enc : TypeId × Value → H} {P : Program} {w : World}

theorem rdI_of {t e : TypeId} {v : Value} {r : Reach} {b0 : Nat} {d : DataW H} {p : List MemPlace} (ht : P.underlying t = some (.slice e)) (he : P.underlying e = some (.int .i64)) (hc : P.cellsOf e = 1)
    (hval : Value.okWide P w r b0 t v) (h : DataW.Trod enc P w 0 (fun _ => true) true t v d p) : ∃ xs, RdI w v xs := by
  obtain ⟨a0, len, cap, rfl⟩ := okWide_slice ht hval
  obtain ⟨fuel, hf⟩ := h
  rcases open_ints ht he hc hf with ⟨hcs, hx⟩ | ⟨a, len', cap', zs, hcs, _, hl, hm, hz, hx, hcell, hwz⟩
  · simp [Value.cells] at hcs
    obtain ⟨rfl, rfl, rfl⟩ := hcs
    exact ⟨[], none, 0, 0, 0, rfl, Nat.zero_le _, fun h => by simp at h, fun j x hx => by simp at hx⟩
  · simp [Value.cells] at hcs
    obtain ⟨rfl, rfl, rfl⟩ := hcs
    simp only [if_true] at hz
    have hlen : (zs.take len).length = len := by simp; omega
    by_cases hp : 0 < zs.length
    · obtain ⟨b, off, rfl, hcc⟩ := ints_at hcell hp
      refine ⟨zs.take len, some ⟨b, off, none⟩, b, off, cap, by rw [hlen], by rw [hlen]; omega, fun _ => rfl, fun j x hx => ?_⟩
      rw [List.getElem?_take] at hx
      split at hx
      · have hj : j < zs.length := (List.getElem?_eq_some_iff.1 hx).1
        rw [hcc j hj, List.getD_eq_getElem?_getD, hx]; rfl
      · cases hx
    · have h0 : len = 0 := by omega
      subst h0
      exact ⟨[], some a, 0, 0, cap, rfl, Nat.zero_le _, fun h => by simp at h, fun j x hx => by simp at hx⟩

/-- The same of a value that is one cell of a struct. -/
theorem rdI_of_cell {t e : TypeId} {v : Value} {fuel : Nat} {x : DataW H × List MemPlace} (ht : P.underlying t = some (.slice e)) (he : P.underlying e = some (.int .i64)) (hc : P.cellsOf e = 1)
    (h : DataW.trod enc P w 0 (fun _ => true) true fuel t [v] = some x) : ∃ xs, RdI w v xs := by
  rcases open_ints ht he hc h with ⟨hcs, hx⟩ | ⟨a, len, cap, zs, hcs, _, hl, hm, hz, hx, hcell, hwz⟩
  · simp at hcs
    subst hcs
    exact ⟨[], none, 0, 0, 0, rfl, Nat.zero_le _, fun h => by simp at h, fun j x hx => by simp at hx⟩
  · simp at hcs
    subst hcs
    simp only [if_true] at hz
    have hlen : (zs.take len).length = len := by simp; omega
    by_cases hp : 0 < zs.length
    · obtain ⟨b, off, rfl, hcc⟩ := ints_at hcell hp
      refine ⟨zs.take len, some ⟨b, off, none⟩, b, off, cap, by rw [hlen], by rw [hlen]; omega, fun _ => rfl, fun j x hx => ?_⟩
      rw [List.getElem?_take] at hx
      split at hx
      · have hj : j < zs.length := (List.getElem?_eq_some_iff.1 hx).1
        rw [hcc j hj, List.getD_eq_getElem?_getD, hx]; rfl
      · cases hx
    · have h0 : len = 0 := by omega
      subst h0
      exact ⟨[], some a, 0, 0, cap, rfl, Nat.zero_le _, fun h => by simp at h, fun j x hx => by simp at hx⟩

theorem addr_spot {a : Addr} {v : Value} (h : w.cell? (a.add 0) = some v) : ∃ b off, a = ⟨b, off, none⟩ := by
  obtain ⟨b, off, spot⟩ := a
  have hspot : spot = none := by simpa [Addr.add] using World.cell?_spot h
  subst hspot
  exact ⟨b, off, rfl⟩

theorem rdII_of_cell {t e q : TypeId} {v : Value} {fuel : Nat} {x : DataW H × List MemPlace} (ht : P.underlying t = some (.slice e)) (he : P.underlying e = some (.slice q)) (hq : P.underlying q = some (.int .i64))
    (ce : P.cellsOf e = 1) (cq : P.cellsOf q = 1) (h : DataW.trod enc P w 0 (fun _ => true) true fuel t [v] = some x) : ∃ rss, RdII w v rss := by
  rcases open_int_rows ht he hq ce cq h with ⟨hcs, hx⟩ | ⟨a, len, cap, A, L, C, Z, hcs, _, hl, hm, hx, hrow⟩
  · simp at hcs
    subst hcs
    exact ⟨[], none, 0, 0, 0, rfl, Nat.zero_le _, fun h => by simp at h, fun j x hx => by simp at hx⟩
  · simp at hcs
    subst hcs
    have hlen : (List.map (fun r => (Z r).take (L r)) (List.range len)).length = len := by simp
    by_cases hp : 0 < len
    · obtain ⟨b, off, rfl⟩ := addr_spot (hrow 0 (by omega)).1
      refine ⟨List.map (fun r => (Z r).take (L r)) (List.range len), some ⟨b, off, none⟩, b, off, cap, by rw [hlen], by rw [hlen]; omega, fun _ => rfl, fun j rs hj => ?_⟩
      have hjl : j < len := by
        have := (List.getElem?_eq_some_iff.1 hj).1
        rw [hlen] at this; exact this
      simp [hjl] at hj
      subst hj
      obtain ⟨h1, h2, h3, h4, h5, h6, h7⟩ := hrow j (by omega)
      refine ⟨_, by rw [← add_plain]; exact h1, ?_⟩
      have hlen2 : ((Z j).take (L j)).length = L j := by simp; omega
      by_cases hpj : 0 < L j
      · cases hA : A j with
        | none => have := h6 hA; omega
        | some a' =>
          obtain ⟨h8, h9⟩ := h7 a' hA
          obtain ⟨b', off', rfl⟩ := addr_spot (h9 0 (by omega))
          refine ⟨some ⟨b', off', none⟩, b', off', C j, by rw [hlen2], by rw [hlen2]; omega, fun _ => rfl, fun i y hy => ?_⟩
          rw [List.getElem?_take] at hy
          split at hy
          · have hi : i < (Z j).length := (List.getElem?_eq_some_iff.1 hy).1
            have := h9 i (by omega)
            rw [add_plain] at this
            rw [this, List.getD_eq_getElem?_getD, hy]; rfl
          · cases hy
      · have h0 : L j = 0 := by omega
        rw [h0]
        exact ⟨A j, 0, 0, C j, by simp, by simp, fun h => by simp at h, fun i y hy => by simp at hy⟩
    · have h0 : len = 0 := by omega
      subst h0
      exact ⟨[], some a, 0, 0, cap, rfl, Nat.zero_le _, fun h => by simp at h, fun j x hx => by simp at hx⟩

theorem rdII_of {t e q : TypeId} {v : Value} {r : Reach} {b0 : Nat} {d : DataW H} {p : List MemPlace} (ht : P.underlying t = some (.slice e)) (he : P.underlying e = some (.slice q)) (hq : P.underlying q = some (.int .i64))
    (ce : P.cellsOf e = 1) (cq : P.cellsOf q = 1) (hval : Value.okWide P w r b0 t v) (h : DataW.Trod enc P w 0 (fun _ => true) true t v d p) : ∃ rss, RdII w v rss := by
  obtain ⟨a0, len, cap, rfl⟩ := okWide_slice ht hval
  obtain ⟨fuel, hf⟩ := h
  exact rdII_of_cell ht he hq ce cq (by simpa [Value.cells] using hf)
end

end Go.Proofs.Ytadnjljpceeolaa
set_option linter.unusedSimpArgs false
set_option linter.unusedVariables false
namespace Go.Proofs.Ytadnjljpceeolaa
structure GameD where
  X : Int
  Y : Int
  Weights : List Int
  Wins : List (List Int)
  deriving DecidableEq
end Go.Proofs.Ytadnjljpceeolaa
set_option linter.unusedSimpArgs false
set_option linter.unusedVariables false
namespace Go.Proofs.Ytadnjljpceeolaa
open Go.ChangeShapes Go.WideShapes Go.ChangeAt Go.RowKit Go.Joins

theorem Try.cellsBox : Try.prog.cellsOf 41 = 4 := by kernel_rfl
set_option maxRecDepth 8000 in
theorem box_of {H : Type} {enc : TypeId × Value → H} {w : World} {v : Value} {r : Reach} {b0 : Nat} {d : DataW H} {p : List MemPlace}
    (hval : Value.okWide Try.prog w r b0 41 v) (h : DataW.Trod enc Try.prog w 0 (fun _ => true) true 41 v d p) :
    ∃ (b : BoxD) (vr : Value), v = .agg #[.int .i64 b.X, .int .i64 b.Y, .int .i64 b.Whole, vr] ∧ RdII w vr b.Rows ∧
      ((Lit.int .i64 b.X).wf = true ∧ (Lit.int .i64 b.Y).wf = true ∧ (Lit.int .i64 b.Whole).wf = true) := by
  obtain ⟨c0, c1, c2, c3, y0, y1, y2, y3, m, rfl, rfl, rfl, hy0, hy1, hy2, hy3⟩ := open_agg4 Try.underlying41 (by kernel_rfl) Try.cellsBox hval h
  obtain ⟨x, e0, _, wx⟩ := DataW.trod_int Try.underlying3 hy0
  obtain ⟨y, e1, _, wy⟩ := DataW.trod_int Try.underlying3 hy1
  obtain ⟨z, e2, _, wz⟩ := DataW.trod_int Try.underlying3 hy2
  simp at e0 e1 e2
  subst e0 e1 e2
  obtain ⟨rss, hr⟩ := rdII_of_cell Try.underlying23 Try.underlying22 Try.underlying3 Try.cellsInts Try.cellsInt hy3
  exact ⟨⟨x, y, z, rss⟩, c3, rfl, hr, wx, wy, wz⟩
theorem Try.cellsGame : Try.prog.cellsOf 25 = 4 := by kernel_rfl
set_option maxRecDepth 8000 in
theorem game_of {H : Type} {enc : TypeId × Value → H} {w : World} {v : Value} {r : Reach} {b0 : Nat} {d : DataW H} {p : List MemPlace}
    (hval : Value.okWide Try.prog w r b0 25 v) (h : DataW.Trod enc Try.prog w 0 (fun _ => true) true 25 v d p) :
    ∃ (g : GameD) (vw vr : Value), v = .agg #[.int .i64 g.X, .int .i64 g.Y, vw, vr] ∧ RdI w vw g.Weights ∧ RdII w vr g.Wins ∧
      ((Lit.int .i64 g.X).wf = true ∧ (Lit.int .i64 g.Y).wf = true) := by
  obtain ⟨c0, c1, c2, c3, y0, y1, y2, y3, m, rfl, rfl, rfl, hy0, hy1, hy2, hy3⟩ := open_agg4 Try.underlying25 (by kernel_rfl) Try.cellsGame hval h
  obtain ⟨x, e0, _, wx⟩ := DataW.trod_int Try.underlying3 hy0
  obtain ⟨y, e1, _, wy⟩ := DataW.trod_int Try.underlying3 hy1
  simp at e0 e1
  subst e0 e1
  obtain ⟨xs, hw⟩ := rdI_of_cell Try.underlying22 Try.underlying3 Try.cellsInt hy2
  obtain ⟨rss, hr⟩ := rdII_of_cell Try.underlying23 Try.underlying22 Try.underlying3 Try.cellsInts Try.cellsInt hy3
  exact ⟨⟨x, y, xs, rss⟩, c2, c3, rfl, hw, hr, wx, wy⟩
theorem Try.cellsArr2 : Try.prog.cellsOf 67 = 2 := by kernel_rfl
set_option maxRecDepth 8000 in
theorem arr2_of {H : Type} {enc : TypeId × Value → H} {w : World} {v : Value} {r : Reach} {b0 : Nat} {d : DataW H} {p : List MemPlace}
    (hval : Value.okWide Try.prog w r b0 67 v) (h : DataW.Trod enc Try.prog w 0 (fun _ => true) true 67 v d p) :
    ∃ x y : Int, v = .agg #[.int .i64 x, .int .i64 y] ∧ (Lit.int .i64 x).wf = true ∧ (Lit.int .i64 y).wf = true := by
  have hu := Try.underlying67
  simp only [Value.okWide, hu] at hval
  obtain ⟨cs, rfl, h2, _⟩ := hval
  rw [Try.cellsArr2] at h2
  obtain ⟨c0, c1, rfl⟩ : ∃ c0 c1, cs = #[c0, c1] := by
    obtain ⟨l⟩ := cs
    match l, h2 with
    | [c0, c1], _ => exact ⟨c0, c1, rfl⟩
  obtain ⟨fuel, hf⟩ := h
  obtain ⟨xs, m, _, _, _, hl, hi⟩ := DataW.trod_array hu hf
  have h0 := hi 0 (by omega)
  have h1 := hi 1 (by omega)
  rw [List.getElem?_eq_getElem (by omega)] at h0 h1
  simp only [Value.cells, Try.cellsInt] at h0 h1
  obtain ⟨x, e0, _, wx⟩ := DataW.trod_int Try.underlying3 h0
  obtain ⟨y, e1, _, wy⟩ := DataW.trod_int Try.underlying3 h1
  simp at e0 e1
  exact ⟨x, y, by rw [e0, e1], wx, wy⟩
end Go.Proofs.Ytadnjljpceeolaa
set_option linter.unusedSimpArgs false
set_option linter.unusedVariables false
namespace Go.Proofs.Ytadnjljpceeolaa
open Go.RowKit

theorem cells4_kept {w w' : World} {g B : Nat} {x0 x1 x2 x3 : Value} (hb : Below B w w') (hB : g < B) (h0 : w.cell? ⟨g, 0, none⟩ = some x0) (h1 : w.cell? ⟨g, 1, none⟩ = some x1) (h2 : w.cell? ⟨g, 2, none⟩ = some x2) (h3 : w.cell? ⟨g, 3, none⟩ = some x3) :
    w'.cell? ⟨g, 0, none⟩ = some x0 ∧ w'.cell? ⟨g, 1, none⟩ = some x1 ∧ w'.cell? ⟨g, 2, none⟩ = some x2 ∧ w'.cell? ⟨g, 3, none⟩ = some x3 := by
  obtain ⟨hc, _⟩ := bcell hb
  exact ⟨by rw [hc _ _ hB]; exact h0, by rw [hc _ _ hB]; exact h1, by rw [hc _ _ hB]; exact h2, by rw [hc _ _ hB]; exact h3⟩
theorem cells2_kept {w w' : World} {g B : Nat} {x0 x1 : Value} (hb : Below B w w') (hB : g < B) (h0 : w.cell? ⟨g, 0, none⟩ = some x0) (h1 : w.cell? ⟨g, 1, none⟩ = some x1) :
    w'.cell? ⟨g, 0, none⟩ = some x0 ∧ w'.cell? ⟨g, 1, none⟩ = some x1 := by
  obtain ⟨hc, _⟩ := bcell hb
  exact ⟨by rw [hc _ _ hB]; exact h0, by rw [hc _ _ hB]; exact h1⟩
theorem mid_cell {w w' : World} {lo hi g j : Nat} (hm : Mid lo hi w w') (hg : g < w.heap.size) (hx : g < lo ∨ hi ≤ g) : w'.cell? ⟨g, j, none⟩ = w.cell? ⟨g, j, none⟩ :=
  World.cell?_of_block (w := w) (hm.block g hg hx)
theorem cells4_mid {w w' : World} {g lo hi : Nat} {x0 x1 x2 x3 : Value} (hm : Mid lo hi w w') (hg : g < w.heap.size) (hx : g < lo ∨ hi ≤ g) (h0 : w.cell? ⟨g, 0, none⟩ = some x0) (h1 : w.cell? ⟨g, 1, none⟩ = some x1) (h2 : w.cell? ⟨g, 2, none⟩ = some x2) (h3 : w.cell? ⟨g, 3, none⟩ = some x3) :
    w'.cell? ⟨g, 0, none⟩ = some x0 ∧ w'.cell? ⟨g, 1, none⟩ = some x1 ∧ w'.cell? ⟨g, 2, none⟩ = some x2 ∧ w'.cell? ⟨g, 3, none⟩ = some x3 :=
  ⟨by rw [mid_cell hm hg hx]; exact h0, by rw [mid_cell hm hg hx]; exact h1, by rw [mid_cell hm hg hx]; exact h2, by rw [mid_cell hm hg hx]; exact h3⟩
theorem cells2_mid {w w' : World} {g lo hi : Nat} {x0 x1 : Value} (hm : Mid lo hi w w') (hg : g < w.heap.size) (hx : g < lo ∨ hi ≤ g) (h0 : w.cell? ⟨g, 0, none⟩ = some x0) (h1 : w.cell? ⟨g, 1, none⟩ = some x1) :
    w'.cell? ⟨g, 0, none⟩ = some x0 ∧ w'.cell? ⟨g, 1, none⟩ = some x1 :=
  ⟨by rw [mid_cell hm hg hx]; exact h0, by rw [mid_cell hm hg hx]; exact h1⟩

end Go.Proofs.Ytadnjljpceeolaa
