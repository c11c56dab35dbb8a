/- Arguments that are structs, opened for a law's row. -/
import Derived.Test.YtadnjljpceeolaaRow
import Derived.Test.YtadnjljpceeolaaGameD
set_option linter.unusedSimpArgs false
set_option linter.unusedVariables false
namespace Go.Proofs.Ytadnjljpceeolaa
open Go.ChangeShapes Go.WideShapes Go.ChangeAt Go.RowKit Go.Joins

theorem Try.cellsBox : Try.prog.cellsOf 41 = 4 := by kernel_rfl
set_option maxRecDepth 8000 in
theorem box_of {H : Type} {enc : TypeId × Value → H} {w : World} {v : Value} {r : Reach} {b0 : Nat} {d : DataW H} {p : List MemPlace}
    (hval : Value.okWide Try.prog w r b0 41 v) (h : DataW.Trod enc Try.prog w 0 (fun _ => true) true 41 v d p) :
    ∃ (b : BoxD) (vr : Value), v = .agg #[.int .i64 b.X, .int .i64 b.Y, .int .i64 b.Whole, vr] ∧ RdII w vr b.Rows ∧
      ((Lit.int .i64 b.X).wf = true ∧ (Lit.int .i64 b.Y).wf = true ∧ (Lit.int .i64 b.Whole).wf = true) := by
  obtain ⟨c0, c1, c2, c3, y0, y1, y2, y3, m, rfl, rfl, rfl, hy0, hy1, hy2, hy3⟩ := open_agg4 Try.underlying41 (by kernel_rfl) Try.cellsBox hval h
  obtain ⟨x, e0, _, wx⟩ := DataW.trod_int Try.underlying3 hy0
  obtain ⟨y, e1, _, wy⟩ := DataW.trod_int Try.underlying3 hy1
  obtain ⟨z, e2, _, wz⟩ := DataW.trod_int Try.underlying3 hy2
  simp at e0 e1 e2
  subst e0 e1 e2
  obtain ⟨rss, hr⟩ := rdII_of_cell Try.underlying23 Try.underlying22 Try.underlying3 Try.cellsInts Try.cellsInt hy3
  exact ⟨⟨x, y, z, rss⟩, c3, rfl, hr, wx, wy, wz⟩
theorem Try.cellsGame : Try.prog.cellsOf 25 = 4 := by kernel_rfl
set_option maxRecDepth 8000 in
theorem game_of {H : Type} {enc : TypeId × Value → H} {w : World} {v : Value} {r : Reach} {b0 : Nat} {d : DataW H} {p : List MemPlace}
    (hval : Value.okWide Try.prog w r b0 25 v) (h : DataW.Trod enc Try.prog w 0 (fun _ => true) true 25 v d p) :
    ∃ (g : GameD) (vw vr : Value), v = .agg #[.int .i64 g.X, .int .i64 g.Y, vw, vr] ∧ RdI w vw g.Weights ∧ RdII w vr g.Wins ∧
      ((Lit.int .i64 g.X).wf = true ∧ (Lit.int .i64 g.Y).wf = true) := by
  obtain ⟨c0, c1, c2, c3, y0, y1, y2, y3, m, rfl, rfl, rfl, hy0, hy1, hy2, hy3⟩ := open_agg4 Try.underlying25 (by kernel_rfl) Try.cellsGame hval h
  obtain ⟨x, e0, _, wx⟩ := DataW.trod_int Try.underlying3 hy0
  obtain ⟨y, e1, _, wy⟩ := DataW.trod_int Try.underlying3 hy1
  simp at e0 e1
  subst e0 e1
  obtain ⟨xs, hw⟩ := rdI_of_cell Try.underlying22 Try.underlying3 Try.cellsInt hy2
  obtain ⟨rss, hr⟩ := rdII_of_cell Try.underlying23 Try.underlying22 Try.underlying3 Try.cellsInts Try.cellsInt hy3
  exact ⟨⟨x, y, xs, rss⟩, c2, c3, rfl, hw, hr, wx, wy⟩
theorem Try.cellsArr2 : Try.prog.cellsOf 67 = 2 := by kernel_rfl
set_option maxRecDepth 8000 in
theorem arr2_of {H : Type} {enc : TypeId × Value → H} {w : World} {v : Value} {r : Reach} {b0 : Nat} {d : DataW H} {p : List MemPlace}
    (hval : Value.okWide Try.prog w r b0 67 v) (h : DataW.Trod enc Try.prog w 0 (fun _ => true) true 67 v d p) :
    ∃ x y : Int, v = .agg #[.int .i64 x, .int .i64 y] ∧ (Lit.int .i64 x).wf = true ∧ (Lit.int .i64 y).wf = true := by
  have hu := Try.underlying67
  simp only [Value.okWide, hu] at hval
  obtain ⟨cs, rfl, h2, _⟩ := hval
  rw [Try.cellsArr2] at h2
  obtain ⟨c0, c1, rfl⟩ : ∃ c0 c1, cs = #[c0, c1] := by
    obtain ⟨l⟩ := cs
    match l, h2 with
    | [c0, c1], _ => exact ⟨c0, c1, rfl⟩
  obtain ⟨fuel, hf⟩ := h
  obtain ⟨xs, m, _, _, _, hl, hi⟩ := DataW.trod_array hu hf
  have h0 := hi 0 (by omega)
  have h1 := hi 1 (by omega)
  rw [List.getElem?_eq_getElem (by omega)] at h0 h1
  simp only [Value.cells, Try.cellsInt] at h0 h1
  obtain ⟨x, e0, _, wx⟩ := DataW.trod_int Try.underlying3 h0
  obtain ⟨y, e1, _, wy⟩ := DataW.trod_int Try.underlying3 h1
  simp at e0 e1
  exact ⟨x, y, by rw [e0, e1], wx, wy⟩
end Go.Proofs.Ytadnjljpceeolaa
