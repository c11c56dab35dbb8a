/- Arguments that are structs, opened for a law's row. -/
import Derived.Test.YtenlfegldjfpjaaDoorRow
import Derived.Test.YtenlfegldjfpjaaDoorGameD
set_option linter.unusedSimpArgs false
set_option linter.unusedVariables false
namespace Go.Proofs.YtenlfegldjfpjaaDoor
open Go.ChangeShapes Go.WideShapes Go.ChangeAt Go.RowKit Go.Joins

theorem Tryd.cellsBox : Tryd.prog.cellsOf 52 = 4 := by kernel_rfl
set_option maxRecDepth 8000 in
theorem box_of {H : Type} {enc : TypeId × Value → H} {w : World} {v : Value} {r : Reach} {b0 : Nat} {d : DataW H} {p : List MemPlace}
    (hval : Value.okWide Tryd.prog w r b0 52 v) (h : DataW.Trod enc Tryd.prog w 0 (fun _ => true) true 52 v d p) :
    ∃ (b : BoxD) (vr : Value), v = .agg #[.int .i64 b.X, .int .i64 b.Y, .int .i64 b.Whole, vr] ∧ RdII w vr b.Rows ∧
      ((Lit.int .i64 b.X).wf = true ∧ (Lit.int .i64 b.Y).wf = true ∧ (Lit.int .i64 b.Whole).wf = true) := by
  obtain ⟨c0, c1, c2, c3, y0, y1, y2, y3, m, rfl, rfl, rfl, hy0, hy1, hy2, hy3⟩ := open_agg4 Tryd.underlying52 (by kernel_rfl) Tryd.cellsBox hval h
  obtain ⟨x, e0, _, wx⟩ := DataW.trod_int Tryd.underlying3 hy0
  obtain ⟨y, e1, _, wy⟩ := DataW.trod_int Tryd.underlying3 hy1
  obtain ⟨z, e2, _, wz⟩ := DataW.trod_int Tryd.underlying3 hy2
  simp at e0 e1 e2
  subst e0 e1 e2
  obtain ⟨rss, hr⟩ := rdII_of_cell Tryd.underlying32 Tryd.underlying63 Tryd.underlying3 Tryd.cellsInts Tryd.cellsInt hy3
  exact ⟨⟨x, y, z, rss⟩, c3, rfl, hr, wx, wy, wz⟩
end Go.Proofs.YtenlfegldjfpjaaDoor
