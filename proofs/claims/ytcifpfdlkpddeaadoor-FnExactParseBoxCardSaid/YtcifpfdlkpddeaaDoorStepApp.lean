/- append of one element at a step of a region that draws its order. -/
import Derived.Test.YtcifpfdlkpddeaaDoorApp
import Derived.Deep.RegionHeld3
import Derived.Deep.AppendLies
set_option linter.unusedSimpArgs false
set_option linter.unusedVariables false
namespace Go.Proofs.YtcifpfdlkpddeaaDoor
open Go.RowKit

theorem step_append1 {P : Program} {ops : Array Oper} {o : Oper} {a : Act} {K : Act → World → Prop} {Q : Exit → Act → World → Prop} {E : Prop} (hgd : o.guard = none) (s x : Operand) (t e : TypeId)
    (ho : o.op = .call { callee := .builtin .append, args := #[s, x], argTypes := #[t, t] })
    {z : Value} {bytes : Nat} (ht : P.underlying t = some (.slice e)) (hinfo : (P.info? e).map (fun i => (i.zero, i.size, i.bytes)) = some (some z, 1, bytes)) (hz : z.cells.size = 1)
    {lo hi m : Nat} {V : World} {v u : Value} {vs : List Value} (hown : OwnV e lo hi V v vs) (hs : a.eval s = v)
    (hx : a.eval x = .slice (some ⟨m, 0, none⟩) 1 1) (hm : V.cell? ⟨m, 0, none⟩ = some u) (hu : u.oneCell' = true) (hlen : vs.length ≤ 4194304) (hby : bytes ≤ 1024) (hlo : lo ≤ V.heap.size)
    (h : ∀ (a' : Option Addr) (c : Nat) (w' : World), OwnV e lo w'.heap.size w' (.slice a' (vs.length + 1) c) (vs ++ [u]) → V.grownBy w' v.ownBlock → K (a.put o.dst (.slice a' (vs.length + 1) c)) w') :
    if Region.wanted o (yielded ops a.tmps) = true then Oper.wp P o a V K Q else E := by
  have hw : Region.wanted o (yielded ops a.tmps) = true := by simp [Region.wanted, hgd]
  rw [if_pos hw]
  obtain ⟨i, hi0, hi1, hi2, hi3⟩ := info_parts hinfo
  refine wp_append_own V s x t ho lo e i z 1 bytes ht hi0 hi1 hi2 hi3 hz (by omega) v vs.length vs hs hown.1 ⟨m, 0, none⟩ 1 1 [u] hx rfl ?_ ?_ ?_ ?_ hlo ?_
  · intro j u' hj
    match j, hj with
    | 0, hj => simp at hj; subst hj; simpa [Addr.add] using hm
  · intro u' hu'; simp at hu'; subst hu'; exact hu
  · unfold maxLen; omega
  · have : (vs.length + 1) * bytes ≤ 4194305 * 1024 := Nat.mul_le_mul (by omega) hby
    omega
  · intro v' w' hown' hg _
    obtain ⟨a', c, rfl⟩ := ownsRow_shape hown'
    have hl : (vs ++ [u]).length = vs.length + 1 := by simp
    exact h a' c w' ⟨by rw [hl]; exact hown', fun g hg' => (hown'.lt g hg').2⟩ hg

/-- At an append alone: a guard ahead of an arm. -/
def isAppendOp : Op → Bool
  | .call c => match c.callee with
    | .builtin .append => true
    | _ => false
  | _ => false
theorem step_is_append {P : Program} {ops : Array Oper} {o : Oper} {a : Act} {V : World} {K : Act → World → Prop} {Q : Exit → Act → World → Prop} {E : Prop}
    (_ : isAppendOp o.op = true) (h : if Region.wanted o (yielded ops a.tmps) = true then Oper.wp P o a V K Q else E) :
    if Region.wanted o (yielded ops a.tmps) = true then Oper.wp P o a V K Q else E := h

end Go.Proofs.YtcifpfdlkpddeaaDoor
