/- A law's bytes, read out of the row's data. What a listed row hands to its walk: the table of powers of ten. What a listed row hands to its walk: the library's variable for texts that are no numbers. -/
import Derived.Test.YtcifpfdlkpddeaaGreatDoorQxbc
import Derived.Test.YtcifpfdlkpddeaaGreatDoorQxaj
import Derived.Test.YtcifpfdlkpddeaaGreatDoorQxam
import Derived.Test.YtcifpfdlkpddeaaGreatDoorQxap
import Derived.Test.YtcifpfdlkpddeaaGreatDoorTie
import Derived.Test.YtcifpfdlkpddeaaGreatDoorCards
import Derived.ProofKit
import Derived.LaidMore
import Derived.OpenShut
import Derived.MakeChecks
import Derived.Stop.Joined
import Derived.Stop.LaidErr
import Derived.SevenTiedAt
import Derived.Stop.ErrReads
set_option linter.unusedSimpArgs false
set_option linter.unusedVariables false
namespace Go.Proofs.YtcifpfdlkpddeaaGreatDoor
open Go.ChangeShapes Go.WideShapes Go.ChangeAt Go.RowKit

theorem Tryz.cellsByte : Tryz.prog.cellsOf 5 = 1 := by kernel_rfl
theorem rdB_of {H : Type} {enc : TypeId × Value → H} {P : Program} {w : World} {t e : TypeId} {v : Value} {r : Reach} {b0 : Nat} {d : DataW H} {p : List MemPlace} (ht : P.underlying t = some (.slice e)) (he : P.underlying e = some (.int .u8)) (hc : P.cellsOf e = 1)
    (hval : Value.okWide P w r b0 t v) (h : DataW.Trod enc P w 0 (fun _ => true) true t v d p) : ∃ (a : Option Addr) (n cap : Nat), v = .slice a n cap ∧ n ≤ maxLen ∧ (n ≤ 65536 → RdB w (.slice a n cap) n) := by
  obtain ⟨a0, len, cap, rfl⟩ := okWide_slice ht hval
  obtain ⟨fuel, hf⟩ := h
  rcases open_ints ht he hc hf with ⟨hcs, hx⟩ | ⟨a, len', cap', zs, hcs, _, hl, hm, hz, hx, hcell, hwz⟩
  · simp [Value.cells] at hcs
    obtain ⟨rfl, rfl, rfl⟩ := hcs
    exact ⟨none, 0, 0, rfl, Nat.zero_le _, fun _ => ⟨none, 0, 0, 0, rfl, Nat.zero_le _, fun h => by omega, fun j hj => by omega⟩⟩
  · simp [Value.cells] at hcs
    obtain ⟨rfl, rfl, rfl⟩ := hcs
    simp only [if_true] at hz
    refine ⟨some a, len, cap, rfl, Nat.le_trans hl hm, fun hn => ?_⟩
    by_cases hp : 0 < zs.length
    · obtain ⟨b, off, rfl, hcc⟩ := ints_at hcell hp
      refine ⟨_, b, off, cap, rfl, hn, fun _ => rfl, fun j hj => ?_⟩
      have hj' : j < zs.length := by omega
      have hmem := hwz zs[j] (List.getElem_mem hj')
      have hb : 0 ≤ zs[j] ∧ zs[j] ≤ 255 := by simpa [Lit.wf, IntKind.min, IntKind.max, IntKind.signed, IntKind.bits] using hmem
      refine ⟨zs[j].toNat, by omega, ?_⟩
      rw [hcc j hj', List.getD_eq_getElem?_getD, List.getElem?_eq_getElem hj']
      simp only [Option.getD_some, Option.some.injEq, Value.int.injEq, true_and]
      omega
    · exact ⟨_, 0, 0, cap, rfl, hn, fun h => by omega, fun j hj => by omega⟩
end Go.Proofs.YtcifpfdlkpddeaaGreatDoor
set_option linter.unusedSimpArgs false
set_option linter.unusedVariables false
namespace Go.Proofs.YtcifpfdlkpddeaaGreatDoor
open Go.ChangeShapes Go.WideShapes Go.ChangeAt Go.RowKit

theorem tab_of_laid {W : World} {rest : List (String × DataW Unit)} (h : laidMet Tryz.prog (("internal/strconv.uint64pow10", Rows.laid_internal_strconv_uint64pow10) :: rest) W) : Tab W := by
  have e : (Rows.laid_internal_strconv_uint64pow10 : DataW Unit) = Lib.tabData .u64 Lib.pow10Tab := by kernel_rfl
  rw [e] at h
  exact Lib.tabIs_of_head (t := 145) (e := 73) (n := 20) Tryz.gPow (by kernel_rfl) Tryz.underlying145 Tryz.underlying73 (by kernel_rfl) (by kernel_rfl) h
theorem tab_of_laid3 {W : World} {x y : String × DataW Unit} {rest : List (String × DataW Unit)} (h : laidMetH Tryz.prog (x :: y :: ("internal/strconv.uint64pow10", Rows.laid_internal_strconv_uint64pow10) :: rest) W)
    (hp : ((x :: y :: ("internal/strconv.uint64pow10", Rows.laid_internal_strconv_uint64pow10) :: rest).all fun x => x.2.handleName?.isNone) = true := by kernel_rfl) : Tab W := by
  rw [MakeChecks.laidMetH_plain _ _ _ hp] at h
  exact tab_of_laid h.tail.tail
end Go.Proofs.YtcifpfdlkpddeaaGreatDoor
set_option linter.unusedSimpArgs false
set_option linter.unusedVariables false
namespace Go.Proofs.YtcifpfdlkpddeaaGreatDoor
open Go.ChangeShapes Go.WideShapes Go.ChangeAt Go.RowKit

theorem Tryz.starErr : "*" ++ "errors.errorString" = "*errors.errorString" := by decide
theorem Tryz.rowErr (u : TypeId) (h : Tryz.prog.typeName? 3 u = some "*errors.errorString") : u = 157 :=
  typeName_ptr_named (nm := "errors.errorString") (by rw [Tryz.starErr]; kernel_rfl) (by kernel_rfl) (by decide) u (by rw [Tryz.starErr]; exact h)
theorem errS_of_laid {W : World} {rest : List (String × DataW Unit)} (h : laidMet Tryz.prog (("strconv.ErrSyntax", Rows.laid_strconv_ErrSyntax) :: rest) W) : ErrS W := by
  obtain ⟨a, s, hv, _⟩ := laid_sentinel (g := 1) (ti := 100) (tp := 157) (te := 159) (ts := 9) h Tryz.gErrS (by kernel_rfl) Tryz.underlying100 Tryz.rowErr
    Tryz.underlying157 Tryz.underlying159 rfl rfl Tryz.underlying9 (by kernel_rfl) (by kernel_rfl)
  exact ⟨_, _, hv⟩
theorem tabErr_of_laid5 {W : World} {x y z : String × DataW Unit} {rest : List (String × DataW Unit)} (h : laidMetH Tryz.prog (x :: y :: ("internal/strconv.uint64pow10", Rows.laid_internal_strconv_uint64pow10) :: z :: ("strconv.ErrSyntax", Rows.laid_strconv_ErrSyntax) :: rest) W)
    (hp : ((x :: y :: ("internal/strconv.uint64pow10", Rows.laid_internal_strconv_uint64pow10) :: z :: ("strconv.ErrSyntax", Rows.laid_strconv_ErrSyntax) :: rest).all fun x => x.2.handleName?.isNone) = true := by kernel_rfl) : Tab W ∧ ErrS W := by
  rw [MakeChecks.laidMetH_plain _ _ _ hp] at h
  exact ⟨tab_of_laid h.tail.tail, errS_of_laid h.tail.tail.tail.tail⟩
theorem tabErr_of_laid7 {W : World} {x y z r : String × DataW Unit} {rest : List (String × DataW Unit)} (h : laidMetH Tryz.prog (x :: y :: ("internal/strconv.uint64pow10", Rows.laid_internal_strconv_uint64pow10) :: z :: r :: ("strconv.ErrSyntax", Rows.laid_strconv_ErrSyntax) :: rest) W)
    (hp : ((x :: y :: ("internal/strconv.uint64pow10", Rows.laid_internal_strconv_uint64pow10) :: z :: r :: ("strconv.ErrSyntax", Rows.laid_strconv_ErrSyntax) :: rest).all fun x => x.2.handleName?.isNone) = true := by kernel_rfl) : Tab W ∧ ErrS W := by
  rw [MakeChecks.laidMetH_plain _ _ _ hp] at h
  exact ⟨tab_of_laid h.tail.tail, errS_of_laid h.tail.tail.tail.tail.tail⟩
end Go.Proofs.YtcifpfdlkpddeaaGreatDoor
