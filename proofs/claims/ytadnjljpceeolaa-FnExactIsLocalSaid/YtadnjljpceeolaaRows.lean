/-
  No cell of these rows narrows 'for every input' (looked for: loops, veiled, ifaces, maps, wideKeys, modest, calm, conditions, laid).
  DERIVED. THE GIVEN ROWS OF THIS SEAT. 8 by the template 'for every input the law returns true; each argument reads behind the call as it read before'; 0 by the template 'total and deterministic' (their statements: YtadnjljpceeolaaTotals.lean).
  GIVEN WITH THE SEED: the statements are not yours to turn. If you find one false, say at which input.
  Laid BY PROGRAM, IN A SANDBOX (cutbox-rows.mjs): the forced cells as the released guide's own fill.sh prints them over the translation c51864e37d44606c… (all of the seat's roots in one cut). By AI agents, Wed Nov 11 2026. No macro, syntax, notation, axiom, sorry.
-/
import Derived.Test.YtadnjljpceeolaaChecked
import GoSem.Claim
import GoSem.ClaimJoined
import GoSem.ClaimMapViews
import Derived.JoinedTies
import Derived.KernelRfl
namespace Go.Proofs.Ytadnjljpceeolaa
/- THE CELL 'sum', in the pinned program and in every row, IS THE sha256 OF THE DUMP (.gsa) THAT YtadnjljpceeolaaProg.lean LOADS. Nothing in Lean hashes anything: it is a label: what it is worth is what the hold of that sum in a sandbox is worth. -/
noncomputable def Try.pinned : Pinned := { name := "ytadnjljpceeolaa", sum := "c51864e37d44606c3f2d1e95326ca927de23f5c6b096cb77fbaad2d7edc6c7f4", checked := Try.checked }
namespace Rows
def none {H : Type} : Left H := { results := [], args := [] }

/-- 'laws.FnExactTotalWeight': WHATEVER THE INPUT: true; the input reads as it did. -/
def fnExactTotalWeightSpec : ChangeSpec := { name := "fnExactTotalWeight", fn := fun _ => fun
  | [d] => { results := [.lit (.bool true)], args := [d] }
  | _ => none }
def fnExactTotalWeightRow : OpenClaim := { program := "ytadnjljpceeolaa", sum := "c51864e37d44606c3f2d1e95326ca927de23f5c6b096cb77fbaad2d7edc6c7f4", func := "loop.example/g01141/laws.FnExactTotalWeight", spec := "fnExactTotalWeight", apart := false }
def FnExactTotalWeightSaid : Prop := fnExactTotalWeightRow.holds Try.pinned (OpenSpec.ofChange fnExactTotalWeightSpec)

/-- ITS FALSE NEIGHBOUR: 'it returns false'. Refute it at one input. -/
def fnExactTotalWeightWrong : ChangeSpec := { name := "fnExactTotalWeight", fn := fun _ => fun
  | [d] => { results := [.lit (.bool false)], args := [d] }
  | _ => none }
def FnExactTotalWeightWrongFalsely : Prop := fnExactTotalWeightRow.holds Try.pinned (OpenSpec.ofChange fnExactTotalWeightWrong)

/-- 'laws.FnExactSignGame': WHATEVER THE INPUT: true; the input reads as it did. -/
def fnExactSignGameSpec : ChangeSpec := { name := "fnExactSignGame", fn := fun _ => fun
  | [d1, d2, d3, d4] => { results := [.lit (.bool true)], args := [d1, d2, d3, d4] }
  | _ => none }
def fnExactSignGameRow : OpenClaim := { program := "ytadnjljpceeolaa", sum := "c51864e37d44606c3f2d1e95326ca927de23f5c6b096cb77fbaad2d7edc6c7f4", func := "loop.example/g01141/laws.FnExactSignGame", spec := "fnExactSignGame", apart := false }
def FnExactSignGameSaid : Prop := fnExactSignGameRow.holds Try.pinned (OpenSpec.ofChange fnExactSignGameSpec)

/-- ITS FALSE NEIGHBOUR: 'it returns false'. Refute it at one input. -/
def fnExactSignGameWrong : ChangeSpec := { name := "fnExactSignGame", fn := fun _ => fun
  | [d1, d2, d3, d4] => { results := [.lit (.bool false)], args := [d1, d2, d3, d4] }
  | _ => none }
def FnExactSignGameWrongFalsely : Prop := fnExactSignGameRow.holds Try.pinned (OpenSpec.ofChange fnExactSignGameWrong)

/-- 'laws.FnExactGreatestTriple': WHATEVER THE INPUT: true; the input reads as it did. -/
def fnExactGreatestTripleSpec : ChangeSpec := { name := "fnExactGreatestTriple", fn := fun _ => fun
  | [d] => { results := [.lit (.bool true)], args := [d] }
  | _ => none }
def fnExactGreatestTripleRow : OpenClaim := { program := "ytadnjljpceeolaa", sum := "c51864e37d44606c3f2d1e95326ca927de23f5c6b096cb77fbaad2d7edc6c7f4", func := "loop.example/g01141/laws.FnExactGreatestTriple", spec := "fnExactGreatestTriple", unfollowed := true, recurses := true, apart := false }
def FnExactGreatestTripleSaid : Prop := fnExactGreatestTripleRow.holds Try.pinned (OpenSpec.ofChange fnExactGreatestTripleSpec)

/-- ITS FALSE NEIGHBOUR: 'it returns false'. Refute it at one input. -/
def fnExactGreatestTripleWrong : ChangeSpec := { name := "fnExactGreatestTriple", fn := fun _ => fun
  | [d] => { results := [.lit (.bool false)], args := [d] }
  | _ => none }
def FnExactGreatestTripleWrongFalsely : Prop := fnExactGreatestTripleRow.holds Try.pinned (OpenSpec.ofChange fnExactGreatestTripleWrong)

/-- 'laws.FnExactIsLocal': WHATEVER THE INPUT: true; the input reads as it did. -/
def fnExactIsLocalSpec : ChangeSpec := { name := "fnExactIsLocal", fn := fun _ => fun
  | [d] => { results := [.lit (.bool true)], args := [d] }
  | _ => none }
def fnExactIsLocalRow : OpenClaim := { program := "ytadnjljpceeolaa", sum := "c51864e37d44606c3f2d1e95326ca927de23f5c6b096cb77fbaad2d7edc6c7f4", func := "loop.example/g01141/laws.FnExactIsLocal", spec := "fnExactIsLocal", unfollowed := true, recurses := true, apart := false }
def FnExactIsLocalSaid : Prop := fnExactIsLocalRow.holds Try.pinned (OpenSpec.ofChange fnExactIsLocalSpec)

/-- ITS FALSE NEIGHBOUR: 'it returns false'. Refute it at one input. -/
def fnExactIsLocalWrong : ChangeSpec := { name := "fnExactIsLocal", fn := fun _ => fun
  | [d] => { results := [.lit (.bool false)], args := [d] }
  | _ => none }
def FnExactIsLocalWrongFalsely : Prop := fnExactIsLocalRow.holds Try.pinned (OpenSpec.ofChange fnExactIsLocalWrong)

/-- 'laws.FnNamesOfBoxes': WHATEVER THE INPUT: true; the input reads as it did. -/
def fnNamesOfBoxesSpec : ChangeSpec := { name := "fnNamesOfBoxes", fn := fun _ => fun
  | [d] => { results := [.lit (.bool true)], args := [d] }
  | _ => none }
def fnNamesOfBoxesRow : OpenClaim := { program := "ytadnjljpceeolaa", sum := "c51864e37d44606c3f2d1e95326ca927de23f5c6b096cb77fbaad2d7edc6c7f4", func := "loop.example/g01141/laws.FnNamesOfBoxes", spec := "fnNamesOfBoxes", unfollowed := true, recurses := true, apart := false }
def FnNamesOfBoxesSaid : Prop := fnNamesOfBoxesRow.holds Try.pinned (OpenSpec.ofChange fnNamesOfBoxesSpec)

/-- ITS FALSE NEIGHBOUR: 'it returns false'. Refute it at one input. -/
def fnNamesOfBoxesWrong : ChangeSpec := { name := "fnNamesOfBoxes", fn := fun _ => fun
  | [d] => { results := [.lit (.bool false)], args := [d] }
  | _ => none }
def FnNamesOfBoxesWrongFalsely : Prop := fnNamesOfBoxesRow.holds Try.pinned (OpenSpec.ofChange fnNamesOfBoxesWrong)

/-- 'laws.FnSums': WHATEVER THE INPUT: true; the input reads as it did. -/
def fnSumsSpec : ChangeSpec := { name := "fnSums", fn := fun _ => fun
  | [d] => { results := [.lit (.bool true)], args := [d] }
  | _ => none }
def fnSumsRow : OpenClaim := { program := "ytadnjljpceeolaa", sum := "c51864e37d44606c3f2d1e95326ca927de23f5c6b096cb77fbaad2d7edc6c7f4", func := "loop.example/g01141/laws.FnSums", spec := "fnSums", unfollowed := true, recurses := true, apart := false }
def FnSumsSaid : Prop := fnSumsRow.holds Try.pinned (OpenSpec.ofChange fnSumsSpec)

/-- ITS FALSE NEIGHBOUR: 'it returns false'. Refute it at one input. -/
def fnSumsWrong : ChangeSpec := { name := "fnSums", fn := fun _ => fun
  | [d] => { results := [.lit (.bool false)], args := [d] }
  | _ => none }
def FnSumsWrongFalsely : Prop := fnSumsRow.holds Try.pinned (OpenSpec.ofChange fnSumsWrong)

/-- 'laws.FnExactSumFunctional': WHATEVER THE INPUT: true; the input reads as it did. -/
def fnExactSumFunctionalSpec : ChangeSpec := { name := "fnExactSumFunctional", fn := fun _ => fun
  | [d1, d2, d3, d4, d5] => { results := [.lit (.bool true)], args := [d1, d2, d3, d4, d5] }
  | _ => none }
def fnExactSumFunctionalRow : OpenClaim := { program := "ytadnjljpceeolaa", sum := "c51864e37d44606c3f2d1e95326ca927de23f5c6b096cb77fbaad2d7edc6c7f4", func := "loop.example/g01141/laws.FnExactSumFunctional", spec := "fnExactSumFunctional", apart := false }
def FnExactSumFunctionalSaid : Prop := fnExactSumFunctionalRow.holds Try.pinned (OpenSpec.ofChange fnExactSumFunctionalSpec)

/-- ITS FALSE NEIGHBOUR: 'it returns false'. Refute it at one input. -/
def fnExactSumFunctionalWrong : ChangeSpec := { name := "fnExactSumFunctional", fn := fun _ => fun
  | [d1, d2, d3, d4, d5] => { results := [.lit (.bool false)], args := [d1, d2, d3, d4, d5] }
  | _ => none }
def FnExactSumFunctionalWrongFalsely : Prop := fnExactSumFunctionalRow.holds Try.pinned (OpenSpec.ofChange fnExactSumFunctionalWrong)

/-- 'laws.FnExactIsGame': WHATEVER THE INPUT: true; the input reads as it did. -/
def fnExactIsGameSpec : ChangeSpec := { name := "fnExactIsGame", fn := fun _ => fun
  | [d] => { results := [.lit (.bool true)], args := [d] }
  | _ => none }
def fnExactIsGameRow : OpenClaim := { program := "ytadnjljpceeolaa", sum := "c51864e37d44606c3f2d1e95326ca927de23f5c6b096cb77fbaad2d7edc6c7f4", func := "loop.example/g01141/laws.FnExactIsGame", spec := "fnExactIsGame", apart := false }
def FnExactIsGameSaid : Prop := fnExactIsGameRow.holds Try.pinned (OpenSpec.ofChange fnExactIsGameSpec)

/-- ITS FALSE NEIGHBOUR: 'it returns false'. Refute it at one input. -/
def fnExactIsGameWrong : ChangeSpec := { name := "fnExactIsGame", fn := fun _ => fun
  | [d] => { results := [.lit (.bool false)], args := [d] }
  | _ => none }
def FnExactIsGameWrongFalsely : Prop := fnExactIsGameRow.holds Try.pinned (OpenSpec.ofChange fnExactIsGameWrong)

/- THE SECOND FORM. 'bulk': how many values and letters a reading holds, each counted each time it is reached (what is shared counts as often as it is met; a slice's spare places count too). A statement '..UptoSaid' is the law's where the arguments, and the package variables that the reading takes, are together of bulk at most 1048576: NARROWER than '..Said'. Prove '..Said' where nothing that the law and all that it calls make is longer than what came in: it says more and counts as full. Else prove '..UptoSaid'. A law counts once. -/
mutual
def uptoBulk {H : Type} : DataW H → Nat
  | .lit (.string bytes) => bytes.length + 1
  | .lit _ => 1
  | .nil => 1
  | .ptr d => uptoBulk d + 1
  | .slice elems spare => uptoBulkAll elems + uptoBulkAll spare + 1
  | .agg parts => uptoBulkAll parts + 1
  | .iface _ d => uptoBulk d + 1
  | .map entries => uptoBulkEntries entries + 1
  | .held _ => 1
def uptoBulkAll {H : Type} : List (DataW H) → Nat
  | [] => 0
  | d :: r => uptoBulk d + uptoBulkAll r
def uptoBulkEntries {H : Type} : List (Lit × DataW H) → Nat
  | [] => 0
  | x :: r => uptoBulkEntry x + uptoBulkEntries r
def uptoBulkEntry {H : Type} : Lit × DataW H → Nat
  | (.string bytes, d) => bytes.length + uptoBulk d + 1
  | (_, d) => uptoBulk d + 1
 end
def uptoSmall : (H : Type) → List (DataW H) → Bool := fun _ ds => decide (uptoBulkAll ds ≤ 1048576)
def OpenSpec.upto (s : _root_.Go.ChangeSpec) : _root_.Go.OpenSpec := { _root_.Go.OpenSpec.ofChange s with cond := some uptoSmall }

/-- 'laws.FnExactTotalWeight', WHERE WHAT IT READS IS OF BULK AT MOST 1048576: true; the input reads as it did. -/
def fnExactTotalWeightUptoRow : OpenClaim := { program := "ytadnjljpceeolaa", sum := "c51864e37d44606c3f2d1e95326ca927de23f5c6b096cb77fbaad2d7edc6c7f4", func := "loop.example/g01141/laws.FnExactTotalWeight", spec := "fnExactTotalWeight", apart := false, narrowed := true }
def FnExactTotalWeightUptoSaid : Prop := fnExactTotalWeightUptoRow.holds Try.pinned (OpenSpec.upto fnExactTotalWeightSpec)

/-- 'laws.FnExactSignGame', WHERE WHAT IT READS IS OF BULK AT MOST 1048576: true; the input reads as it did. -/
def fnExactSignGameUptoRow : OpenClaim := { program := "ytadnjljpceeolaa", sum := "c51864e37d44606c3f2d1e95326ca927de23f5c6b096cb77fbaad2d7edc6c7f4", func := "loop.example/g01141/laws.FnExactSignGame", spec := "fnExactSignGame", apart := false, narrowed := true }
def FnExactSignGameUptoSaid : Prop := fnExactSignGameUptoRow.holds Try.pinned (OpenSpec.upto fnExactSignGameSpec)

/-- 'laws.FnExactGreatestTriple', WHERE WHAT IT READS IS OF BULK AT MOST 1048576: true; the input reads as it did. -/
def fnExactGreatestTripleUptoRow : OpenClaim := { program := "ytadnjljpceeolaa", sum := "c51864e37d44606c3f2d1e95326ca927de23f5c6b096cb77fbaad2d7edc6c7f4", func := "loop.example/g01141/laws.FnExactGreatestTriple", spec := "fnExactGreatestTriple", unfollowed := true, recurses := true, apart := false, narrowed := true }
def FnExactGreatestTripleUptoSaid : Prop := fnExactGreatestTripleUptoRow.holds Try.pinned (OpenSpec.upto fnExactGreatestTripleSpec)

/-- 'laws.FnExactIsLocal', WHERE WHAT IT READS IS OF BULK AT MOST 1048576: true; the input reads as it did. -/
def fnExactIsLocalUptoRow : OpenClaim := { program := "ytadnjljpceeolaa", sum := "c51864e37d44606c3f2d1e95326ca927de23f5c6b096cb77fbaad2d7edc6c7f4", func := "loop.example/g01141/laws.FnExactIsLocal", spec := "fnExactIsLocal", unfollowed := true, recurses := true, apart := false, narrowed := true }
def FnExactIsLocalUptoSaid : Prop := fnExactIsLocalUptoRow.holds Try.pinned (OpenSpec.upto fnExactIsLocalSpec)

/-- 'laws.FnNamesOfBoxes', WHERE WHAT IT READS IS OF BULK AT MOST 1048576: true; the input reads as it did. -/
def fnNamesOfBoxesUptoRow : OpenClaim := { program := "ytadnjljpceeolaa", sum := "c51864e37d44606c3f2d1e95326ca927de23f5c6b096cb77fbaad2d7edc6c7f4", func := "loop.example/g01141/laws.FnNamesOfBoxes", spec := "fnNamesOfBoxes", unfollowed := true, recurses := true, apart := false, narrowed := true }
def FnNamesOfBoxesUptoSaid : Prop := fnNamesOfBoxesUptoRow.holds Try.pinned (OpenSpec.upto fnNamesOfBoxesSpec)

/-- 'laws.FnSums', WHERE WHAT IT READS IS OF BULK AT MOST 1048576: true; the input reads as it did. -/
def fnSumsUptoRow : OpenClaim := { program := "ytadnjljpceeolaa", sum := "c51864e37d44606c3f2d1e95326ca927de23f5c6b096cb77fbaad2d7edc6c7f4", func := "loop.example/g01141/laws.FnSums", spec := "fnSums", unfollowed := true, recurses := true, apart := false, narrowed := true }
def FnSumsUptoSaid : Prop := fnSumsUptoRow.holds Try.pinned (OpenSpec.upto fnSumsSpec)

/-- 'laws.FnExactSumFunctional', WHERE WHAT IT READS IS OF BULK AT MOST 1048576: true; the input reads as it did. -/
def fnExactSumFunctionalUptoRow : OpenClaim := { program := "ytadnjljpceeolaa", sum := "c51864e37d44606c3f2d1e95326ca927de23f5c6b096cb77fbaad2d7edc6c7f4", func := "loop.example/g01141/laws.FnExactSumFunctional", spec := "fnExactSumFunctional", apart := false, narrowed := true }
def FnExactSumFunctionalUptoSaid : Prop := fnExactSumFunctionalUptoRow.holds Try.pinned (OpenSpec.upto fnExactSumFunctionalSpec)

/-- 'laws.FnExactIsGame', WHERE WHAT IT READS IS OF BULK AT MOST 1048576: true; the input reads as it did. -/
def fnExactIsGameUptoRow : OpenClaim := { program := "ytadnjljpceeolaa", sum := "c51864e37d44606c3f2d1e95326ca927de23f5c6b096cb77fbaad2d7edc6c7f4", func := "loop.example/g01141/laws.FnExactIsGame", spec := "fnExactIsGame", apart := false, narrowed := true }
def FnExactIsGameUptoSaid : Prop := fnExactIsGameUptoRow.holds Try.pinned (OpenSpec.upto fnExactIsGameSpec)

end Rows
end Go.Proofs.Ytadnjljpceeolaa
