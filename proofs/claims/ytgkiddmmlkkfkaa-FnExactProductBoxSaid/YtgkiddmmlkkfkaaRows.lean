/-
  No cell of these rows narrows 'for every input' (looked for: loops, veiled, ifaces, maps, wideKeys, modest, calm, conditions, laid).
  DERIVED. THE GIVEN ROWS OF THIS SEAT. 11 by the template 'for every input the law returns true; each argument reads behind the call as it read before'; 0 by the template 'total and deterministic' (their statements: YtgkiddmmlkkfkaaTotals.lean).
  GIVEN WITH THE SEED: the statements are not yours to turn. If you find one false, say at which input.
  Laid BY PROGRAM, IN A SANDBOX (cutbox-rows.mjs): the forced cells as the released guide's own fill.sh prints them over the translation af0e4428e5e1036e… (all of the seat's roots in one cut). By AI agents, Wed Nov 11 2026. No macro, syntax, notation, axiom, sorry.
-/
import Derived.Test.YtgkiddmmlkkfkaaChecked
import GoSem.Claim
import GoSem.ClaimJoined
import GoSem.ClaimMapViews
import Derived.JoinedTies
import Derived.KernelRfl
namespace Go.Proofs.Ytgkiddmmlkkfkaa
/- THE CELL 'sum', in the pinned program and in every row, IS THE sha256 OF THE DUMP (.gsa) THAT YtgkiddmmlkkfkaaProg.lean LOADS. Nothing in Lean hashes anything: it is a label: what it is worth is what the hold of that sum in a sandbox is worth. -/
noncomputable def Try.pinned : Pinned := { name := "ytgkiddmmlkkfkaa", sum := "af0e4428e5e1036e7bb40b24d6a62678881fff5fce12fa7029535aff4a1d6f5c", checked := Try.checked }
namespace Rows
def none {H : Type} : Left H := { results := [], args := [] }

/-- 'laws.FnExactConstants': WHATEVER THE INPUT: true; the input reads as it did. -/
def fnExactConstantsSpec : ChangeSpec := { name := "fnExactConstants", fn := fun _ => fun
  | [] => { results := [.lit (.bool true)], args := [] }
  | _ => none }
def fnExactConstantsRow : OpenClaim := { program := "ytgkiddmmlkkfkaa", sum := "af0e4428e5e1036e7bb40b24d6a62678881fff5fce12fa7029535aff4a1d6f5c", func := "loop.example/g01141/laws.FnExactConstants", spec := "fnExactConstants", apart := false }
def FnExactConstantsSaid : Prop := fnExactConstantsRow.holds Try.pinned (OpenSpec.ofChange fnExactConstantsSpec)

/-- ITS FALSE NEIGHBOUR: 'it returns false'. Refute it at one input. -/
def fnExactConstantsWrong : ChangeSpec := { name := "fnExactConstants", fn := fun _ => fun
  | [] => { results := [.lit (.bool false)], args := [] }
  | _ => none }
def FnExactConstantsWrongFalsely : Prop := fnExactConstantsRow.holds Try.pinned (OpenSpec.ofChange fnExactConstantsWrong)

/-- 'laws.FnExactLessString': WHATEVER THE INPUT: true; the input reads as it did. -/
def fnExactLessStringSpec : ChangeSpec := { name := "fnExactLessString", fn := fun _ => fun
  | [d1, d2] => { results := [.lit (.bool true)], args := [d1, d2] }
  | _ => none }
def fnExactLessStringRow : OpenClaim := { program := "ytgkiddmmlkkfkaa", sum := "af0e4428e5e1036e7bb40b24d6a62678881fff5fce12fa7029535aff4a1d6f5c", func := "loop.example/g01141/laws.FnExactLessString", spec := "fnExactLessString", apart := false }
def FnExactLessStringSaid : Prop := fnExactLessStringRow.holds Try.pinned (OpenSpec.ofChange fnExactLessStringSpec)

/-- ITS FALSE NEIGHBOUR: 'it returns false'. Refute it at one input. -/
def fnExactLessStringWrong : ChangeSpec := { name := "fnExactLessString", fn := fun _ => fun
  | [d1, d2] => { results := [.lit (.bool false)], args := [d1, d2] }
  | _ => none }
def FnExactLessStringWrongFalsely : Prop := fnExactLessStringRow.holds Try.pinned (OpenSpec.ofChange fnExactLessStringWrong)

/-- 'laws.FnExactChecksum': WHATEVER THE INPUT: true; the input reads as it did. -/
def fnExactChecksumSpec : ChangeSpec := { name := "fnExactChecksum", fn := fun _ => fun
  | [d] => { results := [.lit (.bool true)], args := [d] }
  | _ => none }
def fnExactChecksumRow : OpenClaim := { program := "ytgkiddmmlkkfkaa", sum := "af0e4428e5e1036e7bb40b24d6a62678881fff5fce12fa7029535aff4a1d6f5c", func := "loop.example/g01141/laws.FnExactChecksum", spec := "fnExactChecksum", apart := false }
def FnExactChecksumSaid : Prop := fnExactChecksumRow.holds Try.pinned (OpenSpec.ofChange fnExactChecksumSpec)

/-- ITS FALSE NEIGHBOUR: 'it returns false'. Refute it at one input. -/
def fnExactChecksumWrong : ChangeSpec := { name := "fnExactChecksum", fn := fun _ => fun
  | [d] => { results := [.lit (.bool false)], args := [d] }
  | _ => none }
def FnExactChecksumWrongFalsely : Prop := fnExactChecksumRow.holds Try.pinned (OpenSpec.ofChange fnExactChecksumWrong)

/-- 'laws.FnExactIsPlay': WHATEVER THE INPUT: true; the input reads as it did. -/
def fnExactIsPlaySpec : ChangeSpec := { name := "fnExactIsPlay", fn := fun _ => fun
  | [d1, d2, d3] => { results := [.lit (.bool true)], args := [d1, d2, d3] }
  | _ => none }
def fnExactIsPlayRow : OpenClaim := { program := "ytgkiddmmlkkfkaa", sum := "af0e4428e5e1036e7bb40b24d6a62678881fff5fce12fa7029535aff4a1d6f5c", func := "loop.example/g01141/laws.FnExactIsPlay", spec := "fnExactIsPlay", apart := false }
def FnExactIsPlaySaid : Prop := fnExactIsPlayRow.holds Try.pinned (OpenSpec.ofChange fnExactIsPlaySpec)

/-- ITS FALSE NEIGHBOUR: 'it returns false'. Refute it at one input. -/
def fnExactIsPlayWrong : ChangeSpec := { name := "fnExactIsPlay", fn := fun _ => fun
  | [d1, d2, d3] => { results := [.lit (.bool false)], args := [d1, d2, d3] }
  | _ => none }
def FnExactIsPlayWrongFalsely : Prop := fnExactIsPlayRow.holds Try.pinned (OpenSpec.ofChange fnExactIsPlayWrong)

/-- 'laws.FnExactFlipPlay': WHATEVER THE INPUT: true; the input reads as it did. -/
def fnExactFlipPlaySpec : ChangeSpec := { name := "fnExactFlipPlay", fn := fun _ => fun
  | [d1, d2, d3, d4] => { results := [.lit (.bool true)], args := [d1, d2, d3, d4] }
  | _ => none }
def fnExactFlipPlayRow : OpenClaim := { program := "ytgkiddmmlkkfkaa", sum := "af0e4428e5e1036e7bb40b24d6a62678881fff5fce12fa7029535aff4a1d6f5c", func := "loop.example/g01141/laws.FnExactFlipPlay", spec := "fnExactFlipPlay", apart := false }
def FnExactFlipPlaySaid : Prop := fnExactFlipPlayRow.holds Try.pinned (OpenSpec.ofChange fnExactFlipPlaySpec)

/-- ITS FALSE NEIGHBOUR: 'it returns false'. Refute it at one input. -/
def fnExactFlipPlayWrong : ChangeSpec := { name := "fnExactFlipPlay", fn := fun _ => fun
  | [d1, d2, d3, d4] => { results := [.lit (.bool false)], args := [d1, d2, d3, d4] }
  | _ => none }
def FnExactFlipPlayWrongFalsely : Prop := fnExactFlipPlayRow.holds Try.pinned (OpenSpec.ofChange fnExactFlipPlayWrong)

/-- 'laws.FnExactPlaysOf': WHATEVER THE INPUT: true; the input reads as it did. -/
def fnExactPlaysOfSpec : ChangeSpec := { name := "fnExactPlaysOf", fn := fun _ => fun
  | [d1, d2] => { results := [.lit (.bool true)], args := [d1, d2] }
  | _ => none }
def fnExactPlaysOfRow : OpenClaim := { program := "ytgkiddmmlkkfkaa", sum := "af0e4428e5e1036e7bb40b24d6a62678881fff5fce12fa7029535aff4a1d6f5c", func := "loop.example/g01141/laws.FnExactPlaysOf", spec := "fnExactPlaysOf", apart := false }
def FnExactPlaysOfSaid : Prop := fnExactPlaysOfRow.holds Try.pinned (OpenSpec.ofChange fnExactPlaysOfSpec)

/-- ITS FALSE NEIGHBOUR: 'it returns false'. Refute it at one input. -/
def fnExactPlaysOfWrong : ChangeSpec := { name := "fnExactPlaysOf", fn := fun _ => fun
  | [d1, d2] => { results := [.lit (.bool false)], args := [d1, d2] }
  | _ => none }
def FnExactPlaysOfWrongFalsely : Prop := fnExactPlaysOfRow.holds Try.pinned (OpenSpec.ofChange fnExactPlaysOfWrong)

/-- 'laws.FnExactSumFunctional': WHATEVER THE INPUT: true; the input reads as it did. -/
def fnExactSumFunctionalSpec : ChangeSpec := { name := "fnExactSumFunctional", fn := fun _ => fun
  | [d1, d2, d3, d4, d5] => { results := [.lit (.bool true)], args := [d1, d2, d3, d4, d5] }
  | _ => none }
def fnExactSumFunctionalRow : OpenClaim := { program := "ytgkiddmmlkkfkaa", sum := "af0e4428e5e1036e7bb40b24d6a62678881fff5fce12fa7029535aff4a1d6f5c", func := "loop.example/g01141/laws.FnExactSumFunctional", spec := "fnExactSumFunctional", apart := false }
def FnExactSumFunctionalSaid : Prop := fnExactSumFunctionalRow.holds Try.pinned (OpenSpec.ofChange fnExactSumFunctionalSpec)

/-- ITS FALSE NEIGHBOUR: 'it returns false'. Refute it at one input. -/
def fnExactSumFunctionalWrong : ChangeSpec := { name := "fnExactSumFunctional", fn := fun _ => fun
  | [d1, d2, d3, d4, d5] => { results := [.lit (.bool false)], args := [d1, d2, d3, d4, d5] }
  | _ => none }
def FnExactSumFunctionalWrongFalsely : Prop := fnExactSumFunctionalRow.holds Try.pinned (OpenSpec.ofChange fnExactSumFunctionalWrong)

/-- 'laws.FnExactIsBox': WHATEVER THE INPUT: true; the input reads as it did. -/
def fnExactIsBoxSpec : ChangeSpec := { name := "fnExactIsBox", fn := fun _ => fun
  | [d] => { results := [.lit (.bool true)], args := [d] }
  | _ => none }
def fnExactIsBoxRow : OpenClaim := { program := "ytgkiddmmlkkfkaa", sum := "af0e4428e5e1036e7bb40b24d6a62678881fff5fce12fa7029535aff4a1d6f5c", func := "loop.example/g01141/laws.FnExactIsBox", spec := "fnExactIsBox", apart := false }
def FnExactIsBoxSaid : Prop := fnExactIsBoxRow.holds Try.pinned (OpenSpec.ofChange fnExactIsBoxSpec)

/-- ITS FALSE NEIGHBOUR: 'it returns false'. Refute it at one input. -/
def fnExactIsBoxWrong : ChangeSpec := { name := "fnExactIsBox", fn := fun _ => fun
  | [d] => { results := [.lit (.bool false)], args := [d] }
  | _ => none }
def FnExactIsBoxWrongFalsely : Prop := fnExactIsBoxRow.holds Try.pinned (OpenSpec.ofChange fnExactIsBoxWrong)

/-- 'laws.FnExactNoiseBox': WHATEVER THE INPUT: true; the input reads as it did. -/
def fnExactNoiseBoxSpec : ChangeSpec := { name := "fnExactNoiseBox", fn := fun _ => fun
  | [d1, d2, d3] => { results := [.lit (.bool true)], args := [d1, d2, d3] }
  | _ => none }
def fnExactNoiseBoxRow : OpenClaim := { program := "ytgkiddmmlkkfkaa", sum := "af0e4428e5e1036e7bb40b24d6a62678881fff5fce12fa7029535aff4a1d6f5c", func := "loop.example/g01141/laws.FnExactNoiseBox", spec := "fnExactNoiseBox", unfollowed := true, recurses := true, apart := false }
def FnExactNoiseBoxSaid : Prop := fnExactNoiseBoxRow.holds Try.pinned (OpenSpec.ofChange fnExactNoiseBoxSpec)

/-- ITS FALSE NEIGHBOUR: 'it returns false'. Refute it at one input. -/
def fnExactNoiseBoxWrong : ChangeSpec := { name := "fnExactNoiseBox", fn := fun _ => fun
  | [d1, d2, d3] => { results := [.lit (.bool false)], args := [d1, d2, d3] }
  | _ => none }
def FnExactNoiseBoxWrongFalsely : Prop := fnExactNoiseBoxRow.holds Try.pinned (OpenSpec.ofChange fnExactNoiseBoxWrong)

/-- 'laws.FnExactProductBox': WHATEVER THE INPUT: true; the input reads as it did. -/
def fnExactProductBoxSpec : ChangeSpec := { name := "fnExactProductBox", fn := fun _ => fun
  | [d1, d2, d3] => { results := [.lit (.bool true)], args := [d1, d2, d3] }
  | _ => none }
def fnExactProductBoxRow : OpenClaim := { program := "ytgkiddmmlkkfkaa", sum := "af0e4428e5e1036e7bb40b24d6a62678881fff5fce12fa7029535aff4a1d6f5c", func := "loop.example/g01141/laws.FnExactProductBox", spec := "fnExactProductBox", unfollowed := true, recurses := true, apart := false }
def FnExactProductBoxSaid : Prop := fnExactProductBoxRow.holds Try.pinned (OpenSpec.ofChange fnExactProductBoxSpec)

/-- ITS FALSE NEIGHBOUR: 'it returns false'. Refute it at one input. -/
def fnExactProductBoxWrong : ChangeSpec := { name := "fnExactProductBox", fn := fun _ => fun
  | [d1, d2, d3] => { results := [.lit (.bool false)], args := [d1, d2, d3] }
  | _ => none }
def FnExactProductBoxWrongFalsely : Prop := fnExactProductBoxRow.holds Try.pinned (OpenSpec.ofChange fnExactProductBoxWrong)

/-- 'laws.FnExactIsGame': WHATEVER THE INPUT: true; the input reads as it did. -/
def fnExactIsGameSpec : ChangeSpec := { name := "fnExactIsGame", fn := fun _ => fun
  | [d] => { results := [.lit (.bool true)], args := [d] }
  | _ => none }
def fnExactIsGameRow : OpenClaim := { program := "ytgkiddmmlkkfkaa", sum := "af0e4428e5e1036e7bb40b24d6a62678881fff5fce12fa7029535aff4a1d6f5c", func := "loop.example/g01141/laws.FnExactIsGame", spec := "fnExactIsGame", apart := false }
def FnExactIsGameSaid : Prop := fnExactIsGameRow.holds Try.pinned (OpenSpec.ofChange fnExactIsGameSpec)

/-- ITS FALSE NEIGHBOUR: 'it returns false'. Refute it at one input. -/
def fnExactIsGameWrong : ChangeSpec := { name := "fnExactIsGame", fn := fun _ => fun
  | [d] => { results := [.lit (.bool false)], args := [d] }
  | _ => none }
def FnExactIsGameWrongFalsely : Prop := fnExactIsGameRow.holds Try.pinned (OpenSpec.ofChange fnExactIsGameWrong)

/- THE SECOND FORM. 'bulk': how many values and letters a reading holds, each counted each time it is reached (what is shared counts as often as it is met; a slice's spare places count too). A statement '..UptoSaid' is the law's where the arguments, and the package variables that the reading takes, are together of bulk at most 1048576: NARROWER than '..Said'. Prove '..Said' where nothing that the law and all that it calls make is longer than what came in: it says more and counts as full. Else prove '..UptoSaid'. A law counts once. -/
mutual
def uptoBulk {H : Type} : DataW H → Nat
  | .lit (.string bytes) => bytes.length + 1
  | .lit _ => 1
  | .nil => 1
  | .ptr d => uptoBulk d + 1
  | .slice elems spare => uptoBulkAll elems + uptoBulkAll spare + 1
  | .agg parts => uptoBulkAll parts + 1
  | .iface _ d => uptoBulk d + 1
  | .map entries => uptoBulkEntries entries + 1
  | .held _ => 1
def uptoBulkAll {H : Type} : List (DataW H) → Nat
  | [] => 0
  | d :: r => uptoBulk d + uptoBulkAll r
def uptoBulkEntries {H : Type} : List (Lit × DataW H) → Nat
  | [] => 0
  | x :: r => uptoBulkEntry x + uptoBulkEntries r
def uptoBulkEntry {H : Type} : Lit × DataW H → Nat
  | (.string bytes, d) => bytes.length + uptoBulk d + 1
  | (_, d) => uptoBulk d + 1
 end
def uptoSmall : (H : Type) → List (DataW H) → Bool := fun _ ds => decide (uptoBulkAll ds ≤ 1048576)
def OpenSpec.upto (s : _root_.Go.ChangeSpec) : _root_.Go.OpenSpec := { _root_.Go.OpenSpec.ofChange s with cond := some uptoSmall }

/-- 'laws.FnExactConstants', WHERE WHAT IT READS IS OF BULK AT MOST 1048576: true; the input reads as it did. -/
def fnExactConstantsUptoRow : OpenClaim := { program := "ytgkiddmmlkkfkaa", sum := "af0e4428e5e1036e7bb40b24d6a62678881fff5fce12fa7029535aff4a1d6f5c", func := "loop.example/g01141/laws.FnExactConstants", spec := "fnExactConstants", apart := false, narrowed := true }
def FnExactConstantsUptoSaid : Prop := fnExactConstantsUptoRow.holds Try.pinned (OpenSpec.upto fnExactConstantsSpec)

/-- 'laws.FnExactLessString', WHERE WHAT IT READS IS OF BULK AT MOST 1048576: true; the input reads as it did. -/
def fnExactLessStringUptoRow : OpenClaim := { program := "ytgkiddmmlkkfkaa", sum := "af0e4428e5e1036e7bb40b24d6a62678881fff5fce12fa7029535aff4a1d6f5c", func := "loop.example/g01141/laws.FnExactLessString", spec := "fnExactLessString", apart := false, narrowed := true }
def FnExactLessStringUptoSaid : Prop := fnExactLessStringUptoRow.holds Try.pinned (OpenSpec.upto fnExactLessStringSpec)

/-- 'laws.FnExactChecksum', WHERE WHAT IT READS IS OF BULK AT MOST 1048576: true; the input reads as it did. -/
def fnExactChecksumUptoRow : OpenClaim := { program := "ytgkiddmmlkkfkaa", sum := "af0e4428e5e1036e7bb40b24d6a62678881fff5fce12fa7029535aff4a1d6f5c", func := "loop.example/g01141/laws.FnExactChecksum", spec := "fnExactChecksum", apart := false, narrowed := true }
def FnExactChecksumUptoSaid : Prop := fnExactChecksumUptoRow.holds Try.pinned (OpenSpec.upto fnExactChecksumSpec)

/-- 'laws.FnExactIsPlay', WHERE WHAT IT READS IS OF BULK AT MOST 1048576: true; the input reads as it did. -/
def fnExactIsPlayUptoRow : OpenClaim := { program := "ytgkiddmmlkkfkaa", sum := "af0e4428e5e1036e7bb40b24d6a62678881fff5fce12fa7029535aff4a1d6f5c", func := "loop.example/g01141/laws.FnExactIsPlay", spec := "fnExactIsPlay", apart := false, narrowed := true }
def FnExactIsPlayUptoSaid : Prop := fnExactIsPlayUptoRow.holds Try.pinned (OpenSpec.upto fnExactIsPlaySpec)

/-- 'laws.FnExactFlipPlay', WHERE WHAT IT READS IS OF BULK AT MOST 1048576: true; the input reads as it did. -/
def fnExactFlipPlayUptoRow : OpenClaim := { program := "ytgkiddmmlkkfkaa", sum := "af0e4428e5e1036e7bb40b24d6a62678881fff5fce12fa7029535aff4a1d6f5c", func := "loop.example/g01141/laws.FnExactFlipPlay", spec := "fnExactFlipPlay", apart := false, narrowed := true }
def FnExactFlipPlayUptoSaid : Prop := fnExactFlipPlayUptoRow.holds Try.pinned (OpenSpec.upto fnExactFlipPlaySpec)

/-- 'laws.FnExactPlaysOf', WHERE WHAT IT READS IS OF BULK AT MOST 1048576: true; the input reads as it did. -/
def fnExactPlaysOfUptoRow : OpenClaim := { program := "ytgkiddmmlkkfkaa", sum := "af0e4428e5e1036e7bb40b24d6a62678881fff5fce12fa7029535aff4a1d6f5c", func := "loop.example/g01141/laws.FnExactPlaysOf", spec := "fnExactPlaysOf", apart := false, narrowed := true }
def FnExactPlaysOfUptoSaid : Prop := fnExactPlaysOfUptoRow.holds Try.pinned (OpenSpec.upto fnExactPlaysOfSpec)

/-- 'laws.FnExactSumFunctional', WHERE WHAT IT READS IS OF BULK AT MOST 1048576: true; the input reads as it did. -/
def fnExactSumFunctionalUptoRow : OpenClaim := { program := "ytgkiddmmlkkfkaa", sum := "af0e4428e5e1036e7bb40b24d6a62678881fff5fce12fa7029535aff4a1d6f5c", func := "loop.example/g01141/laws.FnExactSumFunctional", spec := "fnExactSumFunctional", apart := false, narrowed := true }
def FnExactSumFunctionalUptoSaid : Prop := fnExactSumFunctionalUptoRow.holds Try.pinned (OpenSpec.upto fnExactSumFunctionalSpec)

/-- 'laws.FnExactIsBox', WHERE WHAT IT READS IS OF BULK AT MOST 1048576: true; the input reads as it did. -/
def fnExactIsBoxUptoRow : OpenClaim := { program := "ytgkiddmmlkkfkaa", sum := "af0e4428e5e1036e7bb40b24d6a62678881fff5fce12fa7029535aff4a1d6f5c", func := "loop.example/g01141/laws.FnExactIsBox", spec := "fnExactIsBox", apart := false, narrowed := true }
def FnExactIsBoxUptoSaid : Prop := fnExactIsBoxUptoRow.holds Try.pinned (OpenSpec.upto fnExactIsBoxSpec)

/-- 'laws.FnExactNoiseBox', WHERE WHAT IT READS IS OF BULK AT MOST 1048576: true; the input reads as it did. -/
def fnExactNoiseBoxUptoRow : OpenClaim := { program := "ytgkiddmmlkkfkaa", sum := "af0e4428e5e1036e7bb40b24d6a62678881fff5fce12fa7029535aff4a1d6f5c", func := "loop.example/g01141/laws.FnExactNoiseBox", spec := "fnExactNoiseBox", unfollowed := true, recurses := true, apart := false, narrowed := true }
def FnExactNoiseBoxUptoSaid : Prop := fnExactNoiseBoxUptoRow.holds Try.pinned (OpenSpec.upto fnExactNoiseBoxSpec)

/-- 'laws.FnExactProductBox', WHERE WHAT IT READS IS OF BULK AT MOST 1048576: true; the input reads as it did. -/
def fnExactProductBoxUptoRow : OpenClaim := { program := "ytgkiddmmlkkfkaa", sum := "af0e4428e5e1036e7bb40b24d6a62678881fff5fce12fa7029535aff4a1d6f5c", func := "loop.example/g01141/laws.FnExactProductBox", spec := "fnExactProductBox", unfollowed := true, recurses := true, apart := false, narrowed := true }
def FnExactProductBoxUptoSaid : Prop := fnExactProductBoxUptoRow.holds Try.pinned (OpenSpec.upto fnExactProductBoxSpec)

/-- 'laws.FnExactIsGame', WHERE WHAT IT READS IS OF BULK AT MOST 1048576: true; the input reads as it did. -/
def fnExactIsGameUptoRow : OpenClaim := { program := "ytgkiddmmlkkfkaa", sum := "af0e4428e5e1036e7bb40b24d6a62678881fff5fce12fa7029535aff4a1d6f5c", func := "loop.example/g01141/laws.FnExactIsGame", spec := "fnExactIsGame", apart := false, narrowed := true }
def FnExactIsGameUptoSaid : Prop := fnExactIsGameUptoRow.holds Try.pinned (OpenSpec.upto fnExactIsGameSpec)

end Rows
end Go.Proofs.Ytgkiddmmlkkfkaa
