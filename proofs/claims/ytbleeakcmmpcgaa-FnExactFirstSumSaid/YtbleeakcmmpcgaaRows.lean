/-
  No cell of these rows narrows 'for every input' (looked for: loops, veiled, ifaces, maps, wideKeys, modest, calm, conditions, laid).
  DERIVED. THE GIVEN ROWS OF THIS SEAT. 12 by the template 'for every input the law returns true; each argument reads behind the call as it read before'; 0 by the template 'total and deterministic' (their statements: YtbleeakcmmpcgaaTotals.lean).
  GIVEN WITH THE SEED: the statements are not yours to turn. If you find one false, say at which input.
  Laid BY PROGRAM, IN A SANDBOX (cutbox-rows.mjs): the forced cells as the released guide's own fill.sh prints them over the translation 398e855fbd05c177… (all of the seat's roots in one cut). By AI agents, Wed Nov 11 2026. No macro, syntax, notation, axiom, sorry.
-/
import Derived.Test.YtbleeakcmmpcgaaChecked
import GoSem.Claim
import GoSem.ClaimJoined
import GoSem.ClaimMapViews
import Derived.JoinedTies
import Derived.KernelRfl
namespace Go.Proofs.Ytbleeakcmmpcgaa
/- THE CELL 'sum', in the pinned program and in every row, IS THE sha256 OF THE DUMP (.gsa) THAT YtbleeakcmmpcgaaProg.lean LOADS. Nothing in Lean hashes anything: it is a label: what it is worth is what the hold of that sum in a sandbox is worth. -/
noncomputable def Try.pinned : Pinned := { name := "ytbleeakcmmpcgaa", sum := "398e855fbd05c17702f61779dec7c0140bc6661cf4bde0d15ac6ec0f24000d9c", checked := Try.checked }
namespace Rows
def none {H : Type} : Left H := { results := [], args := [] }

/-- 'laws.FnExactLocalValue': WHATEVER THE INPUT: true; the input reads as it did. -/
def fnExactLocalValueSpec : ChangeSpec := { name := "fnExactLocalValue", fn := fun _ => fun
  | [d1, d2, d3] => { results := [.lit (.bool true)], args := [d1, d2, d3] }
  | _ => none }
def fnExactLocalValueRow : OpenClaim := { program := "ytbleeakcmmpcgaa", sum := "398e855fbd05c17702f61779dec7c0140bc6661cf4bde0d15ac6ec0f24000d9c", func := "loop.example/g01141/laws.FnExactLocalValue", spec := "fnExactLocalValue", apart := false }
def FnExactLocalValueSaid : Prop := fnExactLocalValueRow.holds Try.pinned (OpenSpec.ofChange fnExactLocalValueSpec)

/-- ITS FALSE NEIGHBOUR: 'it returns false'. Refute it at one input. -/
def fnExactLocalValueWrong : ChangeSpec := { name := "fnExactLocalValue", fn := fun _ => fun
  | [d1, d2, d3] => { results := [.lit (.bool false)], args := [d1, d2, d3] }
  | _ => none }
def FnExactLocalValueWrongFalsely : Prop := fnExactLocalValueRow.holds Try.pinned (OpenSpec.ofChange fnExactLocalValueWrong)

/-- 'laws.FnExactBestPlays': WHATEVER THE INPUT: true; the input reads as it did. -/
def fnExactBestPlaysSpec : ChangeSpec := { name := "fnExactBestPlays", fn := fun _ => fun
  | [d1, d2, d3] => { results := [.lit (.bool true)], args := [d1, d2, d3] }
  | _ => none }
def fnExactBestPlaysRow : OpenClaim := { program := "ytbleeakcmmpcgaa", sum := "398e855fbd05c17702f61779dec7c0140bc6661cf4bde0d15ac6ec0f24000d9c", func := "loop.example/g01141/laws.FnExactBestPlays", spec := "fnExactBestPlays", apart := false }
def FnExactBestPlaysSaid : Prop := fnExactBestPlaysRow.holds Try.pinned (OpenSpec.ofChange fnExactBestPlaysSpec)

/-- ITS FALSE NEIGHBOUR: 'it returns false'. Refute it at one input. -/
def fnExactBestPlaysWrong : ChangeSpec := { name := "fnExactBestPlays", fn := fun _ => fun
  | [d1, d2, d3] => { results := [.lit (.bool false)], args := [d1, d2, d3] }
  | _ => none }
def FnExactBestPlaysWrongFalsely : Prop := fnExactBestPlaysRow.holds Try.pinned (OpenSpec.ofChange fnExactBestPlaysWrong)

/-- 'laws.FnExactMixtureBox': WHATEVER THE INPUT: true; the input reads as it did. -/
def fnExactMixtureBoxSpec : ChangeSpec := { name := "fnExactMixtureBox", fn := fun _ => fun
  | [d1, d2, d3] => { results := [.lit (.bool true)], args := [d1, d2, d3] }
  | _ => none }
def fnExactMixtureBoxRow : OpenClaim := { program := "ytbleeakcmmpcgaa", sum := "398e855fbd05c17702f61779dec7c0140bc6661cf4bde0d15ac6ec0f24000d9c", func := "loop.example/g01141/laws.FnExactMixtureBox", spec := "fnExactMixtureBox", unfollowed := true, recurses := true, apart := false }
def FnExactMixtureBoxSaid : Prop := fnExactMixtureBoxRow.holds Try.pinned (OpenSpec.ofChange fnExactMixtureBoxSpec)

/-- ITS FALSE NEIGHBOUR: 'it returns false'. Refute it at one input. -/
def fnExactMixtureBoxWrong : ChangeSpec := { name := "fnExactMixtureBox", fn := fun _ => fun
  | [d1, d2, d3] => { results := [.lit (.bool false)], args := [d1, d2, d3] }
  | _ => none }
def FnExactMixtureBoxWrongFalsely : Prop := fnExactMixtureBoxRow.holds Try.pinned (OpenSpec.ofChange fnExactMixtureBoxWrong)

/-- 'laws.FnExactIsMixture': WHATEVER THE INPUT: true; the input reads as it did. -/
def fnExactIsMixtureSpec : ChangeSpec := { name := "fnExactIsMixture", fn := fun _ => fun
  | [d1, d2] => { results := [.lit (.bool true)], args := [d1, d2] }
  | _ => none }
def fnExactIsMixtureRow : OpenClaim := { program := "ytbleeakcmmpcgaa", sum := "398e855fbd05c17702f61779dec7c0140bc6661cf4bde0d15ac6ec0f24000d9c", func := "loop.example/g01141/laws.FnExactIsMixture", spec := "fnExactIsMixture", unfollowed := true, recurses := true, apart := false }
def FnExactIsMixtureSaid : Prop := fnExactIsMixtureRow.holds Try.pinned (OpenSpec.ofChange fnExactIsMixtureSpec)

/-- ITS FALSE NEIGHBOUR: 'it returns false'. Refute it at one input. -/
def fnExactIsMixtureWrong : ChangeSpec := { name := "fnExactIsMixture", fn := fun _ => fun
  | [d1, d2] => { results := [.lit (.bool false)], args := [d1, d2] }
  | _ => none }
def FnExactIsMixtureWrongFalsely : Prop := fnExactIsMixtureRow.holds Try.pinned (OpenSpec.ofChange fnExactIsMixtureWrong)

/-- 'laws.FnExactIsWitness': WHATEVER THE INPUT: true; the input reads as it did. -/
def fnExactIsWitnessSpec : ChangeSpec := { name := "fnExactIsWitness", fn := fun _ => fun
  | [d1, d2] => { results := [.lit (.bool true)], args := [d1, d2] }
  | _ => none }
def fnExactIsWitnessRow : OpenClaim := { program := "ytbleeakcmmpcgaa", sum := "398e855fbd05c17702f61779dec7c0140bc6661cf4bde0d15ac6ec0f24000d9c", func := "loop.example/g01141/laws.FnExactIsWitness", spec := "fnExactIsWitness", apart := false }
def FnExactIsWitnessSaid : Prop := fnExactIsWitnessRow.holds Try.pinned (OpenSpec.ofChange fnExactIsWitnessSpec)

/-- ITS FALSE NEIGHBOUR: 'it returns false'. Refute it at one input. -/
def fnExactIsWitnessWrong : ChangeSpec := { name := "fnExactIsWitness", fn := fun _ => fun
  | [d1, d2] => { results := [.lit (.bool false)], args := [d1, d2] }
  | _ => none }
def FnExactIsWitnessWrongFalsely : Prop := fnExactIsWitnessRow.holds Try.pinned (OpenSpec.ofChange fnExactIsWitnessWrong)

/-- 'laws.FnExactSumOf': WHATEVER THE INPUT: true; the input reads as it did. -/
def fnExactSumOfSpec : ChangeSpec := { name := "fnExactSumOf", fn := fun _ => fun
  | [d1, d2, d3, d4] => { results := [.lit (.bool true)], args := [d1, d2, d3, d4] }
  | _ => none }
def fnExactSumOfRow : OpenClaim := { program := "ytbleeakcmmpcgaa", sum := "398e855fbd05c17702f61779dec7c0140bc6661cf4bde0d15ac6ec0f24000d9c", func := "loop.example/g01141/laws.FnExactSumOf", spec := "fnExactSumOf", apart := false }
def FnExactSumOfSaid : Prop := fnExactSumOfRow.holds Try.pinned (OpenSpec.ofChange fnExactSumOfSpec)

/-- ITS FALSE NEIGHBOUR: 'it returns false'. Refute it at one input. -/
def fnExactSumOfWrong : ChangeSpec := { name := "fnExactSumOf", fn := fun _ => fun
  | [d1, d2, d3, d4] => { results := [.lit (.bool false)], args := [d1, d2, d3, d4] }
  | _ => none }
def FnExactSumOfWrongFalsely : Prop := fnExactSumOfRow.holds Try.pinned (OpenSpec.ofChange fnExactSumOfWrong)

/-- 'laws.FnExactGreatestSum': WHATEVER THE INPUT: true; the input reads as it did. -/
def fnExactGreatestSumSpec : ChangeSpec := { name := "fnExactGreatestSum", fn := fun _ => fun
  | [d] => { results := [.lit (.bool true)], args := [d] }
  | _ => none }
def fnExactGreatestSumRow : OpenClaim := { program := "ytbleeakcmmpcgaa", sum := "398e855fbd05c17702f61779dec7c0140bc6661cf4bde0d15ac6ec0f24000d9c", func := "loop.example/g01141/laws.FnExactGreatestSum", spec := "fnExactGreatestSum", apart := false }
def FnExactGreatestSumSaid : Prop := fnExactGreatestSumRow.holds Try.pinned (OpenSpec.ofChange fnExactGreatestSumSpec)

/-- ITS FALSE NEIGHBOUR: 'it returns false'. Refute it at one input. -/
def fnExactGreatestSumWrong : ChangeSpec := { name := "fnExactGreatestSum", fn := fun _ => fun
  | [d] => { results := [.lit (.bool false)], args := [d] }
  | _ => none }
def FnExactGreatestSumWrongFalsely : Prop := fnExactGreatestSumRow.holds Try.pinned (OpenSpec.ofChange fnExactGreatestSumWrong)

/-- 'laws.FnExactFirstSum': WHATEVER THE INPUT: true; the input reads as it did. -/
def fnExactFirstSumSpec : ChangeSpec := { name := "fnExactFirstSum", fn := fun _ => fun
  | [d] => { results := [.lit (.bool true)], args := [d] }
  | _ => none }
def fnExactFirstSumRow : OpenClaim := { program := "ytbleeakcmmpcgaa", sum := "398e855fbd05c17702f61779dec7c0140bc6661cf4bde0d15ac6ec0f24000d9c", func := "loop.example/g01141/laws.FnExactFirstSum", spec := "fnExactFirstSum", apart := false }
def FnExactFirstSumSaid : Prop := fnExactFirstSumRow.holds Try.pinned (OpenSpec.ofChange fnExactFirstSumSpec)

/-- ITS FALSE NEIGHBOUR: 'it returns false'. Refute it at one input. -/
def fnExactFirstSumWrong : ChangeSpec := { name := "fnExactFirstSum", fn := fun _ => fun
  | [d] => { results := [.lit (.bool false)], args := [d] }
  | _ => none }
def FnExactFirstSumWrongFalsely : Prop := fnExactFirstSumRow.holds Try.pinned (OpenSpec.ofChange fnExactFirstSumWrong)

/-- 'laws.FnExactFirstLoud': WHATEVER THE INPUT: true; the input reads as it did. -/
def fnExactFirstLoudSpec : ChangeSpec := { name := "fnExactFirstLoud", fn := fun _ => fun
  | [d] => { results := [.lit (.bool true)], args := [d] }
  | _ => none }
def fnExactFirstLoudRow : OpenClaim := { program := "ytbleeakcmmpcgaa", sum := "398e855fbd05c17702f61779dec7c0140bc6661cf4bde0d15ac6ec0f24000d9c", func := "loop.example/g01141/laws.FnExactFirstLoud", spec := "fnExactFirstLoud", apart := false }
def FnExactFirstLoudSaid : Prop := fnExactFirstLoudRow.holds Try.pinned (OpenSpec.ofChange fnExactFirstLoudSpec)

/-- ITS FALSE NEIGHBOUR: 'it returns false'. Refute it at one input. -/
def fnExactFirstLoudWrong : ChangeSpec := { name := "fnExactFirstLoud", fn := fun _ => fun
  | [d] => { results := [.lit (.bool false)], args := [d] }
  | _ => none }
def FnExactFirstLoudWrongFalsely : Prop := fnExactFirstLoudRow.holds Try.pinned (OpenSpec.ofChange fnExactFirstLoudWrong)

/-- 'laws.FnExactIsQuiet': WHATEVER THE INPUT: true; the input reads as it did. -/
def fnExactIsQuietSpec : ChangeSpec := { name := "fnExactIsQuiet", fn := fun _ => fun
  | [d] => { results := [.lit (.bool true)], args := [d] }
  | _ => none }
def fnExactIsQuietRow : OpenClaim := { program := "ytbleeakcmmpcgaa", sum := "398e855fbd05c17702f61779dec7c0140bc6661cf4bde0d15ac6ec0f24000d9c", func := "loop.example/g01141/laws.FnExactIsQuiet", spec := "fnExactIsQuiet", apart := false }
def FnExactIsQuietSaid : Prop := fnExactIsQuietRow.holds Try.pinned (OpenSpec.ofChange fnExactIsQuietSpec)

/-- ITS FALSE NEIGHBOUR: 'it returns false'. Refute it at one input. -/
def fnExactIsQuietWrong : ChangeSpec := { name := "fnExactIsQuiet", fn := fun _ => fun
  | [d] => { results := [.lit (.bool false)], args := [d] }
  | _ => none }
def FnExactIsQuietWrongFalsely : Prop := fnExactIsQuietRow.holds Try.pinned (OpenSpec.ofChange fnExactIsQuietWrong)

/-- 'laws.FnExactAnswerCounts': WHATEVER THE INPUT: true; the input reads as it did. -/
def fnExactAnswerCountsSpec : ChangeSpec := { name := "fnExactAnswerCounts", fn := fun _ => fun
  | [d] => { results := [.lit (.bool true)], args := [d] }
  | _ => none }
def fnExactAnswerCountsRow : OpenClaim := { program := "ytbleeakcmmpcgaa", sum := "398e855fbd05c17702f61779dec7c0140bc6661cf4bde0d15ac6ec0f24000d9c", func := "loop.example/g01141/laws.FnExactAnswerCounts", spec := "fnExactAnswerCounts", apart := false }
def FnExactAnswerCountsSaid : Prop := fnExactAnswerCountsRow.holds Try.pinned (OpenSpec.ofChange fnExactAnswerCountsSpec)

/-- ITS FALSE NEIGHBOUR: 'it returns false'. Refute it at one input. -/
def fnExactAnswerCountsWrong : ChangeSpec := { name := "fnExactAnswerCounts", fn := fun _ => fun
  | [d] => { results := [.lit (.bool false)], args := [d] }
  | _ => none }
def FnExactAnswerCountsWrongFalsely : Prop := fnExactAnswerCountsRow.holds Try.pinned (OpenSpec.ofChange fnExactAnswerCountsWrong)

/-- 'laws.FnExactTripleWorth': WHATEVER THE INPUT: true; the input reads as it did. -/
def fnExactTripleWorthSpec : ChangeSpec := { name := "fnExactTripleWorth", fn := fun _ => fun
  | [d] => { results := [.lit (.bool true)], args := [d] }
  | _ => none }
def fnExactTripleWorthRow : OpenClaim := { program := "ytbleeakcmmpcgaa", sum := "398e855fbd05c17702f61779dec7c0140bc6661cf4bde0d15ac6ec0f24000d9c", func := "loop.example/g01141/laws.FnExactTripleWorth", spec := "fnExactTripleWorth", unfollowed := true, recurses := true, apart := false }
def FnExactTripleWorthSaid : Prop := fnExactTripleWorthRow.holds Try.pinned (OpenSpec.ofChange fnExactTripleWorthSpec)

/-- ITS FALSE NEIGHBOUR: 'it returns false'. Refute it at one input. -/
def fnExactTripleWorthWrong : ChangeSpec := { name := "fnExactTripleWorth", fn := fun _ => fun
  | [d] => { results := [.lit (.bool false)], args := [d] }
  | _ => none }
def FnExactTripleWorthWrongFalsely : Prop := fnExactTripleWorthRow.holds Try.pinned (OpenSpec.ofChange fnExactTripleWorthWrong)

/- THE SECOND FORM. 'bulk': how many values and letters a reading holds, each counted each time it is reached (what is shared counts as often as it is met; a slice's spare places count too). A statement '..UptoSaid' is the law's where the arguments, and the package variables that the reading takes, are together of bulk at most 1048576: NARROWER than '..Said'. Prove '..Said' where nothing that the law and all that it calls make is longer than what came in: it says more and counts as full. Else prove '..UptoSaid'. A law counts once. -/
mutual
def uptoBulk {H : Type} : DataW H → Nat
  | .lit (.string bytes) => bytes.length + 1
  | .lit _ => 1
  | .nil => 1
  | .ptr d => uptoBulk d + 1
  | .slice elems spare => uptoBulkAll elems + uptoBulkAll spare + 1
  | .agg parts => uptoBulkAll parts + 1
  | .iface _ d => uptoBulk d + 1
  | .map entries => uptoBulkEntries entries + 1
  | .held _ => 1
def uptoBulkAll {H : Type} : List (DataW H) → Nat
  | [] => 0
  | d :: r => uptoBulk d + uptoBulkAll r
def uptoBulkEntries {H : Type} : List (Lit × DataW H) → Nat
  | [] => 0
  | x :: r => uptoBulkEntry x + uptoBulkEntries r
def uptoBulkEntry {H : Type} : Lit × DataW H → Nat
  | (.string bytes, d) => bytes.length + uptoBulk d + 1
  | (_, d) => uptoBulk d + 1
 end
def uptoSmall : (H : Type) → List (DataW H) → Bool := fun _ ds => decide (uptoBulkAll ds ≤ 1048576)
def OpenSpec.upto (s : _root_.Go.ChangeSpec) : _root_.Go.OpenSpec := { _root_.Go.OpenSpec.ofChange s with cond := some uptoSmall }

/-- 'laws.FnExactLocalValue', WHERE WHAT IT READS IS OF BULK AT MOST 1048576: true; the input reads as it did. -/
def fnExactLocalValueUptoRow : OpenClaim := { program := "ytbleeakcmmpcgaa", sum := "398e855fbd05c17702f61779dec7c0140bc6661cf4bde0d15ac6ec0f24000d9c", func := "loop.example/g01141/laws.FnExactLocalValue", spec := "fnExactLocalValue", apart := false, narrowed := true }
def FnExactLocalValueUptoSaid : Prop := fnExactLocalValueUptoRow.holds Try.pinned (OpenSpec.upto fnExactLocalValueSpec)

/-- 'laws.FnExactBestPlays', WHERE WHAT IT READS IS OF BULK AT MOST 1048576: true; the input reads as it did. -/
def fnExactBestPlaysUptoRow : OpenClaim := { program := "ytbleeakcmmpcgaa", sum := "398e855fbd05c17702f61779dec7c0140bc6661cf4bde0d15ac6ec0f24000d9c", func := "loop.example/g01141/laws.FnExactBestPlays", spec := "fnExactBestPlays", apart := false, narrowed := true }
def FnExactBestPlaysUptoSaid : Prop := fnExactBestPlaysUptoRow.holds Try.pinned (OpenSpec.upto fnExactBestPlaysSpec)

/-- 'laws.FnExactMixtureBox', WHERE WHAT IT READS IS OF BULK AT MOST 1048576: true; the input reads as it did. -/
def fnExactMixtureBoxUptoRow : OpenClaim := { program := "ytbleeakcmmpcgaa", sum := "398e855fbd05c17702f61779dec7c0140bc6661cf4bde0d15ac6ec0f24000d9c", func := "loop.example/g01141/laws.FnExactMixtureBox", spec := "fnExactMixtureBox", unfollowed := true, recurses := true, apart := false, narrowed := true }
def FnExactMixtureBoxUptoSaid : Prop := fnExactMixtureBoxUptoRow.holds Try.pinned (OpenSpec.upto fnExactMixtureBoxSpec)

/-- 'laws.FnExactIsMixture', WHERE WHAT IT READS IS OF BULK AT MOST 1048576: true; the input reads as it did. -/
def fnExactIsMixtureUptoRow : OpenClaim := { program := "ytbleeakcmmpcgaa", sum := "398e855fbd05c17702f61779dec7c0140bc6661cf4bde0d15ac6ec0f24000d9c", func := "loop.example/g01141/laws.FnExactIsMixture", spec := "fnExactIsMixture", unfollowed := true, recurses := true, apart := false, narrowed := true }
def FnExactIsMixtureUptoSaid : Prop := fnExactIsMixtureUptoRow.holds Try.pinned (OpenSpec.upto fnExactIsMixtureSpec)

/-- 'laws.FnExactIsWitness', WHERE WHAT IT READS IS OF BULK AT MOST 1048576: true; the input reads as it did. -/
def fnExactIsWitnessUptoRow : OpenClaim := { program := "ytbleeakcmmpcgaa", sum := "398e855fbd05c17702f61779dec7c0140bc6661cf4bde0d15ac6ec0f24000d9c", func := "loop.example/g01141/laws.FnExactIsWitness", spec := "fnExactIsWitness", apart := false, narrowed := true }
def FnExactIsWitnessUptoSaid : Prop := fnExactIsWitnessUptoRow.holds Try.pinned (OpenSpec.upto fnExactIsWitnessSpec)

/-- 'laws.FnExactSumOf', WHERE WHAT IT READS IS OF BULK AT MOST 1048576: true; the input reads as it did. -/
def fnExactSumOfUptoRow : OpenClaim := { program := "ytbleeakcmmpcgaa", sum := "398e855fbd05c17702f61779dec7c0140bc6661cf4bde0d15ac6ec0f24000d9c", func := "loop.example/g01141/laws.FnExactSumOf", spec := "fnExactSumOf", apart := false, narrowed := true }
def FnExactSumOfUptoSaid : Prop := fnExactSumOfUptoRow.holds Try.pinned (OpenSpec.upto fnExactSumOfSpec)

/-- 'laws.FnExactGreatestSum', WHERE WHAT IT READS IS OF BULK AT MOST 1048576: true; the input reads as it did. -/
def fnExactGreatestSumUptoRow : OpenClaim := { program := "ytbleeakcmmpcgaa", sum := "398e855fbd05c17702f61779dec7c0140bc6661cf4bde0d15ac6ec0f24000d9c", func := "loop.example/g01141/laws.FnExactGreatestSum", spec := "fnExactGreatestSum", apart := false, narrowed := true }
def FnExactGreatestSumUptoSaid : Prop := fnExactGreatestSumUptoRow.holds Try.pinned (OpenSpec.upto fnExactGreatestSumSpec)

/-- 'laws.FnExactFirstSum', WHERE WHAT IT READS IS OF BULK AT MOST 1048576: true; the input reads as it did. -/
def fnExactFirstSumUptoRow : OpenClaim := { program := "ytbleeakcmmpcgaa", sum := "398e855fbd05c17702f61779dec7c0140bc6661cf4bde0d15ac6ec0f24000d9c", func := "loop.example/g01141/laws.FnExactFirstSum", spec := "fnExactFirstSum", apart := false, narrowed := true }
def FnExactFirstSumUptoSaid : Prop := fnExactFirstSumUptoRow.holds Try.pinned (OpenSpec.upto fnExactFirstSumSpec)

/-- 'laws.FnExactFirstLoud', WHERE WHAT IT READS IS OF BULK AT MOST 1048576: true; the input reads as it did. -/
def fnExactFirstLoudUptoRow : OpenClaim := { program := "ytbleeakcmmpcgaa", sum := "398e855fbd05c17702f61779dec7c0140bc6661cf4bde0d15ac6ec0f24000d9c", func := "loop.example/g01141/laws.FnExactFirstLoud", spec := "fnExactFirstLoud", apart := false, narrowed := true }
def FnExactFirstLoudUptoSaid : Prop := fnExactFirstLoudUptoRow.holds Try.pinned (OpenSpec.upto fnExactFirstLoudSpec)

/-- 'laws.FnExactIsQuiet', WHERE WHAT IT READS IS OF BULK AT MOST 1048576: true; the input reads as it did. -/
def fnExactIsQuietUptoRow : OpenClaim := { program := "ytbleeakcmmpcgaa", sum := "398e855fbd05c17702f61779dec7c0140bc6661cf4bde0d15ac6ec0f24000d9c", func := "loop.example/g01141/laws.FnExactIsQuiet", spec := "fnExactIsQuiet", apart := false, narrowed := true }
def FnExactIsQuietUptoSaid : Prop := fnExactIsQuietUptoRow.holds Try.pinned (OpenSpec.upto fnExactIsQuietSpec)

/-- 'laws.FnExactAnswerCounts', WHERE WHAT IT READS IS OF BULK AT MOST 1048576: true; the input reads as it did. -/
def fnExactAnswerCountsUptoRow : OpenClaim := { program := "ytbleeakcmmpcgaa", sum := "398e855fbd05c17702f61779dec7c0140bc6661cf4bde0d15ac6ec0f24000d9c", func := "loop.example/g01141/laws.FnExactAnswerCounts", spec := "fnExactAnswerCounts", apart := false, narrowed := true }
def FnExactAnswerCountsUptoSaid : Prop := fnExactAnswerCountsUptoRow.holds Try.pinned (OpenSpec.upto fnExactAnswerCountsSpec)

/-- 'laws.FnExactTripleWorth', WHERE WHAT IT READS IS OF BULK AT MOST 1048576: true; the input reads as it did. -/
def fnExactTripleWorthUptoRow : OpenClaim := { program := "ytbleeakcmmpcgaa", sum := "398e855fbd05c17702f61779dec7c0140bc6661cf4bde0d15ac6ec0f24000d9c", func := "loop.example/g01141/laws.FnExactTripleWorth", spec := "fnExactTripleWorth", unfollowed := true, recurses := true, apart := false, narrowed := true }
def FnExactTripleWorthUptoSaid : Prop := fnExactTripleWorthUptoRow.holds Try.pinned (OpenSpec.upto fnExactTripleWorthSpec)

end Rows
end Go.Proofs.Ytbleeakcmmpcgaa
