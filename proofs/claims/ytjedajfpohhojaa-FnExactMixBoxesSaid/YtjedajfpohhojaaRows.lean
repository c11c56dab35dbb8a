/-
  No cell of these rows narrows 'for every input' (looked for: loops, veiled, ifaces, maps, wideKeys, modest, calm, conditions, laid).
  DERIVED. THE GIVEN ROWS OF THIS SEAT. 12 by the template 'for every input the law returns true; each argument reads behind the call as it read before'; 0 by the template 'total and deterministic' (their statements: YtjedajfpohhojaaTotals.lean).
  GIVEN WITH THE SEED: the statements are not yours to turn. If you find one false, say at which input.
  Laid BY PROGRAM, IN A SANDBOX (cutbox-rows.mjs): the forced cells as the released guide's own fill.sh prints them over the translation ca1d3e6671f17227… (all of the seat's roots in one cut). By AI agents, Wed Nov 11 2026. No macro, syntax, notation, axiom, sorry.
-/
import Derived.Test.YtjedajfpohhojaaChecked
import GoSem.Claim
import GoSem.ClaimJoined
import GoSem.ClaimMapViews
import Derived.JoinedTies
import Derived.KernelRfl
namespace Go.Proofs.Ytjedajfpohhojaa
/- THE CELL 'sum', in the pinned program and in every row, IS THE sha256 OF THE DUMP (.gsa) THAT YtjedajfpohhojaaProg.lean LOADS. Nothing in Lean hashes anything: it is a label: what it is worth is what the hold of that sum in a sandbox is worth. -/
noncomputable def Try.pinned : Pinned := { name := "ytjedajfpohhojaa", sum := "ca1d3e6671f172271ae82afc294eb94e0fceaeae9df2bb75969811b2f38f233b", checked := Try.checked }
namespace Rows
def none {H : Type} : Left H := { results := [], args := [] }

/-- 'laws.FnExactPlayBox': WHATEVER THE INPUT: true; the input reads as it did. -/
def fnExactPlayBoxSpec : ChangeSpec := { name := "fnExactPlayBox", fn := fun _ => fun
  | [d1, d2, d3, d4] => { results := [.lit (.bool true)], args := [d1, d2, d3, d4] }
  | _ => none }
def fnExactPlayBoxRow : OpenClaim := { program := "ytjedajfpohhojaa", sum := "ca1d3e6671f172271ae82afc294eb94e0fceaeae9df2bb75969811b2f38f233b", func := "loop.example/g01141/laws.FnExactPlayBox", spec := "fnExactPlayBox", unfollowed := true, recurses := true, apart := false }
def FnExactPlayBoxSaid : Prop := fnExactPlayBoxRow.holds Try.pinned (OpenSpec.ofChange fnExactPlayBoxSpec)

/-- ITS FALSE NEIGHBOUR: 'it returns false'. Refute it at one input. -/
def fnExactPlayBoxWrong : ChangeSpec := { name := "fnExactPlayBox", fn := fun _ => fun
  | [d1, d2, d3, d4] => { results := [.lit (.bool false)], args := [d1, d2, d3, d4] }
  | _ => none }
def FnExactPlayBoxWrongFalsely : Prop := fnExactPlayBoxRow.holds Try.pinned (OpenSpec.ofChange fnExactPlayBoxWrong)

/-- 'laws.FnExactPlayWorth': WHATEVER THE INPUT: true; the input reads as it did. -/
def fnExactPlayWorthSpec : ChangeSpec := { name := "fnExactPlayWorth", fn := fun _ => fun
  | [d1, d2, d3, d4] => { results := [.lit (.bool true)], args := [d1, d2, d3, d4] }
  | _ => none }
def fnExactPlayWorthRow : OpenClaim := { program := "ytjedajfpohhojaa", sum := "ca1d3e6671f172271ae82afc294eb94e0fceaeae9df2bb75969811b2f38f233b", func := "loop.example/g01141/laws.FnExactPlayWorth", spec := "fnExactPlayWorth", apart := false }
def FnExactPlayWorthSaid : Prop := fnExactPlayWorthRow.holds Try.pinned (OpenSpec.ofChange fnExactPlayWorthSpec)

/-- ITS FALSE NEIGHBOUR: 'it returns false'. Refute it at one input. -/
def fnExactPlayWorthWrong : ChangeSpec := { name := "fnExactPlayWorth", fn := fun _ => fun
  | [d1, d2, d3, d4] => { results := [.lit (.bool false)], args := [d1, d2, d3, d4] }
  | _ => none }
def FnExactPlayWorthWrongFalsely : Prop := fnExactPlayWorthRow.holds Try.pinned (OpenSpec.ofChange fnExactPlayWorthWrong)

/-- 'laws.FnExactMixBoxes': WHATEVER THE INPUT: true; the input reads as it did. -/
def fnExactMixBoxesSpec : ChangeSpec := { name := "fnExactMixBoxes", fn := fun _ => fun
  | [d1, d2] => { results := [.lit (.bool true)], args := [d1, d2] }
  | _ => none }
def fnExactMixBoxesRow : OpenClaim := { program := "ytjedajfpohhojaa", sum := "ca1d3e6671f172271ae82afc294eb94e0fceaeae9df2bb75969811b2f38f233b", func := "loop.example/g01141/laws.FnExactMixBoxes", spec := "fnExactMixBoxes", unfollowed := true, recurses := true, apart := false }
def FnExactMixBoxesSaid : Prop := fnExactMixBoxesRow.holds Try.pinned (OpenSpec.ofChange fnExactMixBoxesSpec)

/-- ITS FALSE NEIGHBOUR: 'it returns false'. Refute it at one input. -/
def fnExactMixBoxesWrong : ChangeSpec := { name := "fnExactMixBoxes", fn := fun _ => fun
  | [d1, d2] => { results := [.lit (.bool false)], args := [d1, d2] }
  | _ => none }
def FnExactMixBoxesWrongFalsely : Prop := fnExactMixBoxesRow.holds Try.pinned (OpenSpec.ofChange fnExactMixBoxesWrong)

/-- 'laws.FnExactScaleBox': WHATEVER THE INPUT: true; the input reads as it did. -/
def fnExactScaleBoxSpec : ChangeSpec := { name := "fnExactScaleBox", fn := fun _ => fun
  | [d1, d2] => { results := [.lit (.bool true)], args := [d1, d2] }
  | _ => none }
def fnExactScaleBoxRow : OpenClaim := { program := "ytjedajfpohhojaa", sum := "ca1d3e6671f172271ae82afc294eb94e0fceaeae9df2bb75969811b2f38f233b", func := "loop.example/g01141/laws.FnExactScaleBox", spec := "fnExactScaleBox", unfollowed := true, recurses := true, apart := false }
def FnExactScaleBoxSaid : Prop := fnExactScaleBoxRow.holds Try.pinned (OpenSpec.ofChange fnExactScaleBoxSpec)

/-- ITS FALSE NEIGHBOUR: 'it returns false'. Refute it at one input. -/
def fnExactScaleBoxWrong : ChangeSpec := { name := "fnExactScaleBox", fn := fun _ => fun
  | [d1, d2] => { results := [.lit (.bool false)], args := [d1, d2] }
  | _ => none }
def FnExactScaleBoxWrongFalsely : Prop := fnExactScaleBoxRow.holds Try.pinned (OpenSpec.ofChange fnExactScaleBoxWrong)

/-- 'laws.FnExactSwapPlayers': WHATEVER THE INPUT: true; the input reads as it did. -/
def fnExactSwapPlayersSpec : ChangeSpec := { name := "fnExactSwapPlayers", fn := fun _ => fun
  | [d] => { results := [.lit (.bool true)], args := [d] }
  | _ => none }
def fnExactSwapPlayersRow : OpenClaim := { program := "ytjedajfpohhojaa", sum := "ca1d3e6671f172271ae82afc294eb94e0fceaeae9df2bb75969811b2f38f233b", func := "loop.example/g01141/laws.FnExactSwapPlayers", spec := "fnExactSwapPlayers", unfollowed := true, recurses := true, apart := false }
def FnExactSwapPlayersSaid : Prop := fnExactSwapPlayersRow.holds Try.pinned (OpenSpec.ofChange fnExactSwapPlayersSpec)

/-- ITS FALSE NEIGHBOUR: 'it returns false'. Refute it at one input. -/
def fnExactSwapPlayersWrong : ChangeSpec := { name := "fnExactSwapPlayers", fn := fun _ => fun
  | [d] => { results := [.lit (.bool false)], args := [d] }
  | _ => none }
def FnExactSwapPlayersWrongFalsely : Prop := fnExactSwapPlayersRow.holds Try.pinned (OpenSpec.ofChange fnExactSwapPlayersWrong)

/-- 'laws.FnExactAskAgain': WHATEVER THE INPUT: true; the input reads as it did. -/
def fnExactAskAgainSpec : ChangeSpec := { name := "fnExactAskAgain", fn := fun _ => fun
  | [d1, d2, d3] => { results := [.lit (.bool true)], args := [d1, d2, d3] }
  | _ => none }
def fnExactAskAgainRow : OpenClaim := { program := "ytjedajfpohhojaa", sum := "ca1d3e6671f172271ae82afc294eb94e0fceaeae9df2bb75969811b2f38f233b", func := "loop.example/g01141/laws.FnExactAskAgain", spec := "fnExactAskAgain", unfollowed := true, recurses := true, apart := false }
def FnExactAskAgainSaid : Prop := fnExactAskAgainRow.holds Try.pinned (OpenSpec.ofChange fnExactAskAgainSpec)

/-- ITS FALSE NEIGHBOUR: 'it returns false'. Refute it at one input. -/
def fnExactAskAgainWrong : ChangeSpec := { name := "fnExactAskAgain", fn := fun _ => fun
  | [d1, d2, d3] => { results := [.lit (.bool false)], args := [d1, d2, d3] }
  | _ => none }
def FnExactAskAgainWrongFalsely : Prop := fnExactAskAgainRow.holds Try.pinned (OpenSpec.ofChange fnExactAskAgainWrong)

/-- 'laws.FnExactFlipAnswers': WHATEVER THE INPUT: true; the input reads as it did. -/
def fnExactFlipAnswersSpec : ChangeSpec := { name := "fnExactFlipAnswers", fn := fun _ => fun
  | [d1, d2] => { results := [.lit (.bool true)], args := [d1, d2] }
  | _ => none }
def fnExactFlipAnswersRow : OpenClaim := { program := "ytjedajfpohhojaa", sum := "ca1d3e6671f172271ae82afc294eb94e0fceaeae9df2bb75969811b2f38f233b", func := "loop.example/g01141/laws.FnExactFlipAnswers", spec := "fnExactFlipAnswers", unfollowed := true, recurses := true, apart := false }
def FnExactFlipAnswersSaid : Prop := fnExactFlipAnswersRow.holds Try.pinned (OpenSpec.ofChange fnExactFlipAnswersSpec)

/-- ITS FALSE NEIGHBOUR: 'it returns false'. Refute it at one input. -/
def fnExactFlipAnswersWrong : ChangeSpec := { name := "fnExactFlipAnswers", fn := fun _ => fun
  | [d1, d2] => { results := [.lit (.bool false)], args := [d1, d2] }
  | _ => none }
def FnExactFlipAnswersWrongFalsely : Prop := fnExactFlipAnswersRow.holds Try.pinned (OpenSpec.ofChange fnExactFlipAnswersWrong)

/-- 'laws.FnExactReduceBox': WHATEVER THE INPUT: true; the input reads as it did. -/
def fnExactReduceBoxSpec : ChangeSpec := { name := "fnExactReduceBox", fn := fun _ => fun
  | [d] => { results := [.lit (.bool true)], args := [d] }
  | _ => none }
def fnExactReduceBoxRow : OpenClaim := { program := "ytjedajfpohhojaa", sum := "ca1d3e6671f172271ae82afc294eb94e0fceaeae9df2bb75969811b2f38f233b", func := "loop.example/g01141/laws.FnExactReduceBox", spec := "fnExactReduceBox", unfollowed := true, recurses := true, apart := false }
def FnExactReduceBoxSaid : Prop := fnExactReduceBoxRow.holds Try.pinned (OpenSpec.ofChange fnExactReduceBoxSpec)

/-- ITS FALSE NEIGHBOUR: 'it returns false'. Refute it at one input. -/
def fnExactReduceBoxWrong : ChangeSpec := { name := "fnExactReduceBox", fn := fun _ => fun
  | [d] => { results := [.lit (.bool false)], args := [d] }
  | _ => none }
def FnExactReduceBoxWrongFalsely : Prop := fnExactReduceBoxRow.holds Try.pinned (OpenSpec.ofChange fnExactReduceBoxWrong)

/-- 'laws.FnExactAreAlike': WHATEVER THE INPUT: true; the input reads as it did. -/
def fnExactAreAlikeSpec : ChangeSpec := { name := "fnExactAreAlike", fn := fun _ => fun
  | [d1, d2] => { results := [.lit (.bool true)], args := [d1, d2] }
  | _ => none }
def fnExactAreAlikeRow : OpenClaim := { program := "ytjedajfpohhojaa", sum := "ca1d3e6671f172271ae82afc294eb94e0fceaeae9df2bb75969811b2f38f233b", func := "loop.example/g01141/laws.FnExactAreAlike", spec := "fnExactAreAlike", apart := false }
def FnExactAreAlikeSaid : Prop := fnExactAreAlikeRow.holds Try.pinned (OpenSpec.ofChange fnExactAreAlikeSpec)

/-- ITS FALSE NEIGHBOUR: 'it returns false'. Refute it at one input. -/
def fnExactAreAlikeWrong : ChangeSpec := { name := "fnExactAreAlike", fn := fun _ => fun
  | [d1, d2] => { results := [.lit (.bool false)], args := [d1, d2] }
  | _ => none }
def FnExactAreAlikeWrongFalsely : Prop := fnExactAreAlikeRow.holds Try.pinned (OpenSpec.ofChange fnExactAreAlikeWrong)

/-- 'laws.FnExactAgreementsOf': WHATEVER THE INPUT: true; the input reads as it did. -/
def fnExactAgreementsOfSpec : ChangeSpec := { name := "fnExactAgreementsOf", fn := fun _ => fun
  | [d] => { results := [.lit (.bool true)], args := [d] }
  | _ => none }
def fnExactAgreementsOfRow : OpenClaim := { program := "ytjedajfpohhojaa", sum := "ca1d3e6671f172271ae82afc294eb94e0fceaeae9df2bb75969811b2f38f233b", func := "loop.example/g01141/laws.FnExactAgreementsOf", spec := "fnExactAgreementsOf", apart := false }
def FnExactAgreementsOfSaid : Prop := fnExactAgreementsOfRow.holds Try.pinned (OpenSpec.ofChange fnExactAgreementsOfSpec)

/-- ITS FALSE NEIGHBOUR: 'it returns false'. Refute it at one input. -/
def fnExactAgreementsOfWrong : ChangeSpec := { name := "fnExactAgreementsOf", fn := fun _ => fun
  | [d] => { results := [.lit (.bool false)], args := [d] }
  | _ => none }
def FnExactAgreementsOfWrongFalsely : Prop := fnExactAgreementsOfRow.holds Try.pinned (OpenSpec.ofChange fnExactAgreementsOfWrong)

/-- 'laws.FnExactPlayOf': WHATEVER THE INPUT: true; the input reads as it did. -/
def fnExactPlayOfSpec : ChangeSpec := { name := "fnExactPlayOf", fn := fun _ => fun
  | [d] => { results := [.lit (.bool true)], args := [d] }
  | _ => none }
def fnExactPlayOfRow : OpenClaim := { program := "ytjedajfpohhojaa", sum := "ca1d3e6671f172271ae82afc294eb94e0fceaeae9df2bb75969811b2f38f233b", func := "loop.example/g01141/laws.FnExactPlayOf", spec := "fnExactPlayOf", unfollowed := true, recurses := true, apart := false }
def FnExactPlayOfSaid : Prop := fnExactPlayOfRow.holds Try.pinned (OpenSpec.ofChange fnExactPlayOfSpec)

/-- ITS FALSE NEIGHBOUR: 'it returns false'. Refute it at one input. -/
def fnExactPlayOfWrong : ChangeSpec := { name := "fnExactPlayOf", fn := fun _ => fun
  | [d] => { results := [.lit (.bool false)], args := [d] }
  | _ => none }
def FnExactPlayOfWrongFalsely : Prop := fnExactPlayOfRow.holds Try.pinned (OpenSpec.ofChange fnExactPlayOfWrong)

/-- 'laws.FnExactWorthOf': WHATEVER THE INPUT: true; the input reads as it did. -/
def fnExactWorthOfSpec : ChangeSpec := { name := "fnExactWorthOf", fn := fun _ => fun
  | [d1, d2] => { results := [.lit (.bool true)], args := [d1, d2] }
  | _ => none }
def fnExactWorthOfRow : OpenClaim := { program := "ytjedajfpohhojaa", sum := "ca1d3e6671f172271ae82afc294eb94e0fceaeae9df2bb75969811b2f38f233b", func := "loop.example/g01141/laws.FnExactWorthOf", spec := "fnExactWorthOf", apart := false }
def FnExactWorthOfSaid : Prop := fnExactWorthOfRow.holds Try.pinned (OpenSpec.ofChange fnExactWorthOfSpec)

/-- ITS FALSE NEIGHBOUR: 'it returns false'. Refute it at one input. -/
def fnExactWorthOfWrong : ChangeSpec := { name := "fnExactWorthOf", fn := fun _ => fun
  | [d1, d2] => { results := [.lit (.bool false)], args := [d1, d2] }
  | _ => none }
def FnExactWorthOfWrongFalsely : Prop := fnExactWorthOfRow.holds Try.pinned (OpenSpec.ofChange fnExactWorthOfWrong)

/- THE SECOND FORM. 'bulk': how many values and letters a reading holds, each counted each time it is reached (what is shared counts as often as it is met; a slice's spare places count too). A statement '..UptoSaid' is the law's where the arguments, and the package variables that the reading takes, are together of bulk at most 1048576: NARROWER than '..Said'. Prove '..Said' where nothing that the law and all that it calls make is longer than what came in: it says more and counts as full. Else prove '..UptoSaid'. A law counts once. -/
mutual
def uptoBulk {H : Type} : DataW H → Nat
  | .lit (.string bytes) => bytes.length + 1
  | .lit _ => 1
  | .nil => 1
  | .ptr d => uptoBulk d + 1
  | .slice elems spare => uptoBulkAll elems + uptoBulkAll spare + 1
  | .agg parts => uptoBulkAll parts + 1
  | .iface _ d => uptoBulk d + 1
  | .map entries => uptoBulkEntries entries + 1
  | .held _ => 1
def uptoBulkAll {H : Type} : List (DataW H) → Nat
  | [] => 0
  | d :: r => uptoBulk d + uptoBulkAll r
def uptoBulkEntries {H : Type} : List (Lit × DataW H) → Nat
  | [] => 0
  | x :: r => uptoBulkEntry x + uptoBulkEntries r
def uptoBulkEntry {H : Type} : Lit × DataW H → Nat
  | (.string bytes, d) => bytes.length + uptoBulk d + 1
  | (_, d) => uptoBulk d + 1
 end
def uptoSmall : (H : Type) → List (DataW H) → Bool := fun _ ds => decide (uptoBulkAll ds ≤ 1048576)
def OpenSpec.upto (s : _root_.Go.ChangeSpec) : _root_.Go.OpenSpec := { _root_.Go.OpenSpec.ofChange s with cond := some uptoSmall }

/-- 'laws.FnExactPlayBox', WHERE WHAT IT READS IS OF BULK AT MOST 1048576: true; the input reads as it did. -/
def fnExactPlayBoxUptoRow : OpenClaim := { program := "ytjedajfpohhojaa", sum := "ca1d3e6671f172271ae82afc294eb94e0fceaeae9df2bb75969811b2f38f233b", func := "loop.example/g01141/laws.FnExactPlayBox", spec := "fnExactPlayBox", unfollowed := true, recurses := true, apart := false, narrowed := true }
def FnExactPlayBoxUptoSaid : Prop := fnExactPlayBoxUptoRow.holds Try.pinned (OpenSpec.upto fnExactPlayBoxSpec)

/-- 'laws.FnExactPlayWorth', WHERE WHAT IT READS IS OF BULK AT MOST 1048576: true; the input reads as it did. -/
def fnExactPlayWorthUptoRow : OpenClaim := { program := "ytjedajfpohhojaa", sum := "ca1d3e6671f172271ae82afc294eb94e0fceaeae9df2bb75969811b2f38f233b", func := "loop.example/g01141/laws.FnExactPlayWorth", spec := "fnExactPlayWorth", apart := false, narrowed := true }
def FnExactPlayWorthUptoSaid : Prop := fnExactPlayWorthUptoRow.holds Try.pinned (OpenSpec.upto fnExactPlayWorthSpec)

/-- 'laws.FnExactMixBoxes', WHERE WHAT IT READS IS OF BULK AT MOST 1048576: true; the input reads as it did. -/
def fnExactMixBoxesUptoRow : OpenClaim := { program := "ytjedajfpohhojaa", sum := "ca1d3e6671f172271ae82afc294eb94e0fceaeae9df2bb75969811b2f38f233b", func := "loop.example/g01141/laws.FnExactMixBoxes", spec := "fnExactMixBoxes", unfollowed := true, recurses := true, apart := false, narrowed := true }
def FnExactMixBoxesUptoSaid : Prop := fnExactMixBoxesUptoRow.holds Try.pinned (OpenSpec.upto fnExactMixBoxesSpec)

/-- 'laws.FnExactScaleBox', WHERE WHAT IT READS IS OF BULK AT MOST 1048576: true; the input reads as it did. -/
def fnExactScaleBoxUptoRow : OpenClaim := { program := "ytjedajfpohhojaa", sum := "ca1d3e6671f172271ae82afc294eb94e0fceaeae9df2bb75969811b2f38f233b", func := "loop.example/g01141/laws.FnExactScaleBox", spec := "fnExactScaleBox", unfollowed := true, recurses := true, apart := false, narrowed := true }
def FnExactScaleBoxUptoSaid : Prop := fnExactScaleBoxUptoRow.holds Try.pinned (OpenSpec.upto fnExactScaleBoxSpec)

/-- 'laws.FnExactSwapPlayers', WHERE WHAT IT READS IS OF BULK AT MOST 1048576: true; the input reads as it did. -/
def fnExactSwapPlayersUptoRow : OpenClaim := { program := "ytjedajfpohhojaa", sum := "ca1d3e6671f172271ae82afc294eb94e0fceaeae9df2bb75969811b2f38f233b", func := "loop.example/g01141/laws.FnExactSwapPlayers", spec := "fnExactSwapPlayers", unfollowed := true, recurses := true, apart := false, narrowed := true }
def FnExactSwapPlayersUptoSaid : Prop := fnExactSwapPlayersUptoRow.holds Try.pinned (OpenSpec.upto fnExactSwapPlayersSpec)

/-- 'laws.FnExactAskAgain', WHERE WHAT IT READS IS OF BULK AT MOST 1048576: true; the input reads as it did. -/
def fnExactAskAgainUptoRow : OpenClaim := { program := "ytjedajfpohhojaa", sum := "ca1d3e6671f172271ae82afc294eb94e0fceaeae9df2bb75969811b2f38f233b", func := "loop.example/g01141/laws.FnExactAskAgain", spec := "fnExactAskAgain", unfollowed := true, recurses := true, apart := false, narrowed := true }
def FnExactAskAgainUptoSaid : Prop := fnExactAskAgainUptoRow.holds Try.pinned (OpenSpec.upto fnExactAskAgainSpec)

/-- 'laws.FnExactFlipAnswers', WHERE WHAT IT READS IS OF BULK AT MOST 1048576: true; the input reads as it did. -/
def fnExactFlipAnswersUptoRow : OpenClaim := { program := "ytjedajfpohhojaa", sum := "ca1d3e6671f172271ae82afc294eb94e0fceaeae9df2bb75969811b2f38f233b", func := "loop.example/g01141/laws.FnExactFlipAnswers", spec := "fnExactFlipAnswers", unfollowed := true, recurses := true, apart := false, narrowed := true }
def FnExactFlipAnswersUptoSaid : Prop := fnExactFlipAnswersUptoRow.holds Try.pinned (OpenSpec.upto fnExactFlipAnswersSpec)

/-- 'laws.FnExactReduceBox', WHERE WHAT IT READS IS OF BULK AT MOST 1048576: true; the input reads as it did. -/
def fnExactReduceBoxUptoRow : OpenClaim := { program := "ytjedajfpohhojaa", sum := "ca1d3e6671f172271ae82afc294eb94e0fceaeae9df2bb75969811b2f38f233b", func := "loop.example/g01141/laws.FnExactReduceBox", spec := "fnExactReduceBox", unfollowed := true, recurses := true, apart := false, narrowed := true }
def FnExactReduceBoxUptoSaid : Prop := fnExactReduceBoxUptoRow.holds Try.pinned (OpenSpec.upto fnExactReduceBoxSpec)

/-- 'laws.FnExactAreAlike', WHERE WHAT IT READS IS OF BULK AT MOST 1048576: true; the input reads as it did. -/
def fnExactAreAlikeUptoRow : OpenClaim := { program := "ytjedajfpohhojaa", sum := "ca1d3e6671f172271ae82afc294eb94e0fceaeae9df2bb75969811b2f38f233b", func := "loop.example/g01141/laws.FnExactAreAlike", spec := "fnExactAreAlike", apart := false, narrowed := true }
def FnExactAreAlikeUptoSaid : Prop := fnExactAreAlikeUptoRow.holds Try.pinned (OpenSpec.upto fnExactAreAlikeSpec)

/-- 'laws.FnExactAgreementsOf', WHERE WHAT IT READS IS OF BULK AT MOST 1048576: true; the input reads as it did. -/
def fnExactAgreementsOfUptoRow : OpenClaim := { program := "ytjedajfpohhojaa", sum := "ca1d3e6671f172271ae82afc294eb94e0fceaeae9df2bb75969811b2f38f233b", func := "loop.example/g01141/laws.FnExactAgreementsOf", spec := "fnExactAgreementsOf", apart := false, narrowed := true }
def FnExactAgreementsOfUptoSaid : Prop := fnExactAgreementsOfUptoRow.holds Try.pinned (OpenSpec.upto fnExactAgreementsOfSpec)

/-- 'laws.FnExactPlayOf', WHERE WHAT IT READS IS OF BULK AT MOST 1048576: true; the input reads as it did. -/
def fnExactPlayOfUptoRow : OpenClaim := { program := "ytjedajfpohhojaa", sum := "ca1d3e6671f172271ae82afc294eb94e0fceaeae9df2bb75969811b2f38f233b", func := "loop.example/g01141/laws.FnExactPlayOf", spec := "fnExactPlayOf", unfollowed := true, recurses := true, apart := false, narrowed := true }
def FnExactPlayOfUptoSaid : Prop := fnExactPlayOfUptoRow.holds Try.pinned (OpenSpec.upto fnExactPlayOfSpec)

/-- 'laws.FnExactWorthOf', WHERE WHAT IT READS IS OF BULK AT MOST 1048576: true; the input reads as it did. -/
def fnExactWorthOfUptoRow : OpenClaim := { program := "ytjedajfpohhojaa", sum := "ca1d3e6671f172271ae82afc294eb94e0fceaeae9df2bb75969811b2f38f233b", func := "loop.example/g01141/laws.FnExactWorthOf", spec := "fnExactWorthOf", apart := false, narrowed := true }
def FnExactWorthOfUptoSaid : Prop := fnExactWorthOfUptoRow.holds Try.pinned (OpenSpec.upto fnExactWorthOfSpec)

end Rows
end Go.Proofs.Ytjedajfpohhojaa
