/-
  No cell of these rows narrows 'for every input' (looked for: loops, veiled, ifaces, maps, wideKeys, modest, calm, conditions, laid).
  DERIVED. THE GIVEN ROWS OF THIS SEAT. 8 by the template 'for every input the law returns true; each argument reads behind the call as it read before'; 0 by the template 'total and deterministic' (their statements: YtfbondeldbnmbaaTotals.lean).
  GIVEN WITH THE SEED: the statements are not yours to turn. If you find one false, say at which input.
  Laid BY PROGRAM, IN A SANDBOX (cutbox-rows.mjs): the forced cells as the released guide's own fill.sh prints them over the translation f32cc16224f19ccd… (all of the seat's roots in one cut). By AI agents, Wed Nov 11 2026. No macro, syntax, notation, axiom, sorry.
-/
import Derived.Test.YtfbondeldbnmbaaChecked
import GoSem.Claim
import GoSem.ClaimJoined
import GoSem.ClaimMapViews
import Derived.JoinedTies
import Derived.KernelRfl
namespace Go.Proofs.Ytfbondeldbnmbaa
/- THE CELL 'sum', in the pinned program and in every row, IS THE sha256 OF THE DUMP (.gsa) THAT YtfbondeldbnmbaaProg.lean LOADS. Nothing in Lean hashes anything: it is a label: what it is worth is what the hold of that sum in a sandbox is worth. -/
noncomputable def Try.pinned : Pinned := { name := "ytfbondeldbnmbaa", sum := "f32cc16224f19ccd45abbc303abb0855535c642f3b851f4bd29f1a98fff74230", checked := Try.checked }
namespace Rows
def none {H : Type} : Left H := { results := [], args := [] }

/-- 'steamerlaw10.BitsPlays': WHATEVER THE INPUT: true; the input reads as it did. -/
def bitsPlaysSpec : ChangeSpec := { name := "bitsPlays", fn := fun _ => fun
  | [d1, d2] => { results := [.lit (.bool true)], args := [d1, d2] }
  | _ => none }
def bitsPlaysRow : OpenClaim := { program := "ytfbondeldbnmbaa", sum := "f32cc16224f19ccd45abbc303abb0855535c642f3b851f4bd29f1a98fff74230", func := "steamer/steamerlaw10.BitsPlays", spec := "bitsPlays", apart := false }
def BitsPlaysSaid : Prop := bitsPlaysRow.holds Try.pinned (OpenSpec.ofChange bitsPlaysSpec)

/-- ITS FALSE NEIGHBOUR: 'it returns false'. Refute it at one input. -/
def bitsPlaysWrong : ChangeSpec := { name := "bitsPlays", fn := fun _ => fun
  | [d1, d2] => { results := [.lit (.bool false)], args := [d1, d2] }
  | _ => none }
def BitsPlaysWrongFalsely : Prop := bitsPlaysRow.holds Try.pinned (OpenSpec.ofChange bitsPlaysWrong)

/-- 'steamerlaw10.BitsBack': WHATEVER THE INPUT: true; the input reads as it did. -/
def bitsBackSpec : ChangeSpec := { name := "bitsBack", fn := fun _ => fun
  | [d] => { results := [.lit (.bool true)], args := [d] }
  | _ => none }
def bitsBackRow : OpenClaim := { program := "ytfbondeldbnmbaa", sum := "f32cc16224f19ccd45abbc303abb0855535c642f3b851f4bd29f1a98fff74230", func := "steamer/steamerlaw10.BitsBack", spec := "bitsBack", apart := false }
def BitsBackSaid : Prop := bitsBackRow.holds Try.pinned (OpenSpec.ofChange bitsBackSpec)

/-- ITS FALSE NEIGHBOUR: 'it returns false'. Refute it at one input. -/
def bitsBackWrong : ChangeSpec := { name := "bitsBack", fn := fun _ => fun
  | [d] => { results := [.lit (.bool false)], args := [d] }
  | _ => none }
def BitsBackWrongFalsely : Prop := bitsBackRow.holds Try.pinned (OpenSpec.ofChange bitsBackWrong)

/-- 'steamerlaw10.BitsOne': WHATEVER THE INPUT: true; the input reads as it did. -/
def bitsOneSpec : ChangeSpec := { name := "bitsOne", fn := fun _ => fun
  | [d1, d2] => { results := [.lit (.bool true)], args := [d1, d2] }
  | _ => none }
def bitsOneRow : OpenClaim := { program := "ytfbondeldbnmbaa", sum := "f32cc16224f19ccd45abbc303abb0855535c642f3b851f4bd29f1a98fff74230", func := "steamer/steamerlaw10.BitsOne", spec := "bitsOne", apart := false }
def BitsOneSaid : Prop := bitsOneRow.holds Try.pinned (OpenSpec.ofChange bitsOneSpec)

/-- ITS FALSE NEIGHBOUR: 'it returns false'. Refute it at one input. -/
def bitsOneWrong : ChangeSpec := { name := "bitsOne", fn := fun _ => fun
  | [d1, d2] => { results := [.lit (.bool false)], args := [d1, d2] }
  | _ => none }
def BitsOneWrongFalsely : Prop := bitsOneRow.holds Try.pinned (OpenSpec.ofChange bitsOneWrong)

/-- 'steamerlaw11.MatchAsks': WHATEVER THE INPUT: true; the input reads as it did. -/
def matchAsksSpec : ChangeSpec := { name := "matchAsks", fn := fun _ => fun
  | [d1, d2, d3, d4, d5] => { results := [.lit (.bool true)], args := [d1, d2, d3, d4, d5] }
  | _ => none }
def matchAsksRow : OpenClaim := { program := "ytfbondeldbnmbaa", sum := "f32cc16224f19ccd45abbc303abb0855535c642f3b851f4bd29f1a98fff74230", func := "steamer/steamerlaw11.MatchAsks", spec := "matchAsks", apart := false }
def MatchAsksSaid : Prop := matchAsksRow.holds Try.pinned (OpenSpec.ofChange matchAsksSpec)

/-- ITS FALSE NEIGHBOUR: 'it returns false'. Refute it at one input. -/
def matchAsksWrong : ChangeSpec := { name := "matchAsks", fn := fun _ => fun
  | [d1, d2, d3, d4, d5] => { results := [.lit (.bool false)], args := [d1, d2, d3, d4, d5] }
  | _ => none }
def MatchAsksWrongFalsely : Prop := matchAsksRow.holds Try.pinned (OpenSpec.ofChange matchAsksWrong)

/-- 'steamerlaw11.MatchBack': WHATEVER THE INPUT: true; the input reads as it did. -/
def matchBackSpec : ChangeSpec := { name := "matchBack", fn := fun _ => fun
  | [d] => { results := [.lit (.bool true)], args := [d] }
  | _ => none }
def matchBackRow : OpenClaim := { program := "ytfbondeldbnmbaa", sum := "f32cc16224f19ccd45abbc303abb0855535c642f3b851f4bd29f1a98fff74230", func := "steamer/steamerlaw11.MatchBack", spec := "matchBack", apart := false }
def MatchBackSaid : Prop := matchBackRow.holds Try.pinned (OpenSpec.ofChange matchBackSpec)

/-- ITS FALSE NEIGHBOUR: 'it returns false'. Refute it at one input. -/
def matchBackWrong : ChangeSpec := { name := "matchBack", fn := fun _ => fun
  | [d] => { results := [.lit (.bool false)], args := [d] }
  | _ => none }
def MatchBackWrongFalsely : Prop := matchBackRow.holds Try.pinned (OpenSpec.ofChange matchBackWrong)

/-- 'steamerlaw11.MatchLongest': WHATEVER THE INPUT: true; the input reads as it did. -/
def matchLongestSpec : ChangeSpec := { name := "matchLongest", fn := fun _ => fun
  | [d1, d2] => { results := [.lit (.bool true)], args := [d1, d2] }
  | _ => none }
def matchLongestRow : OpenClaim := { program := "ytfbondeldbnmbaa", sum := "f32cc16224f19ccd45abbc303abb0855535c642f3b851f4bd29f1a98fff74230", func := "steamer/steamerlaw11.MatchLongest", spec := "matchLongest", apart := false }
def MatchLongestSaid : Prop := matchLongestRow.holds Try.pinned (OpenSpec.ofChange matchLongestSpec)

/-- ITS FALSE NEIGHBOUR: 'it returns false'. Refute it at one input. -/
def matchLongestWrong : ChangeSpec := { name := "matchLongest", fn := fun _ => fun
  | [d1, d2] => { results := [.lit (.bool false)], args := [d1, d2] }
  | _ => none }
def MatchLongestWrongFalsely : Prop := matchLongestRow.holds Try.pinned (OpenSpec.ofChange matchLongestWrong)

/-- 'steamerlaw11.MatchRuns': WHATEVER THE INPUT: true; the input reads as it did. -/
def matchRunsSpec : ChangeSpec := { name := "matchRuns", fn := fun _ => fun
  | [d1, d2] => { results := [.lit (.bool true)], args := [d1, d2] }
  | _ => none }
def matchRunsRow : OpenClaim := { program := "ytfbondeldbnmbaa", sum := "f32cc16224f19ccd45abbc303abb0855535c642f3b851f4bd29f1a98fff74230", func := "steamer/steamerlaw11.MatchRuns", spec := "matchRuns", apart := false }
def MatchRunsSaid : Prop := matchRunsRow.holds Try.pinned (OpenSpec.ofChange matchRunsSpec)

/-- ITS FALSE NEIGHBOUR: 'it returns false'. Refute it at one input. -/
def matchRunsWrong : ChangeSpec := { name := "matchRuns", fn := fun _ => fun
  | [d1, d2] => { results := [.lit (.bool false)], args := [d1, d2] }
  | _ => none }
def MatchRunsWrongFalsely : Prop := matchRunsRow.holds Try.pinned (OpenSpec.ofChange matchRunsWrong)

/-- 'steamerlaw11.MatchRaw': WHATEVER THE INPUT: true; the input reads as it did. -/
def matchRawSpec : ChangeSpec := { name := "matchRaw", fn := fun _ => fun
  | [d1, d2] => { results := [.lit (.bool true)], args := [d1, d2] }
  | _ => none }
def matchRawRow : OpenClaim := { program := "ytfbondeldbnmbaa", sum := "f32cc16224f19ccd45abbc303abb0855535c642f3b851f4bd29f1a98fff74230", func := "steamer/steamerlaw11.MatchRaw", spec := "matchRaw", apart := false }
def MatchRawSaid : Prop := matchRawRow.holds Try.pinned (OpenSpec.ofChange matchRawSpec)

/-- ITS FALSE NEIGHBOUR: 'it returns false'. Refute it at one input. -/
def matchRawWrong : ChangeSpec := { name := "matchRaw", fn := fun _ => fun
  | [d1, d2] => { results := [.lit (.bool false)], args := [d1, d2] }
  | _ => none }
def MatchRawWrongFalsely : Prop := matchRawRow.holds Try.pinned (OpenSpec.ofChange matchRawWrong)

/- THE SECOND FORM. 'bulk': how many values and letters a reading holds, each counted each time it is reached (what is shared counts as often as it is met; a slice's spare places count too). A statement '..UptoSaid' is the law's where the arguments, and the package variables that the reading takes, are together of bulk at most 1048576: NARROWER than '..Said'. Prove '..Said' where nothing that the law and all that it calls make is longer than what came in: it says more and counts as full. Else prove '..UptoSaid'. A law counts once. -/
mutual
def uptoBulk {H : Type} : DataW H → Nat
  | .lit (.string bytes) => bytes.length + 1
  | .lit _ => 1
  | .nil => 1
  | .ptr d => uptoBulk d + 1
  | .slice elems spare => uptoBulkAll elems + uptoBulkAll spare + 1
  | .agg parts => uptoBulkAll parts + 1
  | .iface _ d => uptoBulk d + 1
  | .map entries => uptoBulkEntries entries + 1
  | .held _ => 1
def uptoBulkAll {H : Type} : List (DataW H) → Nat
  | [] => 0
  | d :: r => uptoBulk d + uptoBulkAll r
def uptoBulkEntries {H : Type} : List (Lit × DataW H) → Nat
  | [] => 0
  | x :: r => uptoBulkEntry x + uptoBulkEntries r
def uptoBulkEntry {H : Type} : Lit × DataW H → Nat
  | (.string bytes, d) => bytes.length + uptoBulk d + 1
  | (_, d) => uptoBulk d + 1
 end
def uptoSmall : (H : Type) → List (DataW H) → Bool := fun _ ds => decide (uptoBulkAll ds ≤ 1048576)
def OpenSpec.upto (s : _root_.Go.ChangeSpec) : _root_.Go.OpenSpec := { _root_.Go.OpenSpec.ofChange s with cond := some uptoSmall }

/-- 'steamerlaw10.BitsPlays', WHERE WHAT IT READS IS OF BULK AT MOST 1048576: true; the input reads as it did. -/
def bitsPlaysUptoRow : OpenClaim := { program := "ytfbondeldbnmbaa", sum := "f32cc16224f19ccd45abbc303abb0855535c642f3b851f4bd29f1a98fff74230", func := "steamer/steamerlaw10.BitsPlays", spec := "bitsPlays", apart := false, narrowed := true }
def BitsPlaysUptoSaid : Prop := bitsPlaysUptoRow.holds Try.pinned (OpenSpec.upto bitsPlaysSpec)

/-- 'steamerlaw10.BitsBack', WHERE WHAT IT READS IS OF BULK AT MOST 1048576: true; the input reads as it did. -/
def bitsBackUptoRow : OpenClaim := { program := "ytfbondeldbnmbaa", sum := "f32cc16224f19ccd45abbc303abb0855535c642f3b851f4bd29f1a98fff74230", func := "steamer/steamerlaw10.BitsBack", spec := "bitsBack", apart := false, narrowed := true }
def BitsBackUptoSaid : Prop := bitsBackUptoRow.holds Try.pinned (OpenSpec.upto bitsBackSpec)

/-- 'steamerlaw10.BitsOne', WHERE WHAT IT READS IS OF BULK AT MOST 1048576: true; the input reads as it did. -/
def bitsOneUptoRow : OpenClaim := { program := "ytfbondeldbnmbaa", sum := "f32cc16224f19ccd45abbc303abb0855535c642f3b851f4bd29f1a98fff74230", func := "steamer/steamerlaw10.BitsOne", spec := "bitsOne", apart := false, narrowed := true }
def BitsOneUptoSaid : Prop := bitsOneUptoRow.holds Try.pinned (OpenSpec.upto bitsOneSpec)

/-- 'steamerlaw11.MatchAsks', WHERE WHAT IT READS IS OF BULK AT MOST 1048576: true; the input reads as it did. -/
def matchAsksUptoRow : OpenClaim := { program := "ytfbondeldbnmbaa", sum := "f32cc16224f19ccd45abbc303abb0855535c642f3b851f4bd29f1a98fff74230", func := "steamer/steamerlaw11.MatchAsks", spec := "matchAsks", apart := false, narrowed := true }
def MatchAsksUptoSaid : Prop := matchAsksUptoRow.holds Try.pinned (OpenSpec.upto matchAsksSpec)

/-- 'steamerlaw11.MatchBack', WHERE WHAT IT READS IS OF BULK AT MOST 1048576: true; the input reads as it did. -/
def matchBackUptoRow : OpenClaim := { program := "ytfbondeldbnmbaa", sum := "f32cc16224f19ccd45abbc303abb0855535c642f3b851f4bd29f1a98fff74230", func := "steamer/steamerlaw11.MatchBack", spec := "matchBack", apart := false, narrowed := true }
def MatchBackUptoSaid : Prop := matchBackUptoRow.holds Try.pinned (OpenSpec.upto matchBackSpec)

/-- 'steamerlaw11.MatchLongest', WHERE WHAT IT READS IS OF BULK AT MOST 1048576: true; the input reads as it did. -/
def matchLongestUptoRow : OpenClaim := { program := "ytfbondeldbnmbaa", sum := "f32cc16224f19ccd45abbc303abb0855535c642f3b851f4bd29f1a98fff74230", func := "steamer/steamerlaw11.MatchLongest", spec := "matchLongest", apart := false, narrowed := true }
def MatchLongestUptoSaid : Prop := matchLongestUptoRow.holds Try.pinned (OpenSpec.upto matchLongestSpec)

/-- 'steamerlaw11.MatchRuns', WHERE WHAT IT READS IS OF BULK AT MOST 1048576: true; the input reads as it did. -/
def matchRunsUptoRow : OpenClaim := { program := "ytfbondeldbnmbaa", sum := "f32cc16224f19ccd45abbc303abb0855535c642f3b851f4bd29f1a98fff74230", func := "steamer/steamerlaw11.MatchRuns", spec := "matchRuns", apart := false, narrowed := true }
def MatchRunsUptoSaid : Prop := matchRunsUptoRow.holds Try.pinned (OpenSpec.upto matchRunsSpec)

/-- 'steamerlaw11.MatchRaw', WHERE WHAT IT READS IS OF BULK AT MOST 1048576: true; the input reads as it did. -/
def matchRawUptoRow : OpenClaim := { program := "ytfbondeldbnmbaa", sum := "f32cc16224f19ccd45abbc303abb0855535c642f3b851f4bd29f1a98fff74230", func := "steamer/steamerlaw11.MatchRaw", spec := "matchRaw", apart := false, narrowed := true }
def MatchRawUptoSaid : Prop := matchRawUptoRow.holds Try.pinned (OpenSpec.upto matchRawSpec)

end Rows
end Go.Proofs.Ytfbondeldbnmbaa
