/-
  No cell of these rows narrows 'for every input' (looked for: loops, veiled, ifaces, maps, wideKeys, modest, calm, conditions, laid).
  DERIVED. THE GIVEN ROWS OF THIS SEAT. 7 by the template 'for every input the law returns true; each argument reads behind the call as it read before'; 0 by the template 'total and deterministic' (their statements: YthbonnlhoaeflaaTotals.lean).
  GIVEN WITH THE SEED: the statements are not yours to turn. If you find one false, say at which input.
  Laid BY PROGRAM, IN A SANDBOX (cutbox-rows.mjs): the forced cells as the released guide's own fill.sh prints them over the translation 8ec9827d6223c353… (all of the seat's roots in one cut). By AI agents, Wed Nov 11 2026. No macro, syntax, notation, axiom, sorry.
-/
import Derived.Test.YthbonnlhoaeflaaChecked
import GoSem.Claim
import GoSem.ClaimJoined
import GoSem.ClaimMapViews
import Derived.JoinedTies
import Derived.KernelRfl
namespace Go.Proofs.Ythbonnlhoaeflaa
/- THE CELL 'sum', in the pinned program and in every row, IS THE sha256 OF THE DUMP (.gsa) THAT YthbonnlhoaeflaaProg.lean LOADS. Nothing in Lean hashes anything: it is a label: what it is worth is what the hold of that sum in a sandbox is worth. -/
noncomputable def Try.pinned : Pinned := { name := "ythbonnlhoaeflaa", sum := "8ec9827d6223c3534201a8d4ec6ec53ca6381de72c6dcee482f18fbfd37b07e7", checked := Try.checked }
namespace Rows
def none {H : Type} : Left H := { results := [], args := [] }

/-- 'steamerlaw2.ExtentPlaces': WHATEVER THE INPUT: true; the input reads as it did. -/
def extentPlacesSpec : ChangeSpec := { name := "extentPlaces", fn := fun _ => fun
  | [d1, d2] => { results := [.lit (.bool true)], args := [d1, d2] }
  | _ => none }
def extentPlacesRow : OpenClaim := { program := "ythbonnlhoaeflaa", sum := "8ec9827d6223c3534201a8d4ec6ec53ca6381de72c6dcee482f18fbfd37b07e7", func := "steamer/steamerlaw2.ExtentPlaces", spec := "extentPlaces", unfollowed := true, recurses := true, apart := false }
def ExtentPlacesSaid : Prop := extentPlacesRow.holds Try.pinned (OpenSpec.ofChange extentPlacesSpec)

/-- ITS FALSE NEIGHBOUR: 'it returns false'. Refute it at one input. -/
def extentPlacesWrong : ChangeSpec := { name := "extentPlaces", fn := fun _ => fun
  | [d1, d2] => { results := [.lit (.bool false)], args := [d1, d2] }
  | _ => none }
def ExtentPlacesWrongFalsely : Prop := extentPlacesRow.holds Try.pinned (OpenSpec.ofChange extentPlacesWrong)

/-- 'steamerlaw2.ExtentMeets': WHATEVER THE INPUT: true; the input reads as it did. -/
def extentMeetsSpec : ChangeSpec := { name := "extentMeets", fn := fun _ => fun
  | [d1, d2, d3] => { results := [.lit (.bool true)], args := [d1, d2, d3] }
  | _ => none }
def extentMeetsRow : OpenClaim := { program := "ythbonnlhoaeflaa", sum := "8ec9827d6223c3534201a8d4ec6ec53ca6381de72c6dcee482f18fbfd37b07e7", func := "steamer/steamerlaw2.ExtentMeets", spec := "extentMeets", unfollowed := true, recurses := true, apart := false }
def ExtentMeetsSaid : Prop := extentMeetsRow.holds Try.pinned (OpenSpec.ofChange extentMeetsSpec)

/-- ITS FALSE NEIGHBOUR: 'it returns false'. Refute it at one input. -/
def extentMeetsWrong : ChangeSpec := { name := "extentMeets", fn := fun _ => fun
  | [d1, d2, d3] => { results := [.lit (.bool false)], args := [d1, d2, d3] }
  | _ => none }
def ExtentMeetsWrongFalsely : Prop := extentMeetsRow.holds Try.pinned (OpenSpec.ofChange extentMeetsWrong)

/-- 'steamerlaw2.ExtentSums': WHATEVER THE INPUT: true; the input reads as it did. -/
def extentSumsSpec : ChangeSpec := { name := "extentSums", fn := fun _ => fun
  | [d] => { results := [.lit (.bool true)], args := [d] }
  | _ => none }
def extentSumsRow : OpenClaim := { program := "ythbonnlhoaeflaa", sum := "8ec9827d6223c3534201a8d4ec6ec53ca6381de72c6dcee482f18fbfd37b07e7", func := "steamer/steamerlaw2.ExtentSums", spec := "extentSums", unfollowed := true, recurses := true, apart := false }
def ExtentSumsSaid : Prop := extentSumsRow.holds Try.pinned (OpenSpec.ofChange extentSumsSpec)

/-- ITS FALSE NEIGHBOUR: 'it returns false'. Refute it at one input. -/
def extentSumsWrong : ChangeSpec := { name := "extentSums", fn := fun _ => fun
  | [d] => { results := [.lit (.bool false)], args := [d] }
  | _ => none }
def ExtentSumsWrongFalsely : Prop := extentSumsRow.holds Try.pinned (OpenSpec.ofChange extentSumsWrong)

/-- 'steamerlaw4.MetaAsks': WHATEVER THE INPUT: true; the input reads as it did. -/
def metaAsksSpec : ChangeSpec := { name := "metaAsks", fn := fun _ => fun
  | [d1, d2] => { results := [.lit (.bool true)], args := [d1, d2] }
  | _ => none }
def metaAsksRow : OpenClaim := { program := "ythbonnlhoaeflaa", sum := "8ec9827d6223c3534201a8d4ec6ec53ca6381de72c6dcee482f18fbfd37b07e7", func := "steamer/steamerlaw4.MetaAsks", spec := "metaAsks", unfollowed := true, recurses := true, apart := false }
def MetaAsksSaid : Prop := metaAsksRow.holds Try.pinned (OpenSpec.ofChange metaAsksSpec)

/-- ITS FALSE NEIGHBOUR: 'it returns false'. Refute it at one input. -/
def metaAsksWrong : ChangeSpec := { name := "metaAsks", fn := fun _ => fun
  | [d1, d2] => { results := [.lit (.bool false)], args := [d1, d2] }
  | _ => none }
def MetaAsksWrongFalsely : Prop := metaAsksRow.holds Try.pinned (OpenSpec.ofChange metaAsksWrong)

/-- 'steamerlaw4.MetaParts': WHATEVER THE INPUT: true; the input reads as it did. -/
def metaPartsSpec : ChangeSpec := { name := "metaParts", fn := fun _ => fun
  | [d1, d2] => { results := [.lit (.bool true)], args := [d1, d2] }
  | _ => none }
def metaPartsRow : OpenClaim := { program := "ythbonnlhoaeflaa", sum := "8ec9827d6223c3534201a8d4ec6ec53ca6381de72c6dcee482f18fbfd37b07e7", func := "steamer/steamerlaw4.MetaParts", spec := "metaParts", unfollowed := true, recurses := true, apart := false }
def MetaPartsSaid : Prop := metaPartsRow.holds Try.pinned (OpenSpec.ofChange metaPartsSpec)

/-- ITS FALSE NEIGHBOUR: 'it returns false'. Refute it at one input. -/
def metaPartsWrong : ChangeSpec := { name := "metaParts", fn := fun _ => fun
  | [d1, d2] => { results := [.lit (.bool false)], args := [d1, d2] }
  | _ => none }
def MetaPartsWrongFalsely : Prop := metaPartsRow.holds Try.pinned (OpenSpec.ofChange metaPartsWrong)

/-- 'steamerlaw4.MetaOwn': WHATEVER THE INPUT: true; the input reads as it did. -/
def metaOwnSpec : ChangeSpec := { name := "metaOwn", fn := fun _ => fun
  | [d] => { results := [.lit (.bool true)], args := [d] }
  | _ => none }
def metaOwnRow : OpenClaim := { program := "ythbonnlhoaeflaa", sum := "8ec9827d6223c3534201a8d4ec6ec53ca6381de72c6dcee482f18fbfd37b07e7", func := "steamer/steamerlaw4.MetaOwn", spec := "metaOwn", unfollowed := true, recurses := true, apart := false }
def MetaOwnSaid : Prop := metaOwnRow.holds Try.pinned (OpenSpec.ofChange metaOwnSpec)

/-- ITS FALSE NEIGHBOUR: 'it returns false'. Refute it at one input. -/
def metaOwnWrong : ChangeSpec := { name := "metaOwn", fn := fun _ => fun
  | [d] => { results := [.lit (.bool false)], args := [d] }
  | _ => none }
def MetaOwnWrongFalsely : Prop := metaOwnRow.holds Try.pinned (OpenSpec.ofChange metaOwnWrong)

/-- 'steamerlaw4.MetaNorms': WHATEVER THE INPUT: true; the input reads as it did. -/
def metaNormsSpec : ChangeSpec := { name := "metaNorms", fn := fun _ => fun
  | [d] => { results := [.lit (.bool true)], args := [d] }
  | _ => none }
def metaNormsRow : OpenClaim := { program := "ythbonnlhoaeflaa", sum := "8ec9827d6223c3534201a8d4ec6ec53ca6381de72c6dcee482f18fbfd37b07e7", func := "steamer/steamerlaw4.MetaNorms", spec := "metaNorms", unfollowed := true, recurses := true, apart := false }
def MetaNormsSaid : Prop := metaNormsRow.holds Try.pinned (OpenSpec.ofChange metaNormsSpec)

/-- ITS FALSE NEIGHBOUR: 'it returns false'. Refute it at one input. -/
def metaNormsWrong : ChangeSpec := { name := "metaNorms", fn := fun _ => fun
  | [d] => { results := [.lit (.bool false)], args := [d] }
  | _ => none }
def MetaNormsWrongFalsely : Prop := metaNormsRow.holds Try.pinned (OpenSpec.ofChange metaNormsWrong)

/- THE SECOND FORM. 'bulk': how many values and letters a reading holds, each counted each time it is reached (what is shared counts as often as it is met; a slice's spare places count too). A statement '..UptoSaid' is the law's where the arguments, and the package variables that the reading takes, are together of bulk at most 1048576: NARROWER than '..Said'. Prove '..Said' where nothing that the law and all that it calls make is longer than what came in: it says more and counts as full. Else prove '..UptoSaid'. A law counts once. -/
mutual
def uptoBulk {H : Type} : DataW H → Nat
  | .lit (.string bytes) => bytes.length + 1
  | .lit _ => 1
  | .nil => 1
  | .ptr d => uptoBulk d + 1
  | .slice elems spare => uptoBulkAll elems + uptoBulkAll spare + 1
  | .agg parts => uptoBulkAll parts + 1
  | .iface _ d => uptoBulk d + 1
  | .map entries => uptoBulkEntries entries + 1
  | .held _ => 1
def uptoBulkAll {H : Type} : List (DataW H) → Nat
  | [] => 0
  | d :: r => uptoBulk d + uptoBulkAll r
def uptoBulkEntries {H : Type} : List (Lit × DataW H) → Nat
  | [] => 0
  | x :: r => uptoBulkEntry x + uptoBulkEntries r
def uptoBulkEntry {H : Type} : Lit × DataW H → Nat
  | (.string bytes, d) => bytes.length + uptoBulk d + 1
  | (_, d) => uptoBulk d + 1
 end
def uptoSmall : (H : Type) → List (DataW H) → Bool := fun _ ds => decide (uptoBulkAll ds ≤ 1048576)
def OpenSpec.upto (s : _root_.Go.ChangeSpec) : _root_.Go.OpenSpec := { _root_.Go.OpenSpec.ofChange s with cond := some uptoSmall }

/-- 'steamerlaw2.ExtentPlaces', WHERE WHAT IT READS IS OF BULK AT MOST 1048576: true; the input reads as it did. -/
def extentPlacesUptoRow : OpenClaim := { program := "ythbonnlhoaeflaa", sum := "8ec9827d6223c3534201a8d4ec6ec53ca6381de72c6dcee482f18fbfd37b07e7", func := "steamer/steamerlaw2.ExtentPlaces", spec := "extentPlaces", unfollowed := true, recurses := true, apart := false, narrowed := true }
def ExtentPlacesUptoSaid : Prop := extentPlacesUptoRow.holds Try.pinned (OpenSpec.upto extentPlacesSpec)

/-- 'steamerlaw2.ExtentMeets', WHERE WHAT IT READS IS OF BULK AT MOST 1048576: true; the input reads as it did. -/
def extentMeetsUptoRow : OpenClaim := { program := "ythbonnlhoaeflaa", sum := "8ec9827d6223c3534201a8d4ec6ec53ca6381de72c6dcee482f18fbfd37b07e7", func := "steamer/steamerlaw2.ExtentMeets", spec := "extentMeets", unfollowed := true, recurses := true, apart := false, narrowed := true }
def ExtentMeetsUptoSaid : Prop := extentMeetsUptoRow.holds Try.pinned (OpenSpec.upto extentMeetsSpec)

/-- 'steamerlaw2.ExtentSums', WHERE WHAT IT READS IS OF BULK AT MOST 1048576: true; the input reads as it did. -/
def extentSumsUptoRow : OpenClaim := { program := "ythbonnlhoaeflaa", sum := "8ec9827d6223c3534201a8d4ec6ec53ca6381de72c6dcee482f18fbfd37b07e7", func := "steamer/steamerlaw2.ExtentSums", spec := "extentSums", unfollowed := true, recurses := true, apart := false, narrowed := true }
def ExtentSumsUptoSaid : Prop := extentSumsUptoRow.holds Try.pinned (OpenSpec.upto extentSumsSpec)

/-- 'steamerlaw4.MetaAsks', WHERE WHAT IT READS IS OF BULK AT MOST 1048576: true; the input reads as it did. -/
def metaAsksUptoRow : OpenClaim := { program := "ythbonnlhoaeflaa", sum := "8ec9827d6223c3534201a8d4ec6ec53ca6381de72c6dcee482f18fbfd37b07e7", func := "steamer/steamerlaw4.MetaAsks", spec := "metaAsks", unfollowed := true, recurses := true, apart := false, narrowed := true }
def MetaAsksUptoSaid : Prop := metaAsksUptoRow.holds Try.pinned (OpenSpec.upto metaAsksSpec)

/-- 'steamerlaw4.MetaParts', WHERE WHAT IT READS IS OF BULK AT MOST 1048576: true; the input reads as it did. -/
def metaPartsUptoRow : OpenClaim := { program := "ythbonnlhoaeflaa", sum := "8ec9827d6223c3534201a8d4ec6ec53ca6381de72c6dcee482f18fbfd37b07e7", func := "steamer/steamerlaw4.MetaParts", spec := "metaParts", unfollowed := true, recurses := true, apart := false, narrowed := true }
def MetaPartsUptoSaid : Prop := metaPartsUptoRow.holds Try.pinned (OpenSpec.upto metaPartsSpec)

/-- 'steamerlaw4.MetaOwn', WHERE WHAT IT READS IS OF BULK AT MOST 1048576: true; the input reads as it did. -/
def metaOwnUptoRow : OpenClaim := { program := "ythbonnlhoaeflaa", sum := "8ec9827d6223c3534201a8d4ec6ec53ca6381de72c6dcee482f18fbfd37b07e7", func := "steamer/steamerlaw4.MetaOwn", spec := "metaOwn", unfollowed := true, recurses := true, apart := false, narrowed := true }
def MetaOwnUptoSaid : Prop := metaOwnUptoRow.holds Try.pinned (OpenSpec.upto metaOwnSpec)

/-- 'steamerlaw4.MetaNorms', WHERE WHAT IT READS IS OF BULK AT MOST 1048576: true; the input reads as it did. -/
def metaNormsUptoRow : OpenClaim := { program := "ythbonnlhoaeflaa", sum := "8ec9827d6223c3534201a8d4ec6ec53ca6381de72c6dcee482f18fbfd37b07e7", func := "steamer/steamerlaw4.MetaNorms", spec := "metaNorms", unfollowed := true, recurses := true, apart := false, narrowed := true }
def MetaNormsUptoSaid : Prop := metaNormsUptoRow.holds Try.pinned (OpenSpec.upto metaNormsSpec)

end Rows
end Go.Proofs.Ythbonnlhoaeflaa
