/-
  DERIVED. GIVEN WITH THE SEED: THE CARDS: each row of YtnjnfdjoonogaaaDoorRows.lean that lists a variable, with what it lists TIED to the program's text (the seventh form; the later family's looks); each row that meets fmt, with fmt's text TOLD by the authors' own Lean function (tested against real Go, not proved from fmt's source: count such statements apart). THE CARD IS WHAT COUNTS. Prove the row's statement (the work); the ties are given (YtnjnfdjoonogaaaDoorTie.lean); close each card by the builder's one call (the guide's Derived/Test/ToyasCard.lean, 'card_holds'). Laid BY PROGRAM, IN A SANDBOX (cutbox-door.mjs). By AI agents, Wed Nov 11 2026. No macro, syntax, notation, axiom, sorry.
-/
import Derived.Test.YtnjnfdjoonogaaaDoorRows
import GoSem.ClaimSeven
namespace Go.Proofs.YtnjnfdjoonogaaaDoor
namespace Rows

/-- THE TIED CARD OF 'steamerlaw3.AclNorms'. -/
def aclNormsCard : Claim7 := { stood := { row := aclNormsRow, standIns := [], harness := (true, "ce76c7315c9ee7317c60d07e0c006a01b37b8f3f9927ec6dc8e6ebcabae13ff1"), looks := false }, kinds := [], alts := [], laidByText := true, laidKinds := [.data, .data, .data], laidTests := true, laidLooks := .later }
def AclNormsCardSaid : Prop := Claim7.holds Tryd.pinned (.plain (OpenSpec.ofChange aclNormsSpec)) aclNormsCard

/-- THE TIED CARD OF 'steamerlaw3.AclMask'. -/
def aclMaskCard : Claim7 := { stood := { row := aclMaskRow, standIns := [], harness := (true, "ce76c7315c9ee7317c60d07e0c006a01b37b8f3f9927ec6dc8e6ebcabae13ff1"), looks := false }, kinds := [], alts := [], laidByText := true, laidKinds := [.data, .data, .data], laidTests := true, laidLooks := .later }
def AclMaskCardSaid : Prop := Claim7.holds Tryd.pinned (.plain (OpenSpec.ofChange aclMaskSpec)) aclMaskCard

/-- THE TIED CARD OF 'steamerlaw3.AclUsers'. -/
def aclUsersCard : Claim7 := { stood := { row := aclUsersRow, standIns := [], harness := (true, "ce76c7315c9ee7317c60d07e0c006a01b37b8f3f9927ec6dc8e6ebcabae13ff1"), looks := false }, kinds := [], alts := [], laidByText := true, laidKinds := [.data, .data, .data], laidTests := true, laidLooks := .later }
def AclUsersCardSaid : Prop := Claim7.holds Tryd.pinned (.plain (OpenSpec.ofChange aclUsersSpec)) aclUsersCard

/-- THE SECOND FORM's CARD OF 'steamerlaw3.AclNorms'. -/
def aclNormsUptoCard : Claim7 := { stood := { row := aclNormsUptoRow, standIns := [], harness := (true, "ce76c7315c9ee7317c60d07e0c006a01b37b8f3f9927ec6dc8e6ebcabae13ff1"), looks := false }, kinds := [], alts := [], laidByText := true, laidKinds := [.data, .data, .data], laidTests := true, laidLooks := .later }
def AclNormsUptoCardSaid : Prop := Claim7.holds Tryd.pinned (.plain (OpenSpec.upto aclNormsSpec)) aclNormsUptoCard

/-- THE SECOND FORM's CARD OF 'steamerlaw3.AclMask'. -/
def aclMaskUptoCard : Claim7 := { stood := { row := aclMaskUptoRow, standIns := [], harness := (true, "ce76c7315c9ee7317c60d07e0c006a01b37b8f3f9927ec6dc8e6ebcabae13ff1"), looks := false }, kinds := [], alts := [], laidByText := true, laidKinds := [.data, .data, .data], laidTests := true, laidLooks := .later }
def AclMaskUptoCardSaid : Prop := Claim7.holds Tryd.pinned (.plain (OpenSpec.upto aclMaskSpec)) aclMaskUptoCard

/-- THE SECOND FORM's CARD OF 'steamerlaw3.AclUsers'. -/
def aclUsersUptoCard : Claim7 := { stood := { row := aclUsersUptoRow, standIns := [], harness := (true, "ce76c7315c9ee7317c60d07e0c006a01b37b8f3f9927ec6dc8e6ebcabae13ff1"), looks := false }, kinds := [], alts := [], laidByText := true, laidKinds := [.data, .data, .data], laidTests := true, laidLooks := .later }
def AclUsersUptoCardSaid : Prop := Claim7.holds Tryd.pinned (.plain (OpenSpec.upto aclUsersSpec)) aclUsersUptoCard
end Rows
end Go.Proofs.YtnjnfdjoonogaaaDoor
