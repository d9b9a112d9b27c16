/-
  The card AclNormsCardSaid: Norm has the same result for the reversed list; a successful result is valid, has as many entries, and is its own normal form; with an error the result is empty; for all lists. The listed package variables (tables of the library's) are not read on these roads.
-/
import Derived.Test.YtnjnfdjoonogaaaDoorCards
import Derived.Test.YtnjnfdjoonogaaaDoorTie
import Derived.Test.YtnjnfdjoonogaaaDoorEngLd
import Derived.Test.YtnjnfdjoonogaaaDoorAcQ
import Derived.Test.YtnjnfdjoonogaaaDoorAcJ
import Derived.OpenShut
import Derived.SevenTiedAt
set_option linter.unusedVariables false
set_option linter.unusedSimpArgs false
namespace Go.Proofs.YtnjnfdjoonogaaaDoor.aclNorms
open Go.ChangeShapes Go.WideShapes Go.ChangeAt Go.RowKit Go.Eng
theorem own : ownKnob Tryd.prog.godebug = none := by kernel_rfl
theorem spec (dss : List (List D)) (h : WTargs Tryd.prog 8 Tryd.f3.params.toList dss) : Eng.Spec Tryd.prog 3 [] [] (argsS Tryd.prog Tryd.f3.params.toList dss) [] (.d (.v (.bool true))) := by
  match dss, h with
  | [d0], h =>
    obtain ⟨⟨l0, e0, h0⟩, _⟩ := h
    have c0 : csOf Tryd.prog 8 (Tryd.f3.params.toList[0]) = some [.sl 24 [.int .i64, .int .i64, .int .i64]] := by kernel_rfl
    obtain rfl := Option.some.inj (e0.symm.trans c0)
    obtain ⟨y0, rfl, g0⟩ := h0.one
    obtain ⟨x0, rfl, s0⟩ := Ac.acesD g0
    have a0 : argS Tryd.prog (Tryd.f3.params.toList[0]) [.sl 3 (rM Ac.aceR x0)] = .d (.sl 3 (rM Ac.aceR x0)) := by
      unfold argS
      rw [if_neg (by decide +kernel)]
      rfl
    have q : argsS Tryd.prog Tryd.f3.params.toList [[.sl 3 (rM Ac.aceR x0)]] = [.d (.sl 3 (rM Ac.aceR x0))] := by
      show [argS Tryd.prog (Tryd.f3.params.toList[0]) [.sl 3 (rM Ac.aceR x0)]] = _
      rw [a0]
    rw [q]
    exact Ac.norms_spec x0 s0
theorem lifted (os : Os) (started : os.Started) (H : Type) (enc : TypeId × Value → H) :
    ReturnsInHanded {} Tryd.checked os 3 .any (fun w args => (Rows.aclNormsSpec.pre enc Tryd.prog Tryd.f3 Rows.aclNormsRow.domain false w args ∧ laidMetH Tryd.prog Rows.aclNormsRow.laid w) ∧ sizedMet enc Tryd.prog Tryd.f3 (OpenSpec.ofChange Rows.aclNormsSpec) false w args) (Rows.aclNormsSpec.post enc Tryd.prog Tryd.f3 false true false false) :=
  law_liftedL (C := Tryd.checked) started 8 Rows.aclNormsRow.laid (by kernel_rfl) own (by kernel_rfl) (by kernel_rfl) Tryd.func3
    (witnessL (enc := enc) (C := Tryd.checked) (os := os) Rows.aclNormsRow.laid #[.slice none 0 0] 8 (by kernel_rfl) (by kernel_rfl) (by kernel_rfl) (by kernel_rfl) (by kernel_rfl) (by kernel_rfl) (by kernel_rfl) (by kernel_rfl))
    rfl (by kernel_rfl) rfl (by kernel_rfl) (by kernel_rfl) (fun ds h => match ds, h with | [_], _ => rfl) spec
theorem over : Rows.aclNormsRow.holds Tryd.pinned (OpenSpec.ofChange Rows.aclNormsSpec) :=
  OpenClaim.holds_of_wide 3 Tryd.f3 rfl rfl rfl rfl rfl rfl rfl ⟨rfl, rfl, rfl, rfl, rfl⟩ rfl rfl rfl rfl rfl (by kernel_rfl) Tryd.func3 (by kernel_rfl)
    (of_decide_eq_true (by kernel_rfl)) (by unfold Func.isWrapper; first | (rw [if_pos (by decide +kernel)]; kernel_rfl) | (rw [if_neg (by decide +kernel)]; exact ⟨rfl, rfl⟩))
    (fun os started H enc _ => lifted os started H enc)
theorem noStand : (Tryd.f3.params.toList.all fun t => !(Tryd.prog.wantsStandIn t)) = true := by kernel_rfl
theorem proved : Rows.AclNormsCardSaid :=
  Claim7.holds_tied_plain_at .later [] [.data, .data, .data] true (true, "ce76c7315c9ee7317c60d07e0c006a01b37b8f3f9927ec6dc8e6ebcabae13ff1") false
    over (fun _ h => by cases h) (by kernel_rfl) (fun _ h => by cases h) aclNorms_row_tie rfl ⟨rfl, rfl⟩ (by kernel_rfl) rfl
    (fun f fn hf hfn => by
      obtain rfl : f = 3 := Option.some.inj (hf.symm.trans (show Tryd.prog.funcNamed "steamer/steamerlaw3.AclNorms" = some 3 by kernel_rfl))
      obtain rfl : fn = Tryd.f3 := (Option.some.inj (Tryd.func3.symm.trans hfn)).symm
      refine ⟨by kernel_rfl, fun j t ht => ?_⟩
      have hm : t ∈ Tryd.f3.params.toList := by
        rw [Array.mem_toList_iff]
        exact Array.mem_of_getElem? ht
      have := List.all_eq_true.1 noStand t hm
      exact (Bool.not_eq_true' _).mp this)
    (by kernel_rfl)
end Go.Proofs.YtnjnfdjoonogaaaDoor.aclNorms
namespace Go.Proofs.YtnjnfdjoonogaaaDoor
/-- The card, under a short name, for the claim. -/
theorem aclNorms_holds : Rows.AclNormsCardSaid := aclNorms.proved
#print axioms aclNorms_holds
end Go.Proofs.YtnjnfdjoonogaaaDoor
