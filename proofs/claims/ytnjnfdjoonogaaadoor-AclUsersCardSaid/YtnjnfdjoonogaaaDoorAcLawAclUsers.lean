/-
  The card AclUsersCardSaid: who has an entry of its own is asked by it alone; who has none and is in no group, by the other bits; for all rights, modes and asks. The listed package variables (tables of the library's) are not read on these roads.
-/
import Derived.Test.YtnjnfdjoonogaaaDoorCards
import Derived.Test.YtnjnfdjoonogaaaDoorTie
import Derived.Test.YtnjnfdjoonogaaaDoorEngLd
import Derived.Test.YtnjnfdjoonogaaaDoorAcQ
import Derived.Test.YtnjnfdjoonogaaaDoorAcI
import Derived.OpenShut
import Derived.SevenTiedAt
set_option linter.unusedVariables false
set_option linter.unusedSimpArgs false
namespace Go.Proofs.YtnjnfdjoonogaaaDoor.aclUsers
open Go.ChangeShapes Go.WideShapes Go.ChangeAt Go.RowKit Go.Eng
theorem own : ownKnob Tryd.prog.godebug = none := by kernel_rfl
theorem spec (dss : List (List D)) (h : WTargs Tryd.prog 8 Tryd.f5.params.toList dss) : Eng.Spec Tryd.prog 5 [] [] (argsS Tryd.prog Tryd.f5.params.toList dss) [] (.d (.v (.bool true))) := by
  match dss, h with
  | [d0, d1, d2, d3], h =>
    obtain ⟨⟨l0, e0, h0⟩, ⟨l1, e1, h1⟩, ⟨l2, e2, h2⟩, ⟨l3, e3, h3⟩, _⟩ := h
    have c0 : csOf Tryd.prog 8 (Tryd.f5.params.toList[0]) = some [.int .i64] := by kernel_rfl
    obtain rfl := Option.some.inj (e0.symm.trans c0)
    obtain ⟨y0, rfl, g0⟩ := h0.one
    obtain ⟨x0, rfl, r0⟩ := g0.int
    have a0 : argS Tryd.prog (Tryd.f5.params.toList[0]) [.v (.int .i64 x0)] = .d (.v (.int .i64 x0)) := by
      unfold argS
      rw [if_neg (by decide +kernel)]
      rfl
    have c1 : csOf Tryd.prog 8 (Tryd.f5.params.toList[1]) = some [.int .i64] := by kernel_rfl
    obtain rfl := Option.some.inj (e1.symm.trans c1)
    obtain ⟨y1, rfl, g1⟩ := h1.one
    obtain ⟨x1, rfl, r1⟩ := g1.int
    have a1 : argS Tryd.prog (Tryd.f5.params.toList[1]) [.v (.int .i64 x1)] = .d (.v (.int .i64 x1)) := by
      unfold argS
      rw [if_neg (by decide +kernel)]
      rfl
    have c2 : csOf Tryd.prog 8 (Tryd.f5.params.toList[2]) = some [.int .i64] := by kernel_rfl
    obtain rfl := Option.some.inj (e2.symm.trans c2)
    obtain ⟨y2, rfl, g2⟩ := h2.one
    obtain ⟨x2, rfl, r2⟩ := g2.int
    have a2 : argS Tryd.prog (Tryd.f5.params.toList[2]) [.v (.int .i64 x2)] = .d (.v (.int .i64 x2)) := by
      unfold argS
      rw [if_neg (by decide +kernel)]
      rfl
    have c3 : csOf Tryd.prog 8 (Tryd.f5.params.toList[3]) = some [.int .i64] := by kernel_rfl
    obtain rfl := Option.some.inj (e3.symm.trans c3)
    obtain ⟨y3, rfl, g3⟩ := h3.one
    obtain ⟨x3, rfl, r3⟩ := g3.int
    have a3 : argS Tryd.prog (Tryd.f5.params.toList[3]) [.v (.int .i64 x3)] = .d (.v (.int .i64 x3)) := by
      unfold argS
      rw [if_neg (by decide +kernel)]
      rfl
    have q : argsS Tryd.prog Tryd.f5.params.toList [[.v (.int .i64 x0)], [.v (.int .i64 x1)], [.v (.int .i64 x2)], [.v (.int .i64 x3)]] = [.d (.v (.int .i64 x0)), .d (.v (.int .i64 x1)), .d (.v (.int .i64 x2)), .d (.v (.int .i64 x3))] := by
      show [argS Tryd.prog (Tryd.f5.params.toList[0]) [.v (.int .i64 x0)], argS Tryd.prog (Tryd.f5.params.toList[1]) [.v (.int .i64 x1)], argS Tryd.prog (Tryd.f5.params.toList[2]) [.v (.int .i64 x2)], argS Tryd.prog (Tryd.f5.params.toList[3]) [.v (.int .i64 x3)]] = _
      rw [a0, a1, a2, a3]
    rw [q]
    exact Ac.users_spec x0 x1 x2 x3
theorem lifted (os : Os) (started : os.Started) (H : Type) (enc : TypeId × Value → H) :
    ReturnsInHanded {} Tryd.checked os 5 .any (fun w args => (Rows.aclUsersSpec.pre enc Tryd.prog Tryd.f5 Rows.aclUsersRow.domain false w args ∧ laidMetH Tryd.prog Rows.aclUsersRow.laid w) ∧ sizedMet enc Tryd.prog Tryd.f5 (OpenSpec.ofChange Rows.aclUsersSpec) false w args) (Rows.aclUsersSpec.post enc Tryd.prog Tryd.f5 false true false false) :=
  law_liftedL (C := Tryd.checked) started 8 Rows.aclUsersRow.laid (by kernel_rfl) own (by kernel_rfl) (by kernel_rfl) Tryd.func5
    (witnessL (enc := enc) (C := Tryd.checked) (os := os) Rows.aclUsersRow.laid #[.int .i64 0, .int .i64 0, .int .i64 0, .int .i64 0] 8 (by kernel_rfl) (by kernel_rfl) (by kernel_rfl) (by kernel_rfl) (by kernel_rfl) (by kernel_rfl) (by kernel_rfl) (by kernel_rfl))
    rfl (by kernel_rfl) rfl (by kernel_rfl) (by kernel_rfl) (fun ds h => match ds, h with | [_, _, _, _], _ => rfl) spec
theorem over : Rows.aclUsersRow.holds Tryd.pinned (OpenSpec.ofChange Rows.aclUsersSpec) :=
  OpenClaim.holds_of_wide 5 Tryd.f5 rfl rfl rfl rfl rfl rfl rfl ⟨rfl, rfl, rfl, rfl, rfl⟩ rfl rfl rfl rfl rfl (by kernel_rfl) Tryd.func5 (by kernel_rfl)
    (of_decide_eq_true (by kernel_rfl)) (by unfold Func.isWrapper; first | (rw [if_pos (by decide +kernel)]; kernel_rfl) | (rw [if_neg (by decide +kernel)]; exact ⟨rfl, rfl⟩))
    (fun os started H enc _ => lifted os started H enc)
theorem noStand : (Tryd.f5.params.toList.all fun t => !(Tryd.prog.wantsStandIn t)) = true := by kernel_rfl
theorem proved : Rows.AclUsersCardSaid :=
  Claim7.holds_tied_plain_at .later [] [.data, .data, .data] true (true, "ce76c7315c9ee7317c60d07e0c006a01b37b8f3f9927ec6dc8e6ebcabae13ff1") false
    over (fun _ h => by cases h) (by kernel_rfl) (fun _ h => by cases h) aclUsers_row_tie rfl ⟨rfl, rfl⟩ (by kernel_rfl) rfl
    (fun f fn hf hfn => by
      obtain rfl : f = 5 := Option.some.inj (hf.symm.trans (show Tryd.prog.funcNamed "steamer/steamerlaw3.AclUsers" = some 5 by kernel_rfl))
      obtain rfl : fn = Tryd.f5 := (Option.some.inj (Tryd.func5.symm.trans hfn)).symm
      refine ⟨by kernel_rfl, fun j t ht => ?_⟩
      have hm : t ∈ Tryd.f5.params.toList := by
        rw [Array.mem_toList_iff]
        exact Array.mem_of_getElem? ht
      have := List.all_eq_true.1 noStand t hm
      exact (Bool.not_eq_true' _).mp this)
    (by kernel_rfl)
end Go.Proofs.YtnjnfdjoonogaaaDoor.aclUsers
namespace Go.Proofs.YtnjnfdjoonogaaaDoor
/-- The card, under a short name, for the claim. -/
theorem aclUsers_holds : Rows.AclUsersCardSaid := aclUsers.proved
#print axioms aclUsers_holds
end Go.Proofs.YtnjnfdjoonogaaaDoor
