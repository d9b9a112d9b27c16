/-
  The statement MetaOwnSaid: changing the attributes and ACL entries of a copy changes neither the original nor another copy; for all metadata.
-/
import Derived.Test.YthbonnlhoaeflaaRows
import Derived.Test.YthbonnlhoaeflaaEngZ
import Derived.Test.YthbonnlhoaeflaaMeQ
import Derived.Test.YthbonnlhoaeflaaMeL
import Derived.OpenShut
set_option linter.unusedVariables false
set_option linter.unusedSimpArgs false
namespace Go.Proofs.Ythbonnlhoaeflaa.metaOwn
open Go.ChangeShapes Go.WideShapes Go.ChangeAt Go.RowKit Go.Eng
theorem own : ownKnob Try.prog.godebug = none := by kernel_rfl
theorem spec (dss : List (List D)) (h : WTargs Try.prog 8 Try.f8.params.toList dss) : Eng.Spec Try.prog 8 [] [] (argsS Try.prog Try.f8.params.toList dss) [] (.d (.v (.bool true))) := by
  match dss, h with
  | [d0], h =>
    obtain ⟨⟨l0, e0, h0⟩, _⟩ := h
    have c0 : csOf Try.prog 8 (Try.f8.params.toList[0]) = some [.int .i64, .int .i64, .int .i64, .int .i64, .sl 32 [.str, .str], .sl 24 [.int .i64, .int .i64, .int .i64]] := by kernel_rfl
    obtain rfl := Option.some.inj (e0.symm.trans c0)
    obtain ⟨x0, m0, s0⟩ := Me.metaD h0
    have a0 : argS Try.prog (Try.f8.params.toList[0]) d0 = Me.metaS x0 := by
      unfold argS
      rw [if_pos (by kernel_rfl)]
      exact m0
    have q : argsS Try.prog Try.f8.params.toList [d0] = [Me.metaS x0] := by
      show [argS Try.prog (Try.f8.params.toList[0]) d0] = _
      rw [a0]
    rw [q]
    exact Me.own_spec x0 s0
theorem lifted (os : Os) (started : os.Started) (H : Type) (enc : TypeId × Value → H) :
    ReturnsInHanded {} Try.checked os 8 .any (Rows.metaOwnSpec.pre6 enc Try.prog Try.f8 Rows.metaOwnRow.domain false) (Rows.metaOwnSpec.post enc Try.prog Try.f8 false true false false) :=
  law_lifted (C := Try.checked) started 8 own (by kernel_rfl) (by kernel_rfl) Try.func8
    (ChangeSpec.witness6 (enc := enc) (C := Try.checked) false ⟨#[], #[.agg #[.int .i64 0, .int .i64 0, .int .i64 0, .int .i64 0, .slice none 0 0, .slice none 0 0]], []⟩ 8 (by kernel_rfl) (by kernel_rfl) (by kernel_rfl) (by kernel_rfl))
    rfl (by kernel_rfl) rfl (by kernel_rfl) (by kernel_rfl) (fun ds h => match ds, h with | [_], _ => rfl) spec
theorem over : Rows.metaOwnRow.holds Try.pinned (OpenSpec.ofChange Rows.metaOwnSpec) :=
  OpenClaim.holds_of_wide 8 Try.f8 rfl rfl rfl rfl rfl rfl rfl ⟨rfl, rfl, rfl, rfl, rfl⟩ rfl rfl rfl rfl rfl (by kernel_rfl) Try.func8 (by kernel_rfl)
    (of_decide_eq_true (by kernel_rfl)) (by unfold Func.isWrapper; first | (rw [if_pos (by decide +kernel)]; kernel_rfl) | (rw [if_neg (by decide +kernel)]; exact ⟨rfl, rfl⟩))
    (fun os started H enc _ => lifted os started H enc)
theorem proved : Rows.MetaOwnSaid := over
end Go.Proofs.Ythbonnlhoaeflaa.metaOwn
namespace Go.Proofs.Ythbonnlhoaeflaa
/-- The row, under a short name, for the claim. -/
theorem metaOwn_holds : Rows.MetaOwnSaid := metaOwn.proved
#print axioms metaOwn_holds
end Go.Proofs.Ythbonnlhoaeflaa
