/-
  The statement MetaNormsSaid: attributes in any order come to one row, by names, none lost; with one name twice they are told; for all lists.
-/
import Derived.Test.YthbonnlhoaeflaaRows
import Derived.Test.YthbonnlhoaeflaaEngZ
import Derived.Test.YthbonnlhoaeflaaMeQ
import Derived.Test.YthbonnlhoaeflaaMeM
import Derived.OpenShut
set_option linter.unusedVariables false
set_option linter.unusedSimpArgs false
namespace Go.Proofs.Ythbonnlhoaeflaa.metaNorms
open Go.ChangeShapes Go.WideShapes Go.ChangeAt Go.RowKit Go.Eng
theorem own : ownKnob Try.prog.godebug = none := by kernel_rfl
theorem spec (dss : List (List D)) (h : WTargs Try.prog 8 Try.f9.params.toList dss) : Eng.Spec Try.prog 9 [] [] (argsS Try.prog Try.f9.params.toList dss) [] (.d (.v (.bool true))) := by
  match dss, h with
  | [d0], h =>
    obtain ⟨⟨l0, e0, h0⟩, _⟩ := h
    have c0 : csOf Try.prog 8 (Try.f9.params.toList[0]) = some [.sl 8 [.int .i64]] := by kernel_rfl
    obtain rfl := Option.some.inj (e0.symm.trans c0)
    obtain ⟨y0, rfl, g0⟩ := h0.one
    obtain ⟨x0, rfl, s0, r0⟩ := g0.slI
    have a0 : argS Try.prog (Try.f9.params.toList[0]) [.sl 1 (rK .i64 x0)] = .d (.sl 1 (rK .i64 x0)) := by
      unfold argS
      rw [if_neg (by decide +kernel)]
      rfl
    have q : argsS Try.prog Try.f9.params.toList [[.sl 1 (rK .i64 x0)]] = [.d (.sl 1 (rK .i64 x0))] := by
      show [argS Try.prog (Try.f9.params.toList[0]) [.sl 1 (rK .i64 x0)]] = _
      rw [a0]
    rw [q]
    exact Me.norms_spec x0 (by omega)
theorem lifted (os : Os) (started : os.Started) (H : Type) (enc : TypeId × Value → H) :
    ReturnsInHanded {} Try.checked os 9 .any (Rows.metaNormsSpec.pre6 enc Try.prog Try.f9 Rows.metaNormsRow.domain false) (Rows.metaNormsSpec.post enc Try.prog Try.f9 false true false false) :=
  law_lifted (C := Try.checked) started 8 own (by kernel_rfl) (by kernel_rfl) Try.func9
    (ChangeSpec.witness6 (enc := enc) (C := Try.checked) false ⟨#[], #[.slice none 0 0], []⟩ 8 (by kernel_rfl) (by kernel_rfl) (by kernel_rfl) (by kernel_rfl))
    rfl (by kernel_rfl) rfl (by kernel_rfl) (by kernel_rfl) (fun ds h => match ds, h with | [_], _ => rfl) spec
theorem over : Rows.metaNormsRow.holds Try.pinned (OpenSpec.ofChange Rows.metaNormsSpec) :=
  OpenClaim.holds_of_wide 9 Try.f9 rfl rfl rfl rfl rfl rfl rfl ⟨rfl, rfl, rfl, rfl, rfl⟩ rfl rfl rfl rfl rfl (by kernel_rfl) Try.func9 (by kernel_rfl)
    (of_decide_eq_true (by kernel_rfl)) (by unfold Func.isWrapper; first | (rw [if_pos (by decide +kernel)]; kernel_rfl) | (rw [if_neg (by decide +kernel)]; exact ⟨rfl, rfl⟩))
    (fun os started H enc _ => lifted os started H enc)
theorem proved : Rows.MetaNormsSaid := over
end Go.Proofs.Ythbonnlhoaeflaa.metaNorms
namespace Go.Proofs.Ythbonnlhoaeflaa
/-- The row, under a short name, for the claim. -/
theorem metaNorms_holds : Rows.MetaNormsSaid := metaNorms.proved
#print axioms metaNorms_holds
end Go.Proofs.Ythbonnlhoaeflaa
