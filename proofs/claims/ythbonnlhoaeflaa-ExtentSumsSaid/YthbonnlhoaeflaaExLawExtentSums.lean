/-
  The statement ExtentSumsSaid: a row and its holes are all of the size of 300, and the holes of the holes are the row; for all extents of places up to 300.
-/
import Derived.Test.YthbonnlhoaeflaaRows
import Derived.Test.YthbonnlhoaeflaaEngZ
import Derived.Test.YthbonnlhoaeflaaExO
import Derived.OpenShut
set_option linter.unusedVariables false
set_option linter.unusedSimpArgs false
namespace Go.Proofs.Ythbonnlhoaeflaa.extentSums
open Go.ChangeShapes Go.WideShapes Go.ChangeAt Go.RowKit Go.Eng
theorem own : ownKnob Try.prog.godebug = none := by kernel_rfl
theorem spec (dss : List (List D)) (h : WTargs Try.prog 8 Try.f5.params.toList dss) : Eng.Spec Try.prog 5 [] [] (argsS Try.prog Try.f5.params.toList dss) [] (.d (.v (.bool true))) := by
  match dss, h with
  | [d0], h =>
    obtain ⟨⟨l0, e0, h0⟩, _⟩ := h
    have c0 : csOf Try.prog 8 (Try.f5.params.toList[0]) = some [.sl 8 [.int .i64]] := by kernel_rfl
    obtain rfl := Option.some.inj (e0.symm.trans c0)
    obtain ⟨y0, rfl, g0⟩ := h0.one
    obtain ⟨x0, rfl, s0, r0⟩ := g0.slI
    have a0 : argS Try.prog (Try.f5.params.toList[0]) [.sl 1 (rK .i64 x0)] = .d (.sl 1 (rK .i64 x0)) := by
      unfold argS
      rw [if_neg (by decide +kernel)]
      rfl
    have q : argsS Try.prog Try.f5.params.toList [[.sl 1 (rK .i64 x0)]] = [.d (.sl 1 (rK .i64 x0))] := by
      show [argS Try.prog (Try.f5.params.toList[0]) [.sl 1 (rK .i64 x0)]] = _
      rw [a0]
    rw [q]
    exact Ex.sums_spec x0 (by omega)
theorem lifted (os : Os) (started : os.Started) (H : Type) (enc : TypeId × Value → H) :
    ReturnsInHanded {} Try.checked os 5 .any (Rows.extentSumsSpec.pre6 enc Try.prog Try.f5 Rows.extentSumsRow.domain false) (Rows.extentSumsSpec.post enc Try.prog Try.f5 false true false false) :=
  law_lifted (C := Try.checked) started 8 own (by kernel_rfl) (by kernel_rfl) Try.func5
    (ChangeSpec.witness6 (enc := enc) (C := Try.checked) false ⟨#[], #[.slice none 0 0], []⟩ 8 (by kernel_rfl) (by kernel_rfl) (by kernel_rfl) (by kernel_rfl))
    rfl (by kernel_rfl) rfl (by kernel_rfl) (by kernel_rfl) (fun ds h => match ds, h with | [_], _ => rfl) spec
theorem over : Rows.extentSumsRow.holds Try.pinned (OpenSpec.ofChange Rows.extentSumsSpec) :=
  OpenClaim.holds_of_wide 5 Try.f5 rfl rfl rfl rfl rfl rfl rfl ⟨rfl, rfl, rfl, rfl, rfl⟩ rfl rfl rfl rfl rfl (by kernel_rfl) Try.func5 (by kernel_rfl)
    (of_decide_eq_true (by kernel_rfl)) (by unfold Func.isWrapper; first | (rw [if_pos (by decide +kernel)]; kernel_rfl) | (rw [if_neg (by decide +kernel)]; exact ⟨rfl, rfl⟩))
    (fun os started H enc _ => lifted os started H enc)
theorem proved : Rows.ExtentSumsSaid := over
end Go.Proofs.Ythbonnlhoaeflaa.extentSums
namespace Go.Proofs.Ythbonnlhoaeflaa
/-- The row, under a short name, for the claim. -/
theorem extentSums_holds : Rows.ExtentSumsSaid := extentSums.proved
#print axioms extentSums_holds
end Go.Proofs.Ythbonnlhoaeflaa
