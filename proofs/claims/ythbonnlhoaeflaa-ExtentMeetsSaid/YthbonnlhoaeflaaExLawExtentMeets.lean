/-
  The statement ExtentMeetsSaid: what is met lies in both, and is all of that; for all extents of places up to 300 and all parts.
-/
import Derived.Test.YthbonnlhoaeflaaRows
import Derived.Test.YthbonnlhoaeflaaEngZ
import Derived.Test.YthbonnlhoaeflaaExN
import Derived.OpenShut
set_option linter.unusedVariables false
set_option linter.unusedSimpArgs false
namespace Go.Proofs.Ythbonnlhoaeflaa.extentMeets
open Go.ChangeShapes Go.WideShapes Go.ChangeAt Go.RowKit Go.Eng
theorem own : ownKnob Try.prog.godebug = none := by kernel_rfl
theorem spec (dss : List (List D)) (h : WTargs Try.prog 8 Try.f4.params.toList dss) : Eng.Spec Try.prog 4 [] [] (argsS Try.prog Try.f4.params.toList dss) [] (.d (.v (.bool true))) := by
  match dss, h with
  | [d0, d1, d2], h =>
    obtain ⟨⟨l0, e0, h0⟩, ⟨l1, e1, h1⟩, ⟨l2, e2, h2⟩, _⟩ := h
    have c0 : csOf Try.prog 8 (Try.f4.params.toList[0]) = some [.sl 8 [.int .i64]] := by kernel_rfl
    obtain rfl := Option.some.inj (e0.symm.trans c0)
    obtain ⟨y0, rfl, g0⟩ := h0.one
    obtain ⟨x0, rfl, s0, r0⟩ := g0.slI
    have a0 : argS Try.prog (Try.f4.params.toList[0]) [.sl 1 (rK .i64 x0)] = .d (.sl 1 (rK .i64 x0)) := by
      unfold argS
      rw [if_neg (by decide +kernel)]
      rfl
    have c1 : csOf Try.prog 8 (Try.f4.params.toList[1]) = some [.int .i64] := by kernel_rfl
    obtain rfl := Option.some.inj (e1.symm.trans c1)
    obtain ⟨y1, rfl, g1⟩ := h1.one
    obtain ⟨x1, rfl, r1⟩ := g1.int
    simp [IntKind.min, IntKind.max, IntKind.signed, IntKind.bits] at r1
    have a1 : argS Try.prog (Try.f4.params.toList[1]) [.v (.int .i64 x1)] = .d (.v (.int .i64 x1)) := by
      unfold argS
      rw [if_neg (by decide +kernel)]
      rfl
    have c2 : csOf Try.prog 8 (Try.f4.params.toList[2]) = some [.int .i64] := by kernel_rfl
    obtain rfl := Option.some.inj (e2.symm.trans c2)
    obtain ⟨y2, rfl, g2⟩ := h2.one
    obtain ⟨x2, rfl, r2⟩ := g2.int
    simp [IntKind.min, IntKind.max, IntKind.signed, IntKind.bits] at r2
    have a2 : argS Try.prog (Try.f4.params.toList[2]) [.v (.int .i64 x2)] = .d (.v (.int .i64 x2)) := by
      unfold argS
      rw [if_neg (by decide +kernel)]
      rfl
    have q : argsS Try.prog Try.f4.params.toList [[.sl 1 (rK .i64 x0)], [.v (.int .i64 x1)], [.v (.int .i64 x2)]] = [.d (.sl 1 (rK .i64 x0)), .d (.v (.int .i64 x1)), .d (.v (.int .i64 x2))] := by
      show [argS Try.prog (Try.f4.params.toList[0]) [.sl 1 (rK .i64 x0)], argS Try.prog (Try.f4.params.toList[1]) [.v (.int .i64 x1)], argS Try.prog (Try.f4.params.toList[2]) [.v (.int .i64 x2)]] = _
      rw [a0, a1, a2]
    rw [q]
    exact Ex.meets_spec x0 x1 x2 (by omega)
theorem lifted (os : Os) (started : os.Started) (H : Type) (enc : TypeId × Value → H) :
    ReturnsInHanded {} Try.checked os 4 .any (Rows.extentMeetsSpec.pre6 enc Try.prog Try.f4 Rows.extentMeetsRow.domain false) (Rows.extentMeetsSpec.post enc Try.prog Try.f4 false true false false) :=
  law_lifted (C := Try.checked) started 8 own (by kernel_rfl) (by kernel_rfl) Try.func4
    (ChangeSpec.witness6 (enc := enc) (C := Try.checked) false ⟨#[], #[.slice none 0 0, .int .i64 0, .int .i64 0], []⟩ 8 (by kernel_rfl) (by kernel_rfl) (by kernel_rfl) (by kernel_rfl))
    rfl (by kernel_rfl) rfl (by kernel_rfl) (by kernel_rfl) (fun ds h => match ds, h with | [_, _, _], _ => rfl) spec
theorem over : Rows.extentMeetsRow.holds Try.pinned (OpenSpec.ofChange Rows.extentMeetsSpec) :=
  OpenClaim.holds_of_wide 4 Try.f4 rfl rfl rfl rfl rfl rfl rfl ⟨rfl, rfl, rfl, rfl, rfl⟩ rfl rfl rfl rfl rfl (by kernel_rfl) Try.func4 (by kernel_rfl)
    (of_decide_eq_true (by kernel_rfl)) (by unfold Func.isWrapper; first | (rw [if_pos (by decide +kernel)]; kernel_rfl) | (rw [if_neg (by decide +kernel)]; exact ⟨rfl, rfl⟩))
    (fun os started H enc _ => lifted os started H enc)
theorem proved : Rows.ExtentMeetsSaid := over
end Go.Proofs.Ythbonnlhoaeflaa.extentMeets
namespace Go.Proofs.Ythbonnlhoaeflaa
/-- The row, under a short name, for the claim. -/
theorem extentMeets_holds : Rows.ExtentMeetsSaid := extentMeets.proved
#print axioms extentMeets_holds
end Go.Proofs.Ythbonnlhoaeflaa
