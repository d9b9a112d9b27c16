/-
  The statement ExtentPlacesSaid: a normal row has just the places that the extents have, may be, and is its own; holes have all others; for all extents of places up to 300 and all sizes up to 300.
-/
import Derived.Test.YthbonnlhoaeflaaRows
import Derived.Test.YthbonnlhoaeflaaEngZ
import Derived.Test.YthbonnlhoaeflaaExP
import Derived.OpenShut
set_option linter.unusedVariables false
set_option linter.unusedSimpArgs false
namespace Go.Proofs.Ythbonnlhoaeflaa.extentPlaces
open Go.ChangeShapes Go.WideShapes Go.ChangeAt Go.RowKit Go.Eng
theorem own : ownKnob Try.prog.godebug = none := by kernel_rfl
theorem spec (dss : List (List D)) (h : WTargs Try.prog 8 Try.f3.params.toList dss) : Eng.Spec Try.prog 3 [] [] (argsS Try.prog Try.f3.params.toList dss) [] (.d (.v (.bool true))) := by
  match dss, h with
  | [d0, d1], h =>
    obtain ⟨⟨l0, e0, h0⟩, ⟨l1, e1, h1⟩, _⟩ := h
    have c0 : csOf Try.prog 8 (Try.f3.params.toList[0]) = some [.sl 8 [.int .i64]] := by kernel_rfl
    obtain rfl := Option.some.inj (e0.symm.trans c0)
    obtain ⟨y0, rfl, g0⟩ := h0.one
    obtain ⟨x0, rfl, s0, r0⟩ := g0.slI
    have a0 : argS Try.prog (Try.f3.params.toList[0]) [.sl 1 (rK .i64 x0)] = .d (.sl 1 (rK .i64 x0)) := by
      unfold argS
      rw [if_neg (by decide +kernel)]
      rfl
    have c1 : csOf Try.prog 8 (Try.f3.params.toList[1]) = some [.int .i64] := by kernel_rfl
    obtain rfl := Option.some.inj (e1.symm.trans c1)
    obtain ⟨y1, rfl, g1⟩ := h1.one
    obtain ⟨x1, rfl, r1⟩ := g1.int
    simp [IntKind.min, IntKind.max, IntKind.signed, IntKind.bits] at r1
    have a1 : argS Try.prog (Try.f3.params.toList[1]) [.v (.int .i64 x1)] = .d (.v (.int .i64 x1)) := by
      unfold argS
      rw [if_neg (by decide +kernel)]
      rfl
    have q : argsS Try.prog Try.f3.params.toList [[.sl 1 (rK .i64 x0)], [.v (.int .i64 x1)]] = [.d (.sl 1 (rK .i64 x0)), .d (.v (.int .i64 x1))] := by
      show [argS Try.prog (Try.f3.params.toList[0]) [.sl 1 (rK .i64 x0)], argS Try.prog (Try.f3.params.toList[1]) [.v (.int .i64 x1)]] = _
      rw [a0, a1]
    rw [q]
    exact Ex.places_spec x0 x1 (by omega)
theorem lifted (os : Os) (started : os.Started) (H : Type) (enc : TypeId × Value → H) :
    ReturnsInHanded {} Try.checked os 3 .any (Rows.extentPlacesSpec.pre6 enc Try.prog Try.f3 Rows.extentPlacesRow.domain false) (Rows.extentPlacesSpec.post enc Try.prog Try.f3 false true false false) :=
  law_lifted (C := Try.checked) started 8 own (by kernel_rfl) (by kernel_rfl) Try.func3
    (ChangeSpec.witness6 (enc := enc) (C := Try.checked) false ⟨#[], #[.slice none 0 0, .int .i64 0], []⟩ 8 (by kernel_rfl) (by kernel_rfl) (by kernel_rfl) (by kernel_rfl))
    rfl (by kernel_rfl) rfl (by kernel_rfl) (by kernel_rfl) (fun ds h => match ds, h with | [_, _], _ => rfl) spec
theorem over : Rows.extentPlacesRow.holds Try.pinned (OpenSpec.ofChange Rows.extentPlacesSpec) :=
  OpenClaim.holds_of_wide 3 Try.f3 rfl rfl rfl rfl rfl rfl rfl ⟨rfl, rfl, rfl, rfl, rfl⟩ rfl rfl rfl rfl rfl (by kernel_rfl) Try.func3 (by kernel_rfl)
    (of_decide_eq_true (by kernel_rfl)) (by unfold Func.isWrapper; first | (rw [if_pos (by decide +kernel)]; kernel_rfl) | (rw [if_neg (by decide +kernel)]; exact ⟨rfl, rfl⟩))
    (fun os started H enc _ => lifted os started H enc)
theorem proved : Rows.ExtentPlacesSaid := over
end Go.Proofs.Ythbonnlhoaeflaa.extentPlaces
namespace Go.Proofs.Ythbonnlhoaeflaa
/-- The row, under a short name, for the claim. -/
theorem extentPlaces_holds : Rows.ExtentPlacesSaid := extentPlaces.proved
#print axioms extentPlaces_holds
end Go.Proofs.Ythbonnlhoaeflaa
