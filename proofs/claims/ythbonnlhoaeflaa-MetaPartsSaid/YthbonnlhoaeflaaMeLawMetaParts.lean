/-
  The statement MetaPartsSaid: if one field of valid metadata is changed, Diff returns the name of that field, in both directions, and Same is false; for all metadata and all parts.
-/
import Derived.Test.YthbonnlhoaeflaaRows
import Derived.Test.YthbonnlhoaeflaaEngZ
import Derived.Test.YthbonnlhoaeflaaMeQ
import Derived.Test.YthbonnlhoaeflaaMeK
import Derived.OpenShut
set_option linter.unusedVariables false
set_option linter.unusedSimpArgs false
namespace Go.Proofs.Ythbonnlhoaeflaa.metaParts
open Go.ChangeShapes Go.WideShapes Go.ChangeAt Go.RowKit Go.Eng
theorem own : ownKnob Try.prog.godebug = none := by kernel_rfl
theorem spec (dss : List (List D)) (h : WTargs Try.prog 8 Try.f7.params.toList dss) : Eng.Spec Try.prog 7 [] [] (argsS Try.prog Try.f7.params.toList dss) [] (.d (.v (.bool true))) := by
  match dss, h with
  | [d0, d1], h =>
    obtain ⟨⟨l0, e0, h0⟩, ⟨l1, e1, h1⟩, _⟩ := h
    have c0 : csOf Try.prog 8 (Try.f7.params.toList[0]) = some [.int .i64, .int .i64, .int .i64, .int .i64, .sl 32 [.str, .str], .sl 24 [.int .i64, .int .i64, .int .i64]] := by kernel_rfl
    obtain rfl := Option.some.inj (e0.symm.trans c0)
    obtain ⟨x0, m0, s0⟩ := Me.metaD h0
    have a0 : argS Try.prog (Try.f7.params.toList[0]) d0 = Me.metaS x0 := by
      unfold argS
      rw [if_pos (by kernel_rfl)]
      exact m0
    have c1 : csOf Try.prog 8 (Try.f7.params.toList[1]) = some [.int .i64] := by kernel_rfl
    obtain rfl := Option.some.inj (e1.symm.trans c1)
    obtain ⟨y1, rfl, g1⟩ := h1.one
    obtain ⟨x1, rfl, r1⟩ := g1.int
    simp [IntKind.min, IntKind.max, IntKind.signed, IntKind.bits] at r1
    have a1 : argS Try.prog (Try.f7.params.toList[1]) [.v (.int .i64 x1)] = .d (.v (.int .i64 x1)) := by
      unfold argS
      rw [if_neg (by decide +kernel)]
      rfl
    have q : argsS Try.prog Try.f7.params.toList [d0, [.v (.int .i64 x1)]] = [Me.metaS x0, .d (.v (.int .i64 x1))] := by
      show [argS Try.prog (Try.f7.params.toList[0]) d0, argS Try.prog (Try.f7.params.toList[1]) [.v (.int .i64 x1)]] = _
      rw [a0, a1]
    rw [q]
    exact Me.parts_spec x0 x1 s0
theorem lifted (os : Os) (started : os.Started) (H : Type) (enc : TypeId × Value → H) :
    ReturnsInHanded {} Try.checked os 7 .any (Rows.metaPartsSpec.pre6 enc Try.prog Try.f7 Rows.metaPartsRow.domain false) (Rows.metaPartsSpec.post enc Try.prog Try.f7 false true false false) :=
  law_lifted (C := Try.checked) started 8 own (by kernel_rfl) (by kernel_rfl) Try.func7
    (ChangeSpec.witness6 (enc := enc) (C := Try.checked) false ⟨#[], #[.agg #[.int .i64 0, .int .i64 0, .int .i64 0, .int .i64 0, .slice none 0 0, .slice none 0 0], .int .i64 0], []⟩ 8 (by kernel_rfl) (by kernel_rfl) (by kernel_rfl) (by kernel_rfl))
    rfl (by kernel_rfl) rfl (by kernel_rfl) (by kernel_rfl) (fun ds h => match ds, h with | [_, _], _ => rfl) spec
theorem over : Rows.metaPartsRow.holds Try.pinned (OpenSpec.ofChange Rows.metaPartsSpec) :=
  OpenClaim.holds_of_wide 7 Try.f7 rfl rfl rfl rfl rfl rfl rfl ⟨rfl, rfl, rfl, rfl, rfl⟩ rfl rfl rfl rfl rfl (by kernel_rfl) Try.func7 (by kernel_rfl)
    (of_decide_eq_true (by kernel_rfl)) (by unfold Func.isWrapper; first | (rw [if_pos (by decide +kernel)]; kernel_rfl) | (rw [if_neg (by decide +kernel)]; exact ⟨rfl, rfl⟩))
    (fun os started H enc _ => lifted os started H enc)
theorem proved : Rows.MetaPartsSaid := over
end Go.Proofs.Ythbonnlhoaeflaa.metaParts
namespace Go.Proofs.Ythbonnlhoaeflaa
/-- The row, under a short name, for the claim. -/
theorem metaParts_holds : Rows.MetaPartsSaid := metaParts.proved
#print axioms metaParts_holds
end Go.Proofs.Ythbonnlhoaeflaa
