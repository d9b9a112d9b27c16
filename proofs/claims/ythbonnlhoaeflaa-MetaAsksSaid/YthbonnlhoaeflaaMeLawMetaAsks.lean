/-
  The statement MetaAsksSaid: May, Norm, Diff and Same return exactly what the reference specifies, and Copy returns equal metadata; for any two metadata.
-/
import Derived.Test.YthbonnlhoaeflaaRows
import Derived.Test.YthbonnlhoaeflaaEngZ
import Derived.Test.YthbonnlhoaeflaaMeQ
import Derived.Test.YthbonnlhoaeflaaMeJ
import Derived.OpenShut
set_option linter.unusedVariables false
set_option linter.unusedSimpArgs false
namespace Go.Proofs.Ythbonnlhoaeflaa.metaAsks
open Go.ChangeShapes Go.WideShapes Go.ChangeAt Go.RowKit Go.Eng
theorem own : ownKnob Try.prog.godebug = none := by kernel_rfl
theorem spec (dss : List (List D)) (h : WTargs Try.prog 8 Try.f6.params.toList dss) : Eng.Spec Try.prog 6 [] [] (argsS Try.prog Try.f6.params.toList dss) [] (.d (.v (.bool true))) := by
  match dss, h with
  | [d0, d1], h =>
    obtain ⟨⟨l0, e0, h0⟩, ⟨l1, e1, h1⟩, _⟩ := h
    have c0 : csOf Try.prog 8 (Try.f6.params.toList[0]) = some [.int .i64, .int .i64, .int .i64, .int .i64, .sl 32 [.str, .str], .sl 24 [.int .i64, .int .i64, .int .i64]] := by kernel_rfl
    obtain rfl := Option.some.inj (e0.symm.trans c0)
    obtain ⟨x0, m0, s0⟩ := Me.metaD h0
    have a0 : argS Try.prog (Try.f6.params.toList[0]) d0 = Me.metaS x0 := by
      unfold argS
      rw [if_pos (by kernel_rfl)]
      exact m0
    have c1 : csOf Try.prog 8 (Try.f6.params.toList[1]) = some [.int .i64, .int .i64, .int .i64, .int .i64, .sl 32 [.str, .str], .sl 24 [.int .i64, .int .i64, .int .i64]] := by kernel_rfl
    obtain rfl := Option.some.inj (e1.symm.trans c1)
    obtain ⟨x1, m1, s1⟩ := Me.metaD h1
    have a1 : argS Try.prog (Try.f6.params.toList[1]) d1 = Me.metaS x1 := by
      unfold argS
      rw [if_pos (by kernel_rfl)]
      exact m1
    have q : argsS Try.prog Try.f6.params.toList [d0, d1] = [Me.metaS x0, Me.metaS x1] := by
      show [argS Try.prog (Try.f6.params.toList[0]) d0, argS Try.prog (Try.f6.params.toList[1]) d1] = _
      rw [a0, a1]
    rw [q]
    exact Me.asks_spec x0 x1 s0 s1
theorem lifted (os : Os) (started : os.Started) (H : Type) (enc : TypeId × Value → H) :
    ReturnsInHanded {} Try.checked os 6 .any (Rows.metaAsksSpec.pre6 enc Try.prog Try.f6 Rows.metaAsksRow.domain false) (Rows.metaAsksSpec.post enc Try.prog Try.f6 false true false false) :=
  law_lifted (C := Try.checked) started 8 own (by kernel_rfl) (by kernel_rfl) Try.func6
    (ChangeSpec.witness6 (enc := enc) (C := Try.checked) false ⟨#[], #[.agg #[.int .i64 0, .int .i64 0, .int .i64 0, .int .i64 0, .slice none 0 0, .slice none 0 0], .agg #[.int .i64 0, .int .i64 0, .int .i64 0, .int .i64 0, .slice none 0 0, .slice none 0 0]], []⟩ 8 (by kernel_rfl) (by kernel_rfl) (by kernel_rfl) (by kernel_rfl))
    rfl (by kernel_rfl) rfl (by kernel_rfl) (by kernel_rfl) (fun ds h => match ds, h with | [_, _], _ => rfl) spec
theorem over : Rows.metaAsksRow.holds Try.pinned (OpenSpec.ofChange Rows.metaAsksSpec) :=
  OpenClaim.holds_of_wide 6 Try.f6 rfl rfl rfl rfl rfl rfl rfl ⟨rfl, rfl, rfl, rfl, rfl⟩ rfl rfl rfl rfl rfl (by kernel_rfl) Try.func6 (by kernel_rfl)
    (of_decide_eq_true (by kernel_rfl)) (by unfold Func.isWrapper; first | (rw [if_pos (by decide +kernel)]; kernel_rfl) | (rw [if_neg (by decide +kernel)]; exact ⟨rfl, rfl⟩))
    (fun os started H enc _ => lifted os started H enc)
theorem proved : Rows.MetaAsksSaid := over
end Go.Proofs.Ythbonnlhoaeflaa.metaAsks
namespace Go.Proofs.Ythbonnlhoaeflaa
/-- The row, under a short name, for the claim. -/
theorem metaAsks_holds : Rows.MetaAsksSaid := metaAsks.proved
#print axioms metaAsks_holds
end Go.Proofs.Ythbonnlhoaeflaa
