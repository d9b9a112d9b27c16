/-
  The statement MatchRunsSaid: a repeated byte is parsed into one literal and then copies at distance 1; for every byte and every count.
-/
import Derived.Test.YtfbondeldbnmbaaRows
import Derived.Test.YtfbondeldbnmbaaEngZ
import Derived.Test.YtfbondeldbnmbaaMtI
import Derived.OpenShut
set_option linter.unusedVariables false
set_option linter.unusedSimpArgs false
namespace Go.Proofs.Ytfbondeldbnmbaa.matchRuns
open Go.ChangeShapes Go.WideShapes Go.ChangeAt Go.RowKit Go.Eng
theorem own : ownKnob Try.prog.godebug = none := by kernel_rfl
theorem spec (dss : List (List D)) (h : WTargs Try.prog 8 Try.f9.params.toList dss) : Eng.Spec Try.prog 9 [] [] (argsS Try.prog Try.f9.params.toList dss) [] (.d (.v (.bool true))) := by
  match dss, h with
  | [d0, d1], h =>
    obtain ⟨⟨l0, e0, h0⟩, ⟨l1, e1, h1⟩, _⟩ := h
    have c0 : csOf Try.prog 8 (Try.f9.params.toList[0]) = some [.int .u8] := by kernel_rfl
    obtain rfl := Option.some.inj (e0.symm.trans c0)
    obtain ⟨y0, rfl, g0⟩ := h0.one
    clear h0
    have c1 : csOf Try.prog 8 (Try.f9.params.toList[1]) = some [.int .i64] := by kernel_rfl
    obtain rfl := Option.some.inj (e1.symm.trans c1)
    obtain ⟨y1, rfl, g1⟩ := h1.one
    clear h1
    obtain ⟨x0, rfl, r0⟩ := g0.int
    obtain ⟨x1, rfl, r1⟩ := g1.int
    simp [IntKind.min, IntKind.max, IntKind.signed, IntKind.bits] at r0 r1
    exact Mt.runs_spec x0 x1 (by omega)
theorem lifted (os : Os) (started : os.Started) (H : Type) (enc : TypeId × Value → H) :
    ReturnsInHanded {} Try.checked os 9 .any (Rows.matchRunsSpec.pre6 enc Try.prog Try.f9 Rows.matchRunsRow.domain false) (Rows.matchRunsSpec.post enc Try.prog Try.f9 false true false false) :=
  law_lifted (C := Try.checked) started 8 own (by kernel_rfl) (by kernel_rfl) Try.func9
    (ChangeSpec.witness6 (enc := enc) (C := Try.checked) false ⟨#[], #[.int .u8 0, .int .i64 0], []⟩ 8 (by kernel_rfl) (by kernel_rfl) (by kernel_rfl) (by kernel_rfl))
    rfl (by kernel_rfl) rfl (by kernel_rfl) (by kernel_rfl) (fun ds h => match ds, h with | [_, _], _ => rfl) spec
theorem over : Rows.matchRunsRow.holds Try.pinned (OpenSpec.ofChange Rows.matchRunsSpec) :=
  OpenClaim.holds_of_wide 9 Try.f9 rfl rfl rfl rfl rfl rfl rfl ⟨rfl, rfl, rfl, rfl, rfl⟩ rfl rfl rfl rfl rfl (by kernel_rfl) Try.func9 (by kernel_rfl)
    (of_decide_eq_true (by kernel_rfl)) (by unfold Func.isWrapper; first | (rw [if_pos (by decide +kernel)]; kernel_rfl) | (rw [if_neg (by decide +kernel)]; exact ⟨rfl, rfl⟩))
    (fun os started H enc _ => lifted os started H enc)
theorem proved : Rows.MatchRunsSaid := over
end Go.Proofs.Ytfbondeldbnmbaa.matchRuns
namespace Go.Proofs.Ytfbondeldbnmbaa
/-- The row, under a short name, for the claim. -/
theorem matchRuns_holds : Rows.MatchRunsSaid := matchRuns.proved
#print axioms matchRuns_holds
end Go.Proofs.Ytfbondeldbnmbaa
