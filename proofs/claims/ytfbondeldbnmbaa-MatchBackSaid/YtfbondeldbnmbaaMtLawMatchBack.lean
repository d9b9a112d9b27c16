/-
  The statement MatchBackSaid: the tokens of All are valid, never refer beyond the beginning, and Join restores the bytes; with one byte less allowed it tells so; for all repeating bytes.
-/
import Derived.Test.YtfbondeldbnmbaaRows
import Derived.Test.YtfbondeldbnmbaaEngZ
import Derived.Test.YtfbondeldbnmbaaMtH
import Derived.OpenShut
set_option linter.unusedVariables false
set_option linter.unusedSimpArgs false
namespace Go.Proofs.Ytfbondeldbnmbaa.matchBack
open Go.ChangeShapes Go.WideShapes Go.ChangeAt Go.RowKit Go.Eng
theorem own : ownKnob Try.prog.godebug = none := by kernel_rfl
theorem spec (dss : List (List D)) (h : WTargs Try.prog 8 Try.f7.params.toList dss) : Eng.Spec Try.prog 7 [] [] (argsS Try.prog Try.f7.params.toList dss) [] (.d (.v (.bool true))) := by
  match dss, h with
  | [d0], h =>
    obtain ⟨⟨l0, e0, h0⟩, _⟩ := h
    have c0 : csOf Try.prog 8 (Try.f7.params.toList[0]) = some [.sl 8 [.int .i64]] := by kernel_rfl
    obtain rfl := Option.some.inj (e0.symm.trans c0)
    obtain ⟨y0, rfl, g0⟩ := h0.one
    clear h0
    obtain ⟨x0, rfl, s0, r0⟩ := g0.slI
    exact Mt.back_spec x0 (by omega)
theorem lifted (os : Os) (started : os.Started) (H : Type) (enc : TypeId × Value → H) :
    ReturnsInHanded {} Try.checked os 7 .any (Rows.matchBackSpec.pre6 enc Try.prog Try.f7 Rows.matchBackRow.domain false) (Rows.matchBackSpec.post enc Try.prog Try.f7 false true false false) :=
  law_lifted (C := Try.checked) started 8 own (by kernel_rfl) (by kernel_rfl) Try.func7
    (ChangeSpec.witness6 (enc := enc) (C := Try.checked) false ⟨#[], #[.slice none 0 0], []⟩ 8 (by kernel_rfl) (by kernel_rfl) (by kernel_rfl) (by kernel_rfl))
    rfl (by kernel_rfl) rfl (by kernel_rfl) (by kernel_rfl) (fun ds h => match ds, h with | [_], _ => rfl) spec
theorem over : Rows.matchBackRow.holds Try.pinned (OpenSpec.ofChange Rows.matchBackSpec) :=
  OpenClaim.holds_of_wide 7 Try.f7 rfl rfl rfl rfl rfl rfl rfl ⟨rfl, rfl, rfl, rfl, rfl⟩ rfl rfl rfl rfl rfl (by kernel_rfl) Try.func7 (by kernel_rfl)
    (of_decide_eq_true (by kernel_rfl)) (by unfold Func.isWrapper; first | (rw [if_pos (by decide +kernel)]; kernel_rfl) | (rw [if_neg (by decide +kernel)]; exact ⟨rfl, rfl⟩))
    (fun os started H enc _ => lifted os started H enc)
theorem proved : Rows.MatchBackSaid := over
end Go.Proofs.Ytfbondeldbnmbaa.matchBack
namespace Go.Proofs.Ytfbondeldbnmbaa
/-- The row, under a short name, for the claim. -/
theorem matchBack_holds : Rows.MatchBackSaid := matchBack.proved
#print axioms matchBack_holds
end Go.Proofs.Ytfbondeldbnmbaa
