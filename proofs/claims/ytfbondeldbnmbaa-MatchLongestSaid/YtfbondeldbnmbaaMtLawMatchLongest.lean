/-
  The statement MatchLongestSaid: the match that Best returns exists, no match is longer, and none of equal length is nearer; for all repeating bytes and any index.
-/
import Derived.Test.YtfbondeldbnmbaaRows
import Derived.Test.YtfbondeldbnmbaaEngZ
import Derived.Test.YtfbondeldbnmbaaMtG
import Derived.OpenShut
set_option linter.unusedVariables false
set_option linter.unusedSimpArgs false
namespace Go.Proofs.Ytfbondeldbnmbaa.matchLongest
open Go.ChangeShapes Go.WideShapes Go.ChangeAt Go.RowKit Go.Eng
theorem own : ownKnob Try.prog.godebug = none := by kernel_rfl
theorem spec (dss : List (List D)) (h : WTargs Try.prog 8 Try.f8.params.toList dss) : Eng.Spec Try.prog 8 [] [] (argsS Try.prog Try.f8.params.toList dss) [] (.d (.v (.bool true))) := by
  match dss, h with
  | [d0, d1], h =>
    obtain ⟨⟨l0, e0, h0⟩, ⟨l1, e1, h1⟩, _⟩ := h
    have c0 : csOf Try.prog 8 (Try.f8.params.toList[0]) = some [.sl 8 [.int .i64]] := by kernel_rfl
    obtain rfl := Option.some.inj (e0.symm.trans c0)
    obtain ⟨y0, rfl, g0⟩ := h0.one
    clear h0
    have c1 : csOf Try.prog 8 (Try.f8.params.toList[1]) = some [.int .i64] := by kernel_rfl
    obtain rfl := Option.some.inj (e1.symm.trans c1)
    obtain ⟨y1, rfl, g1⟩ := h1.one
    clear h1
    obtain ⟨x0, rfl, s0, r0⟩ := g0.slI
    obtain ⟨x1, rfl, r1⟩ := g1.int
    simp [IntKind.min, IntKind.max, IntKind.signed, IntKind.bits] at r0 r1
    exact Mt.longest_spec x0 x1 (by omega)
theorem lifted (os : Os) (started : os.Started) (H : Type) (enc : TypeId × Value → H) :
    ReturnsInHanded {} Try.checked os 8 .any (Rows.matchLongestSpec.pre6 enc Try.prog Try.f8 Rows.matchLongestRow.domain false) (Rows.matchLongestSpec.post enc Try.prog Try.f8 false true false false) :=
  law_lifted (C := Try.checked) started 8 own (by kernel_rfl) (by kernel_rfl) Try.func8
    (ChangeSpec.witness6 (enc := enc) (C := Try.checked) false ⟨#[], #[.slice none 0 0, .int .i64 0], []⟩ 8 (by kernel_rfl) (by kernel_rfl) (by kernel_rfl) (by kernel_rfl))
    rfl (by kernel_rfl) rfl (by kernel_rfl) (by kernel_rfl) (fun ds h => match ds, h with | [_, _], _ => rfl) spec
theorem over : Rows.matchLongestRow.holds Try.pinned (OpenSpec.ofChange Rows.matchLongestSpec) :=
  OpenClaim.holds_of_wide 8 Try.f8 rfl rfl rfl rfl rfl rfl rfl ⟨rfl, rfl, rfl, rfl, rfl⟩ rfl rfl rfl rfl rfl (by kernel_rfl) Try.func8 (by kernel_rfl)
    (of_decide_eq_true (by kernel_rfl)) (by unfold Func.isWrapper; first | (rw [if_pos (by decide +kernel)]; kernel_rfl) | (rw [if_neg (by decide +kernel)]; exact ⟨rfl, rfl⟩))
    (fun os started H enc _ => lifted os started H enc)
theorem proved : Rows.MatchLongestSaid := over
end Go.Proofs.Ytfbondeldbnmbaa.matchLongest
namespace Go.Proofs.Ytfbondeldbnmbaa
/-- The row, under a short name, for the claim. -/
theorem matchLongest_holds : Rows.MatchLongestSaid := matchLongest.proved
#print axioms matchLongest_holds
end Go.Proofs.Ytfbondeldbnmbaa
