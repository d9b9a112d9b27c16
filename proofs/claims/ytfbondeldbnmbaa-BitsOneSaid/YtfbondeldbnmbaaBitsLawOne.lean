/-
  The statement BitsOneSaid: writing a number of up to 32 bits bit by bit gives the same stream as writing it at once; for every number and every length.
-/
import Derived.Test.YtfbondeldbnmbaaRows
import Derived.Test.YtfbondeldbnmbaaEngZ
import Derived.Test.YtfbondeldbnmbaaBitsI
import Derived.OpenShut
set_option linter.unusedVariables false
set_option linter.unusedSimpArgs false
namespace Go.Proofs.Ytfbondeldbnmbaa.bitsOne
open Go.ChangeShapes Go.WideShapes Go.ChangeAt Go.RowKit Go.Eng
theorem own : ownKnob Try.prog.godebug = none := by kernel_rfl
theorem spec (dss : List (List D)) (h : WTargs Try.prog 8 Try.f5.params.toList dss) : Eng.Spec Try.prog 5 [] [] (argsS Try.prog Try.f5.params.toList dss) [] (.d (.v (.bool true))) := by
  match dss, h with
  | [d1, d2], h =>
    obtain ⟨⟨l1, e1, h1⟩, ⟨l2, e2, h2⟩, _⟩ := h
    have c1 : csOf Try.prog 8 (Try.f5.params.toList[0]) = some [.int .u64] := by kernel_rfl
    have c2 : csOf Try.prog 8 (Try.f5.params.toList[1]) = some [.int .i64] := by kernel_rfl
    obtain rfl := Option.some.inj (e1.symm.trans c1)
    obtain rfl := Option.some.inj (e2.symm.trans c2)
    obtain ⟨y1, rfl, g1⟩ := h1.one
    obtain ⟨y2, rfl, g2⟩ := h2.one
    clear h1 h2
    obtain ⟨n, rfl, h1⟩ := g1.int
    obtain ⟨x, rfl, h2⟩ := g2.int
    simp only [IntKind.min, IntKind.max, IntKind.signed, IntKind.bits] at h1
    obtain ⟨m, rfl⟩ : ∃ m : Nat, n = m := ⟨n.toNat, by simp at h1; omega⟩
    have := Bits.one_spec m (by simp at h1; omega) x
    exact this
theorem lifted (os : Os) (started : os.Started) (H : Type) (enc : TypeId × Value → H) :
    ReturnsInHanded {} Try.checked os 5 .any (Rows.bitsOneSpec.pre6 enc Try.prog Try.f5 Rows.bitsOneRow.domain false) (Rows.bitsOneSpec.post enc Try.prog Try.f5 false true false false) :=
  law_lifted (C := Try.checked) started 8 own (by kernel_rfl) (by kernel_rfl) Try.func5
    (ChangeSpec.witness6 (enc := enc) (C := Try.checked) false ⟨#[], #[.int .u64 0, .int .i64 0], []⟩ 8 (by kernel_rfl) (by kernel_rfl) (by kernel_rfl) (by kernel_rfl))
    rfl (by kernel_rfl) rfl (by kernel_rfl) (by kernel_rfl) (fun ds h => match ds, h with | [_, _], _ => rfl) spec
theorem over : Rows.bitsOneRow.holds Try.pinned (OpenSpec.ofChange Rows.bitsOneSpec) :=
  OpenClaim.holds_of_wide 5 Try.f5 rfl rfl rfl rfl rfl rfl rfl ⟨rfl, rfl, rfl, rfl, rfl⟩ rfl rfl rfl rfl rfl (by kernel_rfl) Try.func5 (by kernel_rfl)
    (of_decide_eq_true (by kernel_rfl)) (by unfold Func.isWrapper; first | (rw [if_pos (by decide +kernel)]; kernel_rfl) | (rw [if_neg (by decide +kernel)]; exact ⟨rfl, rfl⟩))
    (fun os started H enc _ => lifted os started H enc)
theorem proved : Rows.BitsOneSaid := over
end Go.Proofs.Ytfbondeldbnmbaa.bitsOne
namespace Go.Proofs.Ytfbondeldbnmbaa
/-- The row, under a short name, for the claim. -/
theorem bitsOne_holds : Rows.BitsOneSaid := bitsOne.proved
#print axioms bitsOne_holds
end Go.Proofs.Ytfbondeldbnmbaa
