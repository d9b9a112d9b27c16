/-
  The statement MatchRawSaid: Join returns as many bytes as the tokens describe, within the limit, or no bytes and an error; for all tokens and limits.
-/
import Derived.Test.YtfbondeldbnmbaaRows
import Derived.Test.YtfbondeldbnmbaaEngZ
import Derived.Test.YtfbondeldbnmbaaMtF
import Derived.OpenShut
set_option linter.unusedVariables false
set_option linter.unusedSimpArgs false
namespace Go.Proofs.Ytfbondeldbnmbaa.matchRaw
open Go.ChangeShapes Go.WideShapes Go.ChangeAt Go.RowKit Go.Eng
theorem own : ownKnob Try.prog.godebug = none := by kernel_rfl
theorem toksD {d : D} (h : WT (.sl 24 [.int .i64, .int .i64, .int .i64]) d) : ∃ l : List Mt.T, d = .sl 3 (rM Mt.tokR l) := by
  obtain ⟨rows, rfl, h1, h2⟩ := h.sl
  obtain ⟨l, e, hl⟩ := image_of (f := Mt.tokR) (p := fun _ => True) (rows := rows) (fun r hr => by
    have h3 := h2 r hr
    match r, h3 with
    | [d1, d2, d3], h3 =>
      obtain ⟨g1, g2, g3, _⟩ := h3
      obtain ⟨n, rfl, h4⟩ := g1.int
      obtain ⟨x, rfl, h5⟩ := g2.int
      obtain ⟨y, rfl, h6⟩ := g3.int
      exact ⟨(n, x, y), rfl, trivial⟩)
  exact ⟨l, by rw [e]; rfl⟩
theorem spec (dss : List (List D)) (h : WTargs Try.prog 8 Try.f10.params.toList dss) : Eng.Spec Try.prog 10 [] [] (argsS Try.prog Try.f10.params.toList dss) [] (.d (.v (.bool true))) := by
  match dss, h with
  | [d0, d1], h =>
    obtain ⟨⟨l0, e0, h0⟩, ⟨l1, e1, h1⟩, _⟩ := h
    have c0 : csOf Try.prog 8 (Try.f10.params.toList[0]) = some [.sl 24 [.int .i64, .int .i64, .int .i64]] := by kernel_rfl
    obtain rfl := Option.some.inj (e0.symm.trans c0)
    obtain ⟨y0, rfl, g0⟩ := h0.one
    clear h0
    have c1 : csOf Try.prog 8 (Try.f10.params.toList[1]) = some [.int .i64] := by kernel_rfl
    obtain rfl := Option.some.inj (e1.symm.trans c1)
    obtain ⟨y1, rfl, g1⟩ := h1.one
    clear h1
    obtain ⟨x0, rfl⟩ := toksD g0
    obtain ⟨x1, rfl, r1⟩ := g1.int
    simp [IntKind.min, IntKind.max, IntKind.signed, IntKind.bits] at r1
    exact Mt.raw_spec x0 x1
theorem lifted (os : Os) (started : os.Started) (H : Type) (enc : TypeId × Value → H) :
    ReturnsInHanded {} Try.checked os 10 .any (Rows.matchRawSpec.pre6 enc Try.prog Try.f10 Rows.matchRawRow.domain false) (Rows.matchRawSpec.post enc Try.prog Try.f10 false true false false) :=
  law_lifted (C := Try.checked) started 8 own (by kernel_rfl) (by kernel_rfl) Try.func10
    (ChangeSpec.witness6 (enc := enc) (C := Try.checked) false ⟨#[], #[.slice none 0 0, .int .i64 0], []⟩ 8 (by kernel_rfl) (by kernel_rfl) (by kernel_rfl) (by kernel_rfl))
    rfl (by kernel_rfl) rfl (by kernel_rfl) (by kernel_rfl) (fun ds h => match ds, h with | [_, _], _ => rfl) spec
theorem over : Rows.matchRawRow.holds Try.pinned (OpenSpec.ofChange Rows.matchRawSpec) :=
  OpenClaim.holds_of_wide 10 Try.f10 rfl rfl rfl rfl rfl rfl rfl ⟨rfl, rfl, rfl, rfl, rfl⟩ rfl rfl rfl rfl rfl (by kernel_rfl) Try.func10 (by kernel_rfl)
    (of_decide_eq_true (by kernel_rfl)) (by unfold Func.isWrapper; first | (rw [if_pos (by decide +kernel)]; kernel_rfl) | (rw [if_neg (by decide +kernel)]; exact ⟨rfl, rfl⟩))
    (fun os started H enc _ => lifted os started H enc)
theorem proved : Rows.MatchRawSaid := over
end Go.Proofs.Ytfbondeldbnmbaa.matchRaw
namespace Go.Proofs.Ytfbondeldbnmbaa
/-- The row, under a short name, for the claim. -/
theorem matchRaw_holds : Rows.MatchRawSaid := matchRaw.proved
#print axioms matchRaw_holds
end Go.Proofs.Ytfbondeldbnmbaa
