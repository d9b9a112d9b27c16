/-
  The statement MatchAsksSaid: Best, All, May and Join return exactly what the reference specifies, for repeating bytes, arbitrary bytes, any index, arbitrary tokens and any limit.
-/
import Derived.Test.YtfbondeldbnmbaaRows
import Derived.Test.YtfbondeldbnmbaaEngZ
import Derived.Test.YtfbondeldbnmbaaMtJ
import Derived.OpenShut
set_option linter.unusedVariables false
set_option linter.unusedSimpArgs false
namespace Go.Proofs.Ytfbondeldbnmbaa.matchAsks
open Go.ChangeShapes Go.WideShapes Go.ChangeAt Go.RowKit Go.Eng
theorem own : ownKnob Try.prog.godebug = none := by kernel_rfl
theorem toksD {d : D} (h : WT (.sl 24 [.int .i64, .int .i64, .int .i64]) d) : ∃ l : List Mt.T, d = .sl 3 (rM Mt.tokR l) := by
  obtain ⟨rows, rfl, h1, h2⟩ := h.sl
  obtain ⟨l, e, hl⟩ := image_of (f := Mt.tokR) (p := fun _ => True) (rows := rows) (fun r hr => by
    have h3 := h2 r hr
    match r, h3 with
    | [d1, d2, d3], h3 =>
      obtain ⟨g1, g2, g3, _⟩ := h3
      obtain ⟨n, rfl, h4⟩ := g1.int
      obtain ⟨x, rfl, h5⟩ := g2.int
      obtain ⟨y, rfl, h6⟩ := g3.int
      exact ⟨(n, x, y), rfl, trivial⟩)
  exact ⟨l, by rw [e]; rfl⟩
theorem spec (dss : List (List D)) (h : WTargs Try.prog 8 Try.f6.params.toList dss) : Eng.Spec Try.prog 6 [] [] (argsS Try.prog Try.f6.params.toList dss) [] (.d (.v (.bool true))) := by
  match dss, h with
  | [d0, d1, d2, d3, d4], h =>
    obtain ⟨⟨l0, e0, h0⟩, ⟨l1, e1, h1⟩, ⟨l2, e2, h2⟩, ⟨l3, e3, h3⟩, ⟨l4, e4, h4⟩, _⟩ := h
    have c0 : csOf Try.prog 8 (Try.f6.params.toList[0]) = some [.sl 8 [.int .i64]] := by kernel_rfl
    obtain rfl := Option.some.inj (e0.symm.trans c0)
    obtain ⟨y0, rfl, g0⟩ := h0.one
    clear h0
    have c1 : csOf Try.prog 8 (Try.f6.params.toList[1]) = some [.sl 1 [.int .u8]] := by kernel_rfl
    obtain rfl := Option.some.inj (e1.symm.trans c1)
    obtain ⟨y1, rfl, g1⟩ := h1.one
    clear h1
    have c2 : csOf Try.prog 8 (Try.f6.params.toList[2]) = some [.int .i64] := by kernel_rfl
    obtain rfl := Option.some.inj (e2.symm.trans c2)
    obtain ⟨y2, rfl, g2⟩ := h2.one
    clear h2
    have c3 : csOf Try.prog 8 (Try.f6.params.toList[3]) = some [.sl 24 [.int .i64, .int .i64, .int .i64]] := by kernel_rfl
    obtain rfl := Option.some.inj (e3.symm.trans c3)
    obtain ⟨y3, rfl, g3⟩ := h3.one
    clear h3
    have c4 : csOf Try.prog 8 (Try.f6.params.toList[4]) = some [.int .i64] := by kernel_rfl
    obtain rfl := Option.some.inj (e4.symm.trans c4)
    obtain ⟨y4, rfl, g4⟩ := h4.one
    clear h4
    obtain ⟨x0, rfl, s0, r0⟩ := g0.slI
    obtain ⟨x1, rfl, s1, r1⟩ := g1.slI
    obtain ⟨x2, rfl, r2⟩ := g2.int
    obtain ⟨x3, rfl⟩ := toksD g3
    obtain ⟨x4, rfl, r4⟩ := g4.int
    simp [IntKind.min, IntKind.max, IntKind.signed, IntKind.bits] at r0 r1 r2 r4
    exact Mt.asks_spec x0 x1 x2 x3 x4 (by omega) (fun x hx => by have := r1 x hx; omega) (by omega)
theorem lifted (os : Os) (started : os.Started) (H : Type) (enc : TypeId × Value → H) :
    ReturnsInHanded {} Try.checked os 6 .any (Rows.matchAsksSpec.pre6 enc Try.prog Try.f6 Rows.matchAsksRow.domain false) (Rows.matchAsksSpec.post enc Try.prog Try.f6 false true false false) :=
  law_lifted (C := Try.checked) started 8 own (by kernel_rfl) (by kernel_rfl) Try.func6
    (ChangeSpec.witness6 (enc := enc) (C := Try.checked) false ⟨#[], #[.slice none 0 0, .slice none 0 0, .int .i64 0, .slice none 0 0, .int .i64 0], []⟩ 8 (by kernel_rfl) (by kernel_rfl) (by kernel_rfl) (by kernel_rfl))
    rfl (by kernel_rfl) rfl (by kernel_rfl) (by kernel_rfl) (fun ds h => match ds, h with | [_, _, _, _, _], _ => rfl) spec
theorem over : Rows.matchAsksRow.holds Try.pinned (OpenSpec.ofChange Rows.matchAsksSpec) :=
  OpenClaim.holds_of_wide 6 Try.f6 rfl rfl rfl rfl rfl rfl rfl ⟨rfl, rfl, rfl, rfl, rfl⟩ rfl rfl rfl rfl rfl (by kernel_rfl) Try.func6 (by kernel_rfl)
    (of_decide_eq_true (by kernel_rfl)) (by unfold Func.isWrapper; first | (rw [if_pos (by decide +kernel)]; kernel_rfl) | (rw [if_neg (by decide +kernel)]; exact ⟨rfl, rfl⟩))
    (fun os started H enc _ => lifted os started H enc)
theorem proved : Rows.MatchAsksSaid := over
end Go.Proofs.Ytfbondeldbnmbaa.matchAsks
namespace Go.Proofs.Ytfbondeldbnmbaa
/-- The row, under a short name, for the claim. -/
theorem matchAsks_holds : Rows.MatchAsksSaid := matchAsks.proved
#print axioms matchAsks_holds
end Go.Proofs.Ytfbondeldbnmbaa
