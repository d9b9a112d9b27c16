/-
  The statement BitsPlaysSaid: after each of at most 40 arbitrary steps Put, Bytes, Long, Get, Left and Rest agree with the reference; for every list of steps and every bytes.
-/
import Derived.Test.YtfbondeldbnmbaaRows
import Derived.Test.YtfbondeldbnmbaaEngZ
import Derived.Test.YtfbondeldbnmbaaBitsM
import Derived.OpenShut
set_option linter.unusedVariables false
set_option linter.unusedSimpArgs false
namespace Go.Proofs.Ytfbondeldbnmbaa.bitsPlays
open Go.ChangeShapes Go.WideShapes Go.ChangeAt Go.RowKit Go.Eng
theorem own : ownKnob Try.prog.godebug = none := by kernel_rfl
theorem ops {d : D} (h : WT (.sl 16 [.int .u64, .int .i64]) d) : ∃ l : List (Nat × Int), d = .sl 2 (rM Bits.opR l) ∧ l.length ≤ 2 ^ 46 ∧ ∀ x ∈ l, x.1 < 2 ^ 64 := by
  obtain ⟨rows, rfl, h1, h2⟩ := h.sl
  obtain ⟨l, e, hl⟩ := image_of (f := Bits.opR) (p := fun x => x.1 < 2 ^ 64) (rows := rows) (fun r hr => by
    have h3 := h2 r hr
    match r, h3 with
    | [d1, d2], h3 =>
      obtain ⟨g1, g2, _⟩ := h3
      obtain ⟨n, rfl, h4⟩ := g1.int
      obtain ⟨x, rfl, h5⟩ := g2.int
      simp only [IntKind.min, IntKind.max, IntKind.signed, IntKind.bits] at h4
      simp at h4
      refine ⟨(n.toNat, x), ?_, by simp only; omega⟩
      simp only [Bits.opR]
      rw [show ((n.toNat : Nat) : Int) = n by omega])
  refine ⟨l, by rw [e]; rfl, ?_, hl⟩
  rw [e, List.length_map] at h1; omega
theorem spec (dss : List (List D)) (h : WTargs Try.prog 8 Try.f3.params.toList dss) : Eng.Spec Try.prog 3 [] [] (argsS Try.prog Try.f3.params.toList dss) [] (.d (.v (.bool true))) := by
  match dss, h with
  | [d1, d2], h =>
    obtain ⟨⟨l1, e1, h1⟩, ⟨l2, e2, h2⟩, _⟩ := h
    have c1 : csOf Try.prog 8 (Try.f3.params.toList[0]) = some [.sl 16 [.int .u64, .int .i64]] := by kernel_rfl
    have c2 : csOf Try.prog 8 (Try.f3.params.toList[1]) = some [.sl 1 [.int .u8]] := by kernel_rfl
    obtain rfl := Option.some.inj (e1.symm.trans c1)
    obtain rfl := Option.some.inj (e2.symm.trans c2)
    obtain ⟨y1, rfl, g1⟩ := h1.one
    obtain ⟨y2, rfl, g2⟩ := h2.one
    clear h1 h2
    obtain ⟨l, rfl, h1, h2⟩ := ops g1
    obtain ⟨b, rfl, h3, h4⟩ := g2.slI
    refine Bits.plays_spec l b h1 (by omega) h2 (fun x hx => ?_)
    have := h4 x hx
    simp only [IntKind.min, IntKind.max, IntKind.signed, IntKind.bits] at this
    simp at this
    omega
theorem lifted (os : Os) (started : os.Started) (H : Type) (enc : TypeId × Value → H) :
    ReturnsInHanded {} Try.checked os 3 .any (Rows.bitsPlaysSpec.pre6 enc Try.prog Try.f3 Rows.bitsPlaysRow.domain false) (Rows.bitsPlaysSpec.post enc Try.prog Try.f3 false true false false) :=
  law_lifted (C := Try.checked) started 8 own (by kernel_rfl) (by kernel_rfl) Try.func3
    (ChangeSpec.witness6 (enc := enc) (C := Try.checked) false ⟨#[], #[.slice none 0 0, .slice none 0 0], []⟩ 8 (by kernel_rfl) (by kernel_rfl) (by kernel_rfl) (by kernel_rfl))
    rfl (by kernel_rfl) rfl (by kernel_rfl) (by kernel_rfl) (fun ds h => match ds, h with | [_, _], _ => rfl) spec
theorem over : Rows.bitsPlaysRow.holds Try.pinned (OpenSpec.ofChange Rows.bitsPlaysSpec) :=
  OpenClaim.holds_of_wide 3 Try.f3 rfl rfl rfl rfl rfl rfl rfl ⟨rfl, rfl, rfl, rfl, rfl⟩ rfl rfl rfl rfl rfl (by kernel_rfl) Try.func3 (by kernel_rfl)
    (of_decide_eq_true (by kernel_rfl)) (by unfold Func.isWrapper; first | (rw [if_pos (by decide +kernel)]; kernel_rfl) | (rw [if_neg (by decide +kernel)]; exact ⟨rfl, rfl⟩))
    (fun os started H enc _ => lifted os started H enc)
theorem proved : Rows.BitsPlaysSaid := over
end Go.Proofs.Ytfbondeldbnmbaa.bitsPlays
namespace Go.Proofs.Ytfbondeldbnmbaa
/-- The row, under a short name, for the claim. -/
theorem bitsPlays_holds : Rows.BitsPlaysSaid := bitsPlays.proved
#print axioms bitsPlays_holds
end Go.Proofs.Ytfbondeldbnmbaa
