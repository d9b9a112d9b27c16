import Derived.Test.YthbonnlhoaeflaaMeF
import Derived.Test.YthbonnlhoaeflaaEngZ
set_option linter.unusedVariables false
set_option linter.unusedSimpArgs false
namespace Go.Proofs.Me
open Go.RowKit Go.Lib Go.Eng Go.Proofs
theorem attrsD {d : D} (h : WT (.sl 32 [.str, .str]) d) : ∃ l : List At, d = .sl 2 (rM attrR l) ∧ l.length ≤ 2 ^ 42 := by
  obtain ⟨rows, rfl, h1, h2⟩ := h.sl
  obtain ⟨l, e, _⟩ := image_of (f := attrR) (p := fun _ => True) (rows := rows) (fun r hr => by
    have h3 := h2 r hr
    match r, h3 with
    | [d1, d2], h3 =>
      obtain ⟨g1, g2, _⟩ := h3
      obtain ⟨a, rfl, _⟩ := g1.str
      obtain ⟨b, rfl, _⟩ := g2.str
      exact ⟨(a, b), rfl, trivial⟩)
  subst e
  exact ⟨l, rfl, by simp only [List.length_map] at h1; omega⟩
theorem acesD {d : D} (h : WT (.sl 24 [.int .i64, .int .i64, .int .i64]) d) : ∃ l : List Ac, d = .sl 3 (rM aceR l) ∧ l.length ≤ 5864062014634 := by
  obtain ⟨rows, rfl, h1, h2⟩ := h.sl
  obtain ⟨l, e, _⟩ := image_of (f := aceR) (p := fun _ => True) (rows := rows) (fun r hr => by
    have h3 := h2 r hr
    match r, h3 with
    | [d1, d2, d3], h3 =>
      obtain ⟨g1, g2, g3, _⟩ := h3
      obtain ⟨a, rfl, _⟩ := g1.int
      obtain ⟨b, rfl, _⟩ := g2.int
      obtain ⟨c, rfl, _⟩ := g3.int
      exact ⟨(a, b, c), rfl, trivial⟩)
  subst e
  exact ⟨l, rfl, by simp only [List.length_map] at h1; omega⟩
theorem metaD {ds : List D} (h : WTs [.int .i64, .int .i64, .int .i64, .int .i64, .sl 32 [.str, .str], .sl 24 [.int .i64, .int .i64, .int .i64]] ds) : ∃ m : M, (S.agg (ds.map .d)) = metaS m ∧ smallM m := by
  match ds, h with
  | [d1, d2, d3, d4, d5, d6], h =>
    obtain ⟨g1, g2, g3, g4, g5, g6, _⟩ := h
    obtain ⟨a, rfl, _⟩ := g1.int
    obtain ⟨b, rfl, _⟩ := g2.int
    obtain ⟨c, rfl, _⟩ := g3.int
    obtain ⟨e, rfl, _⟩ := g4.int
    obtain ⟨l, rfl, hl⟩ := attrsD g5
    obtain ⟨q, rfl, hq⟩ := acesD g6
    exact ⟨⟨a, b, c, e, l, q⟩, rfl, hl, hq⟩
end Go.Proofs.Me
