import Derived.Test.YtnjnfdjoonogaaaDoorAcA
import Derived.Test.YtnjnfdjoonogaaaDoorEngZ
set_option linter.unusedVariables false
set_option linter.unusedSimpArgs false
namespace Go.Proofs.Ac
open Go.RowKit Go.Lib Go.Eng Go.Proofs
theorem acesD {d : D} (h : WT (.sl 24 [.int .i64, .int .i64, .int .i64]) d) : ∃ l : List Ac, d = .sl 3 (rM aceR l) ∧ l.length ≤ 5864062014634 := by
  obtain ⟨rows, rfl, h1, h2⟩ := h.sl
  obtain ⟨l, e, _⟩ := image_of (f := aceR) (p := fun _ => True) (rows := rows) (fun r hr => by
    have h3 := h2 r hr
    match r, h3 with
    | [d1, d2, d3], h3 =>
      obtain ⟨g1, g2, g3, _⟩ := h3
      obtain ⟨a, rfl, _⟩ := g1.int
      obtain ⟨b, rfl, _⟩ := g2.int
      obtain ⟨c, rfl, _⟩ := g3.int
      exact ⟨(a, b, c), rfl, trivial⟩)
  subst e
  exact ⟨l, rfl, by simp only [List.length_map] at h1; omega⟩
end Go.Proofs.Ac
