/- A deed, handed over by value, opened. -/
import Derived.Test.YtbggdimkfkdhmaaO1
namespace Go.Proofs.Ytbggdimkfkdhmaa
open Go.RowKit Go.WideShapes Go.ChangeShapes Go.Deep

theorem deed_of {cs : List Value} (h : Leaves deedKs cs) : ∃ n k x q, (0 : Int) ≤ k ∧ Value.agg cs.toArray = deedV n k x q := by
  obtain ⟨hl, h⟩ := h
  match cs, hl with
  | [c0, c1, c2, c3, c4, c5, c6, c7, c8, c9, c10, c11], _ =>
    obtain ⟨v0, h0, q0, rfl, _⟩ := h 0 _ rfl
    obtain ⟨v1, h1, q1, rfl, hw1⟩ := h 1 _ rfl
    obtain ⟨v2, h2, q2, rfl, _⟩ := h 2 _ rfl
    obtain ⟨v3, h3, q3, rfl, _⟩ := h 3 _ rfl
    obtain ⟨v4, h4, q4, rfl, _⟩ := h 4 _ rfl
    obtain ⟨v5, h5, q5, rfl, _⟩ := h 5 _ rfl
    obtain ⟨v6, h6, q6, rfl, _⟩ := h 6 _ rfl
    obtain ⟨v7, h7, q7, rfl, _⟩ := h 7 _ rfl
    obtain ⟨v8, h8, q8, rfl, _⟩ := h 8 _ rfl
    obtain ⟨v9, h9, q9, rfl, _⟩ := h 9 _ rfl
    obtain ⟨v10, h10, q10, rfl, _⟩ := h 10 _ rfl
    obtain ⟨v11, h11, q11, rfl, _⟩ := h 11 _ rfl
    simp at h0 h1 h2 h3 h4 h5 h6 h7 h8 h9 h10 h11
    subst h0 h1 h2 h3 h4 h5 h6 h7 h8 h9 h10 h11
    exact ⟨q0, q1, q2, (fun | 0 => q3 | 1 => q4 | 2 => q5 | 3 => q6 | 4 => q7 | 5 => q8 | 6 => q9 | 7 => q10 | _ => q11), (wf_u8 hw1).1, rfl⟩
end Go.Proofs.Ytbggdimkfkdhmaa
