/- The arguments of area's laws, opened. -/
import Derived.Test.YtbggdimkfkdhmaaOpen
import Derived.Test.YtbggdimkfkdhmaaM1
namespace Go.Proofs.Ytbggdimkfkdhmaa
open Go.RowKit Go.WideShapes Go.ChangeShapes Go.Deep

def regKs : List LeafK := [.int .u16, .int .u16, .int .u16, .int .u16, .int .u16, .int .u16, .int .u16, .int .u16, .int .u16]
def deedKs : List LeafK := [.int .i64, .int .u8, .int .u16, .int .u16, .int .u16, .int .u16, .int .u16, .int .u16, .int .u16, .int .u16, .int .u16, .int .u16]

theorem flat3 : Flat Try.prog 3 [.int .i64] := flat_int Try.underlying3 (by kernel_rfl)
theorem flat37 : Flat Try.prog 37 [.int .u8] := flat_int Try.underlying37 (by kernel_rfl)
theorem flat28 : Flat Try.prog 28 [.int .u16] := flat_int Try.underlying28 (by kernel_rfl)
theorem flat29 : Flat Try.prog 29 (List.replicate 8 [.int .u16]).flatten := flat_array Try.underlying29 flat28 (by kernel_rfl)
theorem flat31 : Flat Try.prog 31 regKs := by
  refine flat_struct (kss := [[.int .u16], (List.replicate 8 [.int .u16]).flatten]) Try.underlying31 (by kernel_rfl) (by rfl) fun i f ks hf hk => ?_
  match i, hf, hk with
  | 0, hf, hk => simp at hf hk; subst hf; subst hk; exact ⟨flat28, rfl⟩
  | 1, hf, hk => simp at hf hk; subst hf; subst hk; exact ⟨flat29, rfl⟩
theorem flat39 : Flat Try.prog 39 deedKs := by
  refine flat_struct (kss := [[.int .i64], [.int .u8], [.int .u16], regKs]) Try.underlying39 (by kernel_rfl) (by rfl) fun i f ks hf hk => ?_
  match i, hf, hk with
  | 0, hf, hk => simp at hf hk; subst hf; subst hk; exact ⟨flat3, rfl⟩
  | 1, hf, hk => simp at hf hk; subst hf; subst hk; exact ⟨flat37, rfl⟩
  | 2, hf, hk => simp at hf hk; subst hf; subst hk; exact ⟨flat28, rfl⟩
  | 3, hf, hk => simp at hf hk; subst hf; subst hk; exact ⟨flat31, rfl⟩

theorem isDeeds_of {w : World} {A : Option Addr} {n : Nat} (h : SliceOf w deedKs A n) : IsDeeds w A n := by
  intro hn
  obtain ⟨b, off, hA, hb, hd⟩ := h hn
  refine ⟨b, off, hA, hb, fun i hi => ?_⟩
  have hd' := hd i hi
  obtain ⟨v0, h0, dn, rfl, _⟩ := hd' 0 _ rfl
  obtain ⟨v1, h1, dk, rfl, hw1⟩ := hd' 1 _ rfl
  obtain ⟨v2, h2, dx, rfl, _⟩ := hd' 2 _ rfl
  obtain ⟨v3, h3, q3, rfl, _⟩ := hd' 3 _ rfl
  obtain ⟨v4, h4, q4, rfl, _⟩ := hd' 4 _ rfl
  obtain ⟨v5, h5, q5, rfl, _⟩ := hd' 5 _ rfl
  obtain ⟨v6, h6, q6, rfl, _⟩ := hd' 6 _ rfl
  obtain ⟨v7, h7, q7, rfl, _⟩ := hd' 7 _ rfl
  obtain ⟨v8, h8, q8, rfl, _⟩ := hd' 8 _ rfl
  obtain ⟨v9, h9, q9, rfl, _⟩ := hd' 9 _ rfl
  obtain ⟨v10, h10, q10, rfl, _⟩ := hd' 10 _ rfl
  obtain ⟨v11, h11, q11, rfl, _⟩ := hd' 11 _ rfl
  refine ⟨dn, dk, dx, (fun | 0 => q3 | 1 => q4 | 2 => q5 | 3 => q6 | 4 => q7 | 5 => q8 | 6 => q9 | 7 => q10 | _ => q11), (wf_u8 hw1).1, h0, h1, h2, fun j hj => ?_⟩
  obtain rfl | rfl | rfl | rfl | rfl | rfl | rfl | rfl | rfl : j = 0 ∨ j = 1 ∨ j = 2 ∨ j = 3 ∨ j = 4 ∨ j = 5 ∨ j = 6 ∨ j = 7 ∨ j = 8 := by omega
  · exact h3
  · exact h4
  · exact h5
  · exact h6
  · exact h7
  · exact h8
  · exact h9
  · exact h10
  · exact h11

theorem regs_of {cs : List Value} (h : Leaves regKs cs) : ∃ q, Value.agg cs.toArray = regV q := by
  obtain ⟨hl, h⟩ := h
  match cs, hl with
  | [c0, c1, c2, c3, c4, c5, c6, c7, c8], _ =>
    obtain ⟨v0, h0, q0, rfl, _⟩ := h 0 _ rfl
    obtain ⟨v1, h1, q1, rfl, _⟩ := h 1 _ rfl
    obtain ⟨v2, h2, q2, rfl, _⟩ := h 2 _ rfl
    obtain ⟨v3, h3, q3, rfl, _⟩ := h 3 _ rfl
    obtain ⟨v4, h4, q4, rfl, _⟩ := h 4 _ rfl
    obtain ⟨v5, h5, q5, rfl, _⟩ := h 5 _ rfl
    obtain ⟨v6, h6, q6, rfl, _⟩ := h 6 _ rfl
    obtain ⟨v7, h7, q7, rfl, _⟩ := h 7 _ rfl
    obtain ⟨v8, h8, q8, rfl, _⟩ := h 8 _ rfl
    simp at h0 h1 h2 h3 h4 h5 h6 h7 h8
    subst h0 h1 h2 h3 h4 h5 h6 h7 h8
    exact ⟨(fun | 0 => q0 | 1 => q1 | 2 => q2 | 3 => q3 | 4 => q4 | 5 => q5 | 6 => q6 | 7 => q7 | _ => q8), rfl⟩
end Go.Proofs.Ytbggdimkfkdhmaa
