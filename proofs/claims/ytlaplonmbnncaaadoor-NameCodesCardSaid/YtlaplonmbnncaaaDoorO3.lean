/- The arguments that are capabilities, opened. -/
import Derived.Test.YtlaplonmbnncaaaDoorO2
namespace Go.Proofs.YtlaplonmbnncaaaDoor
open Go.RowKit Go.WideShapes Go.ChangeShapes Go.Deep
set_option maxRecDepth 100000

theorem flat34 : Flat Tryd.prog 34 [.string, .int .u8] := by
  refine flat_struct (kss := [[.string], [.int .u8]]) Tryd.underlying34 (by kernel_rfl) (by rfl) fun i f ks hf hk => ?_
  match i, hf, hk with
  | 0, hf, hk => simp at hf hk; subst hf; subst hk; exact ⟨flat9, rfl⟩
  | 1, hf, hk => simp at hf hk; subst hf; subst hk; exact ⟨flat5, rfl⟩
theorem u8_of {n : Int} (h : (Lit.int .u8 n).wf = true) : 0 ≤ n ∧ n < 256 := by
  simp [Lit.wf, show IntKind.u8.min = 0 from rfl, show IntKind.u8.max = 255 from rfl] at h
  omega
theorem cap_of {cs : List Value} (h : Leaves [.string, .int .u8] cs) : ∃ (n : ByteArray) (r : Int), Value.agg cs.toArray = capV n r ∧ n.size ≤ maxLen ∧ 0 ≤ r ∧ r < 256 := by
  obtain ⟨hl, h⟩ := h
  match cs, hl with
  | [c0, c1], _ =>
    obtain ⟨v0, h0, n, rfl, hn⟩ := h 0 _ rfl
    obtain ⟨v1, h1, r, rfl, hr⟩ := h 1 _ rfl
    simp at h0 h1
    subst h0 h1
    exact ⟨n, r, rfl, hn, (u8_of hr).1, (u8_of hr).2⟩
end Go.Proofs.YtlaplonmbnncaaaDoor
