/- The arguments of TopNested, opened. -/
import Derived.Test.YtjhngfbhppbcnaaOpen
import Derived.Test.YtjhngfbhppbcnaaN1
namespace Go.Proofs.Ytjhngfbhppbcnaa
open Go.RowKit Go.WideShapes Go.ChangeShapes Go.Deep
set_option maxRecDepth 100000

def regKs : List LeafK := [.int .u16, .int .u16, .int .u16, .int .u16, .int .u16, .int .u16, .int .u16, .int .u16, .int .u16]
theorem flat5 : Flat Try.prog 5 [.int .u8] := flat_int Try.underlying5 (by kernel_rfl)
theorem flat32 : Flat Try.prog 32 [.int .u16] := flat_int Try.underlying32 (by kernel_rfl)
theorem flat33 : Flat Try.prog 33 (List.replicate 8 [.int .u16]).flatten := flat_array Try.underlying33 flat32 (by kernel_rfl)
theorem flat35 : Flat Try.prog 35 regKs := by
  refine flat_struct (kss := [[.int .u16], (List.replicate 8 [.int .u16]).flatten]) Try.underlying35 (by kernel_rfl) (by rfl) fun i f ks hf hk => ?_
  match i, hf, hk with
  | 0, hf, hk => simp at hf hk; subst hf; subst hk; exact ⟨flat32, rfl⟩
  | 1, hf, hk => simp at hf hk; subst hf; subst hk; exact ⟨flat33, rfl⟩
theorem regs_of {cs : List Value} (h : Leaves regKs cs) : ∃ q, Value.agg cs.toArray = regV q := by
  obtain ⟨hl, h⟩ := h
  match cs, hl with
  | [c0, c1, c2, c3, c4, c5, c6, c7, c8], _ =>
    obtain ⟨v0, h0, q0, rfl, _⟩ := h 0 _ rfl
    obtain ⟨v1, h1, q1, rfl, _⟩ := h 1 _ rfl
    obtain ⟨v2, h2, q2, rfl, _⟩ := h 2 _ rfl
    obtain ⟨v3, h3, q3, rfl, _⟩ := h 3 _ rfl
    obtain ⟨v4, h4, q4, rfl, _⟩ := h 4 _ rfl
    obtain ⟨v5, h5, q5, rfl, _⟩ := h 5 _ rfl
    obtain ⟨v6, h6, q6, rfl, _⟩ := h 6 _ rfl
    obtain ⟨v7, h7, q7, rfl, _⟩ := h 7 _ rfl
    obtain ⟨v8, h8, q8, rfl, _⟩ := h 8 _ rfl
    simp at h0 h1 h2 h3 h4 h5 h6 h7 h8
    subst h0 h1 h2 h3 h4 h5 h6 h7 h8
    exact ⟨(fun | 0 => q0 | 1 => q1 | 2 => q2 | 3 => q3 | 4 => q4 | 5 => q5 | 6 => q6 | 7 => q7 | _ => q8), rfl⟩
theorem leaf_open {P : Program} {H : Type} {enc : TypeId × Value → H} {w : World} {base : Nat} {spare : Nat → Bool} {held : Bool} {t : TypeId} {v : Value} {d : DataW H} {p : List MemPlace} {k : LeafK} (he : Flat P t [k])
    (hone : v.cells = #[v]) (h : DataW.Trod enc P w base spare held t v d p) : leafOk k v := by
  obtain ⟨fuel, hf⟩ := h
  have := he.2 H enc w base spare held fuel _ _ hf
  rw [hone] at this
  obtain ⟨v', h1, h2⟩ := this.2 0 k rfl
  simp at h1
  rwa [h1]
end Go.Proofs.Ytjhngfbhppbcnaa
