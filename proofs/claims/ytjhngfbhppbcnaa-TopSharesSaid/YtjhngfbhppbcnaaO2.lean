/- The argument of TopShares, opened. -/
import Derived.Test.YtjhngfbhppbcnaaOpen
import Derived.Test.YtjhngfbhppbcnaaS1
namespace Go.Proofs.Ytjhngfbhppbcnaa
open Go.RowKit Go.WideShapes Go.ChangeShapes Go.Deep
set_option maxRecDepth 100000

def plcKs : List LeafK := [.int .u8, .int .u8, .int .u8, .int .u8, .int .u8, .int .u8, .int .u8, .int .u8]
theorem flat5 : Flat Try.prog 5 [.int .u8] := flat_int Try.underlying5 (by kernel_rfl)
theorem flat22 : Flat Try.prog 22 plcKs := flat_array Try.underlying22 flat5 (by kernel_rfl)
theorem u8_of {n : Int} (h : (Lit.int .u8 n).wf = true) : 0 ≤ n ∧ n < 256 := by
  simp [Lit.wf, show IntKind.u8.min = 0 from rfl, show IntKind.u8.max = 255 from rfl] at h
  omega
theorem places_of {cs : List Value} (h : Leaves plcKs cs) : ∃ Wh : Nat → Int, Value.agg cs.toArray = .agg (arrF 8 (u8F Wh)) ∧ ∀ j, j < 8 → 0 ≤ Wh j ∧ Wh j < 256 := by
  obtain ⟨hl, h⟩ := h
  match cs, hl with
  | [c0, c1, c2, c3, c4, c5, c6, c7], _ =>
    obtain ⟨v0, h0, q0, rfl, w0⟩ := h 0 _ rfl
    obtain ⟨v1, h1, q1, rfl, w1⟩ := h 1 _ rfl
    obtain ⟨v2, h2, q2, rfl, w2⟩ := h 2 _ rfl
    obtain ⟨v3, h3, q3, rfl, w3⟩ := h 3 _ rfl
    obtain ⟨v4, h4, q4, rfl, w4⟩ := h 4 _ rfl
    obtain ⟨v5, h5, q5, rfl, w5⟩ := h 5 _ rfl
    obtain ⟨v6, h6, q6, rfl, w6⟩ := h 6 _ rfl
    obtain ⟨v7, h7, q7, rfl, w7⟩ := h 7 _ rfl
    simp at h0 h1 h2 h3 h4 h5 h6 h7
    subst h0 h1 h2 h3 h4 h5 h6 h7
    refine ⟨(fun | 0 => q0 | 1 => q1 | 2 => q2 | 3 => q3 | 4 => q4 | 5 => q5 | 6 => q6 | _ => q7), rfl, fun j hj => ?_⟩
    match j, hj with
    | 0, _ => exact u8_of w0
    | 1, _ => exact u8_of w1
    | 2, _ => exact u8_of w2
    | 3, _ => exact u8_of w3
    | 4, _ => exact u8_of w4
    | 5, _ => exact u8_of w5
    | 6, _ => exact u8_of w6
    | 7, _ => exact u8_of w7
theorem arr_open {P : Program} {H : Type} {enc : TypeId × Value → H} {w : World} {base : Nat} {spare : Nat → Bool} {held : Bool} {t e : TypeId} {n : Nat} {v : Value} {d : DataW H} {p : List MemPlace} {r : Reach} {b0 : Nat} {ks : List LeafK} (ht : P.underlying t = some (.array n e)) (he : Flat P t ks)
    (hv : Value.okWide P w r b0 t v) (h : DataW.Trod enc P w base spare held t v d p) : ∃ cs : List Value, v = .agg cs.toArray ∧ Leaves ks cs := by
  obtain ⟨cs, rfl⟩ : ∃ cs, v = .agg cs := by
    simp only [Value.okWide, ht] at hv
    obtain ⟨cs, h1, _⟩ := hv
    exact ⟨cs, h1⟩
  obtain ⟨fuel, hf⟩ := h
  exact ⟨cs.toList, by simp, he.2 H enc w base spare held fuel _ _ hf⟩
end Go.Proofs.Ytjhngfbhppbcnaa
