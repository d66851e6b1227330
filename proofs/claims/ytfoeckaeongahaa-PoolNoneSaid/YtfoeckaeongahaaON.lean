/- The arguments of PoolNone, opened. -/
import Derived.Test.YtfoeckaeongahaaOpen
import Derived.Test.YtfoeckaeongahaaPN
import Derived.ChangeMaps5
namespace Go.Proofs.Ytfoeckaeongahaa
open Go.RowKit Go.WideShapes Go.ChangeShapes Go.Deep
set_option maxRecDepth 100000

theorem flat3 : Flat Try.prog 3 [.int .i64] := flat_int Try.underlying3 (by kernel_rfl)
theorem flat5 : Flat Try.prog 5 [.int .u8] := flat_int Try.underlying5 (by kernel_rfl)
theorem flat9 : Flat Try.prog 9 [.string] := flat_string Try.underlying9 (by kernel_rfl)
theorem flat23 : Flat Try.prog 23 [.string, .int .u8] := by
  refine flat_struct (kss := [[.string], [.int .u8]]) Try.underlying23 (by kernel_rfl) (by rfl) fun i f ks hf hk => ?_
  match i, hf, hk with
  | 0, hf, hk => simp at hf hk; subst hf; subst hk; exact ⟨flat9, rfl⟩
  | 1, hf, hk => simp at hf hk; subst hf; subst hk; exact ⟨flat5, rfl⟩
theorem flat25 : Flat Try.prog 25 [.int .i64, .int .i64, .int .u8, .int .u8, .int .u8, .string, .int .u8] := by
  refine flat_struct (kss := [[.int .i64], [.int .i64], [.int .u8], [.int .u8], [.int .u8], [.string, .int .u8]]) Try.underlying25 (by kernel_rfl) (by rfl) fun i f ks hf hk => ?_
  match i, hf, hk with
  | 0, hf, hk => simp at hf hk; subst hf; subst hk; exact ⟨flat3, rfl⟩
  | 1, hf, hk => simp at hf hk; subst hf; subst hk; exact ⟨flat3, rfl⟩
  | 2, hf, hk => simp at hf hk; subst hf; subst hk; exact ⟨flat5, rfl⟩
  | 3, hf, hk => simp at hf hk; subst hf; subst hk; exact ⟨flat5, rfl⟩
  | 4, hf, hk => simp at hf hk; subst hf; subst hk; exact ⟨flat5, rfl⟩
  | 5, hf, hk => simp at hf hk; subst hf; subst hk; exact ⟨flat23, rfl⟩
theorem deed_of {cs : List Value} (h : Leaves [.int .i64, .int .i64, .int .u8, .int .u8, .int .u8, .string, .int .u8] cs) : ∃ (k m e t f : Int) (n : ByteArray) (r : Int), Value.agg cs.toArray = deedV k m e t f n r := by
  obtain ⟨hl, h⟩ := h
  match cs, hl with
  | [c0, c1, c2, c3, c4, c5, c6], _ =>
    obtain ⟨v0, h0, k, rfl, -⟩ := h 0 _ rfl
    obtain ⟨v1, h1, m, rfl, -⟩ := h 1 _ rfl
    obtain ⟨v2, h2, e, rfl, -⟩ := h 2 _ rfl
    obtain ⟨v3, h3, t, rfl, -⟩ := h 3 _ rfl
    obtain ⟨v4, h4, f, rfl, -⟩ := h 4 _ rfl
    obtain ⟨v5, h5, n, rfl, -⟩ := h 5 _ rfl
    obtain ⟨v6, h6, r, rfl, -⟩ := h 6 _ rfl
    simp at h0 h1 h2 h3 h4 h5 h6
    subst h0 h1 h2 h3 h4 h5 h6
    exact ⟨k, m, e, t, f, n, r, rfl⟩
end Go.Proofs.Ytfoeckaeongahaa
