/- The arguments of the pool's statements, opened. -/
import Derived.Test.YtfoeckaeongahaaDoorOpen
import Derived.Test.YtfoeckaeongahaaDoorR6
import Derived.ChangeMaps5
namespace Go.Proofs.YtfoeckaeongahaaDoor
open Go.RowKit Go.WideShapes Go.ChangeShapes Go.Deep
set_option maxRecDepth 100000

theorem flat3 : Flat Tryd.prog 3 [.int .i64] := flat_int Tryd.underlying3 (by kernel_rfl)
theorem flat5 : Flat Tryd.prog 5 [.int .u8] := flat_int Tryd.underlying5 (by kernel_rfl)
theorem flat9 : Flat Tryd.prog 9 [.string] := flat_string Tryd.underlying9 (by kernel_rfl)
theorem flat42 : Flat Tryd.prog 42 [.string, .int .u8] := by
  refine flat_struct (kss := [[.string], [.int .u8]]) Tryd.underlying42 (by kernel_rfl) (by rfl) fun i f ks hf hk => ?_
  match i, hf, hk with
  | 0, hf, hk => simp at hf hk; subst hf; subst hk; exact ⟨flat9, rfl⟩
  | 1, hf, hk => simp at hf hk; subst hf; subst hk; exact ⟨flat5, rfl⟩
theorem flat44 : Flat Tryd.prog 44 [.int .i64, .int .i64, .int .u8, .int .u8, .int .u8, .string, .int .u8] := by
  refine flat_struct (kss := [[.int .i64], [.int .i64], [.int .u8], [.int .u8], [.int .u8], [.string, .int .u8]]) Tryd.underlying44 (by kernel_rfl) (by rfl) fun i f ks hf hk => ?_
  match i, hf, hk with
  | 0, hf, hk => simp at hf hk; subst hf; subst hk; exact ⟨flat3, rfl⟩
  | 1, hf, hk => simp at hf hk; subst hf; subst hk; exact ⟨flat3, rfl⟩
  | 2, hf, hk => simp at hf hk; subst hf; subst hk; exact ⟨flat5, rfl⟩
  | 3, hf, hk => simp at hf hk; subst hf; subst hk; exact ⟨flat5, rfl⟩
  | 4, hf, hk => simp at hf hk; subst hf; subst hk; exact ⟨flat5, rfl⟩
  | 5, hf, hk => simp at hf hk; subst hf; subst hk; exact ⟨flat42, rfl⟩
theorem u8_of {n : Int} (h : (Lit.int .u8 n).wf = true) : 0 ≤ n ∧ n < 256 := by
  simp [Lit.wf, show IntKind.u8.min = 0 from rfl, show IntKind.u8.max = 255 from rfl] at h
  omega
theorem u8_nat {n : Int} (h : (Lit.int .u8 n).wf = true) : ∃ k : Nat, n = (k : Int) ∧ k < 256 := by
  obtain ⟨h0, h1⟩ := u8_of h
  obtain ⟨k, rfl⟩ := Int.eq_ofNat_of_zero_le h0
  exact ⟨k, rfl, by omega⟩
theorem deeds_of {w : World} {A : Option Addr} {n cap : Nat} (h : SliceOf w [.int .i64, .int .i64, .int .u8, .int .u8, .int .u8, .string, .int .u8] A n) (h1 : n ≤ cap) (h2 : cap ≤ maxLen) : ∃ L : List Deed, DeedsC w (.slice A n cap) L ∧ ∀ d ∈ L, d.Fits := by
  by_cases h0 : 0 < n
  · obtain ⟨b, o, hA, hb, hc⟩ := h h0
    have hf : ∀ i, ∃ d : Deed, i < n → (w.cell? ⟨b, o + i * 7, none⟩ = some (.int .i64 d.k) ∧ w.cell? ⟨b, o + i * 7 + 1, none⟩ = some (.int .i64 d.m) ∧ w.cell? ⟨b, o + i * 7 + 2, none⟩ = some (.int .u8 (d.e : Int)) ∧ w.cell? ⟨b, o + i * 7 + 3, none⟩ = some (.int .u8 (d.t : Int)) ∧
        w.cell? ⟨b, o + i * 7 + 4, none⟩ = some (.int .u8 (d.f : Int)) ∧ w.cell? ⟨b, o + i * 7 + 5, none⟩ = some (.string d.n) ∧ w.cell? ⟨b, o + i * 7 + 6, none⟩ = some (.int .u8 d.r)) ∧ d.Fits := fun i => by
      by_cases hi : i < n
      · obtain ⟨v0, g0, k, rfl, -⟩ := hc i hi 0 (.int .i64) rfl
        obtain ⟨v1, g1, m, rfl, -⟩ := hc i hi 1 (.int .i64) rfl
        obtain ⟨v2, g2, e, rfl, we⟩ := hc i hi 2 (.int .u8) rfl
        obtain ⟨v3, g3, t, rfl, wt⟩ := hc i hi 3 (.int .u8) rfl
        obtain ⟨v4, g4, f, rfl, wf⟩ := hc i hi 4 (.int .u8) rfl
        obtain ⟨v5, g5, s, rfl, ws⟩ := hc i hi 5 .string rfl
        obtain ⟨v6, g6, r, rfl, -⟩ := hc i hi 6 (.int .u8) rfl
        obtain ⟨e, rfl, -⟩ := u8_nat we
        obtain ⟨t, rfl, -⟩ := u8_nat wt
        obtain ⟨f, rfl, hf⟩ := u8_nat wf
        exact ⟨⟨k, m, e, t, f, s, r⟩, fun _ => ⟨⟨by simpa using g0, g1, g2, g3, g4, g5, g6⟩, ⟨by simpa [maxLen] using ws, hf⟩⟩⟩
      · exact ⟨⟨0, 0, 0, 0, 0, ⟨#[]⟩, 0⟩, fun k => absurd k hi⟩
    let f := fun i => Classical.choose (hf i)
    have hf' := fun i (hi : i < n) => Classical.choose_spec (hf i) hi
    refine ⟨(List.range n).map f, ⟨A, cap, by simp, by simpa using h1, h2, fun _ => ⟨b, o, hA, hb, fun k hk => ?_⟩⟩, fun d hd => ?_⟩
    · have hk' : k < n := by simpa using hk
      have := (hf' k hk').1
      simpa using this
    · obtain ⟨i, hi, rfl⟩ := List.mem_map.1 hd
      exact (hf' i (List.mem_range.1 hi)).2
  · obtain rfl : n = 0 := by omega
    exact ⟨[], ⟨A, cap, rfl, h1, h2, fun k => absurd k (by decide)⟩, fun d hd => by cases hd⟩
end Go.Proofs.YtfoeckaeongahaaDoor
