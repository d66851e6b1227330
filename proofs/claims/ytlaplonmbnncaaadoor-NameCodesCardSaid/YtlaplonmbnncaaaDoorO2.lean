/- The arguments of the Door seat's statements on names, opened. -/
import Derived.Test.YtlaplonmbnncaaaDoorOpen
import Derived.Test.YtlaplonmbnncaaaDoorD3
import Derived.ChangeMaps5
namespace Go.Proofs.YtlaplonmbnncaaaDoor
open Go.RowKit Go.WideShapes Go.ChangeShapes Go.Deep
set_option maxRecDepth 100000

theorem flat5 : Flat Tryd.prog 5 [.int .u8] := flat_int Tryd.underlying5 (by kernel_rfl)
theorem flat9 : Flat Tryd.prog 9 [.string] := flat_string Tryd.underlying9 (by kernel_rfl)
theorem texts_of {w : World} {A : Option Addr} {n cap : Nat} (h : SliceOf w [.string] A n) (h1 : n ≤ cap) (h2 : cap ≤ maxLen) : ∃ l : List ByteArray, CellsS w (.slice A n cap) l ∧ ∀ s ∈ l, s.size ≤ maxLen := by
  by_cases h0 : 0 < n
  · obtain ⟨b, o, hA, hb, hc⟩ := h h0
    have hf : ∀ i, ∃ s : ByteArray, i < n → w.cell? ⟨b, o + i, none⟩ = some (.string s) ∧ s.size ≤ maxLen := fun i => by
      by_cases hi : i < n
      · obtain ⟨v, hv, s, rfl, hs⟩ := hc i hi 0 .string rfl
        rw [List.length_singleton, Nat.mul_one, Nat.add_zero] at hv
        exact ⟨s, fun _ => ⟨hv, hs⟩⟩
      · exact ⟨⟨#[]⟩, fun k => absurd k hi⟩
    let f := fun i => Classical.choose (hf i)
    have hf' : ∀ i, i < n → w.cell? ⟨b, o + i, none⟩ = some (.string (f i)) ∧ (f i).size ≤ maxLen := fun i => Classical.choose_spec (hf i)
    refine ⟨(List.range n).map f, ⟨A, cap, by simp, by simpa using h1, h2, fun _ => ⟨b, o, hA, hb, fun k hk => ?_⟩⟩, fun s hs => ?_⟩
    · have hk' : k < n := by simpa using hk
      rw [(hf' k hk').1]
      simp
    · obtain ⟨i, hi, rfl⟩ := List.mem_map.1 hs
      exact (hf' i (List.mem_range.1 hi)).2
  · obtain rfl : n = 0 := by omega
    exact ⟨[], ⟨A, cap, rfl, h1, h2, fun k => absurd k (by decide)⟩, fun s hs => by cases hs⟩
end Go.Proofs.YtlaplonmbnncaaaDoor
