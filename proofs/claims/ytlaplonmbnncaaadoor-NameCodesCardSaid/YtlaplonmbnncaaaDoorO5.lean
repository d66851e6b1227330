/- The argument that is bytes, opened (Door seat). -/
import Derived.Test.YtlaplonmbnncaaaDoorO3
import Derived.Test.YtlaplonmbnncaaaDoorE1
namespace Go.Proofs.YtlaplonmbnncaaaDoor
open Go.RowKit Go.WideShapes Go.ChangeShapes Go.Deep
set_option maxRecDepth 100000

theorem bytes_of {w : World} {A : Option Addr} {n cap : Nat} (h : SliceOf w [.int .u8] A n) (h1 : n ≤ cap) (h2 : cap ≤ maxLen) : ∃ l : List UInt8, CellsB w (.slice A n cap) l := by
  by_cases h0 : 0 < n
  · obtain ⟨b, o, hA, hb, hc⟩ := h h0
    have hf : ∀ i, ∃ x : UInt8, i < n → w.cell? ⟨b, o + i, none⟩ = some (.int .u8 (x.toNat : Int)) := fun i => by
      by_cases hi : i < n
      · obtain ⟨v, hv, r, rfl, hr⟩ := hc i hi 0 (.int .u8) rfl
        rw [List.length_singleton, Nat.mul_one, Nat.add_zero] at hv
        obtain ⟨r0, r1⟩ := u8_of hr
        obtain ⟨k, rfl⟩ := Int.eq_ofNat_of_zero_le r0
        exact ⟨UInt8.ofNat k, fun _ => by rw [hv, u8_nat k (by omega)]⟩
      · exact ⟨0, fun k => absurd k hi⟩
    let f := fun i => Classical.choose (hf i)
    have hf' : ∀ i, i < n → w.cell? ⟨b, o + i, none⟩ = some (.int .u8 ((f i).toNat : Int)) := fun i => Classical.choose_spec (hf i)
    refine ⟨(List.range n).map f, A, cap, by simp, by simpa using h1, h2, fun _ => ⟨b, o, hA, hb, fun k hk => ?_⟩⟩
    have hk' : k < n := by simpa using hk
    rw [hf' k hk']
    simp
  · obtain rfl : n = 0 := by omega
    exact ⟨[], A, cap, rfl, h1, h2, fun k => absurd k (by decide)⟩
end Go.Proofs.YtlaplonmbnncaaaDoor
