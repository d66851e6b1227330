/- Counting ones, by the program and by the document. -/
import Derived.Test.YtkdojdcfakjjfaaDoorV5
namespace Go.Proofs.YtkdojdcfakjjfaaDoor
open Go.RowKit
set_option maxRecDepth 100000

theorem and1 (x : Int) (h0 : 0 ≤ x) (h1 : x ≤ 65535) : bits .and .u16 x 1 = x % 2 := by
  have h := bits_mask .u16 16 (by decide) (fun n a b => u16_in n a (by omega)) 1 (by decide) x h0 (by omega)
  have e : ((2 : Int) ^ 1 - 1) = 1 := by decide
  have e2 : ((2 : Int) ^ 1) = 2 := by decide
  rw [e, e2] at h
  exact h
theorem ones_any (w : World) (a : Int) (ha : isW a) : Calls Tryd.prog 33 #[.int .u16 a] w fun e w' => e = .returned (.int .i64 (pop a 16)) ∧ w = w' := by
  obtain ⟨h0, h1⟩ := ha
  go_enter Tryd.func33, Tryd.ntmps33
  go_wp2
  go_loopw [3, 5] (fun nv iv wr => ∃ (j : Nat), j ≤ 16 ∧ iv = .int .i64 j ∧ nv = .int .i64 (pop a j) ∧ wr = w) (fun _ iv _ => 16 - (intOf iv).toNat)
  case atStart => exact ⟨0, by omega, rfl, rfl, rfl⟩
  case round =>
    obtain ⟨j, hj, rfl, rfl, rfl⟩ := hrel
    obtain ⟨b0, b1⟩ := pop_b a j
    by_cases hlt : j < 16
    · have hn : pop a (j + 1) = pop a j + a / 2 ^ j % 2 := rfl
      have HN := Lib.hid hn
      clear hn
      have hx0 : 0 ≤ a / 2 ^ j := Int.ediv_nonneg h0 (Int.le_of_lt (Int.pow_pos (by decide)))
      have hx1 : a / 2 ^ j ≤ 65535 := Int.le_trans (Int.ediv_le_self _ h0) h1
      have HM := Lib.hid (and1 (a / 2 ^ j) hx0 hx1)
      clear hx0 hx1
      generalize pop a j = p at *
      rcases Int.emod_two_eq (a / 2 ^ j) with hb | hb
      · have hm := HM.out
        have hpn := HN.out
        rw [hb] at hm hpn
        have HP := Lib.hid hpn
        clear hpn
        go_wp2_with fail
        refine ⟨⟨j + 1, by omega, by go_num, ?_, trivial⟩, ?_⟩
        · rw [HP.out]
          first | rfl | (congr 1; omega)
        · simp [intOf]; omega
      · have hm := HM.out
        have hpn := HN.out
        rw [hb] at hm hpn
        have HP := Lib.hid hpn
        clear hpn
        go_wp2_with fail
        refine ⟨⟨j + 1, by omega, by go_num, ?_, trivial⟩, ?_⟩
        · rw [HP.out]
        · simp [intOf]; omega
    · obtain rfl : j = 16 := by omega
      go_wp2
      go_ret
      exact ⟨rfl, rfl⟩
theorem rones_any (w : World) (a : Int) (ha : isW a) : Calls Tryd.prog 41 #[.int .u16 a] w fun e w' => e = .returned (.int .i64 (pop a 16)) ∧ w = w' := by
  obtain ⟨h0, h1⟩ := ha
  have HT := Lib.hid (fun j => pop_top a j h0)
  go_enter Tryd.func41, Tryd.ntmps41
  go_wp2
  go_loopw [3, 4] (fun nv xv wr => ∃ (j : Nat), j ≤ 16 ∧ xv = .int .i64 (a / 2 ^ j) ∧ nv = .int .i64 (pop a j) ∧ wr = w) (fun _ xv _ => (intOf xv).toNat)
  case atStart => exact ⟨0, by omega, by show Value.int .i64 a = Value.int .i64 (a / 1); rw [Int.ediv_one], rfl, rfl⟩
  case round =>
    obtain ⟨j, hj, rfl, rfl, rfl⟩ := hrel
    obtain ⟨b0, b1⟩ := pop_b a j
    have hn : pop a (j + 1) = pop a j + a / 2 ^ j % 2 := rfl
    have hd := ediv_ediv_two a j
    have H := Lib.hid (And.intro hn hd)
    have hx0 : 0 ≤ a / 2 ^ j := Int.ediv_nonneg h0 (Int.le_of_lt (Int.pow_pos (by decide)))
    have hx1 : a / 2 ^ j ≤ 65535 := Int.le_trans (Int.ediv_le_self _ h0) h1
    have hj2 : 0 < a / 2 ^ j → j < 16 := by
      intro hp
      apply Classical.byContradiction
      intro hh
      obtain rfl : j = 16 := by omega
      have : a / (2 : Int) ^ 16 = a / 65536 := rfl
      omega
    clear hn hd
    by_cases hlt : a / 2 ^ j ≤ 0
    · have hz := HT.out j hlt (16 - j)
      rw [show j + (16 - j) = 16 by omega] at hz
      clear hj2
      generalize a / 2 ^ j = x at *
      go_wp2
      go_ret
      refine ⟨?_, rfl⟩
      show Ending.returned (Value.int .i64 (pop a j)) = _
      rw [hz]
    · have hj3 := hj2 (by omega)
      clear hj2
      generalize a / 2 ^ j = x at *
      have t1 : x.tmod 2 = x % 2 := Int.tmod_eq_emod_of_nonneg hx0
      have t2 : x.tdiv 2 = x / 2 := Int.tdiv_eq_ediv_of_nonneg hx0
      go_wp2
      go_roundw
      case rel =>
        refine ⟨j + 1, by omega, ?_, ?_, trivial⟩
        · rw [H.out.2]
        · rw [H.out.1]
      case measure => simp [intOf]; omega
end Go.Proofs.YtkdojdcfakjjfaaDoor
