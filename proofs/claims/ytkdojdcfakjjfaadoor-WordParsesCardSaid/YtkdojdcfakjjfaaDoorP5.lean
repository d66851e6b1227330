/- What a text says: the document's 'Parse', for every text. -/
import Derived.Test.YtkdojdcfakjjfaaDoorP4
namespace Go.Proofs.YtkdojdcfakjjfaaDoor
open Go.RowKit
set_option maxRecDepth 100000

theorem indexJ (w : World) (s : ByteArray) (j : Nat) (h : j < s.size) : (Instr.index 9 (.string s) (.int .i64 (j : Int))).run Tryd.prog w = .ok (.int .u8 (s[j]'h).toNat) w := by
  rw [run_index_string (P := Tryd.prog) w 9 s .i64 j Tryd.underlying9, dif_pos (by omega)]
  rfl
theorem pow_le7 (j : Nat) (h : j ≤ 7) : (16 : Int) ^ j ≤ 268435456 := by
  have hc : j = 0 ∨ j = 1 ∨ j = 2 ∨ j = 3 ∨ j = 4 ∨ j = 5 ∨ j = 6 ∨ j = 7 := by omega
  rcases hc with rfl | rfl | rfl | rfl | rfl | rfl | rfl | rfl <;> decide
theorem step_bound7 (n base v : Int) (j : Nat) (h0 : 0 ≤ n) (hn : n < 16 ^ j) (b0 : 1 ≤ base) (b1 : base ≤ 16) (v0 : 0 ≤ v) (v1 : v < base) (hj : j < 7) : 0 ≤ n * base ∧ n * base + v < 16 ^ (j + 1) ∧ n * base + v ≤ 268435456 := by
  have h1 := Int.mul_nonneg h0 (show 0 ≤ base by omega)
  have h2 : n * base ≤ (16 ^ j - 1) * base := Int.mul_le_mul_of_nonneg_right (by omega) (by omega)
  have h3 : (16 ^ j - 1) * base ≤ (16 ^ j - 1) * 16 := Int.mul_le_mul_of_nonneg_left b1 (by omega)
  have h4 := pow_le7 (j + 1) (by omega)
  rw [Int.pow_succ] at *
  omega
theorem val16 (c : Int) (h : valN c 16 < 16) : c < 128 := by
  unfold valN at h
  split at h <;> (try split at h) <;> omega
theorem val10 (c : Int) : (valN c 16 ≤ 9 → c < 128 ∧ valN c 10 < 10 ∧ valN c 10 = valN c 16) ∧ (9 < valN c 16 → ¬ valN c 10 < 10) := by
  unfold valN
  split <;> (try split) <;> omega
theorem tail_list (s : ByteArray) : (s.extract 1 s.size).data.toList = s.data.toList.drop 1 := by
  rw [ByteArray.data_extract, Array.toList_extract]
  show (s.data.toList.drop 1).take (s.size - 1) = _
  exact List.take_of_length_le (by rw [List.length_drop]; exact Nat.le_refl _)
theorem tail_size (s : ByteArray) : (s.extract 1 s.size).size = s.size - 1 := by rw [ByteArray.size_extract]; omega
/-- What hex digits behind the first byte say. -/
theorem hexG (s : ByteArray) : numG 16 (s.extract 1 s.size) 4 = if s.size < 2 ∨ 5 < s.size then none else numF 16 (s.data.toList.drop 1) 0 := by
  unfold numG
  rw [tail_list, tail_size]
  by_cases h : s.size < 2 ∨ 5 < s.size
  · rw [if_pos h, if_pos (by omega)]
  · rw [if_neg h, if_neg (by omega)]

theorem size_no (s : ByteArray) (h : 0 < s.size) : ((s.size : Int) == 0) = false := beq_eq_false_iff_ne.2 (by omega)
set_option maxHeartbeats 4000000 in
theorem rparse_hex (w : World) (s : ByteArray) (h0 : 0 < s.size) (h6 : s.size ≤ 6) (hb : b0 s = 120) : Calls Tryd.prog 42 #[.string s] w fun e w' => e = .returned (okE (numG 16 (s.extract 1 s.size) 4)) ∧ w = w' := by
  have hi := fun w => index0 w s h0
  rw [hb] at hi
  have hz := size_no s h0
  have h6' : (s.size : Int) ≤ 6 := by omega
  have HB : ∀ n : Int, numF 16 (s.data.toList.drop 1) 0 = some n → s.size ≤ 5 → IntKind.u16.wrap n = n := fun n hn hs => by
    obtain ⟨h1, h2⟩ := numF_bound 16 (by decide) (by decide) _ 0 n (Int.le_refl _) hn
    have h3 := h2 0 (by decide)
    have h4 : (s.data.toList.drop 1).length = s.size - 1 := by rw [List.length_drop]; rfl
    rw [h4] at h3
    refine u16_in n h1 ?_
    rcases (by omega : s.size = 1 ∨ s.size = 2 ∨ s.size = 3 ∨ s.size = 4 ∨ s.size = 5) with e | e | e | e | e <;> rw [e] at h3 <;> simp at h3 <;> omega
  have HB := Lib.hid HB
  rw [hexG]
  generalize hR : numF 16 (s.data.toList.drop 1) 0 = R at *
  have HG := Lib.hid hR
  clear hR
  generalize hF : (if s.size < 2 ∨ 5 < s.size then none else R) = F at *
  have HF := Lib.hid hF
  clear hF
  go_enter Tryd.func42, Tryd.ntmps42
  go_wp2
  go_loopw [4, 5] (fun nv iv wr => ∃ (j : Nat) (n : Int), 1 ≤ j ∧ j ≤ s.size ∧ iv = .int .i64 j ∧ nv = .int .i64 n ∧ Hid (numF 16 (s.data.toList.drop j) n = R) ∧ 0 ≤ n ∧ Hid (n < 16 ^ j) ∧ wr = w) (fun _ iv _ => s.size - (intOf iv).toNat)
  case atStart => exact ⟨1, 0, by omega, h0, rfl, rfl, HG, by omega, Lib.hid (by decide), rfl⟩
  case round =>
    obtain ⟨j, n, hj1, hj, rfl, rfl, HR, n0, n1, rfl⟩ := hrel
    clear HG
    by_cases hlt : j < s.size
    · have hs := numF_step s 16 n j hlt
      rw [HR.out] at hs
      have hx := fun w => indexJ w s j hlt
      have hc1 : (s[j]'hlt).toNat ≤ 255 := by have := UInt8.toNat_lt (s[j]'hlt); omega
      have HD := Lib.hid (fun w => digit_any w (s[j]'hlt).toNat (by omega) (by omega))
      by_cases hv : valN (s[j]'hlt).toNat 16 < 16
      · have hv8 := val16 _ hv
        rw [if_pos ⟨by omega, hv⟩] at hs
        have v0 := valN_lo (s[j]'hlt).toNat 16 (by decide)
        obtain ⟨p0, p1, p2⟩ := step_bound7 n 16 _ j n0 n1.out (by decide) (by decide) v0 hv (by omega)
        have HS := Lib.hid hs
        have P1 := Lib.hid p1
        clear hs p1 HR hv8
        generalize valN (s[j]'hlt).toNat 16 = v at *
        generalize (s[j]'hlt).toNat = c at *
        go_wp2_with fail
        refine (HD.out _).mono ?_
        rintro e w1 ⟨rfl, rfl⟩
        go_wp2_with fail
        refine (HD.out _).mono ?_
        rintro e w1 ⟨rfl, rfl⟩
        go_wp2
        go_roundw
        case rel => exact ⟨j + 1, n * 16 + v, by omega, by omega, by go_num, rfl, Lib.hid HS.out.symm, by omega, Lib.hid P1.out, trivial⟩
        case measure => simp [intOf]; omega
      · rw [if_neg (fun h => hv h.2)] at hs
        subst hs
        clear HR
        obtain rfl : F = none := by rw [← HF.out]; exact ite_self _
        clear HF
        generalize valN (s[j]'hlt).toNat 16 = v at *
        generalize (s[j]'hlt).toNat = c at *
        go_wp2_with fail
        refine (HD.out _).mono ?_
        rintro e w1 ⟨rfl, rfl⟩
        go_wp2
        go_ret2
        exact ⟨rfl, rfl⟩
    · obtain rfl : j = s.size := by omega
      have hr := HR.out
      rw [List.drop_eq_nil_of_le (show s.data.toList.length ≤ s.size from Nat.le_refl _)] at hr
      have hr' : R = some n := hr.symm
      subst hr'
      clear hr HR
      by_cases hl : s.size < 2 ∨ 5 < s.size
      · obtain rfl : F = none := by rw [← HF.out]; exact if_pos hl
        clear HF
        rcases hl with hl | hl
        all_goals
          go_wp2
          go_ret2
          exact ⟨rfl, rfl⟩
      · obtain rfl : F = some n := by rw [← HF.out]; exact if_neg hl
        clear HF
        have hw := HB.out n rfl (by omega)
        have hl1 : ¬ s.size < 2 := by omega
        have hl2 : ¬ 5 < s.size := by omega
        clear hl
        go_wp2
        go_ret2
        exact ⟨rfl, rfl⟩
end Go.Proofs.YtkdojdcfakjjfaaDoor
