/- Bits moved, turned, counted: the two laws' walks. -/
import Derived.Test.YtkdojdcfakjjfaaDoorV6
namespace Go.Proofs.YtkdojdcfakjjfaaDoor
open Go.RowKit
set_option maxRecDepth 100000

theorem isI16_of {n : Int} (h : (Lit.int .i16 n).wf = true) : -32768 ≤ n ∧ n ≤ 32767 := by
  simp [Lit.wf] at h
  exact h
set_option maxHeartbeats 4000000 in
theorem moves_any (w : World) (a n : Int) (ha : (Lit.int .u16 a).wf = true) (_hn : (Lit.int .i64 n).wf = true) (hT : Tabs w) : Calls Tryd.prog 8 #[.int .u16 a, .int .i64 n] w (TrueKept w) := by
  have ha := isW_of ha
  obtain ⟨k, hk⟩ : ∃ k : Nat, n % 16 = (k : Int) := ⟨(n % 16).toNat, by omega⟩
  have hk1 : k < 16 := by omega
  have H1 := Lib.hid (fun w => shl_any w a n ha k hk)
  have R1 := Lib.hid (fun w => rshl_any w a n ha k hk)
  rw [itN_shl a ha.1 ha.2 k] at R1
  have H2 := Lib.hid (fun w => shr_any w a n ha k hk)
  have R2 := Lib.hid (fun w => rshr_any w a n ha k hk)
  rw [itN_shr a k] at R2
  have H3 := Lib.hid (fun w => sar_any w a n ha k hk)
  have R3 := Lib.hid (fun w => rsar_any w a n ha k hk)
  rw [(itN_sar a ha.1 ha.2 k).1] at R3
  have H4 := Lib.hid (fun w => rot_any w a n ha k hk)
  have R4 := Lib.hid (fun w => rrot_any w a n ha k hk)
  rw [itN_rot a ha.1 ha.2 k hk1] at R4
  have H5 := Lib.hid (fun w => ones_any w a ha)
  have R5 := Lib.hid (fun w => rones_any w a ha)
  have HT := Lib.hid hT
  clear hT hk hk1 ha
  generalize a * 2 ^ k % 65536 = x1 at *
  generalize a / 2 ^ k = x2 at *
  generalize sgn a / 2 ^ k % 65536 = x3 at *
  generalize rotK a k = x4 at *
  generalize pop a 16 = x5 at *
  go_enter Tryd.func8, Tryd.ntmps8
  go_wp2_with fail
  refine (live_any _ HT.out).mono ?_
  rintro x w3 ⟨rfl, hK3⟩
  go_wp2_with fail
  refine (H1.out _).mono ?_
  rintro x w1 ⟨rfl, rfl⟩
  go_wp2_with fail
  refine (R1.out _).mono ?_
  rintro x w1 ⟨rfl, rfl⟩
  go_wp2_with fail
  refine (H2.out _).mono ?_
  rintro x w1 ⟨rfl, rfl⟩
  go_wp2_with fail
  refine (R2.out _).mono ?_
  rintro x w1 ⟨rfl, rfl⟩
  go_wp2_with fail
  refine (H3.out _).mono ?_
  rintro x w1 ⟨rfl, rfl⟩
  go_wp2_with fail
  refine (R3.out _).mono ?_
  rintro x w1 ⟨rfl, rfl⟩
  go_wp2_with fail
  refine (H4.out _).mono ?_
  rintro x w1 ⟨rfl, rfl⟩
  go_wp2_with fail
  refine (R4.out _).mono ?_
  rintro x w1 ⟨rfl, rfl⟩
  go_wp2_with fail
  refine (H5.out _).mono ?_
  rintro x w1 ⟨rfl, rfl⟩
  go_wp2_with fail
  refine (R5.out _).mono ?_
  rintro x w1 ⟨rfl, rfl⟩
  go_wp2
  go_ret
  exact ⟨rfl, hK3⟩

set_option maxHeartbeats 4000000 in
theorem turns_any (w : World) (a n : Int) (ha : (Lit.int .u16 a).wf = true) (hn : (Lit.int .i16 n).wf = true) (hT : Tabs w) : Calls Tryd.prog 7 #[.int .u16 a, .int .i16 n] w (TrueKept w) := by
  have ha := isW_of ha
  obtain ⟨n0, n1⟩ := isI16_of hn
  clear hn
  obtain ⟨k, hk⟩ : ∃ k : Nat, n % 16 = (k : Int) := ⟨(n % 16).toNat, by omega⟩
  have hk1 : k < 16 := by omega
  have hx := rotK_isW a ha k hk1
  have H1 := Lib.hid (fun w => rot_any w a n ha k hk)
  have H2 := Lib.hid (fun w => rot_any w (rotK a k) (-n) hx ((16 - k) % 16) (by omega))
  rw [rotK_back a ha k hk1] at H2
  have H3 := Lib.hid (fun w => ones_any w (rotK a k) hx)
  rw [pop_rot a ha k hk1] at H3
  have H4 := Lib.hid (fun w => ones_any w a ha)
  have H5 := Lib.hid (fun w => rot_any w a (n + 16) ha k (by omega))
  obtain ⟨b0, b1⟩ := pop_b a 16
  have HT := Lib.hid hT
  clear hT hk hk1 ha hx
  generalize rotK a k = x4 at *
  generalize pop a 16 = x5 at *
  go_enter Tryd.func7, Tryd.ntmps7
  go_wp2_with fail
  refine (H1.out _).mono ?_
  rintro x w1 ⟨rfl, rfl⟩
  go_wp2_with fail
  refine (live_any _ HT.out).mono ?_
  rintro x w3 ⟨rfl, hK3⟩
  go_wp2_with fail
  refine (H2.out _).mono ?_
  rintro x w1 ⟨rfl, rfl⟩
  go_wp2_with fail
  refine (H3.out _).mono ?_
  rintro x w1 ⟨rfl, rfl⟩
  go_wp2_with fail
  refine (H4.out _).mono ?_
  rintro x w1 ⟨rfl, rfl⟩
  go_wp2_with fail
  refine (H4.out _).mono ?_
  rintro x w1 ⟨rfl, rfl⟩
  go_wp2_with fail
  refine (H4.out _).mono ?_
  rintro x w1 ⟨rfl, rfl⟩
  go_wp2_with fail
  refine (H5.out _).mono ?_
  rintro x w1 ⟨rfl, rfl⟩
  go_wp2
  go_ret
  exact ⟨rfl, hK3⟩
end Go.Proofs.YtkdojdcfakjjfaaDoor
