/- Words moved and turned: each function once. -/
import Derived.Test.YtkdojdcfakjjfaaDoorV2
namespace Go.Proofs.YtkdojdcfakjjfaaDoor
open Go.RowKit
set_option maxRecDepth 100000

theorem u64_in (n : Int) (h0 : 0 ≤ n) (h1 : n < 2 ^ 64) : IntKind.u64.wrap n = n := by
  rw [IntKind.wrap_u64]
  omega
theorem and_places (n : Int) : bits .and .u64 (IntKind.u64.wrap n) 15 = n % 16 := by
  rw [IntKind.wrap_u64]
  have h := bits_mask .u64 64 (by decide) u64_in 4 (by decide) (n % 18446744073709551616) (by omega) (by omega)
  have e : ((2 : Int) ^ 4 - 1) = 15 := by decide
  have e2 : ((2 : Int) ^ 4) = 16 := by decide
  rw [e, e2] at h
  rw [h]
  omega
theorem places_any (w : World) (n k : Int) (hk : n % 16 = k) : Calls Tryd.prog 47 #[.int .i64 n] w fun e w' => e = .returned (.int .u64 k) ∧ w = w' := by
  have hp := and_places n
  rw [hk] at hp
  clear hk
  go_enter Tryd.func47, Tryd.ntmps47
  go_wp2
  go_ret
  exact ⟨rfl, rfl⟩
theorem tmod_cases (n : Int) : (n.tmod 16 = n % 16 ∧ ¬ n.tmod 16 < 0) ∨ (n.tmod 16 + 16 = n % 16 ∧ n.tmod 16 < 0) := by
  rcases Int.le_total 0 n with h | h
  · rw [Int.tmod_eq_emod_of_nonneg h]
    omega
  · obtain ⟨m, rfl⟩ : ∃ m, n = -m := ⟨-n, by omega⟩
    rw [Int.neg_tmod, Int.tmod_eq_emod_of_nonneg (by omega)]
    omega
theorem turns_ref (w : World) (n k : Int) (hk : n % 16 = k) : Calls Tryd.prog 48 #[.int .i64 n] w fun e w' => e = .returned (.int .i64 k) ∧ w = w' := by
  have hk0 : 0 ≤ k := by omega
  have hk1 : k < 16 := by omega
  rcases tmod_cases n with ⟨h1, h2⟩ | ⟨h1, h2⟩
  · rw [hk] at h1
    clear hk
    have h3 : 0 ≤ n.tmod 16 := by omega
    go_enter Tryd.func48, Tryd.ntmps48
    go_wp2
    go_ret
    exact ⟨rfl, rfl⟩
  · rw [hk] at h1
    have h4 : wrap64 (n.tmod 16 + 16) = k := by rw [h1]; unfold wrap64; omega
    clear hk h1
    go_enter Tryd.func48, Tryd.ntmps48
    go_wp2
    go_ret
    refine ⟨?_, rfl⟩
    show Ending.returned (Value.int .i64 (wrap64 (n.tmod 16 + 16))) = _
    rw [h4]
theorem k_cases {k : Int} (h0 : 0 ≤ k) (h1 : k < 16) : k = 0 ∨ k = 1 ∨ k = 2 ∨ k = 3 ∨ k = 4 ∨ k = 5 ∨ k = 6 ∨ k = 7 ∨ k = 8 ∨ k = 9 ∨ k = 10 ∨ k = 11 ∨ k = 12 ∨ k = 13 ∨ k = 14 ∨ k = 15 := by omega

theorem eqw {x y : Int} (h : x = y) : Ending.returned (Value.int .u16 x) = Ending.returned (Value.int .u16 y) := by rw [h]
set_option maxHeartbeats 4000000 in
theorem shl_any (w : World) (a n : Int) (ha : isW a) (k : Nat) (hk : n % 16 = (k : Int)) : Calls Tryd.prog 34 #[.int .u16 a, .int .i64 n] w fun e w' => e = .returned (.int .u16 (a * 2 ^ k % 65536)) ∧ w = w' := by
  have H := Lib.hid (fun w => places_any w n k hk)
  have hk1 : k < 16 := by omega
  obtain ⟨h0, h1⟩ := ha
  clear hk
  have hc : k = 0 ∨ k = 1 ∨ k = 2 ∨ k = 3 ∨ k = 4 ∨ k = 5 ∨ k = 6 ∨ k = 7 ∨ k = 8 ∨ k = 9 ∨ k = 10 ∨ k = 11 ∨ k = 12 ∨ k = 13 ∨ k = 14 ∨ k = 15 := by omega
  clear hk1
  rcases hc with rfl | rfl | rfl | rfl | rfl | rfl | rfl | rfl | rfl | rfl | rfl | rfl | rfl | rfl | rfl | rfl
  all_goals
    go_enter Tryd.func34, Tryd.ntmps34
    go_wp2_with fail
    refine (H.out _).mono ?_
    rintro x w1 ⟨rfl, rfl⟩
    go_wp2
    go_ret
    refine ⟨eqw ?_, rfl⟩
    first | rfl | (rw [wr]; rfl) | (simp; done) | (simp; omega)
set_option maxHeartbeats 4000000 in
theorem shr_any (w : World) (a n : Int) (ha : isW a) (k : Nat) (hk : n % 16 = (k : Int)) : Calls Tryd.prog 36 #[.int .u16 a, .int .i64 n] w fun e w' => e = .returned (.int .u16 (a / 2 ^ k)) ∧ w = w' := by
  have H := Lib.hid (fun w => places_any w n k hk)
  have hk1 : k < 16 := by omega
  obtain ⟨h0, h1⟩ := ha
  clear hk
  have hc : k = 0 ∨ k = 1 ∨ k = 2 ∨ k = 3 ∨ k = 4 ∨ k = 5 ∨ k = 6 ∨ k = 7 ∨ k = 8 ∨ k = 9 ∨ k = 10 ∨ k = 11 ∨ k = 12 ∨ k = 13 ∨ k = 14 ∨ k = 15 := by omega
  clear hk1
  rcases hc with rfl | rfl | rfl | rfl | rfl | rfl | rfl | rfl | rfl | rfl | rfl | rfl | rfl | rfl | rfl | rfl
  all_goals
    go_enter Tryd.func36, Tryd.ntmps36
    go_wp2_with fail
    refine (H.out _).mono ?_
    rintro x w1 ⟨rfl, rfl⟩
    go_wp2
    go_ret
    refine ⟨eqw ?_, rfl⟩
    first | rfl | (rw [wr]; rfl) | (simp; done) | (simp; omega)

def sgn (a : Int) : Int := if a < 32768 then a else a - 65536
theorem i16_of (a : Int) (h0 : 0 ≤ a) (h1 : a ≤ 65535) : IntKind.i16.wrap a = sgn a := by
  unfold sgn
  simp [IntKind.wrap, IntKind.bits, IntKind.signed]
  split <;> omega
set_option maxHeartbeats 4000000 in
theorem sar_any (w : World) (a n : Int) (ha : isW a) (k : Nat) (hk : n % 16 = (k : Int)) : Calls Tryd.prog 38 #[.int .u16 a, .int .i64 n] w fun e w' => e = .returned (.int .u16 (sgn a / 2 ^ k % 65536)) ∧ w = w' := by
  have H := Lib.hid (fun w => places_any w n k hk)
  have hk1 : k < 16 := by omega
  obtain ⟨h0, h1⟩ := ha
  have hs := i16_of a h0 h1
  have hs0 : -32768 ≤ sgn a := by unfold sgn; split <;> omega
  have hs1 : sgn a ≤ 32767 := by unfold sgn; split <;> omega
  generalize sgn a = s at *
  clear hk
  have hc : k = 0 ∨ k = 1 ∨ k = 2 ∨ k = 3 ∨ k = 4 ∨ k = 5 ∨ k = 6 ∨ k = 7 ∨ k = 8 ∨ k = 9 ∨ k = 10 ∨ k = 11 ∨ k = 12 ∨ k = 13 ∨ k = 14 ∨ k = 15 := by omega
  clear hk1
  rcases hc with rfl | rfl | rfl | rfl | rfl | rfl | rfl | rfl | rfl | rfl | rfl | rfl | rfl | rfl | rfl | rfl
  all_goals
    go_enter Tryd.func38, Tryd.ntmps38
    go_wp2_with fail
    refine (H.out _).mono ?_
    rintro x w1 ⟨rfl, rfl⟩
    go_wp2
    go_ret
    refine ⟨eqw ?_, rfl⟩
    first | rfl | (rw [wr]; rfl) | (rw [wr]; simp; done)

/-- Turned by k: what is moved up, and what falls out at the top. -/
def rotK (a : Int) (k : Nat) : Int := a * 2 ^ k % 65536 + a / 2 ^ (16 - k)
theorem or_nat (k q y : Nat) (hy : y < 2 ^ k) (hx : 2 ^ k * q < 65536) (hy2 : y < 65536) : bits .or .u16 ((2 ^ k * q : Nat) : Int) (y : Int) = ((2 ^ k * q + y : Nat) : Int) := by
  rw [u16_or_nat _ _ hx hy2, Nat.two_pow_add_eq_or_of_lt hy q]
theorem rot0 (A : Nat) (h : A < 65536) : bits .or .u16 (A : Int) ((A : Int) / 65536) = rotK A 0 := by
  have e : (A : Int) / 65536 = ((0 : Nat) : Int) := by omega
  rw [e, u16_or_nat A 0 h (by omega)]
  show ((A ||| 0 : Nat) : Int) = (A : Int) * 1 % 65536 + (A : Int) / 65536
  rw [Nat.or_zero]
  omega
theorem rot1 (A : Nat) (h : A < 65536) : bits .or .u16 (IntKind.u16.wrap ((A : Int) * 2)) ((A : Int) / 32768) = rotK A 1 := by
  have e1 : (A : Int) * 2 % 65536 = ((2 ^ 1 * (A % 32768) : Nat) : Int) := by
    show (A : Int) * 2 % 65536 = ((2 * (A % 32768) : Nat) : Int)
    omega
  have e2 : (A : Int) / 32768 = ((A / 32768 : Nat) : Int) := by omega
  have h1 : A / 32768 < 2 := by omega
  have h2 : 2 * (A % 32768) < 65536 := by omega
  rw [wr, e1, e2, or_nat 1 (A % 32768) (A / 32768) h1 h2 (by omega)]
  show ((2 * (A % 32768) + A / 32768 : Nat) : Int) = (A : Int) * 2 % 65536 + (A : Int) / 32768
  omega
theorem rot2 (A : Nat) (h : A < 65536) : bits .or .u16 (IntKind.u16.wrap ((A : Int) * 4)) ((A : Int) / 16384) = rotK A 2 := by
  have e1 : (A : Int) * 4 % 65536 = ((2 ^ 2 * (A % 16384) : Nat) : Int) := by
    show (A : Int) * 4 % 65536 = ((4 * (A % 16384) : Nat) : Int)
    omega
  have e2 : (A : Int) / 16384 = ((A / 16384 : Nat) : Int) := by omega
  have h1 : A / 16384 < 4 := by omega
  have h2 : 4 * (A % 16384) < 65536 := by omega
  rw [wr, e1, e2, or_nat 2 (A % 16384) (A / 16384) h1 h2 (by omega)]
  show ((4 * (A % 16384) + A / 16384 : Nat) : Int) = (A : Int) * 4 % 65536 + (A : Int) / 16384
  omega
theorem rot3 (A : Nat) (h : A < 65536) : bits .or .u16 (IntKind.u16.wrap ((A : Int) * 8)) ((A : Int) / 8192) = rotK A 3 := by
  have e1 : (A : Int) * 8 % 65536 = ((2 ^ 3 * (A % 8192) : Nat) : Int) := by
    show (A : Int) * 8 % 65536 = ((8 * (A % 8192) : Nat) : Int)
    omega
  have e2 : (A : Int) / 8192 = ((A / 8192 : Nat) : Int) := by omega
  have h1 : A / 8192 < 8 := by omega
  have h2 : 8 * (A % 8192) < 65536 := by omega
  rw [wr, e1, e2, or_nat 3 (A % 8192) (A / 8192) h1 h2 (by omega)]
  show ((8 * (A % 8192) + A / 8192 : Nat) : Int) = (A : Int) * 8 % 65536 + (A : Int) / 8192
  omega
theorem rot4 (A : Nat) (h : A < 65536) : bits .or .u16 (IntKind.u16.wrap ((A : Int) * 16)) ((A : Int) / 4096) = rotK A 4 := by
  have e1 : (A : Int) * 16 % 65536 = ((2 ^ 4 * (A % 4096) : Nat) : Int) := by
    show (A : Int) * 16 % 65536 = ((16 * (A % 4096) : Nat) : Int)
    omega
  have e2 : (A : Int) / 4096 = ((A / 4096 : Nat) : Int) := by omega
  have h1 : A / 4096 < 16 := by omega
  have h2 : 16 * (A % 4096) < 65536 := by omega
  rw [wr, e1, e2, or_nat 4 (A % 4096) (A / 4096) h1 h2 (by omega)]
  show ((16 * (A % 4096) + A / 4096 : Nat) : Int) = (A : Int) * 16 % 65536 + (A : Int) / 4096
  omega
theorem rot5 (A : Nat) (h : A < 65536) : bits .or .u16 (IntKind.u16.wrap ((A : Int) * 32)) ((A : Int) / 2048) = rotK A 5 := by
  have e1 : (A : Int) * 32 % 65536 = ((2 ^ 5 * (A % 2048) : Nat) : Int) := by
    show (A : Int) * 32 % 65536 = ((32 * (A % 2048) : Nat) : Int)
    omega
  have e2 : (A : Int) / 2048 = ((A / 2048 : Nat) : Int) := by omega
  have h1 : A / 2048 < 32 := by omega
  have h2 : 32 * (A % 2048) < 65536 := by omega
  rw [wr, e1, e2, or_nat 5 (A % 2048) (A / 2048) h1 h2 (by omega)]
  show ((32 * (A % 2048) + A / 2048 : Nat) : Int) = (A : Int) * 32 % 65536 + (A : Int) / 2048
  omega
theorem rot6 (A : Nat) (h : A < 65536) : bits .or .u16 (IntKind.u16.wrap ((A : Int) * 64)) ((A : Int) / 1024) = rotK A 6 := by
  have e1 : (A : Int) * 64 % 65536 = ((2 ^ 6 * (A % 1024) : Nat) : Int) := by
    show (A : Int) * 64 % 65536 = ((64 * (A % 1024) : Nat) : Int)
    omega
  have e2 : (A : Int) / 1024 = ((A / 1024 : Nat) : Int) := by omega
  have h1 : A / 1024 < 64 := by omega
  have h2 : 64 * (A % 1024) < 65536 := by omega
  rw [wr, e1, e2, or_nat 6 (A % 1024) (A / 1024) h1 h2 (by omega)]
  show ((64 * (A % 1024) + A / 1024 : Nat) : Int) = (A : Int) * 64 % 65536 + (A : Int) / 1024
  omega
theorem rot7 (A : Nat) (h : A < 65536) : bits .or .u16 (IntKind.u16.wrap ((A : Int) * 128)) ((A : Int) / 512) = rotK A 7 := by
  have e1 : (A : Int) * 128 % 65536 = ((2 ^ 7 * (A % 512) : Nat) : Int) := by
    show (A : Int) * 128 % 65536 = ((128 * (A % 512) : Nat) : Int)
    omega
  have e2 : (A : Int) / 512 = ((A / 512 : Nat) : Int) := by omega
  have h1 : A / 512 < 128 := by omega
  have h2 : 128 * (A % 512) < 65536 := by omega
  rw [wr, e1, e2, or_nat 7 (A % 512) (A / 512) h1 h2 (by omega)]
  show ((128 * (A % 512) + A / 512 : Nat) : Int) = (A : Int) * 128 % 65536 + (A : Int) / 512
  omega
theorem rot8 (A : Nat) (h : A < 65536) : bits .or .u16 (IntKind.u16.wrap ((A : Int) * 256)) ((A : Int) / 256) = rotK A 8 := by
  have e1 : (A : Int) * 256 % 65536 = ((2 ^ 8 * (A % 256) : Nat) : Int) := by
    show (A : Int) * 256 % 65536 = ((256 * (A % 256) : Nat) : Int)
    omega
  have e2 : (A : Int) / 256 = ((A / 256 : Nat) : Int) := by omega
  have h1 : A / 256 < 256 := by omega
  have h2 : 256 * (A % 256) < 65536 := by omega
  rw [wr, e1, e2, or_nat 8 (A % 256) (A / 256) h1 h2 (by omega)]
  show ((256 * (A % 256) + A / 256 : Nat) : Int) = (A : Int) * 256 % 65536 + (A : Int) / 256
  omega
theorem rot9 (A : Nat) (h : A < 65536) : bits .or .u16 (IntKind.u16.wrap ((A : Int) * 512)) ((A : Int) / 128) = rotK A 9 := by
  have e1 : (A : Int) * 512 % 65536 = ((2 ^ 9 * (A % 128) : Nat) : Int) := by
    show (A : Int) * 512 % 65536 = ((512 * (A % 128) : Nat) : Int)
    omega
  have e2 : (A : Int) / 128 = ((A / 128 : Nat) : Int) := by omega
  have h1 : A / 128 < 512 := by omega
  have h2 : 512 * (A % 128) < 65536 := by omega
  rw [wr, e1, e2, or_nat 9 (A % 128) (A / 128) h1 h2 (by omega)]
  show ((512 * (A % 128) + A / 128 : Nat) : Int) = (A : Int) * 512 % 65536 + (A : Int) / 128
  omega
theorem rot10 (A : Nat) (h : A < 65536) : bits .or .u16 (IntKind.u16.wrap ((A : Int) * 1024)) ((A : Int) / 64) = rotK A 10 := by
  have e1 : (A : Int) * 1024 % 65536 = ((2 ^ 10 * (A % 64) : Nat) : Int) := by
    show (A : Int) * 1024 % 65536 = ((1024 * (A % 64) : Nat) : Int)
    omega
  have e2 : (A : Int) / 64 = ((A / 64 : Nat) : Int) := by omega
  have h1 : A / 64 < 1024 := by omega
  have h2 : 1024 * (A % 64) < 65536 := by omega
  rw [wr, e1, e2, or_nat 10 (A % 64) (A / 64) h1 h2 (by omega)]
  show ((1024 * (A % 64) + A / 64 : Nat) : Int) = (A : Int) * 1024 % 65536 + (A : Int) / 64
  omega
theorem rot11 (A : Nat) (h : A < 65536) : bits .or .u16 (IntKind.u16.wrap ((A : Int) * 2048)) ((A : Int) / 32) = rotK A 11 := by
  have e1 : (A : Int) * 2048 % 65536 = ((2 ^ 11 * (A % 32) : Nat) : Int) := by
    show (A : Int) * 2048 % 65536 = ((2048 * (A % 32) : Nat) : Int)
    omega
  have e2 : (A : Int) / 32 = ((A / 32 : Nat) : Int) := by omega
  have h1 : A / 32 < 2048 := by omega
  have h2 : 2048 * (A % 32) < 65536 := by omega
  rw [wr, e1, e2, or_nat 11 (A % 32) (A / 32) h1 h2 (by omega)]
  show ((2048 * (A % 32) + A / 32 : Nat) : Int) = (A : Int) * 2048 % 65536 + (A : Int) / 32
  omega
theorem rot12 (A : Nat) (h : A < 65536) : bits .or .u16 (IntKind.u16.wrap ((A : Int) * 4096)) ((A : Int) / 16) = rotK A 12 := by
  have e1 : (A : Int) * 4096 % 65536 = ((2 ^ 12 * (A % 16) : Nat) : Int) := by
    show (A : Int) * 4096 % 65536 = ((4096 * (A % 16) : Nat) : Int)
    omega
  have e2 : (A : Int) / 16 = ((A / 16 : Nat) : Int) := by omega
  have h1 : A / 16 < 4096 := by omega
  have h2 : 4096 * (A % 16) < 65536 := by omega
  rw [wr, e1, e2, or_nat 12 (A % 16) (A / 16) h1 h2 (by omega)]
  show ((4096 * (A % 16) + A / 16 : Nat) : Int) = (A : Int) * 4096 % 65536 + (A : Int) / 16
  omega
theorem rot13 (A : Nat) (h : A < 65536) : bits .or .u16 (IntKind.u16.wrap ((A : Int) * 8192)) ((A : Int) / 8) = rotK A 13 := by
  have e1 : (A : Int) * 8192 % 65536 = ((2 ^ 13 * (A % 8) : Nat) : Int) := by
    show (A : Int) * 8192 % 65536 = ((8192 * (A % 8) : Nat) : Int)
    omega
  have e2 : (A : Int) / 8 = ((A / 8 : Nat) : Int) := by omega
  have h1 : A / 8 < 8192 := by omega
  have h2 : 8192 * (A % 8) < 65536 := by omega
  rw [wr, e1, e2, or_nat 13 (A % 8) (A / 8) h1 h2 (by omega)]
  show ((8192 * (A % 8) + A / 8 : Nat) : Int) = (A : Int) * 8192 % 65536 + (A : Int) / 8
  omega
theorem rot14 (A : Nat) (h : A < 65536) : bits .or .u16 (IntKind.u16.wrap ((A : Int) * 16384)) ((A : Int) / 4) = rotK A 14 := by
  have e1 : (A : Int) * 16384 % 65536 = ((2 ^ 14 * (A % 4) : Nat) : Int) := by
    show (A : Int) * 16384 % 65536 = ((16384 * (A % 4) : Nat) : Int)
    omega
  have e2 : (A : Int) / 4 = ((A / 4 : Nat) : Int) := by omega
  have h1 : A / 4 < 16384 := by omega
  have h2 : 16384 * (A % 4) < 65536 := by omega
  rw [wr, e1, e2, or_nat 14 (A % 4) (A / 4) h1 h2 (by omega)]
  show ((16384 * (A % 4) + A / 4 : Nat) : Int) = (A : Int) * 16384 % 65536 + (A : Int) / 4
  omega
theorem rot15 (A : Nat) (h : A < 65536) : bits .or .u16 (IntKind.u16.wrap ((A : Int) * 32768)) ((A : Int) / 2) = rotK A 15 := by
  have e1 : (A : Int) * 32768 % 65536 = ((2 ^ 15 * (A % 2) : Nat) : Int) := by
    show (A : Int) * 32768 % 65536 = ((32768 * (A % 2) : Nat) : Int)
    omega
  have e2 : (A : Int) / 2 = ((A / 2 : Nat) : Int) := by omega
  have h1 : A / 2 < 32768 := by omega
  have h2 : 32768 * (A % 2) < 65536 := by omega
  rw [wr, e1, e2, or_nat 15 (A % 2) (A / 2) h1 h2 (by omega)]
  show ((32768 * (A % 2) + A / 2 : Nat) : Int) = (A : Int) * 32768 % 65536 + (A : Int) / 2
  omega
set_option maxHeartbeats 4000000 in
theorem rot_any (w : World) (a n : Int) (ha : isW a) (k : Nat) (hk : n % 16 = (k : Int)) : Calls Tryd.prog 32 #[.int .u16 a, .int .i64 n] w fun e w' => e = .returned (.int .u16 (rotK a k)) ∧ w = w' := by
  have H := Lib.hid (fun w => places_any w n k hk)
  have hk1 : k < 16 := by omega
  obtain ⟨h0, h1⟩ := ha
  clear hk
  have hc : k = 0 ∨ k = 1 ∨ k = 2 ∨ k = 3 ∨ k = 4 ∨ k = 5 ∨ k = 6 ∨ k = 7 ∨ k = 8 ∨ k = 9 ∨ k = 10 ∨ k = 11 ∨ k = 12 ∨ k = 13 ∨ k = 14 ∨ k = 15 := by omega
  clear hk1
  rcases hc with rfl | rfl | rfl | rfl | rfl | rfl | rfl | rfl | rfl | rfl | rfl | rfl | rfl | rfl | rfl | rfl
  all_goals
    go_enter Tryd.func32, Tryd.ntmps32
    go_wp2_with fail
    refine (H.out _).mono ?_
    rintro x w1 ⟨rfl, rfl⟩
    go_wp2
    go_ret
    refine ⟨eqw ?_, rfl⟩
    obtain ⟨A, rfl⟩ := Int.eq_ofNat_of_zero_le h0
  · exact rot0 A (by omega)
  · exact rot1 A (by omega)
  · exact rot2 A (by omega)
  · exact rot3 A (by omega)
  · exact rot4 A (by omega)
  · exact rot5 A (by omega)
  · exact rot6 A (by omega)
  · exact rot7 A (by omega)
  · exact rot8 A (by omega)
  · exact rot9 A (by omega)
  · exact rot10 A (by omega)
  · exact rot11 A (by omega)
  · exact rot12 A (by omega)
  · exact rot13 A (by omega)
  · exact rot14 A (by omega)
  · exact rot15 A (by omega)
end Go.Proofs.YtkdojdcfakjjfaaDoor
