/- A word's ones; what is turned, moved, in plain numbers. -/
import Derived.Test.YtkdojdcfakjjfaaDoorV4
namespace Go.Proofs.YtkdojdcfakjjfaaDoor
open Go.RowKit
set_option maxRecDepth 100000

/-- The ones among the j lowest bits. -/
def pop (a : Int) : Nat → Int
  | 0 => 0
  | j + 1 => pop a j + a / 2 ^ j % 2
theorem pop_b (a : Int) : ∀ j, 0 ≤ pop a j ∧ pop a j ≤ j
  | 0 => ⟨Int.le_refl _, Int.le_refl _⟩
  | j + 1 => by
    have h := pop_b a j
    show 0 ≤ pop a j + a / 2 ^ j % 2 ∧ pop a j + a / 2 ^ j % 2 ≤ (j + 1 : Nat)
    generalize a / 2 ^ j = y
    omega
theorem ediv_ediv_two (a : Int) (j : Nat) : a / 2 ^ j / 2 = a / 2 ^ (j + 1) := by
  rw [Int.ediv_ediv_of_nonneg (Int.le_of_lt (Int.pow_pos (by decide))), Int.pow_succ]
theorem itN_shr (a : Int) : ∀ k, itN shrS k a = a / 2 ^ k
  | 0 => by show a = a / 1; omega
  | k + 1 => by
    show shrS (itN shrS k a) = _
    rw [itN_shr a k, ← ediv_ediv_two]
    rfl
theorem itN_shl (a : Int) (h0 : 0 ≤ a) (h1 : a ≤ 65535) : ∀ k, itN shlS k a = a * 2 ^ k % 65536
  | 0 => by show a = a * 1 % 65536; omega
  | k + 1 => by
    show shlS (itN shlS k a) = _
    rw [itN_shl a h0 h1 k, Int.pow_succ, ← Int.mul_assoc]
    unfold shlS
    generalize a * 2 ^ k = y
    omega
theorem itN_sar (a : Int) (h0 : 0 ≤ a) (h1 : a ≤ 65535) : ∀ k, itN sarS k a = sgn a / 2 ^ k % 65536 ∧ -32768 ≤ sgn a / 2 ^ k ∧ sgn a / 2 ^ k ≤ 32767
  | 0 => by
    show a = sgn a / 1 % 65536 ∧ -32768 ≤ sgn a / 1 ∧ sgn a / 1 ≤ 32767
    unfold sgn
    split <;> omega
  | k + 1 => by
    show sarS (itN sarS k a) = _ ∧ _
    obtain ⟨e, l, u⟩ := itN_sar a h0 h1 k
    rw [e, ← ediv_ediv_two]
    unfold sarS
    generalize sgn a / 2 ^ k = y at *
    omega
theorem rotst0 (a : Int) (h0 : 0 ≤ a) (h1 : a ≤ 65535) : rotS (rotK a 0) = rotK a 1 := by
  obtain ⟨q, t, s, rfl, q0, q1, t0, t1, s0, s1⟩ : ∃ q t s, a = 65536 * q + 32768 * t + s ∧ 0 ≤ q ∧ q < 1 ∧ 0 ≤ t ∧ t < 2 ∧ 0 ≤ s ∧ s < 32768 := ⟨a / 65536, a % 65536 / 32768, a % 32768, by omega, by omega, by omega, by omega, by omega, by omega, by omega⟩
  have e1 : (65536 * q + 32768 * t + s) * 1 % 65536 = 32768 * t + 1 * s := by omega
  have e2 : (65536 * q + 32768 * t + s) / 65536 = q := by omega
  have e3 : (65536 * q + 32768 * t + s) * 2 % 65536 = 2 * s := by omega
  have e4 : (65536 * q + 32768 * t + s) / 32768 = 2 * q + t := by omega
  simp only [rotS, rotK, Nat.reduceSub, Int.reducePow]
  rw [e1, e2, e3, e4]
  have e5 : (32768 * t + 1 * s + q) * 2 % 65536 = 2 * s + 2 * q := by omega
  have e6 : (32768 * t + 1 * s + q) / 32768 = t := by omega
  rw [e5, e6]
  omega
theorem rotst1 (a : Int) (h0 : 0 ≤ a) (h1 : a ≤ 65535) : rotS (rotK a 1) = rotK a 2 := by
  obtain ⟨q, t, s, rfl, q0, q1, t0, t1, s0, s1⟩ : ∃ q t s, a = 32768 * q + 16384 * t + s ∧ 0 ≤ q ∧ q < 2 ∧ 0 ≤ t ∧ t < 2 ∧ 0 ≤ s ∧ s < 16384 := ⟨a / 32768, a % 32768 / 16384, a % 16384, by omega, by omega, by omega, by omega, by omega, by omega, by omega⟩
  have e1 : (32768 * q + 16384 * t + s) * 2 % 65536 = 32768 * t + 2 * s := by omega
  have e2 : (32768 * q + 16384 * t + s) / 32768 = q := by omega
  have e3 : (32768 * q + 16384 * t + s) * 4 % 65536 = 4 * s := by omega
  have e4 : (32768 * q + 16384 * t + s) / 16384 = 2 * q + t := by omega
  simp only [rotS, rotK, Nat.reduceSub, Int.reducePow]
  rw [e1, e2, e3, e4]
  have e5 : (32768 * t + 2 * s + q) * 2 % 65536 = 4 * s + 2 * q := by omega
  have e6 : (32768 * t + 2 * s + q) / 32768 = t := by omega
  rw [e5, e6]
  omega
theorem rotst2 (a : Int) (h0 : 0 ≤ a) (h1 : a ≤ 65535) : rotS (rotK a 2) = rotK a 3 := by
  obtain ⟨q, t, s, rfl, q0, q1, t0, t1, s0, s1⟩ : ∃ q t s, a = 16384 * q + 8192 * t + s ∧ 0 ≤ q ∧ q < 4 ∧ 0 ≤ t ∧ t < 2 ∧ 0 ≤ s ∧ s < 8192 := ⟨a / 16384, a % 16384 / 8192, a % 8192, by omega, by omega, by omega, by omega, by omega, by omega, by omega⟩
  have e1 : (16384 * q + 8192 * t + s) * 4 % 65536 = 32768 * t + 4 * s := by omega
  have e2 : (16384 * q + 8192 * t + s) / 16384 = q := by omega
  have e3 : (16384 * q + 8192 * t + s) * 8 % 65536 = 8 * s := by omega
  have e4 : (16384 * q + 8192 * t + s) / 8192 = 2 * q + t := by omega
  simp only [rotS, rotK, Nat.reduceSub, Int.reducePow]
  rw [e1, e2, e3, e4]
  have e5 : (32768 * t + 4 * s + q) * 2 % 65536 = 8 * s + 2 * q := by omega
  have e6 : (32768 * t + 4 * s + q) / 32768 = t := by omega
  rw [e5, e6]
  omega
theorem rotst3 (a : Int) (h0 : 0 ≤ a) (h1 : a ≤ 65535) : rotS (rotK a 3) = rotK a 4 := by
  obtain ⟨q, t, s, rfl, q0, q1, t0, t1, s0, s1⟩ : ∃ q t s, a = 8192 * q + 4096 * t + s ∧ 0 ≤ q ∧ q < 8 ∧ 0 ≤ t ∧ t < 2 ∧ 0 ≤ s ∧ s < 4096 := ⟨a / 8192, a % 8192 / 4096, a % 4096, by omega, by omega, by omega, by omega, by omega, by omega, by omega⟩
  have e1 : (8192 * q + 4096 * t + s) * 8 % 65536 = 32768 * t + 8 * s := by omega
  have e2 : (8192 * q + 4096 * t + s) / 8192 = q := by omega
  have e3 : (8192 * q + 4096 * t + s) * 16 % 65536 = 16 * s := by omega
  have e4 : (8192 * q + 4096 * t + s) / 4096 = 2 * q + t := by omega
  simp only [rotS, rotK, Nat.reduceSub, Int.reducePow]
  rw [e1, e2, e3, e4]
  have e5 : (32768 * t + 8 * s + q) * 2 % 65536 = 16 * s + 2 * q := by omega
  have e6 : (32768 * t + 8 * s + q) / 32768 = t := by omega
  rw [e5, e6]
  omega
theorem rotst4 (a : Int) (h0 : 0 ≤ a) (h1 : a ≤ 65535) : rotS (rotK a 4) = rotK a 5 := by
  obtain ⟨q, t, s, rfl, q0, q1, t0, t1, s0, s1⟩ : ∃ q t s, a = 4096 * q + 2048 * t + s ∧ 0 ≤ q ∧ q < 16 ∧ 0 ≤ t ∧ t < 2 ∧ 0 ≤ s ∧ s < 2048 := ⟨a / 4096, a % 4096 / 2048, a % 2048, by omega, by omega, by omega, by omega, by omega, by omega, by omega⟩
  have e1 : (4096 * q + 2048 * t + s) * 16 % 65536 = 32768 * t + 16 * s := by omega
  have e2 : (4096 * q + 2048 * t + s) / 4096 = q := by omega
  have e3 : (4096 * q + 2048 * t + s) * 32 % 65536 = 32 * s := by omega
  have e4 : (4096 * q + 2048 * t + s) / 2048 = 2 * q + t := by omega
  simp only [rotS, rotK, Nat.reduceSub, Int.reducePow]
  rw [e1, e2, e3, e4]
  have e5 : (32768 * t + 16 * s + q) * 2 % 65536 = 32 * s + 2 * q := by omega
  have e6 : (32768 * t + 16 * s + q) / 32768 = t := by omega
  rw [e5, e6]
  omega
theorem rotst5 (a : Int) (h0 : 0 ≤ a) (h1 : a ≤ 65535) : rotS (rotK a 5) = rotK a 6 := by
  obtain ⟨q, t, s, rfl, q0, q1, t0, t1, s0, s1⟩ : ∃ q t s, a = 2048 * q + 1024 * t + s ∧ 0 ≤ q ∧ q < 32 ∧ 0 ≤ t ∧ t < 2 ∧ 0 ≤ s ∧ s < 1024 := ⟨a / 2048, a % 2048 / 1024, a % 1024, by omega, by omega, by omega, by omega, by omega, by omega, by omega⟩
  have e1 : (2048 * q + 1024 * t + s) * 32 % 65536 = 32768 * t + 32 * s := by omega
  have e2 : (2048 * q + 1024 * t + s) / 2048 = q := by omega
  have e3 : (2048 * q + 1024 * t + s) * 64 % 65536 = 64 * s := by omega
  have e4 : (2048 * q + 1024 * t + s) / 1024 = 2 * q + t := by omega
  simp only [rotS, rotK, Nat.reduceSub, Int.reducePow]
  rw [e1, e2, e3, e4]
  have e5 : (32768 * t + 32 * s + q) * 2 % 65536 = 64 * s + 2 * q := by omega
  have e6 : (32768 * t + 32 * s + q) / 32768 = t := by omega
  rw [e5, e6]
  omega
theorem rotst6 (a : Int) (h0 : 0 ≤ a) (h1 : a ≤ 65535) : rotS (rotK a 6) = rotK a 7 := by
  obtain ⟨q, t, s, rfl, q0, q1, t0, t1, s0, s1⟩ : ∃ q t s, a = 1024 * q + 512 * t + s ∧ 0 ≤ q ∧ q < 64 ∧ 0 ≤ t ∧ t < 2 ∧ 0 ≤ s ∧ s < 512 := ⟨a / 1024, a % 1024 / 512, a % 512, by omega, by omega, by omega, by omega, by omega, by omega, by omega⟩
  have e1 : (1024 * q + 512 * t + s) * 64 % 65536 = 32768 * t + 64 * s := by omega
  have e2 : (1024 * q + 512 * t + s) / 1024 = q := by omega
  have e3 : (1024 * q + 512 * t + s) * 128 % 65536 = 128 * s := by omega
  have e4 : (1024 * q + 512 * t + s) / 512 = 2 * q + t := by omega
  simp only [rotS, rotK, Nat.reduceSub, Int.reducePow]
  rw [e1, e2, e3, e4]
  have e5 : (32768 * t + 64 * s + q) * 2 % 65536 = 128 * s + 2 * q := by omega
  have e6 : (32768 * t + 64 * s + q) / 32768 = t := by omega
  rw [e5, e6]
  omega
theorem rotst7 (a : Int) (h0 : 0 ≤ a) (h1 : a ≤ 65535) : rotS (rotK a 7) = rotK a 8 := by
  obtain ⟨q, t, s, rfl, q0, q1, t0, t1, s0, s1⟩ : ∃ q t s, a = 512 * q + 256 * t + s ∧ 0 ≤ q ∧ q < 128 ∧ 0 ≤ t ∧ t < 2 ∧ 0 ≤ s ∧ s < 256 := ⟨a / 512, a % 512 / 256, a % 256, by omega, by omega, by omega, by omega, by omega, by omega, by omega⟩
  have e1 : (512 * q + 256 * t + s) * 128 % 65536 = 32768 * t + 128 * s := by omega
  have e2 : (512 * q + 256 * t + s) / 512 = q := by omega
  have e3 : (512 * q + 256 * t + s) * 256 % 65536 = 256 * s := by omega
  have e4 : (512 * q + 256 * t + s) / 256 = 2 * q + t := by omega
  simp only [rotS, rotK, Nat.reduceSub, Int.reducePow]
  rw [e1, e2, e3, e4]
  have e5 : (32768 * t + 128 * s + q) * 2 % 65536 = 256 * s + 2 * q := by omega
  have e6 : (32768 * t + 128 * s + q) / 32768 = t := by omega
  rw [e5, e6]
  omega
theorem rotst8 (a : Int) (h0 : 0 ≤ a) (h1 : a ≤ 65535) : rotS (rotK a 8) = rotK a 9 := by
  obtain ⟨q, t, s, rfl, q0, q1, t0, t1, s0, s1⟩ : ∃ q t s, a = 256 * q + 128 * t + s ∧ 0 ≤ q ∧ q < 256 ∧ 0 ≤ t ∧ t < 2 ∧ 0 ≤ s ∧ s < 128 := ⟨a / 256, a % 256 / 128, a % 128, by omega, by omega, by omega, by omega, by omega, by omega, by omega⟩
  have e1 : (256 * q + 128 * t + s) * 256 % 65536 = 32768 * t + 256 * s := by omega
  have e2 : (256 * q + 128 * t + s) / 256 = q := by omega
  have e3 : (256 * q + 128 * t + s) * 512 % 65536 = 512 * s := by omega
  have e4 : (256 * q + 128 * t + s) / 128 = 2 * q + t := by omega
  simp only [rotS, rotK, Nat.reduceSub, Int.reducePow]
  rw [e1, e2, e3, e4]
  have e5 : (32768 * t + 256 * s + q) * 2 % 65536 = 512 * s + 2 * q := by omega
  have e6 : (32768 * t + 256 * s + q) / 32768 = t := by omega
  rw [e5, e6]
  omega
theorem rotst9 (a : Int) (h0 : 0 ≤ a) (h1 : a ≤ 65535) : rotS (rotK a 9) = rotK a 10 := by
  obtain ⟨q, t, s, rfl, q0, q1, t0, t1, s0, s1⟩ : ∃ q t s, a = 128 * q + 64 * t + s ∧ 0 ≤ q ∧ q < 512 ∧ 0 ≤ t ∧ t < 2 ∧ 0 ≤ s ∧ s < 64 := ⟨a / 128, a % 128 / 64, a % 64, by omega, by omega, by omega, by omega, by omega, by omega, by omega⟩
  have e1 : (128 * q + 64 * t + s) * 512 % 65536 = 32768 * t + 512 * s := by omega
  have e2 : (128 * q + 64 * t + s) / 128 = q := by omega
  have e3 : (128 * q + 64 * t + s) * 1024 % 65536 = 1024 * s := by omega
  have e4 : (128 * q + 64 * t + s) / 64 = 2 * q + t := by omega
  simp only [rotS, rotK, Nat.reduceSub, Int.reducePow]
  rw [e1, e2, e3, e4]
  have e5 : (32768 * t + 512 * s + q) * 2 % 65536 = 1024 * s + 2 * q := by omega
  have e6 : (32768 * t + 512 * s + q) / 32768 = t := by omega
  rw [e5, e6]
  omega
theorem rotst10 (a : Int) (h0 : 0 ≤ a) (h1 : a ≤ 65535) : rotS (rotK a 10) = rotK a 11 := by
  obtain ⟨q, t, s, rfl, q0, q1, t0, t1, s0, s1⟩ : ∃ q t s, a = 64 * q + 32 * t + s ∧ 0 ≤ q ∧ q < 1024 ∧ 0 ≤ t ∧ t < 2 ∧ 0 ≤ s ∧ s < 32 := ⟨a / 64, a % 64 / 32, a % 32, by omega, by omega, by omega, by omega, by omega, by omega, by omega⟩
  have e1 : (64 * q + 32 * t + s) * 1024 % 65536 = 32768 * t + 1024 * s := by omega
  have e2 : (64 * q + 32 * t + s) / 64 = q := by omega
  have e3 : (64 * q + 32 * t + s) * 2048 % 65536 = 2048 * s := by omega
  have e4 : (64 * q + 32 * t + s) / 32 = 2 * q + t := by omega
  simp only [rotS, rotK, Nat.reduceSub, Int.reducePow]
  rw [e1, e2, e3, e4]
  have e5 : (32768 * t + 1024 * s + q) * 2 % 65536 = 2048 * s + 2 * q := by omega
  have e6 : (32768 * t + 1024 * s + q) / 32768 = t := by omega
  rw [e5, e6]
  omega
theorem rotst11 (a : Int) (h0 : 0 ≤ a) (h1 : a ≤ 65535) : rotS (rotK a 11) = rotK a 12 := by
  obtain ⟨q, t, s, rfl, q0, q1, t0, t1, s0, s1⟩ : ∃ q t s, a = 32 * q + 16 * t + s ∧ 0 ≤ q ∧ q < 2048 ∧ 0 ≤ t ∧ t < 2 ∧ 0 ≤ s ∧ s < 16 := ⟨a / 32, a % 32 / 16, a % 16, by omega, by omega, by omega, by omega, by omega, by omega, by omega⟩
  have e1 : (32 * q + 16 * t + s) * 2048 % 65536 = 32768 * t + 2048 * s := by omega
  have e2 : (32 * q + 16 * t + s) / 32 = q := by omega
  have e3 : (32 * q + 16 * t + s) * 4096 % 65536 = 4096 * s := by omega
  have e4 : (32 * q + 16 * t + s) / 16 = 2 * q + t := by omega
  simp only [rotS, rotK, Nat.reduceSub, Int.reducePow]
  rw [e1, e2, e3, e4]
  have e5 : (32768 * t + 2048 * s + q) * 2 % 65536 = 4096 * s + 2 * q := by omega
  have e6 : (32768 * t + 2048 * s + q) / 32768 = t := by omega
  rw [e5, e6]
  omega
theorem rotst12 (a : Int) (h0 : 0 ≤ a) (h1 : a ≤ 65535) : rotS (rotK a 12) = rotK a 13 := by
  obtain ⟨q, t, s, rfl, q0, q1, t0, t1, s0, s1⟩ : ∃ q t s, a = 16 * q + 8 * t + s ∧ 0 ≤ q ∧ q < 4096 ∧ 0 ≤ t ∧ t < 2 ∧ 0 ≤ s ∧ s < 8 := ⟨a / 16, a % 16 / 8, a % 8, by omega, by omega, by omega, by omega, by omega, by omega, by omega⟩
  have e1 : (16 * q + 8 * t + s) * 4096 % 65536 = 32768 * t + 4096 * s := by omega
  have e2 : (16 * q + 8 * t + s) / 16 = q := by omega
  have e3 : (16 * q + 8 * t + s) * 8192 % 65536 = 8192 * s := by omega
  have e4 : (16 * q + 8 * t + s) / 8 = 2 * q + t := by omega
  simp only [rotS, rotK, Nat.reduceSub, Int.reducePow]
  rw [e1, e2, e3, e4]
  have e5 : (32768 * t + 4096 * s + q) * 2 % 65536 = 8192 * s + 2 * q := by omega
  have e6 : (32768 * t + 4096 * s + q) / 32768 = t := by omega
  rw [e5, e6]
  omega
theorem rotst13 (a : Int) (h0 : 0 ≤ a) (h1 : a ≤ 65535) : rotS (rotK a 13) = rotK a 14 := by
  obtain ⟨q, t, s, rfl, q0, q1, t0, t1, s0, s1⟩ : ∃ q t s, a = 8 * q + 4 * t + s ∧ 0 ≤ q ∧ q < 8192 ∧ 0 ≤ t ∧ t < 2 ∧ 0 ≤ s ∧ s < 4 := ⟨a / 8, a % 8 / 4, a % 4, by omega, by omega, by omega, by omega, by omega, by omega, by omega⟩
  have e1 : (8 * q + 4 * t + s) * 8192 % 65536 = 32768 * t + 8192 * s := by omega
  have e2 : (8 * q + 4 * t + s) / 8 = q := by omega
  have e3 : (8 * q + 4 * t + s) * 16384 % 65536 = 16384 * s := by omega
  have e4 : (8 * q + 4 * t + s) / 4 = 2 * q + t := by omega
  simp only [rotS, rotK, Nat.reduceSub, Int.reducePow]
  rw [e1, e2, e3, e4]
  have e5 : (32768 * t + 8192 * s + q) * 2 % 65536 = 16384 * s + 2 * q := by omega
  have e6 : (32768 * t + 8192 * s + q) / 32768 = t := by omega
  rw [e5, e6]
  omega
theorem rotst14 (a : Int) (h0 : 0 ≤ a) (h1 : a ≤ 65535) : rotS (rotK a 14) = rotK a 15 := by
  obtain ⟨q, t, s, rfl, q0, q1, t0, t1, s0, s1⟩ : ∃ q t s, a = 4 * q + 2 * t + s ∧ 0 ≤ q ∧ q < 16384 ∧ 0 ≤ t ∧ t < 2 ∧ 0 ≤ s ∧ s < 2 := ⟨a / 4, a % 4 / 2, a % 2, by omega, by omega, by omega, by omega, by omega, by omega, by omega⟩
  have e1 : (4 * q + 2 * t + s) * 16384 % 65536 = 32768 * t + 16384 * s := by omega
  have e2 : (4 * q + 2 * t + s) / 4 = q := by omega
  have e3 : (4 * q + 2 * t + s) * 32768 % 65536 = 32768 * s := by omega
  have e4 : (4 * q + 2 * t + s) / 2 = 2 * q + t := by omega
  simp only [rotS, rotK, Nat.reduceSub, Int.reducePow]
  rw [e1, e2, e3, e4]
  have e5 : (32768 * t + 16384 * s + q) * 2 % 65536 = 32768 * s + 2 * q := by omega
  have e6 : (32768 * t + 16384 * s + q) / 32768 = t := by omega
  rw [e5, e6]
  omega
theorem rotbk1 (a : Int) (h0 : 0 ≤ a) (h1 : a ≤ 65535) : rotK (rotK a 1) 15 = a := by
  obtain ⟨q, s, rfl, q0, q1, s0, s1⟩ : ∃ q s, a = 32768 * q + s ∧ 0 ≤ q ∧ q < 2 ∧ 0 ≤ s ∧ s < 32768 := ⟨a / 32768, a % 32768, by omega, by omega, by omega, by omega, by omega⟩
  have e1 : (32768 * q + s) * 2 % 65536 = 2 * s := by omega
  have e2 : (32768 * q + s) / 32768 = q := by omega
  have e3 : (2 * s + q) * 32768 % 65536 = 32768 * q := by omega
  have e4 : (2 * s + q) / 2 = s := by omega
  simp only [rotK, Nat.reduceSub, Int.reducePow]
  rw [e1, e2, e3, e4]
theorem rotbk2 (a : Int) (h0 : 0 ≤ a) (h1 : a ≤ 65535) : rotK (rotK a 2) 14 = a := by
  obtain ⟨q, s, rfl, q0, q1, s0, s1⟩ : ∃ q s, a = 16384 * q + s ∧ 0 ≤ q ∧ q < 4 ∧ 0 ≤ s ∧ s < 16384 := ⟨a / 16384, a % 16384, by omega, by omega, by omega, by omega, by omega⟩
  have e1 : (16384 * q + s) * 4 % 65536 = 4 * s := by omega
  have e2 : (16384 * q + s) / 16384 = q := by omega
  have e3 : (4 * s + q) * 16384 % 65536 = 16384 * q := by omega
  have e4 : (4 * s + q) / 4 = s := by omega
  simp only [rotK, Nat.reduceSub, Int.reducePow]
  rw [e1, e2, e3, e4]
theorem rotbk3 (a : Int) (h0 : 0 ≤ a) (h1 : a ≤ 65535) : rotK (rotK a 3) 13 = a := by
  obtain ⟨q, s, rfl, q0, q1, s0, s1⟩ : ∃ q s, a = 8192 * q + s ∧ 0 ≤ q ∧ q < 8 ∧ 0 ≤ s ∧ s < 8192 := ⟨a / 8192, a % 8192, by omega, by omega, by omega, by omega, by omega⟩
  have e1 : (8192 * q + s) * 8 % 65536 = 8 * s := by omega
  have e2 : (8192 * q + s) / 8192 = q := by omega
  have e3 : (8 * s + q) * 8192 % 65536 = 8192 * q := by omega
  have e4 : (8 * s + q) / 8 = s := by omega
  simp only [rotK, Nat.reduceSub, Int.reducePow]
  rw [e1, e2, e3, e4]
theorem rotbk4 (a : Int) (h0 : 0 ≤ a) (h1 : a ≤ 65535) : rotK (rotK a 4) 12 = a := by
  obtain ⟨q, s, rfl, q0, q1, s0, s1⟩ : ∃ q s, a = 4096 * q + s ∧ 0 ≤ q ∧ q < 16 ∧ 0 ≤ s ∧ s < 4096 := ⟨a / 4096, a % 4096, by omega, by omega, by omega, by omega, by omega⟩
  have e1 : (4096 * q + s) * 16 % 65536 = 16 * s := by omega
  have e2 : (4096 * q + s) / 4096 = q := by omega
  have e3 : (16 * s + q) * 4096 % 65536 = 4096 * q := by omega
  have e4 : (16 * s + q) / 16 = s := by omega
  simp only [rotK, Nat.reduceSub, Int.reducePow]
  rw [e1, e2, e3, e4]
theorem rotbk5 (a : Int) (h0 : 0 ≤ a) (h1 : a ≤ 65535) : rotK (rotK a 5) 11 = a := by
  obtain ⟨q, s, rfl, q0, q1, s0, s1⟩ : ∃ q s, a = 2048 * q + s ∧ 0 ≤ q ∧ q < 32 ∧ 0 ≤ s ∧ s < 2048 := ⟨a / 2048, a % 2048, by omega, by omega, by omega, by omega, by omega⟩
  have e1 : (2048 * q + s) * 32 % 65536 = 32 * s := by omega
  have e2 : (2048 * q + s) / 2048 = q := by omega
  have e3 : (32 * s + q) * 2048 % 65536 = 2048 * q := by omega
  have e4 : (32 * s + q) / 32 = s := by omega
  simp only [rotK, Nat.reduceSub, Int.reducePow]
  rw [e1, e2, e3, e4]
theorem rotbk6 (a : Int) (h0 : 0 ≤ a) (h1 : a ≤ 65535) : rotK (rotK a 6) 10 = a := by
  obtain ⟨q, s, rfl, q0, q1, s0, s1⟩ : ∃ q s, a = 1024 * q + s ∧ 0 ≤ q ∧ q < 64 ∧ 0 ≤ s ∧ s < 1024 := ⟨a / 1024, a % 1024, by omega, by omega, by omega, by omega, by omega⟩
  have e1 : (1024 * q + s) * 64 % 65536 = 64 * s := by omega
  have e2 : (1024 * q + s) / 1024 = q := by omega
  have e3 : (64 * s + q) * 1024 % 65536 = 1024 * q := by omega
  have e4 : (64 * s + q) / 64 = s := by omega
  simp only [rotK, Nat.reduceSub, Int.reducePow]
  rw [e1, e2, e3, e4]
theorem rotbk7 (a : Int) (h0 : 0 ≤ a) (h1 : a ≤ 65535) : rotK (rotK a 7) 9 = a := by
  obtain ⟨q, s, rfl, q0, q1, s0, s1⟩ : ∃ q s, a = 512 * q + s ∧ 0 ≤ q ∧ q < 128 ∧ 0 ≤ s ∧ s < 512 := ⟨a / 512, a % 512, by omega, by omega, by omega, by omega, by omega⟩
  have e1 : (512 * q + s) * 128 % 65536 = 128 * s := by omega
  have e2 : (512 * q + s) / 512 = q := by omega
  have e3 : (128 * s + q) * 512 % 65536 = 512 * q := by omega
  have e4 : (128 * s + q) / 128 = s := by omega
  simp only [rotK, Nat.reduceSub, Int.reducePow]
  rw [e1, e2, e3, e4]
theorem rotbk8 (a : Int) (h0 : 0 ≤ a) (h1 : a ≤ 65535) : rotK (rotK a 8) 8 = a := by
  obtain ⟨q, s, rfl, q0, q1, s0, s1⟩ : ∃ q s, a = 256 * q + s ∧ 0 ≤ q ∧ q < 256 ∧ 0 ≤ s ∧ s < 256 := ⟨a / 256, a % 256, by omega, by omega, by omega, by omega, by omega⟩
  have e1 : (256 * q + s) * 256 % 65536 = 256 * s := by omega
  have e2 : (256 * q + s) / 256 = q := by omega
  have e3 : (256 * s + q) * 256 % 65536 = 256 * q := by omega
  have e4 : (256 * s + q) / 256 = s := by omega
  simp only [rotK, Nat.reduceSub, Int.reducePow]
  rw [e1, e2, e3, e4]
theorem rotbk9 (a : Int) (h0 : 0 ≤ a) (h1 : a ≤ 65535) : rotK (rotK a 9) 7 = a := by
  obtain ⟨q, s, rfl, q0, q1, s0, s1⟩ : ∃ q s, a = 128 * q + s ∧ 0 ≤ q ∧ q < 512 ∧ 0 ≤ s ∧ s < 128 := ⟨a / 128, a % 128, by omega, by omega, by omega, by omega, by omega⟩
  have e1 : (128 * q + s) * 512 % 65536 = 512 * s := by omega
  have e2 : (128 * q + s) / 128 = q := by omega
  have e3 : (512 * s + q) * 128 % 65536 = 128 * q := by omega
  have e4 : (512 * s + q) / 512 = s := by omega
  simp only [rotK, Nat.reduceSub, Int.reducePow]
  rw [e1, e2, e3, e4]
theorem rotbk10 (a : Int) (h0 : 0 ≤ a) (h1 : a ≤ 65535) : rotK (rotK a 10) 6 = a := by
  obtain ⟨q, s, rfl, q0, q1, s0, s1⟩ : ∃ q s, a = 64 * q + s ∧ 0 ≤ q ∧ q < 1024 ∧ 0 ≤ s ∧ s < 64 := ⟨a / 64, a % 64, by omega, by omega, by omega, by omega, by omega⟩
  have e1 : (64 * q + s) * 1024 % 65536 = 1024 * s := by omega
  have e2 : (64 * q + s) / 64 = q := by omega
  have e3 : (1024 * s + q) * 64 % 65536 = 64 * q := by omega
  have e4 : (1024 * s + q) / 1024 = s := by omega
  simp only [rotK, Nat.reduceSub, Int.reducePow]
  rw [e1, e2, e3, e4]
theorem rotbk11 (a : Int) (h0 : 0 ≤ a) (h1 : a ≤ 65535) : rotK (rotK a 11) 5 = a := by
  obtain ⟨q, s, rfl, q0, q1, s0, s1⟩ : ∃ q s, a = 32 * q + s ∧ 0 ≤ q ∧ q < 2048 ∧ 0 ≤ s ∧ s < 32 := ⟨a / 32, a % 32, by omega, by omega, by omega, by omega, by omega⟩
  have e1 : (32 * q + s) * 2048 % 65536 = 2048 * s := by omega
  have e2 : (32 * q + s) / 32 = q := by omega
  have e3 : (2048 * s + q) * 32 % 65536 = 32 * q := by omega
  have e4 : (2048 * s + q) / 2048 = s := by omega
  simp only [rotK, Nat.reduceSub, Int.reducePow]
  rw [e1, e2, e3, e4]
theorem rotbk12 (a : Int) (h0 : 0 ≤ a) (h1 : a ≤ 65535) : rotK (rotK a 12) 4 = a := by
  obtain ⟨q, s, rfl, q0, q1, s0, s1⟩ : ∃ q s, a = 16 * q + s ∧ 0 ≤ q ∧ q < 4096 ∧ 0 ≤ s ∧ s < 16 := ⟨a / 16, a % 16, by omega, by omega, by omega, by omega, by omega⟩
  have e1 : (16 * q + s) * 4096 % 65536 = 4096 * s := by omega
  have e2 : (16 * q + s) / 16 = q := by omega
  have e3 : (4096 * s + q) * 16 % 65536 = 16 * q := by omega
  have e4 : (4096 * s + q) / 4096 = s := by omega
  simp only [rotK, Nat.reduceSub, Int.reducePow]
  rw [e1, e2, e3, e4]
theorem rotbk13 (a : Int) (h0 : 0 ≤ a) (h1 : a ≤ 65535) : rotK (rotK a 13) 3 = a := by
  obtain ⟨q, s, rfl, q0, q1, s0, s1⟩ : ∃ q s, a = 8 * q + s ∧ 0 ≤ q ∧ q < 8192 ∧ 0 ≤ s ∧ s < 8 := ⟨a / 8, a % 8, by omega, by omega, by omega, by omega, by omega⟩
  have e1 : (8 * q + s) * 8192 % 65536 = 8192 * s := by omega
  have e2 : (8 * q + s) / 8 = q := by omega
  have e3 : (8192 * s + q) * 8 % 65536 = 8 * q := by omega
  have e4 : (8192 * s + q) / 8192 = s := by omega
  simp only [rotK, Nat.reduceSub, Int.reducePow]
  rw [e1, e2, e3, e4]
theorem rotbk14 (a : Int) (h0 : 0 ≤ a) (h1 : a ≤ 65535) : rotK (rotK a 14) 2 = a := by
  obtain ⟨q, s, rfl, q0, q1, s0, s1⟩ : ∃ q s, a = 4 * q + s ∧ 0 ≤ q ∧ q < 16384 ∧ 0 ≤ s ∧ s < 4 := ⟨a / 4, a % 4, by omega, by omega, by omega, by omega, by omega⟩
  have e1 : (4 * q + s) * 16384 % 65536 = 16384 * s := by omega
  have e2 : (4 * q + s) / 4 = q := by omega
  have e3 : (16384 * s + q) * 4 % 65536 = 4 * q := by omega
  have e4 : (16384 * s + q) / 16384 = s := by omega
  simp only [rotK, Nat.reduceSub, Int.reducePow]
  rw [e1, e2, e3, e4]
theorem rotbk15 (a : Int) (h0 : 0 ≤ a) (h1 : a ≤ 65535) : rotK (rotK a 15) 1 = a := by
  obtain ⟨q, s, rfl, q0, q1, s0, s1⟩ : ∃ q s, a = 2 * q + s ∧ 0 ≤ q ∧ q < 32768 ∧ 0 ≤ s ∧ s < 2 := ⟨a / 2, a % 2, by omega, by omega, by omega, by omega, by omega⟩
  have e1 : (2 * q + s) * 32768 % 65536 = 32768 * s := by omega
  have e2 : (2 * q + s) / 2 = q := by omega
  have e3 : (32768 * s + q) * 2 % 65536 = 2 * q := by omega
  have e4 : (32768 * s + q) / 32768 = s := by omega
  simp only [rotK, Nat.reduceSub, Int.reducePow]
  rw [e1, e2, e3, e4]
theorem itN_rot (a : Int) (h0 : 0 ≤ a) (h1 : a ≤ 65535) : ∀ k, k < 16 → itN rotS k a = rotK a k := by
  have hs : ∀ j x, itN rotS (j + 1) x = rotS (itN rotS j x) := fun _ _ => rfl
  intro k hk
  have e0 : itN rotS 0 a = a := rfl
  have e : itN rotS 0 a = rotK a 0 := by
    rw [e0]; show a = a * 1 % 65536 + a / 65536; omega
  have st : ∀ j, j < 15 → itN rotS j a = rotK a j → itN rotS (j + 1) a = rotK a (j + 1) := by
    intro j hj hh
    rw [hs, hh]
    have hc : j = 0 ∨ j = 1 ∨ j = 2 ∨ j = 3 ∨ j = 4 ∨ j = 5 ∨ j = 6 ∨ j = 7 ∨ j = 8 ∨ j = 9 ∨ j = 10 ∨ j = 11 ∨ j = 12 ∨ j = 13 ∨ j = 14 := by omega
    clear hh e e0 hs hj hk
    rcases hc with rfl | rfl | rfl | rfl | rfl | rfl | rfl | rfl | rfl | rfl | rfl | rfl | rfl | rfl | rfl
    · exact rotst0 a h0 h1
    · exact rotst1 a h0 h1
    · exact rotst2 a h0 h1
    · exact rotst3 a h0 h1
    · exact rotst4 a h0 h1
    · exact rotst5 a h0 h1
    · exact rotst6 a h0 h1
    · exact rotst7 a h0 h1
    · exact rotst8 a h0 h1
    · exact rotst9 a h0 h1
    · exact rotst10 a h0 h1
    · exact rotst11 a h0 h1
    · exact rotst12 a h0 h1
    · exact rotst13 a h0 h1
    · exact rotst14 a h0 h1
  clear hs e0
  induction k with
  | zero => exact e
  | succ k ih => exact st k (by omega) (ih (by omega))
theorem rotK_isW (a : Int) (h : isW a) (k : Nat) (hk : k < 16) : isW (rotK a k) := by
  rw [← itN_rot a h.1 h.2 k hk]
  exact itN_isW rotS rotS_isW a h k
theorem dv (s t m n : Int) (hn : n = 2 * m) (t0 : 0 ≤ t) (t1 : t < 2) : (2 * s + t) / n % 2 = s / m % 2 := by
  rw [hn, ← Int.ediv_ediv_of_nonneg (by decide), show (2 * s + t) / 2 = s by omega]
theorem fv (s t m q : Int) (hm : m ≠ 0) (h : 32768 = m * (2 * q)) : (32768 * t + s) / m % 2 = s / m % 2 := by
  rw [h, show m * (2 * q) * t + s = s + m * (2 * (q * t)) by rw [Int.mul_assoc, Int.mul_assoc, Int.add_comm], Int.add_mul_ediv_left _ _ hm, Int.add_mul_emod_self_left]
theorem bitS (x : Int) (h0 : 0 ≤ x) (h1 : x ≤ 65535) : pop (rotS x) 16 = pop x 16 := by
  obtain ⟨t, s, rfl, t0, t1, s0, s1⟩ : ∃ t s, x = 32768 * t + s ∧ 0 ≤ t ∧ t < 2 ∧ 0 ≤ s ∧ s < 32768 := ⟨x / 32768, x % 32768, by omega, by omega, by omega, by omega, by omega⟩
  have e : rotS (32768 * t + s) = 2 * s + t := by unfold rotS; omega
  rw [e]
  simp only [pop, Int.reducePow]
  have e0 : (2 * s + t) / 1 % 2 = t := by omega
  have f15 : (32768 * t + s) / 32768 % 2 = t := by clear e0; rw [show (32768 * t + s) / 32768 = t by omega]; omega
  have e1 : (2 * s + t) / 2 % 2 = s / 1 % 2 := dv s t _ _ (by decide) t0 t1
  have e2 : (2 * s + t) / 4 % 2 = s / 2 % 2 := dv s t _ _ (by decide) t0 t1
  have e3 : (2 * s + t) / 8 % 2 = s / 4 % 2 := dv s t _ _ (by decide) t0 t1
  have e4 : (2 * s + t) / 16 % 2 = s / 8 % 2 := dv s t _ _ (by decide) t0 t1
  have e5 : (2 * s + t) / 32 % 2 = s / 16 % 2 := dv s t _ _ (by decide) t0 t1
  have e6 : (2 * s + t) / 64 % 2 = s / 32 % 2 := dv s t _ _ (by decide) t0 t1
  have e7 : (2 * s + t) / 128 % 2 = s / 64 % 2 := dv s t _ _ (by decide) t0 t1
  have e8 : (2 * s + t) / 256 % 2 = s / 128 % 2 := dv s t _ _ (by decide) t0 t1
  have e9 : (2 * s + t) / 512 % 2 = s / 256 % 2 := dv s t _ _ (by decide) t0 t1
  have e10 : (2 * s + t) / 1024 % 2 = s / 512 % 2 := dv s t _ _ (by decide) t0 t1
  have e11 : (2 * s + t) / 2048 % 2 = s / 1024 % 2 := dv s t _ _ (by decide) t0 t1
  have e12 : (2 * s + t) / 4096 % 2 = s / 2048 % 2 := dv s t _ _ (by decide) t0 t1
  have e13 : (2 * s + t) / 8192 % 2 = s / 4096 % 2 := dv s t _ _ (by decide) t0 t1
  have e14 : (2 * s + t) / 16384 % 2 = s / 8192 % 2 := dv s t _ _ (by decide) t0 t1
  have e15 : (2 * s + t) / 32768 % 2 = s / 16384 % 2 := dv s t _ _ (by decide) t0 t1
  have f0 : (32768 * t + s) / 1 % 2 = s / 1 % 2 := fv s t _ 16384 (by decide) (by decide)
  have f1 : (32768 * t + s) / 2 % 2 = s / 2 % 2 := fv s t _ 8192 (by decide) (by decide)
  have f2 : (32768 * t + s) / 4 % 2 = s / 4 % 2 := fv s t _ 4096 (by decide) (by decide)
  have f3 : (32768 * t + s) / 8 % 2 = s / 8 % 2 := fv s t _ 2048 (by decide) (by decide)
  have f4 : (32768 * t + s) / 16 % 2 = s / 16 % 2 := fv s t _ 1024 (by decide) (by decide)
  have f5 : (32768 * t + s) / 32 % 2 = s / 32 % 2 := fv s t _ 512 (by decide) (by decide)
  have f6 : (32768 * t + s) / 64 % 2 = s / 64 % 2 := fv s t _ 256 (by decide) (by decide)
  have f7 : (32768 * t + s) / 128 % 2 = s / 128 % 2 := fv s t _ 128 (by decide) (by decide)
  have f8 : (32768 * t + s) / 256 % 2 = s / 256 % 2 := fv s t _ 64 (by decide) (by decide)
  have f9 : (32768 * t + s) / 512 % 2 = s / 512 % 2 := fv s t _ 32 (by decide) (by decide)
  have f10 : (32768 * t + s) / 1024 % 2 = s / 1024 % 2 := fv s t _ 16 (by decide) (by decide)
  have f11 : (32768 * t + s) / 2048 % 2 = s / 2048 % 2 := fv s t _ 8 (by decide) (by decide)
  have f12 : (32768 * t + s) / 4096 % 2 = s / 4096 % 2 := fv s t _ 4 (by decide) (by decide)
  have f13 : (32768 * t + s) / 8192 % 2 = s / 8192 % 2 := fv s t _ 2 (by decide) (by decide)
  have f14 : (32768 * t + s) / 16384 % 2 = s / 16384 % 2 := fv s t _ 1 (by decide) (by decide)
  rw [e0, e1, e2, e3, e4, e5, e6, e7, e8, e9, e10, e11, e12, e13, e14, e15, f0, f1, f2, f3, f4, f5, f6, f7, f8, f9, f10, f11, f12, f13, f14, f15]
  clear e0 e1 e2 e3 e4 e5 e6 e7 e8 e9 e10 e11 e12 e13 e14 e15 f0 f1 f2 f3 f4 f5 f6 f7 f8 f9 f10 f11 f12 f13 f14 f15
  generalize s / 1 % 2 = y0
  generalize s / 2 % 2 = y1
  generalize s / 4 % 2 = y2
  generalize s / 8 % 2 = y3
  generalize s / 16 % 2 = y4
  generalize s / 32 % 2 = y5
  generalize s / 64 % 2 = y6
  generalize s / 128 % 2 = y7
  generalize s / 256 % 2 = y8
  generalize s / 512 % 2 = y9
  generalize s / 1024 % 2 = y10
  generalize s / 2048 % 2 = y11
  generalize s / 4096 % 2 = y12
  generalize s / 8192 % 2 = y13
  generalize s / 16384 % 2 = y14
  omega
theorem pop_rot (a : Int) (h : isW a) (k : Nat) (hk : k < 16) : pop (rotK a k) 16 = pop a 16 := by
  rw [← itN_rot a h.1 h.2 k hk]
  clear hk
  induction k with
  | zero => rfl
  | succ k ih =>
    have hb := itN_isW rotS rotS_isW a h k
    rw [show itN rotS (k + 1) a = rotS (itN rotS k a) from rfl, bitS _ hb.1 hb.2, ih]
theorem rotK_back (a : Int) (h : isW a) (k : Nat) (hk : k < 16) : rotK (rotK a k) ((16 - k) % 16) = a := by
  obtain ⟨h0, h1⟩ := h
  have hc : k = 0 ∨ k = 1 ∨ k = 2 ∨ k = 3 ∨ k = 4 ∨ k = 5 ∨ k = 6 ∨ k = 7 ∨ k = 8 ∨ k = 9 ∨ k = 10 ∨ k = 11 ∨ k = 12 ∨ k = 13 ∨ k = 14 ∨ k = 15 := by omega
  clear hk
  rcases hc with rfl | rfl | rfl | rfl | rfl | rfl | rfl | rfl | rfl | rfl | rfl | rfl | rfl | rfl | rfl | rfl
  · simp only [rotK, Nat.reduceSub, Nat.reduceMod, Int.reducePow]
    omega
  · exact rotbk1 a h0 h1
  · exact rotbk2 a h0 h1
  · exact rotbk3 a h0 h1
  · exact rotbk4 a h0 h1
  · exact rotbk5 a h0 h1
  · exact rotbk6 a h0 h1
  · exact rotbk7 a h0 h1
  · exact rotbk8 a h0 h1
  · exact rotbk9 a h0 h1
  · exact rotbk10 a h0 h1
  · exact rotbk11 a h0 h1
  · exact rotbk12 a h0 h1
  · exact rotbk13 a h0 h1
  · exact rotbk14 a h0 h1
  · exact rotbk15 a h0 h1
theorem pop_top (a : Int) (j : Nat) (h0 : 0 ≤ a) (h : a / 2 ^ j ≤ 0) : ∀ i, pop a (j + i) = pop a j
  | 0 => rfl
  | i + 1 => by
    show pop a (j + i) + a / 2 ^ (j + i) % 2 = _
    rw [pop_top a j h0 h i]
    have hz : a / 2 ^ j = 0 := by
      have : 0 ≤ a / 2 ^ j := Int.ediv_nonneg h0 (Int.le_of_lt (Int.pow_pos (by decide)))
      omega
    rw [Int.pow_add, ← Int.ediv_ediv_of_nonneg (Int.le_of_lt (Int.pow_pos (by decide))), hz]
    simp
end Go.Proofs.YtkdojdcfakjjfaaDoor
