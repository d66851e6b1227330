/- Words told: numbers, bytes, digits. -/
import Derived.Test.YtkdojdcfakjjfaaDoorV6
namespace Go.Proofs.YtkdojdcfakjjfaaDoor
open Go.RowKit
set_option maxRecDepth 100000

theorem from_out (w : World) (n : Int) (h : n < -32768 ∨ 65535 < n) : Calls Tryd.prog 10 #[.int .i64 n] w fun e w' => e = .returned (.tuple #[.int .u16 0, .bool false]) ∧ w = w' := by
  rcases h with h | h
  all_goals
    go_enter Tryd.func10, Tryd.ntmps10
    go_wp2
    go_ret2
    exact ⟨rfl, rfl⟩
theorem from_in (w : World) (n : Int) (h0 : -32768 ≤ n) (h1 : n ≤ 65535) : Calls Tryd.prog 10 #[.int .i64 n] w fun e w' => e = .returned (.tuple #[.int .u16 (n % 65536), .bool true]) ∧ w = w' := by
  go_enter Tryd.func10, Tryd.ntmps10
  go_wp2
  go_ret2
  exact ⟨by simp [IntKind.wrap_u16], rfl⟩
theorem rfrom_out (w : World) (n : Int) (h : n < -32768 ∨ 65535 < n) : Calls Tryd.prog 17 #[.int .i64 n] w fun e w' => e = .returned (.tuple #[.int .u16 0, .bool false]) ∧ w = w' := by
  rcases h with h | h
  all_goals
    go_enter Tryd.func17, Tryd.ntmps17
    go_wp2
    go_ret2
    exact ⟨rfl, rfl⟩
theorem rfrom_in (w : World) (n : Int) (h0 : -32768 ≤ n) (h1 : n ≤ 65535) : Calls Tryd.prog 17 #[.int .i64 n] w fun e w' => e = .returned (.tuple #[.int .u16 (n % 65536), .bool true]) ∧ w = w' := by
  rcases Int.lt_or_le n 0 with h2 | h2
  · go_enter Tryd.func17, Tryd.ntmps17
    go_wp2
    go_ret2
    exact ⟨by simp; omega, rfl⟩
  · go_enter Tryd.func17, Tryd.ntmps17
    go_wp2
    go_ret2
    exact ⟨by simp; omega, rfl⟩
theorem signed_any (w : World) (a : Int) (ha : isW a) : Calls Tryd.prog 11 #[.int .u16 a] w fun e w' => e = .returned (.int .i64 (sgn a)) ∧ w = w' := by
  obtain ⟨h0, h1⟩ := ha
  have hs := i16_of a h0 h1
  have hs0 : -32768 ≤ sgn a := by unfold sgn; split <;> omega
  have hs1 : sgn a ≤ 32767 := by unfold sgn; split <;> omega
  generalize sgn a = s at *
  go_enter Tryd.func11, Tryd.ntmps11
  go_wp2
  go_ret
  exact ⟨rfl, rfl⟩
theorem rsigned_any (w : World) (a : Int) (ha : isW a) : Calls Tryd.prog 19 #[.int .u16 a] w fun e w' => e = .returned (.int .i64 (sgn a)) ∧ w = w' := by
  obtain ⟨h0, h1⟩ := ha
  unfold sgn
  by_cases h : a < 32768
  · rw [if_pos h]
    go_enter Tryd.func19, Tryd.ntmps19
    go_wp2
    go_ret
    exact ⟨rfl, rfl⟩
  · rw [if_neg h]
    go_enter Tryd.func19, Tryd.ntmps19
    go_wp2
    go_ret
    exact ⟨rfl, rfl⟩
theorem bytes_any (w : World) (a : Int) (ha : isW a) : Calls Tryd.prog 18 #[.int .u16 a] w fun e w' => e = .returned (.agg #[.int .u8 (a / 256), .int .u8 (a % 256)]) ∧ Kept NoBlk w w' := by
  obtain ⟨h0, h1⟩ := ha
  have c1 : IntKind.u8.wrap (a / 256) = a / 256 := by rw [IntKind.wrap_u8]; omega
  have c2 : IntKind.u8.wrap a = a % 256 := by rw [IntKind.wrap_u8]
  go_enter Tryd.func18, Tryd.ntmps18
  go_wp2
  exact bodyPost_ret (v := .agg #[.int .u8 (a / 256), .int .u8 (a % 256)]) (by simp [results, Tryd.results18, go_sem]) rfl ⟨rfl, (Kept.refl _ _).alloc _⟩
theorem rbytes_any (w : World) (a : Int) (ha : isW a) : Calls Tryd.prog 20 #[.int .u16 a] w fun e w' => e = .returned (.agg #[.int .u8 (a / 256), .int .u8 (a % 256)]) ∧ Kept NoBlk w w' := by
  obtain ⟨h0, h1⟩ := ha
  have c1 : IntKind.u8.wrap (a / 256) = a / 256 := by rw [IntKind.wrap_u8]; omega
  have c2 : IntKind.u8.wrap (a % 256) = a % 256 := by rw [IntKind.wrap_u8]; omega
  have t1 : a.tmod 256 = a % 256 := Int.tmod_eq_emod_of_nonneg h0
  have t2 : a.tdiv 256 = a / 256 := Int.tdiv_eq_ediv_of_nonneg h0
  go_enter Tryd.func20, Tryd.ntmps20
  go_wp2
  exact bodyPost_ret (v := .agg #[.int .u8 (a / 256), .int .u8 (a % 256)]) (by simp [results, Tryd.results20, go_sem]) rfl ⟨rfl, (Kept.refl _ _).alloc _⟩
theorem join_any (w : World) (a : Int) (ha : isW a) : Calls Tryd.prog 22 #[.int .u8 (a / 256), .int .u8 (a % 256)] w fun e w' => e = .returned (.int .u16 a) ∧ w = w' := by
  obtain ⟨h0, h1⟩ := ha
  go_enter Tryd.func22, Tryd.ntmps22
  go_wp2
  go_ret
  refine ⟨eqw ?_, rfl⟩
  have h := or_nat 8 (a / 256).toNat (a % 256).toNat (by omega) (by omega) (by omega)
  have e1 : ((2 ^ 8 * (a / 256).toNat : Nat) : Int) = a / 256 * 256 := by
    show ((256 * (a / 256).toNat : Nat) : Int) = _
    omega
  have e2 : (((a % 256).toNat : Nat) : Int) = a % 256 := by omega
  rw [Int.natCast_add, e1, e2] at h
  rw [h]
  omega
def hexS : ByteArray := ⟨#[48, 49, 50, 51, 52, 53, 54, 55, 56, 57, 97, 98, 99, 100, 101, 102]⟩
/-- A digit's text. -/
def dig (d : Int) : ByteArray := ⟨#[UInt8.ofNat (nib d).toNat]⟩
theorem hex_at : ∀ d : Fin 16, hexS.extract d.val (d.val + 1) = dig d.val := by decide
theorem hexcut (w : World) (d : Int) (h0 : 0 ≤ d) (h1 : d ≤ 15) : (Instr.slice 9 (.string ⟨#[48, 49, 50, 51, 52, 53, 54, 55, 56, 57, 97, 98, 99, 100, 101, 102]⟩) (some (.int .i64 d)) (some (.int .i64 (d + 1))) none).run Tryd.prog w = .ok (.string (dig d)) w := by
  have h2 : d + 1 ≤ (16 : Int) := by omega
  rw [run_slice_string (P := Tryd.prog) w 9 ⟨#[48, 49, 50, 51, 52, 53, 54, 55, 56, 57, 97, 98, 99, 100, 101, 102]⟩ .i64 .i64 d (d + 1) Tryd.underlying9 h0 (by omega) h2]
  have h := hex_at ⟨d.toNat, by omega⟩
  simp only at h
  rw [show (d + 1).toNat = d.toNat + 1 by omega]
  rw [show ((d.toNat : Nat) : Int) = d by omega] at h
  rw [← h]
  rfl
theorem dig_four (a : Int) : dig (a / 4096 % 16) ++ (dig (a / 256 % 16) ++ (dig (a / 16 % 16) ++ (dig (a % 16) ++ ⟨#[]⟩))) = hexOf a := by
  unfold hexOf dig
  apply ByteArray.ext
  simp [ByteArray.data_append]
theorem rhex_any (w : World) (a : Int) (ha : isW a) : Calls Tryd.prog 21 #[.int .u16 a] w fun e w' => e = .returned (.string (hexOf a)) ∧ w = w' := by
  obtain ⟨h0, h1⟩ := ha
  have t0 : a.tmod 16 = a % 16 := Int.tmod_eq_emod_of_nonneg h0
  have t1 : a.tdiv 16 = a / 16 := Int.tdiv_eq_ediv_of_nonneg h0
  have t2 : (a / 16).tmod 16 = a / 16 % 16 := Int.tmod_eq_emod_of_nonneg (by omega)
  have t3 : (a / 16).tdiv 16 = a / 256 := by rw [Int.tdiv_eq_ediv_of_nonneg (by omega)]; omega
  have t4 : (a / 256).tmod 16 = a / 256 % 16 := Int.tmod_eq_emod_of_nonneg (by omega)
  have t5 : (a / 256).tdiv 16 = a / 4096 := by rw [Int.tdiv_eq_ediv_of_nonneg (by omega)]; omega
  have t6 : (a / 4096).tmod 16 = a / 4096 % 16 := Int.tmod_eq_emod_of_nonneg (by omega)
  have t7 : (a / 4096).tdiv 16 = a / 4096 / 16 := by rw [Int.tdiv_eq_ediv_of_nonneg (by omega)]
  have s0 := fun w => hexcut w (a % 16) (by omega) (by omega)
  have s1 := fun w => hexcut w (a / 16 % 16) (by omega) (by omega)
  have s2 := fun w => hexcut w (a / 256 % 16) (by omega) (by omega)
  have s3 := fun w => hexcut w (a / 4096 % 16) (by omega) (by omega)
  go_enter Tryd.func21, Tryd.ntmps21
  go_wp2
  refine wp_loop_rounds 5 ?_
  rw [rounds_succ]
  go_wp2
  rw [rounds_succ]
  go_wp2
  rw [rounds_succ]
  go_wp2
  rw [rounds_succ]
  go_wp2
  rw [rounds_succ]
  go_wp2
  go_ret
  refine ⟨?_, rfl⟩
  show Ending.returned (Value.string (dig (a / 4096 % 16) ++ (dig (a / 256 % 16) ++ (dig (a / 16 % 16) ++ (dig (a % 16) ++ ⟨#[]⟩))))) = _
  rw [dig_four]
end Go.Proofs.YtkdojdcfakjjfaaDoor
