/- What is printed is read: digits, hex. -/
import Derived.Test.YtkdojdcfakjjfaaDoorP3
namespace Go.Proofs.YtkdojdcfakjjfaaDoor
open Go.RowKit
set_option maxRecDepth 100000

theorem dig_size (d : Int) : (dig d).size = 1 := rfl
theorem dig_emp (d : Int) (t : ByteArray) : (dig d ++ t).toList.isEmpty = false := by
  rw [emp, ByteArray.size_append, dig_size]
  exact decide_eq_false (by omega)
theorem dig_data (d : Int) (t : ByteArray) : (dig d ++ t).data.toList = UInt8.ofNat (nib d).toNat :: t.data.toList := by
  rw [ByteArray.data_append]
  simp [dig]
theorem nib_hex : ∀ d : Fin 16, (UInt8.ofNat (nib d.val).toNat).toNat < 128 ∧ valN (UInt8.ofNat (nib d.val).toNat).toNat 16 = d.val := by decide
theorem nib_dec : ∀ d : Fin 10, (UInt8.ofNat (nib d.val).toNat).toNat < 128 ∧ valN (UInt8.ofNat (nib d.val).toNat).toNat 10 = d.val ∧ (UInt8.ofNat (nib d.val).toNat).toNat = 48 + d.val := by decide
theorem numF_hex (d n : Int) (t : List UInt8) (h0 : 0 ≤ d) (h1 : d < 16) : numF 16 (UInt8.ofNat (nib d).toNat :: t) n = numF 16 t (n * 16 + d) := by
  obtain ⟨a, b⟩ := nib_hex ⟨d.toNat, by omega⟩
  simp only [show ((d.toNat : Nat) : Int) = d by omega] at a b
  rw [numF, b, if_pos ⟨a, h1⟩]
theorem numF_dec (d n : Int) (t : List UInt8) (h0 : 0 ≤ d) (h1 : d < 10) : numF 10 (UInt8.ofNat (nib d).toNat :: t) n = numF 10 t (n * 10 + d) := by
  obtain ⟨a, b, _⟩ := nib_dec ⟨d.toNat, by omega⟩
  simp only [show ((d.toNat : Nat) : Int) = d by omega] at a b
  rw [numF, b, if_pos ⟨a, h1⟩]
theorem b0_dig (d : Int) (t : ByteArray) (h0 : 0 ≤ d) (h1 : d < 10) : b0 (dig d ++ t) = 48 + d := by
  obtain ⟨_, _, c⟩ := nib_dec ⟨d.toNat, by omega⟩
  simp only [show ((d.toNat : Nat) : Int) = d by omega] at c
  unfold b0
  rw [dig_data]
  show ((UInt8.ofNat (nib d).toNat).toNat : Int) = 48 + d
  rw [c]
  omega
theorem fromO_in (n : Int) (h0 : 0 ≤ n) (h1 : n ≤ 65535) : fromO n = some n := by
  unfold fromO
  rw [if_neg (by omega), show n % 65536 = n by omega]
/-- A text of digits, with no nought ahead, says its number. -/
theorem say_dec (quo : ByteArray → Option Int) (d : Int) (t : ByteArray) (n : Int) (h0 : 0 ≤ d) (h1 : d < 10) (hz : d = 0 → t = ⟨#[]⟩) (hs : t.size ≤ 4) (hn : numF 10 t.data.toList d = some n) (n0 : 0 ≤ n) (n1 : n ≤ 65535) : sayO quo (dig d ++ t) = some n := by
  have hb := b0_dig d t h0 h1
  have hsz : (dig d ++ t).size = 1 + t.size := by rw [ByteArray.size_append, dig_size]
  unfold sayO
  rw [if_neg (by omega), if_neg (by omega), if_neg (by omega), if_neg (by omega)]
  unfold plusO
  have hg : numG 10 (dig d ++ t) 5 = some n := by
    unfold numG
    rw [if_neg (by omega), dig_data, numF_dec d 0 _ h0 h1, show (0 : Int) * 10 + d = d by omega]
    exact hn
  rw [hg]
  dsimp only
  rw [if_neg]
  · exact fromO_in n n0 n1
  · rintro ⟨e1, e2⟩
    obtain rfl := hz (by omega)
    apply e2
    rw [dig_data]
    obtain rfl : d = 0 := by omega
    rfl
theorem hexOf_size (a : Int) : (hexOf a).size = 4 := rfl
theorem say_hex (quo : ByteArray → Option Int) (a : Int) (ha : isW a) : sayO quo (⟨#[120]⟩ ++ hexOf a) = some a := by
  obtain ⟨h0, h1⟩ := ha
  have hsz : ((⟨#[120]⟩ : ByteArray) ++ hexOf a).size = 5 := by rw [ByteArray.size_append, hexOf_size]; rfl
  have hb : b0 (⟨#[120]⟩ ++ hexOf a) = 120 := by
    unfold b0
    rw [ByteArray.data_append]
    rfl
  have hx : (⟨#[120]⟩ ++ hexOf a : ByteArray).extract 1 (⟨#[120]⟩ ++ hexOf a : ByteArray).size = hexOf a := by
    rw [hsz]
    apply ByteArray.ext
    rw [ByteArray.data_extract, ByteArray.data_append]
    rfl
  unfold sayO
  rw [if_neg (by omega), if_pos hb, hx]
  unfold numG
  rw [if_neg (by rw [hexOf_size]; omega)]
  show numF 16 [UInt8.ofNat (nib (a / 4096 % 16)).toNat, UInt8.ofNat (nib (a / 256 % 16)).toNat, UInt8.ofNat (nib (a / 16 % 16)).toNat, UInt8.ofNat (nib (a % 16)).toNat] 0 = some a
  rw [numF_hex _ _ _ (by omega) (by omega), numF_hex _ _ _ (by omega) (by omega), numF_hex _ _ _ (by omega) (by omega), numF_hex _ _ _ (by omega) (by omega)]
  show some ((((0 * 16 + a / 4096 % 16) * 16 + a / 256 % 16) * 16 + a / 16 % 16) * 16 + a % 16) = some a
  congr 1
  omega

set_option maxHeartbeats 1000000 in
theorem digits_0 (w : World) (a : Int) (hl : a = 0) : Calls Tryd.prog 14 #[.int .u16 a] w fun e w' => e = .returned (.string (⟨#[48]⟩)) ∧ w = w' := by
  subst hl
  have hy : (⟨#[48, 49, 50, 51, 52, 53, 54, 55, 56, 57, 97, 98, 99, 100, 101, 102]⟩ : ByteArray).extract 0 1 ++ ⟨#[]⟩ = ⟨#[48]⟩ := by decide
  go_enter Tryd.func14, Tryd.ntmps14
  go_wp2
  refine wp_loop_rounds 2 ?_
  rw [rounds_succ]
  go_wp2
  rw [rounds_succ]
  go_wp2
  go_ret
  exact ⟨rfl, rfl⟩
set_option maxHeartbeats 1000000 in
theorem digits_1 (w : World) (a : Int) (hl : 0 < a) (hh : a < 10) : Calls Tryd.prog 14 #[.int .u16 a] w fun e w' => e = .returned (.string (dig (a % 10) ++ ⟨#[]⟩)) ∧ w = w' := by
  have t0 : a.tmod 10 = a % 10 := Int.tmod_eq_emod_of_nonneg (by omega)
  have q0 : a.tdiv 10 = 0 := by rw [Int.tdiv_eq_ediv_of_nonneg (by omega)]; omega
  have s0 := fun w => hexcut w (a % 10) (by omega) (by omega)
  have e0 := dig_emp (a % 10) ⟨#[]⟩
  go_enter Tryd.func14, Tryd.ntmps14
  go_wp2
  refine wp_loop_rounds 2 ?_
  rw [rounds_succ]
  go_wp2
  rw [rounds_succ]
  go_wp2
  go_ret
  exact ⟨rfl, rfl⟩
set_option maxHeartbeats 1000000 in
theorem digits_2 (w : World) (a : Int) (hl : 10 ≤ a) (hh : a < 100) : Calls Tryd.prog 14 #[.int .u16 a] w fun e w' => e = .returned (.string (dig (a / 10 % 10) ++ (dig (a % 10) ++ ⟨#[]⟩))) ∧ w = w' := by
  have t0 : a.tmod 10 = a % 10 := Int.tmod_eq_emod_of_nonneg (by omega)
  have q0 : a.tdiv 10 = a / 10 := by rw [Int.tdiv_eq_ediv_of_nonneg (by omega)]
  have s0 := fun w => hexcut w (a % 10) (by omega) (by omega)
  have t1 : (a / 10).tmod 10 = a / 10 % 10 := Int.tmod_eq_emod_of_nonneg (by omega)
  have q1 : (a / 10).tdiv 10 = 0 := by rw [Int.tdiv_eq_ediv_of_nonneg (by omega)]; omega
  have s1 := fun w => hexcut w (a / 10 % 10) (by omega) (by omega)
  have z1 : 0 < a / 10 := by omega
  have e0 := dig_emp (a / 10 % 10) (dig (a % 10) ++ ⟨#[]⟩)
  go_enter Tryd.func14, Tryd.ntmps14
  go_wp2
  refine wp_loop_rounds 3 ?_
  rw [rounds_succ]
  go_wp2
  rw [rounds_succ]
  go_wp2
  rw [rounds_succ]
  go_wp2
  go_ret
  exact ⟨rfl, rfl⟩
set_option maxHeartbeats 1000000 in
theorem digits_3 (w : World) (a : Int) (hl : 100 ≤ a) (hh : a < 1000) : Calls Tryd.prog 14 #[.int .u16 a] w fun e w' => e = .returned (.string (dig (a / 100 % 10) ++ (dig (a / 10 % 10) ++ (dig (a % 10) ++ ⟨#[]⟩)))) ∧ w = w' := by
  have t0 : a.tmod 10 = a % 10 := Int.tmod_eq_emod_of_nonneg (by omega)
  have q0 : a.tdiv 10 = a / 10 := by rw [Int.tdiv_eq_ediv_of_nonneg (by omega)]
  have s0 := fun w => hexcut w (a % 10) (by omega) (by omega)
  have t1 : (a / 10).tmod 10 = a / 10 % 10 := Int.tmod_eq_emod_of_nonneg (by omega)
  have q1 : (a / 10).tdiv 10 = a / 100 := by rw [Int.tdiv_eq_ediv_of_nonneg (by omega)]; omega
  have s1 := fun w => hexcut w (a / 10 % 10) (by omega) (by omega)
  have z1 : 0 < a / 10 := by omega
  have t2 : (a / 100).tmod 10 = a / 100 % 10 := Int.tmod_eq_emod_of_nonneg (by omega)
  have q2 : (a / 100).tdiv 10 = 0 := by rw [Int.tdiv_eq_ediv_of_nonneg (by omega)]; omega
  have s2 := fun w => hexcut w (a / 100 % 10) (by omega) (by omega)
  have z2 : 0 < a / 100 := by omega
  have e0 := dig_emp (a / 100 % 10) (dig (a / 10 % 10) ++ (dig (a % 10) ++ ⟨#[]⟩))
  go_enter Tryd.func14, Tryd.ntmps14
  go_wp2
  refine wp_loop_rounds 4 ?_
  rw [rounds_succ]
  go_wp2
  rw [rounds_succ]
  go_wp2
  rw [rounds_succ]
  go_wp2
  rw [rounds_succ]
  go_wp2
  go_ret
  exact ⟨rfl, rfl⟩
set_option maxHeartbeats 1000000 in
theorem digits_4 (w : World) (a : Int) (hl : 1000 ≤ a) (hh : a < 10000) : Calls Tryd.prog 14 #[.int .u16 a] w fun e w' => e = .returned (.string (dig (a / 1000 % 10) ++ (dig (a / 100 % 10) ++ (dig (a / 10 % 10) ++ (dig (a % 10) ++ ⟨#[]⟩))))) ∧ w = w' := by
  have t0 : a.tmod 10 = a % 10 := Int.tmod_eq_emod_of_nonneg (by omega)
  have q0 : a.tdiv 10 = a / 10 := by rw [Int.tdiv_eq_ediv_of_nonneg (by omega)]
  have s0 := fun w => hexcut w (a % 10) (by omega) (by omega)
  have t1 : (a / 10).tmod 10 = a / 10 % 10 := Int.tmod_eq_emod_of_nonneg (by omega)
  have q1 : (a / 10).tdiv 10 = a / 100 := by rw [Int.tdiv_eq_ediv_of_nonneg (by omega)]; omega
  have s1 := fun w => hexcut w (a / 10 % 10) (by omega) (by omega)
  have z1 : 0 < a / 10 := by omega
  have t2 : (a / 100).tmod 10 = a / 100 % 10 := Int.tmod_eq_emod_of_nonneg (by omega)
  have q2 : (a / 100).tdiv 10 = a / 1000 := by rw [Int.tdiv_eq_ediv_of_nonneg (by omega)]; omega
  have s2 := fun w => hexcut w (a / 100 % 10) (by omega) (by omega)
  have z2 : 0 < a / 100 := by omega
  have t3 : (a / 1000).tmod 10 = a / 1000 % 10 := Int.tmod_eq_emod_of_nonneg (by omega)
  have q3 : (a / 1000).tdiv 10 = 0 := by rw [Int.tdiv_eq_ediv_of_nonneg (by omega)]; omega
  have s3 := fun w => hexcut w (a / 1000 % 10) (by omega) (by omega)
  have z3 : 0 < a / 1000 := by omega
  have e0 := dig_emp (a / 1000 % 10) (dig (a / 100 % 10) ++ (dig (a / 10 % 10) ++ (dig (a % 10) ++ ⟨#[]⟩)))
  go_enter Tryd.func14, Tryd.ntmps14
  go_wp2
  refine wp_loop_rounds 5 ?_
  rw [rounds_succ]
  go_wp2
  rw [rounds_succ]
  go_wp2
  rw [rounds_succ]
  go_wp2
  rw [rounds_succ]
  go_wp2
  rw [rounds_succ]
  go_wp2
  go_ret
  exact ⟨rfl, rfl⟩
set_option maxHeartbeats 1000000 in
theorem digits_5 (w : World) (a : Int) (hl : 10000 ≤ a) (hh : a ≤ 65535) : Calls Tryd.prog 14 #[.int .u16 a] w fun e w' => e = .returned (.string (dig (a / 10000 % 10) ++ (dig (a / 1000 % 10) ++ (dig (a / 100 % 10) ++ (dig (a / 10 % 10) ++ (dig (a % 10) ++ ⟨#[]⟩)))))) ∧ w = w' := by
  have t0 : a.tmod 10 = a % 10 := Int.tmod_eq_emod_of_nonneg (by omega)
  have q0 : a.tdiv 10 = a / 10 := by rw [Int.tdiv_eq_ediv_of_nonneg (by omega)]
  have s0 := fun w => hexcut w (a % 10) (by omega) (by omega)
  have t1 : (a / 10).tmod 10 = a / 10 % 10 := Int.tmod_eq_emod_of_nonneg (by omega)
  have q1 : (a / 10).tdiv 10 = a / 100 := by rw [Int.tdiv_eq_ediv_of_nonneg (by omega)]; omega
  have s1 := fun w => hexcut w (a / 10 % 10) (by omega) (by omega)
  have z1 : 0 < a / 10 := by omega
  have t2 : (a / 100).tmod 10 = a / 100 % 10 := Int.tmod_eq_emod_of_nonneg (by omega)
  have q2 : (a / 100).tdiv 10 = a / 1000 := by rw [Int.tdiv_eq_ediv_of_nonneg (by omega)]; omega
  have s2 := fun w => hexcut w (a / 100 % 10) (by omega) (by omega)
  have z2 : 0 < a / 100 := by omega
  have t3 : (a / 1000).tmod 10 = a / 1000 % 10 := Int.tmod_eq_emod_of_nonneg (by omega)
  have q3 : (a / 1000).tdiv 10 = a / 10000 := by rw [Int.tdiv_eq_ediv_of_nonneg (by omega)]; omega
  have s3 := fun w => hexcut w (a / 1000 % 10) (by omega) (by omega)
  have z3 : 0 < a / 1000 := by omega
  have t4 : (a / 10000).tmod 10 = a / 10000 % 10 := Int.tmod_eq_emod_of_nonneg (by omega)
  have q4 : (a / 10000).tdiv 10 = 0 := by rw [Int.tdiv_eq_ediv_of_nonneg (by omega)]; omega
  have s4 := fun w => hexcut w (a / 10000 % 10) (by omega) (by omega)
  have z4 : 0 < a / 10000 := by omega
  have e0 := dig_emp (a / 10000 % 10) (dig (a / 1000 % 10) ++ (dig (a / 100 % 10) ++ (dig (a / 10 % 10) ++ (dig (a % 10) ++ ⟨#[]⟩))))
  go_enter Tryd.func14, Tryd.ntmps14
  go_wp2
  refine wp_loop_rounds 6 ?_
  rw [rounds_succ]
  go_wp2
  rw [rounds_succ]
  go_wp2
  rw [rounds_succ]
  go_wp2
  rw [rounds_succ]
  go_wp2
  rw [rounds_succ]
  go_wp2
  rw [rounds_succ]
  go_wp2
  go_ret
  exact ⟨rfl, rfl⟩
theorem digits_any (quo : ByteArray → Option Int) (a : Int) (ha : isW a) : ∃ s : ByteArray, s.size ≤ 5 ∧ sayO quo s = some a ∧ ∀ w, Calls Tryd.prog 14 #[.int .u16 a] w fun e w' => e = .returned (.string s) ∧ w = w' := by
  obtain ⟨h0, h1⟩ := ha
  have f0 : ∀ t : ByteArray, t.size + 1 = (dig 0 ++ t).size := fun t => by rw [ByteArray.size_append, dig_size]; omega
  rcases (by omega : a = 0 ∨ (0 < a ∧ a < 10) ∨ (10 ≤ a ∧ a < 100) ∨ (100 ≤ a ∧ a < 1000) ∨ (1000 ≤ a ∧ a < 10000) ∨ 10000 ≤ a) with h | ⟨h, h'⟩ | ⟨h, h'⟩ | ⟨h, h'⟩ | ⟨h, h'⟩ | h
  · refine ⟨_, ?_, ?_, fun w => digits_0 w a h⟩
    · subst h; decide
    · subst h; exact say_dec quo 0 ⟨#[]⟩ 0 (by omega) (by omega) (fun _ => rfl) (by decide) rfl (by omega) (by omega)

  · refine ⟨_, ?_, ?_, fun w => digits_1 w a h h'⟩
    · rw [ByteArray.size_append, dig_size]
      decide
    · refine say_dec quo _ _ a (by omega) (by omega) (fun h => by omega) ?_ ?_ h0 h1
      · decide
      · skip
        show some _ = some a
        congr 1
        omega
  · refine ⟨_, ?_, ?_, fun w => digits_2 w a h h'⟩
    · repeat rw [ByteArray.size_append, dig_size]
      decide
    · refine say_dec quo _ _ a (by omega) (by omega) (fun h => by omega) ?_ ?_ h0 h1
      · repeat rw [ByteArray.size_append, dig_size]
        decide
      · rw [dig_data, numF_dec _ _ _ (by omega) (by omega)]
        show some _ = some a
        congr 1
        omega
  · refine ⟨_, ?_, ?_, fun w => digits_3 w a h h'⟩
    · repeat rw [ByteArray.size_append, dig_size]
      decide
    · refine say_dec quo _ _ a (by omega) (by omega) (fun h => by omega) ?_ ?_ h0 h1
      · repeat rw [ByteArray.size_append, dig_size]
        decide
      · rw [dig_data, numF_dec _ _ _ (by omega) (by omega), dig_data, numF_dec _ _ _ (by omega) (by omega)]
        show some _ = some a
        congr 1
        omega
  · refine ⟨_, ?_, ?_, fun w => digits_4 w a h h'⟩
    · repeat rw [ByteArray.size_append, dig_size]
      decide
    · refine say_dec quo _ _ a (by omega) (by omega) (fun h => by omega) ?_ ?_ h0 h1
      · repeat rw [ByteArray.size_append, dig_size]
        decide
      · rw [dig_data, numF_dec _ _ _ (by omega) (by omega), dig_data, numF_dec _ _ _ (by omega) (by omega), dig_data, numF_dec _ _ _ (by omega) (by omega)]
        show some _ = some a
        congr 1
        omega
  · refine ⟨_, ?_, ?_, fun w => digits_5 w a h h1⟩
    · repeat rw [ByteArray.size_append, dig_size]
      decide
    · refine say_dec quo _ _ a (by omega) (by omega) (fun h => by omega) ?_ ?_ h0 h1
      · repeat rw [ByteArray.size_append, dig_size]
        decide
      · rw [dig_data, numF_dec _ _ _ (by omega) (by omega), dig_data, numF_dec _ _ _ (by omega) (by omega), dig_data, numF_dec _ _ _ (by omega) (by omega), dig_data, numF_dec _ _ _ (by omega) (by omega)]
        show some _ = some a
        congr 1
        omega
end Go.Proofs.YtkdojdcfakjjfaaDoor
