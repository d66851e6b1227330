/- A product is as many sums: TopTimes, walked. -/
import Derived.Test.YtjhngfbhppbcnaaDoorT0
namespace Go.Proofs.YtjhngfbhppbcnaaDoor
open Go.RowKit
set_option maxRecDepth 100000

def TrueKept (w : World) (e : Ending) (w' : World) : Prop := e = .returned (.bool true) ∧ Kept NoBlk w w'
theorem hex_digit : ∀ d : Fin 16, ((UInt8.ofNat (nib (d.val : Int)).toNat).toNat < 128) ∧ valN (UInt8.ofNat (nib (d.val : Int)).toNat).toNat 16 = d.val := by decide +kernel
theorem hex_dig (d : Int) (h0 : 0 ≤ d) (h1 : d < 16) : ((UInt8.ofNat (nib d).toNat).toNat < 128) ∧ valN (UInt8.ofNat (nib d).toNat).toNat 16 = d := by
  obtain ⟨n, rfl⟩ := Int.eq_ofNat_of_zero_le h0
  exact hex_digit ⟨n, by omega⟩
theorem hex_num (a : Int) (ha : isW a) : numG 16 (hexOf a) 4 = some a := by
  obtain ⟨h0, h1⟩ := ha
  unfold numG
  rw [if_neg (by show ¬ ((4 : Nat) = 0 ∨ 4 < 4); omega)]
  show numF 16 [_, _, _, _] 0 = _
  obtain ⟨p1, q1⟩ := hex_dig (a / 4096 % 16) (by omega) (by omega)
  obtain ⟨p2, q2⟩ := hex_dig (a / 256 % 16) (by omega) (by omega)
  obtain ⟨p3, q3⟩ := hex_dig (a / 16 % 16) (by omega) (by omega)
  obtain ⟨p4, q4⟩ := hex_dig (a % 16) (by omega) (by omega)
  simp only [numF, q1, q2, q3, q4]
  rw [if_pos ⟨p1, by omega⟩, if_pos ⟨p2, by omega⟩, if_pos ⟨p3, by omega⟩, if_pos ⟨p4, by omega⟩]
  congr 1
  omega
set_option maxHeartbeats 2000000 in
theorem parse_x (w : World) (a : Int) (ha : isW a) (s : ByteArray) (hs : s = (⟨#[120]⟩ : ByteArray) ++ hexOf a) : Calls Tryd.prog 6 #[.string s] w fun e w' => e = .returned (.tuple #[.int .u16 a, .int .i64 0]) ∧ Kept NoBlk w w' := by
  have hz : s.size = 5 := by rw [hs]; rfl
  have he : s.toList.isEmpty = false := by rw [emp]; exact decide_eq_false (by omega)
  have hi := fun w => index0 w s (by omega)
  have hb : b0 s = 120 := by rw [hs]; rfl
  rw [hb] at hi
  have hsl := fun w => slice1 w s (by omega)
  have ht : s.extract 1 s.size = hexOf a := by rw [hs]; rfl
  rw [ht] at hsl
  have HN := Lib.hid (fun w => number_any w (hexOf a) 16 4 (by decide) (by decide) (by decide))
  rw [hex_num a ha] at HN
  have hw : IntKind.u16.wrap a = a := u16_in _ ha.1 (by have := ha.2; omega)
  unfold okN at HN
  clear hb ht hs
  generalize hexOf a = t at *
  go_enter Tryd.func6, Tryd.ntmps6
  go_wp2_with fail
  refine (HN.out _).mono ?_
  rintro e w1 ⟨rfl, hK⟩
  go_wp2
  go_ret2
  exact ⟨rfl, hK⟩
set_option maxHeartbeats 2000000 in
theorem ones_seven (w : World) : Calls Tryd.prog 8 #[.int .u16 7] w fun e w' => e = .returned (.int .i64 3) ∧ w = w' := by
  go_enter Tryd.func8, Tryd.ntmps8
  go_wp2
  refine wp_loop_rounds 17 ?_
  iterate 17
    rw [rounds_succ]
    go_wp2
  go_ret
  exact ⟨rfl, rfl⟩
theorem hex_ff : hexOf 255 = ⟨#[48, 48, 102, 102]⟩ := by decide +kernel
/-- One more sum: what is carried goes to the high word. -/
theorem sum_carry (p a : Int) (ha : isW a) : decide ((p % 65536 + a) % 65536 < p % 65536) = decide (65535 < p % 65536 + a) := by
  obtain ⟨a0, a1⟩ := ha
  by_cases h : 65535 < p % 65536 + a
  · rw [decide_eq_true h, decide_eq_true (by omega)]
  · rw [decide_eq_false h, decide_eq_false (by omega)]
theorem sum_yes (p a : Int) (ha : isW a) (h : 65535 < p % 65536 + a) : (p + a) % 65536 = (p % 65536 + a) % 65536 ∧ (p + a) / 65536 = p / 65536 + 1 := by
  obtain ⟨a0, a1⟩ := ha
  omega
theorem sum_no (p a : Int) (ha : isW a) (h : ¬ 65535 < p % 65536 + a) : (p + a) % 65536 = (p % 65536 + a) % 65536 ∧ (p + a) / 65536 = p / 65536 := by
  obtain ⟨a0, a1⟩ := ha
  omega
set_option maxHeartbeats 4000000 in
theorem times_any (w : World) (a : Int) (n : Nat) (ha : isW a) (hn : n < 256) : Calls Tryd.prog 3 #[.int .u16 a, .int .u8 (n : Int)] w (TrueKept w) := by
  have HA := Lib.hid ha
  have hb := mul_bounds ha (show isW (n : Int) from ⟨by omega, by omega⟩)
  have HM := Lib.hid (fun w => mul_any w a n ha ⟨by omega, by omega⟩ hb)
  have hl : isW (a * n % 65536) := ⟨by omega, by omega⟩
  have HH := Lib.hid (fun w => hex_any w (a * n % 65536) hl.1 hl.2)
  have HP := Lib.hid (fun w => parse_x w (a * n % 65536) hl _ rfl)
  have H2 := Lib.hid (fun w => hex_any w 255 (by decide) (by decide))
  rw [hex_ff] at H2
  have hsz : (hexOf (a * n % 65536)).size = 4 := rfl
  have HN : Hid (∀ i : Nat, i ≤ n → 0 ≤ a * (i : Int) ∧ a * (i : Int) ≤ 16711425) := Lib.hid (fun i hi => by
    obtain ⟨a0, a1⟩ := ha
    refine ⟨Int.mul_nonneg a0 (by omega), ?_⟩
    have h1 : a * (i : Int) ≤ 65535 * (i : Int) := Int.mul_le_mul_of_nonneg_right a1 (by omega)
    omega)
  clear hb hl
  go_enter Tryd.func3, Tryd.ntmps3
  go_wp2
  go_loopw [5, 6, 7] (fun hv lv iv wr => ∃ (i : Nat) (p : Int), i ≤ n ∧ p = a * (i : Int) ∧ hv = .int .u16 (p / 65536) ∧ lv = .int .u16 (p % 65536) ∧ iv = .int .i64 (i : Int) ∧ wr = w) (fun _ _ iv _ => n - (intOf iv).toNat)
  case atStart => exact ⟨0, 0, by omega, by simp, rfl, rfl, rfl, rfl⟩
  case round =>
    obtain ⟨i, p, hi, hp, rfl, rfl, rfl, rfl⟩ := hrel
    obtain ⟨p0, p1⟩ := HN.out i hi
    rw [← hp] at p0 p1
    by_cases hlt : i < n
    · have hp' : Hid (p + a = a * ((i + 1 : Nat) : Int)) := Lib.hid (by rw [hp, Int.natCast_add, Int.mul_add]; simp)
      have h1 := add_any wr (p % 65536) a ⟨by omega, by omega⟩ HA.out
      rw [sum_carry p a HA.out] at h1
      have H1 := Lib.hid h1
      have hlt' : (i : Int) < n := by omega
      clear h1 hp
      by_cases hc : 65535 < p % 65536 + a
      · obtain ⟨e1, e2⟩ := sum_yes p a HA.out hc
        have h3 := add_any wr (p / 65536) 1 ⟨by omega, by omega⟩ (by decide)
        rw [show (p / 65536 + 1) % 65536 = (p + a) / 65536 by omega] at h3
        rw [decide_eq_true hc, ← e1] at H1
        have H3 := Lib.hid h3
        clear h3 hc e1 e2 p0 p1
        generalize decide ((p + a) / 65536 < p / 65536) = q at *
        generalize p / 65536 = hh at *
        generalize p % 65536 = ll at *
        go_wp2_with fail
        refine H1.out.mono ?_
        rintro e w1 ⟨rfl, rfl⟩
        go_wp2_with fail
        refine H3.out.mono ?_
        rintro e w1 ⟨rfl, rfl⟩
        go_wp2
        go_roundw
        case rel => exact ⟨i + 1, p + a, by omega, hp'.out, rfl, rfl, by go_num, trivial⟩
        case measure => simp [intOf]; omega
      · obtain ⟨e1, e2⟩ := sum_no p a HA.out hc
        rw [decide_eq_false hc, ← e1] at H1
        rw [← e2]
        clear hc e1 e2 p0 p1
        generalize hll : p % 65536 = ll at *
        go_wp2_with fail
        refine H1.out.mono ?_
        rintro e w1 ⟨rfl, rfl⟩
        go_wp2
        go_roundw
        case rel => exact ⟨i + 1, p + a, by omega, hp'.out, rfl, rfl, by go_num, trivial⟩
        case measure => simp [intOf]; omega
    · obtain rfl : i = n := by omega
      rw [← hp] at HM HH HP hsz
      have hw : IntKind.u16.wrap (i : Int) = (i : Int) := u16_in _ (by omega) (by omega)
      have hlt' : ¬ ((i : Int) < i) := by omega
      clear hp HN p0 p1 HA
      generalize p / 65536 = hh at *
      generalize p % 65536 = ll at *
      generalize hexOf ll = t at *
      have hsz' : t.size ≤ 4 := by omega
      go_wp2_with fail
      refine (HM.out _).mono ?_
      rintro e w1 ⟨rfl, rfl⟩
      go_wp2_with fail
      refine (HH.out _).mono ?_
      rintro e w1 ⟨rfl, hk1⟩
      go_wp2_with fail
      refine (HP.out _).mono ?_
      rintro e w2 ⟨rfl, hk2⟩
      go_wp2_with fail
      refine (ones_seven _).mono ?_
      rintro e w3 ⟨rfl, rfl⟩
      go_wp2_with fail
      refine (H2.out _).mono ?_
      rintro e w3 ⟨rfl, hk3⟩
      go_wp2
      go_ret
      exact ⟨by simp, (hk1.trans hk2).trans hk3⟩
end Go.Proofs.YtjhngfbhppbcnaaDoor
