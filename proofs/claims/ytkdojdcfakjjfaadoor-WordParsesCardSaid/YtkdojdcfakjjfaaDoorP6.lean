/- What a text says: the document's 'Parse', at digits and at signs. -/
import Derived.Test.YtkdojdcfakjjfaaDoorP5
namespace Go.Proofs.YtkdojdcfakjjfaaDoor
open Go.RowKit
set_option maxRecDepth 100000

theorem numG_in (base : Int) (s : ByteArray) (most : Nat) (h0 : 0 < s.size) (h1 : s.size ≤ most) : numG base s most = numF base s.data.toList 0 := by
  unfold numG
  rw [if_neg (by omega)]
theorem str_no (t s : ByteArray) (h : t.size < s.size) : (t.toList == s.toList) = false := by
  refine beq_eq_false_iff_ne.2 (fun e => ?_)
  rw [ByteArray.toList_eq, ByteArray.toList_eq] at e
  have := congrArg List.length e
  have h1 : t.data.toList.length = t.size := rfl
  have h2 : s.data.toList.length = s.size := rfl
  omega
theorem minO_nil (s : ByteArray) (h : (s.extract 1 s.size).size = 0) : minO s = none := by
  have hg : numG 10 (s.extract 1 s.size) 5 = none := by unfold numG; rw [if_pos (.inl h)]
  unfold minO
  rw [hg]
theorem minO_zero (s : ByteArray) (h : b0 (s.extract 1 s.size) = 48) : minO s = none := by
  unfold minO
  cases numG 10 (s.extract 1 s.size) 5 with
  | none => rfl
  | some n => exact if_pos h
theorem minO_eq (s : ByteArray) (h : b0 (s.extract 1 s.size) ≠ 48) : minO s = (numG 10 (s.extract 1 s.size) 5).bind fun n => fromO (-n) := by
  unfold minO
  cases numG 10 (s.extract 1 s.size) 5 with
  | none => rfl
  | some n => exact if_neg h
theorem plusO_long (s : ByteArray) (h : 5 < s.size) : plusO s = none := by
  have hg : numG 10 s 5 = none := by unfold numG; rw [if_pos (.inr h)]
  unfold plusO
  rw [hg]
theorem plusO_zero (s : ByteArray) (h : b0 s = 48 ∧ s.data.toList ≠ [48]) : plusO s = none := by
  unfold plusO
  cases numG 10 s 5 with
  | none => rfl
  | some n => exact if_pos h
theorem plusO_eq (s : ByteArray) (h : ¬ (b0 s = 48 ∧ s.data.toList ≠ [48])) : plusO s = (numG 10 s 5).bind fun n => fromO n := by
  unfold plusO
  cases numG 10 s 5 with
  | none => rfl
  | some n => exact if_neg h
set_option maxHeartbeats 4000000 in
theorem rparse_min (w : World) (s : ByteArray) (h0 : 0 < s.size) (h6 : s.size ≤ 6) (hb : b0 s = 45) : Calls Tryd.prog 42 #[.string s] w fun e w' => e = .returned (okE (minO s)) ∧ w = w' := by
  have hi := fun w => index0 w s h0
  rw [hb] at hi
  have hz := size_no s h0
  have h6' : (s.size : Int) ≤ 6 := by omega
  have hsl := fun w => slice1 w s h0
  have hts := tail_size s
  have hq := zero_no s (b0_no s _ hb (by decide))
  have hne := str_no (s.extract 1 s.size) s (by omega)
  have hm0 := minO_nil s
  have hm1 := minO_zero s
  have hm2 := minO_eq s
  generalize minO s = F at *
  generalize s.extract 1 s.size = t at *
  by_cases ht0 : t.size = 0
  · obtain rfl := hm0 ht0
    clear hm0 hm1 hm2
    have ht1 : ((t.size : Int) == 0) = true := beq_iff_eq.2 (by omega)
    clear hts hne
    go_enter Tryd.func42, Tryd.ntmps42
    go_wp2
    go_ret2
    exact ⟨rfl, rfl⟩
  have ht1 := size_no t (by omega)
  have ht5 : t.size ≤ 5 := by omega
  have hi2 := fun w => index0 w t (by omega)
  rw [numG_in 10 t 5 (by omega) ht5] at hm2
  clear hts hm0
  by_cases hc : b0 t = 48
  · rw [hc] at hi2
    obtain rfl := hm1 hc
    clear hm1 hm2
    go_enter Tryd.func42, Tryd.ntmps42
    go_wp2
    go_ret2
    exact ⟨rfl, rfl⟩
  have hc' : (b0 t == 48) = false := beq_eq_false_iff_ne.2 hc
  have HG : Hid (numF 10 (t.data.toList.drop 0) 0 = numF 10 t.data.toList 0) := Lib.hid (by rw [List.drop_zero])
  have HF := Lib.hid (hm2 hc).symm
  clear hm1 hm2 hc
  generalize numF 10 t.data.toList 0 = R at *
  go_enter Tryd.func42, Tryd.ntmps42
  go_wp2
  go_loopw [9, 10] (fun nv iv wr => ∃ (j : Nat) (n : Int), j ≤ t.size ∧ iv = .int .i64 j ∧ nv = .int .i64 n ∧ Hid (numF 10 (t.data.toList.drop j) n = R) ∧ 0 ≤ n ∧ Hid (n < 16 ^ j) ∧ wr = w) (fun _ iv _ => t.size - (intOf iv).toNat)
  case atStart => exact ⟨0, 0, by omega, rfl, rfl, HG, by omega, Lib.hid (by decide), rfl⟩
  case round =>
    obtain ⟨j, n, hj, rfl, rfl, HR, n0, n1, rfl⟩ := hrel
    clear HG
    by_cases hlt : j < t.size
    · have hs := numF_step t 10 n j hlt
      rw [HR.out] at hs
      have hx := fun w => indexJ w t j hlt
      have hc1 : (t[j]'hlt).toNat ≤ 255 := by have := UInt8.toNat_lt (t[j]'hlt); omega
      have HD := Lib.hid (fun w => digit_any w (t[j]'hlt).toNat (by omega) (by omega))
      obtain ⟨hv1, hv2⟩ := val10 ((t[j]'hlt).toNat : Int)
      by_cases hv : valN (t[j]'hlt).toNat 16 ≤ 9
      · obtain ⟨u1, u2, u3⟩ := hv1 hv
        rw [if_pos ⟨by omega, u2⟩, u3] at hs
        have v0 := valN_lo (t[j]'hlt).toNat 16 (by decide)
        obtain ⟨p0, p1, p2⟩ := step_bound7 n 10 _ j n0 n1.out (by decide) (by decide) v0 (by omega) (by omega)
        have HS := Lib.hid hs
        have P1 := Lib.hid p1
        clear hs p1 HR hv1 hv2 u1 u2 u3
        generalize valN (t[j]'hlt).toNat 16 = v at *
        generalize (t[j]'hlt).toNat = c at *
        go_wp2_with fail
        refine (HD.out _).mono ?_
        rintro e w1 ⟨rfl, rfl⟩
        go_wp2_with fail
        refine (HD.out _).mono ?_
        rintro e w1 ⟨rfl, rfl⟩
        go_wp2
        go_roundw
        case rel => exact ⟨j + 1, n * 10 + v, by omega, by go_num, rfl, Lib.hid HS.out.symm, by omega, Lib.hid P1.out, trivial⟩
        case measure => simp [intOf]; omega
      · rw [if_neg (fun h => hv2 (by omega) h.2)] at hs
        subst hs
        clear HR hv1 hv2
        obtain rfl : F = none := HF.out.symm
        clear HF
        generalize valN (t[j]'hlt).toNat 16 = v at *
        generalize (t[j]'hlt).toNat = c at *
        go_wp2_with fail
        refine (HD.out _).mono ?_
        rintro e w1 ⟨rfl, rfl⟩
        go_wp2
        go_ret2
        exact ⟨rfl, rfl⟩
    · obtain rfl : j = t.size := by omega
      have hr := HR.out
      rw [List.drop_eq_nil_of_le (show t.data.toList.length ≤ t.size from Nat.le_refl _)] at hr
      have hr' : R = some n := hr.symm
      subst hr'
      have hb9 : n ≤ 268435456 := by
        have := n1.out
        have := pow_le7 t.size (by omega)
        omega
      clear hr HR n1
      have HQ := Lib.hid (fun w => rfromO_any w (-n))
      have hF : fromO (-n) = F := HF.out
      rw [hF] at HQ
      clear hF HF
      cases F with
      | none =>
        have HQ : Hid (∀ w, Calls Tryd.prog 17 #[.int .i64 (-n)] w fun e w' => e = .returned (.tuple #[.int .u16 0, .bool false]) ∧ w = w') := HQ
        go_wp2_with fail
        refine (HQ.out _).mono ?_
        rintro e w1 ⟨rfl, rfl⟩
        go_wp2
        go_ret2
        exact ⟨rfl, rfl⟩
      | some m =>
        have HQ : Hid (∀ w, Calls Tryd.prog 17 #[.int .i64 (-n)] w fun e w' => e = .returned (.tuple #[.int .u16 m, .bool true]) ∧ w = w') := HQ
        go_wp2_with fail
        refine (HQ.out _).mono ?_
        rintro e w1 ⟨rfl, rfl⟩
        go_wp2
        go_ret2
        exact ⟨rfl, rfl⟩
set_option maxHeartbeats 4000000 in
theorem rparse_plus (w : World) (s : ByteArray) (h0 : 0 < s.size) (h6 : s.size ≤ 6) (hb1 : b0 s ≠ 120) (hb2 : b0 s ≠ 39) (hb3 : b0 s ≠ 45) : Calls Tryd.prog 42 #[.string s] w fun e w' => e = .returned (okE (plusO s)) ∧ w = w' := by
  have hi := fun w => index0 w s h0
  have hz := size_no s h0
  have h6' : (s.size : Int) ≤ 6 := by omega
  have hb1 : (b0 s == 120) = false := beq_eq_false_iff_ne.2 hb1
  have hb2 : (b0 s == 39) = false := beq_eq_false_iff_ne.2 hb2
  have hb3 : (b0 s == 45) = false := beq_eq_false_iff_ne.2 hb3
  have hm0 := plusO_long s
  have hm1 := plusO_zero s
  have hm2 := plusO_eq s
  generalize plusO s = F at *
  by_cases ht5 : 5 < s.size
  · obtain rfl := hm0 ht5
    clear hm0 hm1 hm2
    go_enter Tryd.func42, Tryd.ntmps42
    go_wp2
    go_ret2
    exact ⟨rfl, rfl⟩
  rw [numG_in 10 s 5 h0 (by omega)] at hm2
  clear hm0
  by_cases hc : b0 s = 48 ∧ s.data.toList ≠ [48]
  · obtain rfl := hm1 hc
    clear hm1 hm2
    have hq := zero_no s hc.2
    have hc1 : (b0 s == 48) = true := beq_iff_eq.2 hc.1
    clear hc
    go_enter Tryd.func42, Tryd.ntmps42
    go_wp2
    go_ret2
    exact ⟨rfl, rfl⟩
  have HG : Hid (numF 10 (s.data.toList.drop 0) 0 = numF 10 s.data.toList 0) := Lib.hid (by rw [List.drop_zero])
  have HF := Lib.hid (hm2 hc).symm
  clear hm1 hm2
  generalize numF 10 s.data.toList 0 = R at *
  by_cases hc8 : b0 s = 48
  · have hq := zero_yes s (Classical.byContradiction fun h => hc ⟨hc8, h⟩)
    have hc1 : (b0 s == 48) = true := beq_iff_eq.2 hc8
    clear hc hc8
    go_enter Tryd.func42, Tryd.ntmps42
    go_wp2
    go_loopw [9, 10] (fun nv iv wr => ∃ (j : Nat) (n : Int), j ≤ s.size ∧ iv = .int .i64 j ∧ nv = .int .i64 n ∧ Hid (numF 10 (s.data.toList.drop j) n = R) ∧ 0 ≤ n ∧ Hid (n < 16 ^ j) ∧ wr = w) (fun _ iv _ => s.size - (intOf iv).toNat)
    case atStart => exact ⟨0, 0, by omega, rfl, rfl, HG, by omega, Lib.hid (by decide), rfl⟩
    case round =>
      obtain ⟨j, n, hj, rfl, rfl, HR, n0, n1, rfl⟩ := hrel
      clear HG
      by_cases hlt : j < s.size
      · have hs := numF_step s 10 n j hlt
        rw [HR.out] at hs
        have hx := fun w => indexJ w s j hlt
        have hc1 : (s[j]'hlt).toNat ≤ 255 := by have := UInt8.toNat_lt (s[j]'hlt); omega
        have HD := Lib.hid (fun w => digit_any w (s[j]'hlt).toNat (by omega) (by omega))
        obtain ⟨hv1, hv2⟩ := val10 ((s[j]'hlt).toNat : Int)
        by_cases hv : valN (s[j]'hlt).toNat 16 ≤ 9
        · obtain ⟨u1, u2, u3⟩ := hv1 hv
          rw [if_pos ⟨by omega, u2⟩, u3] at hs
          have v0 := valN_lo (s[j]'hlt).toNat 16 (by decide)
          obtain ⟨p0, p1, p2⟩ := step_bound7 n 10 _ j n0 n1.out (by decide) (by decide) v0 (by omega) (by omega)
          have HS := Lib.hid hs
          have P1 := Lib.hid p1
          clear hs p1 HR hv1 hv2 u1 u2 u3
          generalize valN (s[j]'hlt).toNat 16 = v at *
          generalize (s[j]'hlt).toNat = c at *
          go_wp2_with fail
          refine (HD.out _).mono ?_
          rintro e w1 ⟨rfl, rfl⟩
          go_wp2_with fail
          refine (HD.out _).mono ?_
          rintro e w1 ⟨rfl, rfl⟩
          go_wp2
          go_roundw
          case rel => exact ⟨j + 1, n * 10 + v, by omega, by go_num, rfl, Lib.hid HS.out.symm, by omega, Lib.hid P1.out, trivial⟩
          case measure => simp [intOf]; omega
        · rw [if_neg (fun h => hv2 (by omega) h.2)] at hs
          subst hs
          clear HR hv1 hv2
          obtain rfl : F = none := HF.out.symm
          clear HF
          generalize valN (s[j]'hlt).toNat 16 = v at *
          generalize (s[j]'hlt).toNat = c at *
          go_wp2_with fail
          refine (HD.out _).mono ?_
          rintro e w1 ⟨rfl, rfl⟩
          go_wp2
          go_ret2
          exact ⟨rfl, rfl⟩
      · obtain rfl : j = s.size := by omega
        have hr := HR.out
        rw [List.drop_eq_nil_of_le (show s.data.toList.length ≤ s.size from Nat.le_refl _)] at hr
        have hr' : R = some n := hr.symm
        subst hr'
        have hb9 : n ≤ 268435456 := by
          have := n1.out
          have := pow_le7 s.size (by omega)
          omega
        clear hr HR n1
        have HQ := Lib.hid (fun w => rfromO_any w (n))
        have hF : fromO (n) = F := HF.out
        rw [hF] at HQ
        clear hF HF
        cases F with
        | none =>
          have HQ : Hid (∀ w, Calls Tryd.prog 17 #[.int .i64 (n)] w fun e w' => e = .returned (.tuple #[.int .u16 0, .bool false]) ∧ w = w') := HQ
          go_wp2_with fail
          refine (HQ.out _).mono ?_
          rintro e w1 ⟨rfl, rfl⟩
          go_wp2
          go_ret2
          exact ⟨rfl, rfl⟩
        | some m =>
          have HQ : Hid (∀ w, Calls Tryd.prog 17 #[.int .i64 (n)] w fun e w' => e = .returned (.tuple #[.int .u16 m, .bool true]) ∧ w = w') := HQ
          go_wp2_with fail
          refine (HQ.out _).mono ?_
          rintro e w1 ⟨rfl, rfl⟩
          go_wp2
          go_ret2
          exact ⟨rfl, rfl⟩
  · have hc1 : (b0 s == 48) = false := beq_eq_false_iff_ne.2 hc8
    clear hc hc8
    go_enter Tryd.func42, Tryd.ntmps42
    go_wp2
    go_loopw [9, 10] (fun nv iv wr => ∃ (j : Nat) (n : Int), j ≤ s.size ∧ iv = .int .i64 j ∧ nv = .int .i64 n ∧ Hid (numF 10 (s.data.toList.drop j) n = R) ∧ 0 ≤ n ∧ Hid (n < 16 ^ j) ∧ wr = w) (fun _ iv _ => s.size - (intOf iv).toNat)
    case atStart => exact ⟨0, 0, by omega, rfl, rfl, HG, by omega, Lib.hid (by decide), rfl⟩
    case round =>
      obtain ⟨j, n, hj, rfl, rfl, HR, n0, n1, rfl⟩ := hrel
      clear HG
      by_cases hlt : j < s.size
      · have hs := numF_step s 10 n j hlt
        rw [HR.out] at hs
        have hx := fun w => indexJ w s j hlt
        have hc1 : (s[j]'hlt).toNat ≤ 255 := by have := UInt8.toNat_lt (s[j]'hlt); omega
        have HD := Lib.hid (fun w => digit_any w (s[j]'hlt).toNat (by omega) (by omega))
        obtain ⟨hv1, hv2⟩ := val10 ((s[j]'hlt).toNat : Int)
        by_cases hv : valN (s[j]'hlt).toNat 16 ≤ 9
        · obtain ⟨u1, u2, u3⟩ := hv1 hv
          rw [if_pos ⟨by omega, u2⟩, u3] at hs
          have v0 := valN_lo (s[j]'hlt).toNat 16 (by decide)
          obtain ⟨p0, p1, p2⟩ := step_bound7 n 10 _ j n0 n1.out (by decide) (by decide) v0 (by omega) (by omega)
          have HS := Lib.hid hs
          have P1 := Lib.hid p1
          clear hs p1 HR hv1 hv2 u1 u2 u3
          generalize valN (s[j]'hlt).toNat 16 = v at *
          generalize (s[j]'hlt).toNat = c at *
          go_wp2_with fail
          refine (HD.out _).mono ?_
          rintro e w1 ⟨rfl, rfl⟩
          go_wp2_with fail
          refine (HD.out _).mono ?_
          rintro e w1 ⟨rfl, rfl⟩
          go_wp2
          go_roundw
          case rel => exact ⟨j + 1, n * 10 + v, by omega, by go_num, rfl, Lib.hid HS.out.symm, by omega, Lib.hid P1.out, trivial⟩
          case measure => simp [intOf]; omega
        · rw [if_neg (fun h => hv2 (by omega) h.2)] at hs
          subst hs
          clear HR hv1 hv2
          obtain rfl : F = none := HF.out.symm
          clear HF
          generalize valN (s[j]'hlt).toNat 16 = v at *
          generalize (s[j]'hlt).toNat = c at *
          go_wp2_with fail
          refine (HD.out _).mono ?_
          rintro e w1 ⟨rfl, rfl⟩
          go_wp2
          go_ret2
          exact ⟨rfl, rfl⟩
      · obtain rfl : j = s.size := by omega
        have hr := HR.out
        rw [List.drop_eq_nil_of_le (show s.data.toList.length ≤ s.size from Nat.le_refl _)] at hr
        have hr' : R = some n := hr.symm
        subst hr'
        have hb9 : n ≤ 268435456 := by
          have := n1.out
          have := pow_le7 s.size (by omega)
          omega
        clear hr HR n1
        have HQ := Lib.hid (fun w => rfromO_any w (n))
        have hF : fromO (n) = F := HF.out
        rw [hF] at HQ
        clear hF HF
        cases F with
        | none =>
          have HQ : Hid (∀ w, Calls Tryd.prog 17 #[.int .i64 (n)] w fun e w' => e = .returned (.tuple #[.int .u16 0, .bool false]) ∧ w = w') := HQ
          go_wp2_with fail
          refine (HQ.out _).mono ?_
          rintro e w1 ⟨rfl, rfl⟩
          go_wp2
          go_ret2
          exact ⟨rfl, rfl⟩
        | some m =>
          have HQ : Hid (∀ w, Calls Tryd.prog 17 #[.int .i64 (n)] w fun e w' => e = .returned (.tuple #[.int .u16 m, .bool true]) ∧ w = w') := HQ
          go_wp2_with fail
          refine (HQ.out _).mono ?_
          rintro e w1 ⟨rfl, rfl⟩
          go_wp2
          go_ret2
          exact ⟨rfl, rfl⟩
end Go.Proofs.YtkdojdcfakjjfaaDoor
