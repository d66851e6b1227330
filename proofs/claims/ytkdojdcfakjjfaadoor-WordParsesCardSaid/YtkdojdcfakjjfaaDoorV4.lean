/- Words moved and turned: the document's functions. -/
import Derived.Test.YtkdojdcfakjjfaaDoorV3
namespace Go.Proofs.YtkdojdcfakjjfaaDoor
open Go.RowKit
set_option maxRecDepth 100000

def itN (g : Int → Int) : Nat → Int → Int
  | 0, a => a
  | j + 1, a => g (itN g j a)
def shlS (x : Int) : Int := x * 2 % 65536
def shrS (x : Int) : Int := x / 2
def sarS (x : Int) : Int := x / 2 + x / 32768 * 32768
def rotS (x : Int) : Int := x * 2 % 65536 + x / 32768
theorem shlS_isW (x : Int) (_h : isW x) : isW (shlS x) := by unfold isW shlS at *; omega
theorem shrS_isW (x : Int) (h : isW x) : isW (shrS x) := by unfold isW shrS at *; omega
theorem sarS_isW (x : Int) (h : isW x) : isW (sarS x) := by unfold isW sarS at *; omega
theorem rotS_isW (x : Int) (h : isW x) : isW (rotS x) := by unfold isW rotS at *; omega
theorem itN_isW (g : Int → Int) (hg : ∀ x, isW x → isW (g x)) (a : Int) (ha : isW a) : ∀ j, isW (itN g j a)
  | 0 => ha
  | j + 1 => hg _ (itN_isW g hg a ha j)

set_option maxHeartbeats 1000000 in
theorem rshl_any (w : World) (a n : Int) (ha : isW a) (k : Nat) (hk : n % 16 = (k : Int)) : Calls Tryd.prog 35 #[.int .u16 a, .int .i64 n] w fun e w' => e = .returned (.int .u16 (itN shlS k a)) ∧ w = w' := by
  have H := Lib.hid (fun w => turns_ref w n k hk)
  have hk1 : k < 16 := by omega
  have ha' := ha
  obtain ⟨h0, h1⟩ := ha'
  have HB := Lib.hid (itN_isW shlS shlS_isW a ha)
  clear hk ha
  go_enter Tryd.func35, Tryd.ntmps35
  go_wp2
  go_loopw [5, 6] (fun xv iv wr => ∃ (j : Nat), j ≤ k ∧ iv = .int .i64 j ∧ xv = .int .i64 (itN shlS j a) ∧ wr = w) (fun _ iv _ => k - (intOf iv).toNat)
  case atStart => exact ⟨0, by omega, rfl, rfl, rfl⟩
  case round =>
    obtain ⟨j, hj, rfl, rfl, rfl⟩ := hrel
    obtain ⟨b0, b1⟩ := HB.out j
    by_cases hlt : j < k
    · have hs : itN shlS (j + 1) a = shlS (itN shlS j a) := rfl
      have HS := Lib.hid hs
      clear hs
      generalize itN shlS j a = x at *
      go_wp2_with fail
      refine (H.out _).mono ?_
      rintro e w1 ⟨rfl, rfl⟩
      go_wp2
      go_roundw
      case rel =>
        refine ⟨j + 1, by omega, by go_num, ?_, trivial⟩
        rw [HS.out]
        unfold shlS
        rfl
      case measure => simp [intOf]; omega
    · obtain rfl : j = k := by omega
      have hw : IntKind.u16.wrap (itN shlS j a) = itN shlS j a := u16_in _ b0 (by omega)
      go_wp2_with fail
      refine (H.out _).mono ?_
      rintro e w1 ⟨rfl, rfl⟩
      go_wp2
      go_ret
      exact ⟨rfl, rfl⟩

set_option maxHeartbeats 1000000 in
theorem rshr_any (w : World) (a n : Int) (ha : isW a) (k : Nat) (hk : n % 16 = (k : Int)) : Calls Tryd.prog 37 #[.int .u16 a, .int .i64 n] w fun e w' => e = .returned (.int .u16 (itN shrS k a)) ∧ w = w' := by
  have H := Lib.hid (fun w => turns_ref w n k hk)
  have hk1 : k < 16 := by omega
  have ha' := ha
  obtain ⟨h0, h1⟩ := ha'
  have HB := Lib.hid (itN_isW shrS shrS_isW a ha)
  clear hk ha
  go_enter Tryd.func37, Tryd.ntmps37
  go_wp2
  go_loopw [5, 6] (fun xv iv wr => ∃ (j : Nat), j ≤ k ∧ iv = .int .i64 j ∧ xv = .int .i64 (itN shrS j a) ∧ wr = w) (fun _ iv _ => k - (intOf iv).toNat)
  case atStart => exact ⟨0, by omega, rfl, rfl, rfl⟩
  case round =>
    obtain ⟨j, hj, rfl, rfl, rfl⟩ := hrel
    obtain ⟨b0, b1⟩ := HB.out j
    by_cases hlt : j < k
    · have hs : itN shrS (j + 1) a = shrS (itN shrS j a) := rfl
      have HS := Lib.hid hs
      clear hs
      generalize itN shrS j a = x at *
      go_wp2_with fail
      refine (H.out _).mono ?_
      rintro e w1 ⟨rfl, rfl⟩
      go_wp2
      go_roundw
      case rel =>
        refine ⟨j + 1, by omega, by go_num, ?_, trivial⟩
        rw [HS.out]
        unfold shrS
        rfl
      case measure => simp [intOf]; omega
    · obtain rfl : j = k := by omega
      have hw : IntKind.u16.wrap (itN shrS j a) = itN shrS j a := u16_in _ b0 (by omega)
      go_wp2_with fail
      refine (H.out _).mono ?_
      rintro e w1 ⟨rfl, rfl⟩
      go_wp2
      go_ret
      exact ⟨rfl, rfl⟩

set_option maxHeartbeats 1000000 in
theorem rsar_any (w : World) (a n : Int) (ha : isW a) (k : Nat) (hk : n % 16 = (k : Int)) : Calls Tryd.prog 39 #[.int .u16 a, .int .i64 n] w fun e w' => e = .returned (.int .u16 (itN sarS k a)) ∧ w = w' := by
  have H := Lib.hid (fun w => turns_ref w n k hk)
  have hk1 : k < 16 := by omega
  have ha' := ha
  obtain ⟨h0, h1⟩ := ha'
  have HB := Lib.hid (itN_isW sarS sarS_isW a ha)
  clear hk ha
  go_enter Tryd.func39, Tryd.ntmps39
  go_wp2
  go_loopw [5, 6] (fun xv iv wr => ∃ (j : Nat), j ≤ k ∧ iv = .int .i64 j ∧ xv = .int .i64 (itN sarS j a) ∧ wr = w) (fun _ iv _ => k - (intOf iv).toNat)
  case atStart => exact ⟨0, by omega, rfl, rfl, rfl⟩
  case round =>
    obtain ⟨j, hj, rfl, rfl, rfl⟩ := hrel
    obtain ⟨b0, b1⟩ := HB.out j
    by_cases hlt : j < k
    · have hs : itN sarS (j + 1) a = sarS (itN sarS j a) := rfl
      have HS := Lib.hid hs
      clear hs
      generalize itN sarS j a = x at *
      go_wp2_with fail
      refine (H.out _).mono ?_
      rintro e w1 ⟨rfl, rfl⟩
      go_wp2
      go_roundw
      case rel =>
        refine ⟨j + 1, by omega, by go_num, ?_, trivial⟩
        rw [HS.out]
        unfold sarS
        rfl
      case measure => simp [intOf]; omega
    · obtain rfl : j = k := by omega
      have hw : IntKind.u16.wrap (itN sarS j a) = itN sarS j a := u16_in _ b0 (by omega)
      go_wp2_with fail
      refine (H.out _).mono ?_
      rintro e w1 ⟨rfl, rfl⟩
      go_wp2
      go_ret
      exact ⟨rfl, rfl⟩

set_option maxHeartbeats 1000000 in
theorem rrot_any (w : World) (a n : Int) (ha : isW a) (k : Nat) (hk : n % 16 = (k : Int)) : Calls Tryd.prog 40 #[.int .u16 a, .int .i64 n] w fun e w' => e = .returned (.int .u16 (itN rotS k a)) ∧ w = w' := by
  have H := Lib.hid (fun w => turns_ref w n k hk)
  have hk1 : k < 16 := by omega
  have ha' := ha
  obtain ⟨h0, h1⟩ := ha'
  have HB := Lib.hid (itN_isW rotS rotS_isW a ha)
  clear hk ha
  go_enter Tryd.func40, Tryd.ntmps40
  go_wp2
  go_loopw [5, 6] (fun xv iv wr => ∃ (j : Nat), j ≤ k ∧ iv = .int .i64 j ∧ xv = .int .i64 (itN rotS j a) ∧ wr = w) (fun _ iv _ => k - (intOf iv).toNat)
  case atStart => exact ⟨0, by omega, rfl, rfl, rfl⟩
  case round =>
    obtain ⟨j, hj, rfl, rfl, rfl⟩ := hrel
    obtain ⟨b0, b1⟩ := HB.out j
    by_cases hlt : j < k
    · have hs : itN rotS (j + 1) a = rotS (itN rotS j a) := rfl
      have HS := Lib.hid hs
      clear hs
      generalize itN rotS j a = x at *
      go_wp2_with fail
      refine (H.out _).mono ?_
      rintro e w1 ⟨rfl, rfl⟩
      go_wp2
      go_roundw
      case rel =>
        refine ⟨j + 1, by omega, by go_num, ?_, trivial⟩
        rw [HS.out]
        unfold rotS
        rfl
      case measure => simp [intOf]; omega
    · obtain rfl : j = k := by omega
      have hw : IntKind.u16.wrap (itN rotS j a) = itN rotS j a := u16_in _ b0 (by omega)
      go_wp2_with fail
      refine (H.out _).mono ?_
      rintro e w1 ⟨rfl, rfl⟩
      go_wp2
      go_ret
      exact ⟨rfl, rfl⟩
end Go.Proofs.YtkdojdcfakjjfaaDoor
