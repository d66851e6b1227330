/- Rights: the reference's own. -/
import Derived.Test.YtlaplonmbnncaaaDoorR1
namespace Go.Proofs.YtlaplonmbnncaaaDoor
open Go.RowKit Go.Shelf
set_option maxRecDepth 100000

theorem mk_append (l : List UInt8) (b : UInt8) : mk l ++ ⟨#[b]⟩ = mk (l ++ [b]) := by
  rw [← mk_of (mk l ++ ⟨#[b]⟩)]
  congr 1
set_option maxHeartbeats 4000000 in
theorem rrights_any (w : World) (r : Nat) (hr : r < 256) : Calls Tryd.prog 55 #[.int .u8 (r : Int)] w fun e w' => e = .returned (.tuple #[.string (rightsP r).1, .int .i64 (rightsP r).2]) ∧ w = w' := by
  obtain ⟨V, hV⟩ : ∃ V, rightsP r = V := ⟨_, rfl⟩
  rw [hV]
  unfold rightsP at hV
  by_cases h31 : 31 < r
  · rw [if_pos h31] at hV
    subst hV
    have h31' : (31 : Int) < r := by omega
    go_enter Tryd.func55, Tryd.ntmps55
    go_wp2
    go_ret2
    exact ⟨rfl, rfl⟩
  rw [if_neg h31] at hV
  have h31' : (r : Int) ≤ 31 := by omega
  have HV := Lib.hid hV.symm
  clear hV
  go_enter Tryd.func55, Tryd.ntmps55
  go_wp2
  go_loopw [4, 5] (fun ov nv wr => ∃ (j : Nat), j ≤ 5 ∧ nv = .int .i64 (j : Int) ∧ ov = .string (mk (rightsTo r j)) ∧ wr = w) (fun _ nv _ => 64 - (intOf nv).toNat)
  case atStart => exact ⟨0, by omega, rfl, rfl, rfl⟩
  case round =>
    obtain ⟨j, hj, rfl, rfl, rfl⟩ := hrel
    have hn5 := rightsTo_len r j
    have hsz : (mk (rightsTo r j)).size ≤ 5 := by rw [mk_size]; omega
    rcases (by omega : j = 0 ∨ j = 1 ∨ j = 2 ∨ j = 3 ∨ j = 4 ∨ j = 5) with rfl | rfl | rfl | rfl | rfl | rfl
    · have hdiv : (r : Int) / 1 = ((r / 2 ^ 0 : Nat) : Int) := by omega
      by_cases hb : r / 2 ^ 0 % 2 = 1
      · have hs := rightsTo_yes r 0 hb
        have hbit : ((r / 2 ^ 0 : Nat) : Int).tmod 2 = 1 := by rw [Int.tmod_eq_emod_of_nonneg (by omega)]; omega
        have happ : mk (rightsTo r 0) ++ ⟨#[114]⟩ = mk (rightsTo r 1) := by rw [mk_append, hs]; rfl
        have hext : (⟨#[114, 119, 120, 103, 100]⟩ : ByteArray).extract 0 1 = ⟨#[114]⟩ := by decide +kernel
        have hp : ((0 : Nat) : Int) = 0 := rfl
        rw [hp]
        clear hs hb hn5
        generalize mk (rightsTo r 0) = t at *
        generalize r / 2 ^ 0 = q at *
        go_wp2
        go_roundw
        case rel => exact ⟨1, by omega, by rfl, by first | rfl | (rw [hext, happ]) | (rw [happ]), trivial⟩
        case measure => simp [intOf]
      · have hs := rightsTo_no r 0 hb
        have hbit : ((r / 2 ^ 0 : Nat) : Int).tmod 2 = 0 := by rw [Int.tmod_eq_emod_of_nonneg (by omega)]; omega
        rw [← hs]
        have hp : ((0 : Nat) : Int) = 0 := rfl
        rw [hp]
        clear hs hb hn5 hsz
        generalize r / 2 ^ 0 = q at *
        go_wp2
        go_roundw
        case rel => exact ⟨1, by omega, by rfl, rfl, trivial⟩
        case measure => simp [intOf]
    · have hdiv : (r : Int) / 2 = ((r / 2 ^ 1 : Nat) : Int) := by omega
      by_cases hb : r / 2 ^ 1 % 2 = 1
      · have hs := rightsTo_yes r 1 hb
        have hbit : ((r / 2 ^ 1 : Nat) : Int).tmod 2 = 1 := by rw [Int.tmod_eq_emod_of_nonneg (by omega)]; omega
        have happ : mk (rightsTo r 1) ++ ⟨#[119]⟩ = mk (rightsTo r 2) := by rw [mk_append, hs]; rfl
        have hext : (⟨#[114, 119, 120, 103, 100]⟩ : ByteArray).extract 1 2 = ⟨#[119]⟩ := by decide +kernel
        have hp : ((1 : Nat) : Int) = 1 := rfl
        rw [hp]
        clear hs hb hn5
        generalize mk (rightsTo r 1) = t at *
        generalize r / 2 ^ 1 = q at *
        go_wp2
        go_roundw
        case rel => exact ⟨2, by omega, by rfl, by first | rfl | (rw [hext, happ]) | (rw [happ]), trivial⟩
        case measure => simp [intOf]
      · have hs := rightsTo_no r 1 hb
        have hbit : ((r / 2 ^ 1 : Nat) : Int).tmod 2 = 0 := by rw [Int.tmod_eq_emod_of_nonneg (by omega)]; omega
        rw [← hs]
        have hp : ((1 : Nat) : Int) = 1 := rfl
        rw [hp]
        clear hs hb hn5 hsz
        generalize r / 2 ^ 1 = q at *
        go_wp2
        go_roundw
        case rel => exact ⟨2, by omega, by rfl, rfl, trivial⟩
        case measure => simp [intOf]
    · have hdiv : (r : Int) / 4 = ((r / 2 ^ 2 : Nat) : Int) := by omega
      by_cases hb : r / 2 ^ 2 % 2 = 1
      · have hs := rightsTo_yes r 2 hb
        have hbit : ((r / 2 ^ 2 : Nat) : Int).tmod 2 = 1 := by rw [Int.tmod_eq_emod_of_nonneg (by omega)]; omega
        have happ : mk (rightsTo r 2) ++ ⟨#[120]⟩ = mk (rightsTo r 3) := by rw [mk_append, hs]; rfl
        have hext : (⟨#[114, 119, 120, 103, 100]⟩ : ByteArray).extract 2 3 = ⟨#[120]⟩ := by decide +kernel
        have hp : ((2 : Nat) : Int) = 2 := rfl
        rw [hp]
        clear hs hb hn5
        generalize mk (rightsTo r 2) = t at *
        generalize r / 2 ^ 2 = q at *
        go_wp2
        go_roundw
        case rel => exact ⟨3, by omega, by rfl, by first | rfl | (rw [hext, happ]) | (rw [happ]), trivial⟩
        case measure => simp [intOf]
      · have hs := rightsTo_no r 2 hb
        have hbit : ((r / 2 ^ 2 : Nat) : Int).tmod 2 = 0 := by rw [Int.tmod_eq_emod_of_nonneg (by omega)]; omega
        rw [← hs]
        have hp : ((2 : Nat) : Int) = 2 := rfl
        rw [hp]
        clear hs hb hn5 hsz
        generalize r / 2 ^ 2 = q at *
        go_wp2
        go_roundw
        case rel => exact ⟨3, by omega, by rfl, rfl, trivial⟩
        case measure => simp [intOf]
    · have hdiv : (r : Int) / 8 = ((r / 2 ^ 3 : Nat) : Int) := by omega
      by_cases hb : r / 2 ^ 3 % 2 = 1
      · have hs := rightsTo_yes r 3 hb
        have hbit : ((r / 2 ^ 3 : Nat) : Int).tmod 2 = 1 := by rw [Int.tmod_eq_emod_of_nonneg (by omega)]; omega
        have happ : mk (rightsTo r 3) ++ ⟨#[103]⟩ = mk (rightsTo r 4) := by rw [mk_append, hs]; rfl
        have hext : (⟨#[114, 119, 120, 103, 100]⟩ : ByteArray).extract 3 4 = ⟨#[103]⟩ := by decide +kernel
        have hp : ((3 : Nat) : Int) = 3 := rfl
        rw [hp]
        clear hs hb hn5
        generalize mk (rightsTo r 3) = t at *
        generalize r / 2 ^ 3 = q at *
        go_wp2
        go_roundw
        case rel => exact ⟨4, by omega, by rfl, by first | rfl | (rw [hext, happ]) | (rw [happ]), trivial⟩
        case measure => simp [intOf]
      · have hs := rightsTo_no r 3 hb
        have hbit : ((r / 2 ^ 3 : Nat) : Int).tmod 2 = 0 := by rw [Int.tmod_eq_emod_of_nonneg (by omega)]; omega
        rw [← hs]
        have hp : ((3 : Nat) : Int) = 3 := rfl
        rw [hp]
        clear hs hb hn5 hsz
        generalize r / 2 ^ 3 = q at *
        go_wp2
        go_roundw
        case rel => exact ⟨4, by omega, by rfl, rfl, trivial⟩
        case measure => simp [intOf]
    · have hdiv : (r : Int) / 16 = ((r / 2 ^ 4 : Nat) : Int) := by omega
      by_cases hb : r / 2 ^ 4 % 2 = 1
      · have hs := rightsTo_yes r 4 hb
        have hbit : ((r / 2 ^ 4 : Nat) : Int).tmod 2 = 1 := by rw [Int.tmod_eq_emod_of_nonneg (by omega)]; omega
        have happ : mk (rightsTo r 4) ++ ⟨#[100]⟩ = mk (rightsTo r 5) := by rw [mk_append, hs]; rfl
        have hext : (⟨#[114, 119, 120, 103, 100]⟩ : ByteArray).extract 4 5 = ⟨#[100]⟩ := by decide +kernel
        have hp : ((4 : Nat) : Int) = 4 := rfl
        rw [hp]
        clear hs hb hn5
        generalize mk (rightsTo r 4) = t at *
        generalize r / 2 ^ 4 = q at *
        go_wp2
        go_roundw
        case rel => exact ⟨5, by omega, by rfl, by first | rfl | (rw [hext, happ]) | (rw [happ]), trivial⟩
        case measure => simp [intOf]
      · have hs := rightsTo_no r 4 hb
        have hbit : ((r / 2 ^ 4 : Nat) : Int).tmod 2 = 0 := by rw [Int.tmod_eq_emod_of_nonneg (by omega)]; omega
        rw [← hs]
        have hp : ((4 : Nat) : Int) = 4 := rfl
        rw [hp]
        clear hs hb hn5 hsz
        generalize r / 2 ^ 4 = q at *
        go_wp2
        go_roundw
        case rel => exact ⟨5, by omega, by rfl, rfl, trivial⟩
        case measure => simp [intOf]
    · have hp : ((5 : Nat) : Int) = 5 := rfl
      rw [hp]
      have hemp := emp (mk (rightsTo r 5))
      rw [mk_size] at hemp
      unfold rightsS at HV
      by_cases h0 : rightsTo r 5 = []
      · rw [if_pos h0] at HV
        have he : (mk (rightsTo r 5)).toList.isEmpty = true := by rw [hemp, h0]; rfl
        clear hemp h0
        generalize mk (rightsTo r 5) = t at *
        go_wp2
        go_ret2
        exact ⟨by rw [HV.out]; rfl, rfl⟩
      · rw [if_neg h0] at HV
        have he : (mk (rightsTo r 5)).toList.isEmpty = false := by rw [hemp]; exact decide_eq_false (fun e => h0 (List.eq_nil_of_length_eq_zero e))
        clear hemp h0
        generalize mk (rightsTo r 5) = t at *
        go_wp2
        go_ret2
        exact ⟨by rw [HV.out]; rfl, rfl⟩
set_option maxHeartbeats 2000000 in
theorem rreadRights_any (w : World) (s : ByteArray) : Calls Tryd.prog 58 #[.string s] w fun e w' => e = .returned (.tuple #[.int .u8 (readP s).1, .int .i64 (readP s).2]) ∧ w = w' := by
  obtain ⟨V, hV⟩ : ∃ V, readP s = V := ⟨_, rfl⟩
  rw [hV]
  have HV := Lib.hid hV.symm
  clear hV
  go_enter Tryd.func58, Tryd.ntmps58
  go_wp2
  go_loopw [4] (fun nv wr => ∃ (r : Nat), r ≤ 32 ∧ nv = .int .i64 (r : Int) ∧ Hid (∀ q, q < r → rightsS q ≠ s) ∧ wr = w) (fun nv _ => 64 - (intOf nv).toNat)
  case atStart => exact ⟨0, by omega, rfl, Lib.hid (fun q h => by omega), rfl⟩
  case round =>
    obtain ⟨r, hr, rfl, HN, rfl⟩ := hrel
    by_cases h32 : r < 32
    · have HR := Lib.hid (fun w => rrights_any w r (by omega))
      have hrp : rightsP r = (rightsS r, 0) := by unfold rightsP; rw [if_neg (by omega)]
      rw [hrp] at HR
      have hwr : IntKind.u8.wrap (r : Int) = r := by rw [IntKind.wrap_u8]; omega
      have hq := strEq (rightsS r) s
      by_cases he : rightsS r = s
      · rw [decide_eq_true he] at hq
        have hv : Hid (V = ((r : Int), 0)) := Lib.hid (by
          have h1 := said_read ⟨r, h32⟩
          simp only at h1
          rw [he] at h1
          rw [HV.out]
          unfold readP
          rw [h1])
        clear hrp he
        generalize rightsS r = t at *
        go_wp2_with fail
        refine (HR.out _).mono ?_
        rintro e w1 ⟨rfl, rfl⟩
        go_wp2
        go_ret2
        exact ⟨by rw [hv.out]; rfl, rfl⟩
      · rw [decide_eq_false he] at hq
        have HN2 : Hid (∀ q, q < r + 1 → rightsS q ≠ s) := Lib.hid (fun q h => by
          by_cases e : q = r
          · rw [e]; exact he
          · exact HN.out q (by omega))
        clear hrp he
        generalize rightsS r = t at *
        go_wp2_with fail
        refine (HR.out _).mono ?_
        rintro e w1 ⟨rfl, rfl⟩
        go_wp2
        go_roundw
        case rel => exact ⟨r + 1, by omega, by go_num, HN2, trivial⟩
        case measure => simp [intOf]; omega
    · obtain rfl : r = 32 := by omega
      have hv : Hid (V = (0, 3)) := Lib.hid (by
        rw [HV.out]
        unfold readP
        cases h1 : readO s with
        | none => rfl
        | some q =>
          obtain ⟨h2, h3⟩ := read_said s q h1
          exact absurd h3 (HN.out q h2))
      go_wp2
      go_ret2
      exact ⟨by rw [hv.out]; rfl, rfl⟩
end Go.Proofs.YtlaplonmbnncaaaDoor
