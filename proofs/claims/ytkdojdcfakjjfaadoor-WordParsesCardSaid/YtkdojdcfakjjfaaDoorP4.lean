/- What a text says: the document's 'digit', for every byte. -/
import Derived.Test.YtkdojdcfakjjfaaDoorP3
namespace Go.Proofs.YtkdojdcfakjjfaaDoor
open Go.RowKit
set_option maxRecDepth 100000

theorem hexi (w : World) (i : Nat) (h : i < 16) : (Instr.index 9 (.string ⟨#[48, 49, 50, 51, 52, 53, 54, 55, 56, 57, 97, 98, 99, 100, 101, 102]⟩) (.int .i64 (i : Int))).run Tryd.prog w = .ok (.int .u8 (nib i)) w := by
  have hs : (⟨#[48, 49, 50, 51, 52, 53, 54, 55, 56, 57, 97, 98, 99, 100, 101, 102]⟩ : ByteArray).size = 16 := rfl
  have key : ∀ d : Fin 16, (((⟨#[48, 49, 50, 51, 52, 53, 54, 55, 56, 57, 97, 98, 99, 100, 101, 102]⟩ : ByteArray)[d.val]'d.isLt).toNat : Int) = nib d.val := by decide
  rw [run_index_string (P := Tryd.prog) w 9 _ .i64 i Tryd.underlying9, dif_pos (by rw [hs]; omega)]
  have := key ⟨i, h⟩
  simp only [Int.toNat_natCast]
  rw [← this]
theorem nib_valN (c : Int) (i : Nat) (h : i < 16) (e : nib i = c) : valN c 16 = i := by
  subst e
  unfold nib valN
  split <;> (split <;> (try split) <;> omega)
theorem valN_nib (c : Int) (h : valN c 16 < 16) : nib (valN c 16) = c := by
  unfold valN at *
  unfold nib
  split at h <;> (try split at h) <;> simp_all <;> omega
theorem digit_any (w : World) (c : Int) (c0 : 0 ≤ c) (c1 : c ≤ 255) : Calls Tryd.prog 49 #[.int .u8 c] w fun e w' => e = .returned (.int .i64 (valN c 16)) ∧ w = w' := by
  have HV : ∀ i : Nat, i < 16 → nib i = c → valN c 16 = i := fun i h e => nib_valN c i h e
  have HV := Lib.hid HV
  have HN := Lib.hid (valN_nib c)
  have v0 := valN_lo c 16 (by decide)
  have v1 : valN c 16 ≤ 16 := by unfold valN; split <;> (try split) <;> omega
  generalize valN c 16 = v at *
  go_enter Tryd.func49, Tryd.ntmps49
  go_wp2
  go_loopw [3] (fun iv wr => ∃ (i : Nat), i ≤ 16 ∧ iv = .int .i64 i ∧ (i : Int) ≤ v ∧ wr = w) (fun iv _ => 16 - (intOf iv).toNat)
  case atStart => exact ⟨0, by omega, rfl, by omega, rfl⟩
  case round =>
    obtain ⟨i, hi, rfl, hv, rfl⟩ := hrel
    by_cases hlt : i < 16
    · have hx := fun w => hexi w i hlt
      by_cases he : nib i = c
      · have hvi := HV.out i hlt he
        have hq : (nib i == c) = true := beq_iff_eq.2 he
        clear he HN HV
        subst hvi
        go_wp2
        go_ret
        exact ⟨rfl, rfl⟩
      · have hq : (nib i == c) = false := beq_eq_false_iff_ne.2 he
        have hne : (i : Int) ≠ v := fun e => he (by
          have := HN.out (by omega)
          rw [← e] at this
          exact this)
        clear he HN HV
        go_wp2
        go_roundw
        case rel => exact ⟨i + 1, by omega, by go_num, by omega, trivial⟩
        case measure => simp [intOf]; omega
    · obtain rfl : i = 16 := by omega
      obtain rfl : v = 16 := by omega
      go_wp2
      go_ret
      exact ⟨rfl, rfl⟩
end Go.Proofs.YtkdojdcfakjjfaaDoor
