/- The contracts of the program's area on a nil receiver. -/
import Derived.Test.YtbggdimkfkdhmaaA5
import Derived.Test.YtbggdimkfkdhmaaA6
namespace Go.Proofs.Ytbggdimkfkdhmaa
open Go.RowKit

theorem entry_nil (w : World) (k x : Int) : Calls Try.prog 14 #[.pointer none, .int .u8 k, .int .u16 x] w fun e w' => e = .returned (.int .i64 1) ∧ w = w' := by
  go_enter Try.func14, Try.ntmps14
  go_wp2
  go_ret
  exact ⟨rfl, rfl⟩
theorem return_nil (w : World) : Calls Try.prog 12 #[.pointer none] w fun e w' => e = .returned (.int .i64 1) ∧ w = w' := by
  have HL := Lib.hid lives_nil
  go_enter Try.func12, Try.ntmps12
  go_wp2_with (go_at_call 27; refine (HL.out _).mono ?_; rintro e w' ⟨rfl, rfl⟩)
  go_ret
  exact ⟨rfl, rfl⟩
theorem kill_nil (w : World) : Calls Try.prog 13 #[.pointer none] w fun e w' => e = .returned (.int .i64 1) ∧ w = w' := by
  have HL := Lib.hid lives_nil
  go_enter Try.func13, Try.ntmps13
  go_wp2_with (go_at_call 27; refine (HL.out _).mono ?_; rintro e w' ⟨rfl, rfl⟩)
  go_ret
  exact ⟨rfl, rfl⟩
theorem set_nil (w : World) (q : Nat → Int) : Calls Try.prog 16 #[.pointer none, regV q] w fun e w' => e = .returned (.int .i64 1) ∧ Kept NoBlk w w' := by
  have HL := Lib.hid lives_nil
  unfold regV
  go_enter Try.func16, Try.ntmps16
  go_wp2_with (go_at_call 27; refine (HL.out _).mono ?_; rintro e w' ⟨rfl, rfl⟩)
  go_quiet (fail)
  go_wp2
  go_ret
  exact ⟨rfl, by repeat (with_reducible first | exact Kept.refl _ _ | apply Kept.drew | apply Kept.drewN | apply Kept.alloc | exact oneHit | apply Kept.setCell)⟩
theorem regs_nil (w : World) : Calls Try.prog 18 #[.pointer none] w fun e w' => e = .returned (.agg #[.int .u16 0, .int .u16 0, .int .u16 0, .int .u16 0, .int .u16 0, .int .u16 0, .int .u16 0, .int .u16 0, .int .u16 0]) ∧ Kept NoBlk w w' := by
  go_enter Try.func18, Try.ntmps18
  go_wp2
  exact bodyPost_ret (v := .agg #[.int .u16 0, .int .u16 0, .int .u16 0, .int .u16 0, .int .u16 0, .int .u16 0, .int .u16 0, .int .u16 0, .int .u16 0]) (by simp [results, Try.results18, go_sem]) rfl ⟨rfl, (Kept.refl _ _).alloc _⟩
theorem depth_nil (w : World) : Calls Try.prog 11 #[.pointer none] w fun e w' => e = .returned (.int .i64 0) ∧ w = w' := by
  go_enter Try.func11, Try.ntmps11
  go_wp2
  go_ret
  exact ⟨rfl, rfl⟩
theorem where_nil (w : World) (k : Int) : Calls Try.prog 19 #[.pointer none, .int .u8 k] w fun e w' => e = .returned (.tuple #[.int .u16 0, .bool false]) ∧ w = w' := by
  go_enter Try.func19, Try.ntmps19
  go_wp2
  go_ret2
  exact ⟨rfl, rfl⟩
theorem alive_nil (w : World) : Calls Try.prog 17 #[.pointer none] w fun e w' => e = .returned (.bool false) ∧ w = w' := by
  have HL := Lib.hid lives_nil
  go_enter Try.func17, Try.ntmps17
  go_wp2_with (go_at_call 27; refine (HL.out _).mono ?_; rintro e w' ⟨rfl, rfl⟩)
  go_ret
  exact ⟨rfl, rfl⟩
theorem fork_nil (w : World) : Calls Try.prog 21 #[.pointer none] w fun e w' => e = .returned (.pointer none) ∧ w = w' := by
  go_enter Try.func21, Try.ntmps21
  go_wp2
  go_ret
  exact ⟨rfl, rfl⟩
theorem entries_nil (w : World) : Calls Try.prog 24 #[.pointer none] w fun e w' => e = .returned (.slice none 0 0) ∧ w = w' := by
  have HW := Lib.hid where_nil
  go_enter Try.func24, Try.ntmps24
  go_wp2
  go_loop [3, 4, 5, 6, 7] (fun o _ _ _ i => ∃ j : Nat, j ≤ 5 ∧ i = .int .u8 j ∧ o = .slice none 0 0) (fun _ _ _ _ i => 5 - (intOf i).toNat)
  case atStart => exact ⟨0, by omega, rfl, rfl⟩
  case round =>
    obtain ⟨j, hj, rfl, rfl⟩ := hrel
    by_cases hlt : j < 5
    · go_wp2_with (go_at_call 19; refine (HW.out _ _).mono ?_; rintro e w' ⟨rfl, rfl⟩)
      go_round
      case rel => exact ⟨j + 1, by omega, by go_num, rfl⟩
      case measure => simp [intOf]; omega
    · obtain rfl : j = 5 := by omega
      go_wp2
      go_ret
      exact ⟨rfl, rfl⟩
end Go.Proofs.Ytbggdimkfkdhmaa
