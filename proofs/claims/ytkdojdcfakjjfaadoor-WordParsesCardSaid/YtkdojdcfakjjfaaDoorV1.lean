/- Words reckoned: each function once. -/
import Derived.Test.YtkdojdcfakjjfaaDoorW1
namespace Go.Proofs.YtkdojdcfakjjfaaDoor
open Go.RowKit
set_option maxRecDepth 100000

def isW (a : Int) : Prop := 0 ≤ a ∧ a ≤ 65535
theorem isW_of {a : Int} (h : (Lit.int .u16 a).wf = true) : isW a := by simpa [isW, Lit.wf, IntKind.min, IntKind.max, IntKind.signed, IntKind.bits] using h
theorem wr (x : Int) : IntKind.u16.wrap x = x % 65536 := IntKind.wrap_u16 x

theorem sub_any (w : World) (a b : Int) (ha : isW a) (hb : isW b) : Calls Tryd.prog 24 #[.int .u16 a, .int .u16 b] w fun e w' => e = .returned (.tuple #[.int .u16 ((a - b) % 65536), .bool (decide (a < b))]) ∧ w = w' := by
  obtain ⟨h0, h1⟩ := ha
  obtain ⟨h2, h3⟩ := hb
  go_enter Tryd.func24, Tryd.ntmps24
  go_wp2
  go_ret2
  exact ⟨by simp [wr], rfl⟩
theorem mul_any (w : World) (a b : Int) (ha : isW a) (hb : isW b) (hp : 0 ≤ a * b ∧ a * b ≤ 4294836225) : Calls Tryd.prog 26 #[.int .u16 a, .int .u16 b] w fun e w' => e = .returned (.tuple #[.int .u16 (a * b / 65536), .int .u16 (a * b % 65536)]) ∧ w = w' := by
  obtain ⟨h0, h1⟩ := ha
  obtain ⟨h2, h3⟩ := hb
  obtain ⟨h4, h5⟩ := hp
  go_enter Tryd.func26, Tryd.ntmps26
  go_wp2
  go_ret2
  exact ⟨by simp [wr], rfl⟩
theorem div_zero (w : World) (a : Int) : Calls Tryd.prog 25 #[.int .u16 a, .int .u16 0] w fun e w' => e = .returned (.tuple #[.int .u16 0, .int .u16 0, .int .i64 14]) ∧ w = w' := by
  go_enter Tryd.func25, Tryd.ntmps25
  go_wp2
  exact bodyPost_ret (v := .tuple #[.int .u16 0, .int .u16 0, .int .i64 14]) (by simp [results, Tryd.results25, go_sem]) rfl ⟨rfl, rfl⟩
theorem div_any (w : World) (a b : Int) (ha : isW a) (hb : isW b) (hz : ¬ b = 0) (hq : 0 ≤ a / b ∧ a / b ≤ 65535) (_hr : 0 ≤ a % b ∧ a % b ≤ 65535) : Calls Tryd.prog 25 #[.int .u16 a, .int .u16 b] w fun e w' => e = .returned (.tuple #[.int .u16 (a / b), .int .u16 (a % b), .int .i64 0]) ∧ Kept NoBlk w w' := by
  obtain ⟨h0, h1⟩ := ha
  obtain ⟨h2, h3⟩ := hb
  have e1 : a.tdiv b = a / b := Int.tdiv_eq_ediv_of_nonneg h0
  have e2 : a.tmod b = a % b := Int.tmod_eq_emod_of_nonneg h0
  have e3 : IntKind.u16.wrap (a / b) = a / b := u16_in _ hq.1 (by omega)
  go_enter Tryd.func25, Tryd.ntmps25
  go_wp2
  refine wp_region_plan (by kernel_rfl) (.q 0 <| .q 1 <| .q 2 <| .q 3 <| .q 4 <| .q 5 <| .q 6 <| .q 7 <| .q 8 <| .nil) (by kernel_rfl) (by kernel_rfl) ?_
  repeat (refine plan_q rfl (fun K hK => ?_); go_simp; refine hK _ ?_; clear hK K)
  refine plan_nil ?_
  go_wp2
  exact bodyPost_ret (v := .tuple #[.int .u16 (a / b), .int .u16 (a % b), .int .i64 0]) (by simp [results, Tryd.results25, go_sem]) rfl ⟨rfl, by repeat (with_reducible first | exact Kept.refl _ _ | apply Kept.drew | apply Kept.drewN | apply Kept.alloc | exact oneHit | apply Kept.setCell)⟩
theorem neg_any (w : World) (a : Int) (ha : isW a) : Calls Tryd.prog 16 #[.int .u16 a] w fun e w' => e = .returned (.int .u16 ((0 - a) % 65536)) ∧ w = w' := by
  obtain ⟨h0, h1⟩ := ha
  go_enter Tryd.func16, Tryd.ntmps16
  go_wp2
  go_ret
  exact ⟨by simp [wr], rfl⟩

theorem radd_any (w : World) (a b : Int) (ha : isW a) (hb : isW b) : Calls Tryd.prog 27 #[.int .u16 a, .int .u16 b] w fun e w' => e = .returned (.tuple #[.int .u16 ((a + b) % 65536), .bool (decide (65536 ≤ a + b))]) ∧ w = w' := by
  obtain ⟨h0, h1⟩ := ha
  obtain ⟨h2, h3⟩ := hb
  go_enter Tryd.func27, Tryd.ntmps27
  go_wp2
  go_ret2
  exact ⟨rfl, rfl⟩
theorem rsub_any (w : World) (a b : Int) (ha : isW a) (hb : isW b) : Calls Tryd.prog 28 #[.int .u16 a, .int .u16 b] w fun e w' => e = .returned (.tuple #[.int .u16 ((a - b) % 65536), .bool (decide (a < b))]) ∧ w = w' := by
  obtain ⟨h0, h1⟩ := ha
  obtain ⟨h2, h3⟩ := hb
  by_cases h : a < b
  · have e1 : (a - b) % 65536 = a - b + 65536 := by omega
    rw [e1]
    go_enter Tryd.func28, Tryd.ntmps28
    go_wp2
    go_ret2
    exact ⟨by simp [h], rfl⟩
  · have e1 : (a - b) % 65536 = a - b := by omega
    rw [e1]
    go_enter Tryd.func28, Tryd.ntmps28
    go_wp2
    go_ret2
    exact ⟨by simp [h], rfl⟩
theorem rmul_any (w : World) (a b : Int) (ha : isW a) (hb : isW b) (hp : 0 ≤ a * b ∧ a * b ≤ 4294836225) : Calls Tryd.prog 29 #[.int .u16 a, .int .u16 b] w fun e w' => e = .returned (.tuple #[.int .u16 (a * b / 65536), .int .u16 (a * b % 65536)]) ∧ w = w' := by
  obtain ⟨h0, h1⟩ := ha
  obtain ⟨h2, h3⟩ := hb
  obtain ⟨h4, h5⟩ := hp
  go_enter Tryd.func29, Tryd.ntmps29
  go_wp2
  go_ret2
  exact ⟨rfl, rfl⟩
theorem rdiv_zero (w : World) (a : Int) : Calls Tryd.prog 30 #[.int .u16 a, .int .u16 0] w fun e w' => e = .returned (.tuple #[.int .u16 0, .int .u16 0, .int .i64 14]) ∧ w = w' := by
  go_enter Tryd.func30, Tryd.ntmps30
  go_wp2
  exact bodyPost_ret (v := .tuple #[.int .u16 0, .int .u16 0, .int .i64 14]) (by simp [results, Tryd.results30, go_sem]) rfl ⟨rfl, rfl⟩
theorem rdiv_any (w : World) (a b : Int) (ha : isW a) (hb : isW b) (hz : ¬ b = 0) (hq : 0 ≤ a / b ∧ a / b ≤ 65535) (hr : 0 ≤ a % b ∧ a % b ≤ 65535) : Calls Tryd.prog 30 #[.int .u16 a, .int .u16 b] w fun e w' => e = .returned (.tuple #[.int .u16 (a / b), .int .u16 (a % b), .int .i64 0]) ∧ Kept NoBlk w w' := by
  obtain ⟨h0, h1⟩ := ha
  obtain ⟨h2, h3⟩ := hb
  have e1 : a.tdiv b = a / b := Int.tdiv_eq_ediv_of_nonneg h0
  have e2 : a.tmod b = a % b := Int.tmod_eq_emod_of_nonneg h0
  have e3 : IntKind.u16.wrap (a / b) = a / b := u16_in _ hq.1 (by omega)
  have e4 : IntKind.u16.wrap (a % b) = a % b := u16_in _ hr.1 (by omega)
  have e5 : IntKind.i64.wrap (a / b) = a / b := by rw [IntKind.wrap_i64]; omega
  have e6 : IntKind.i64.wrap a = a := by rw [IntKind.wrap_i64]; omega
  have e7 : IntKind.i64.wrap b = b := by rw [IntKind.wrap_i64]; omega
  have e8 : IntKind.i64.wrap (a % b) = a % b := by rw [IntKind.wrap_i64]; omega
  go_enter Tryd.func30, Tryd.ntmps30
  go_wp2
  refine wp_region_plan (by kernel_rfl) (.q 0 <| .q 1 <| .q 2 <| .q 3 <| .q 4 <| .q 5 <| .q 6 <| .q 7 <| .q 8 <| .q 9 <| .q 10 <| .q 11 <| .q 12 <| .q 13 <| .q 14 <| .nil) (by kernel_rfl) (by kernel_rfl) ?_
  repeat (refine plan_q rfl (fun K hK => ?_); go_simp; refine hK _ ?_; clear hK K)
  refine plan_nil ?_
  go_wp2
  exact bodyPost_ret (v := .tuple #[.int .u16 (a / b), .int .u16 (a % b), .int .i64 0]) (by simp [results, Tryd.results30, go_sem]) rfl ⟨rfl, by repeat (with_reducible first | exact Kept.refl _ _ | apply Kept.drew | apply Kept.drewN | apply Kept.alloc | exact oneHit | apply Kept.setCell)⟩
theorem rneg_any (w : World) (a : Int) (ha : isW a) : Calls Tryd.prog 31 #[.int .u16 a] w fun e w' => e = .returned (.int .u16 ((0 - a) % 65536)) ∧ w = w' := by
  have HS := Lib.hid (fun w => rsub_any w 0 a (by unfold isW; omega) ha)
  clear ha
  generalize (0 - a) % 65536 = r at *
  generalize decide (0 < a) = c at *
  go_enter Tryd.func31, Tryd.ntmps31
  go_wp2_with fail
  refine (HS.out _).mono ?_
  rintro e w1 ⟨rfl, rfl⟩
  go_wp2
  go_ret
  exact ⟨rfl, rfl⟩
end Go.Proofs.YtkdojdcfakjjfaaDoor
