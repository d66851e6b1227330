/- A word told: the law's walk. -/
import Derived.Test.YtkdojdcfakjjfaaDoorT1
namespace Go.Proofs.YtkdojdcfakjjfaaDoor
open Go.RowKit
set_option maxRecDepth 100000

theorem from_both (n : Int) : ∃ x ok, (∀ w, Calls Tryd.prog 10 #[.int .i64 n] w fun e w' => e = .returned (.tuple #[.int .u16 x, .bool ok]) ∧ w = w') ∧ (∀ w, Calls Tryd.prog 17 #[.int .i64 n] w fun e w' => e = .returned (.tuple #[.int .u16 x, .bool ok]) ∧ w = w') := by
  by_cases h : n < -32768 ∨ 65535 < n
  · exact ⟨_, _, fun w => from_out w n h, fun w => rfrom_out w n h⟩
  · exact ⟨_, _, fun w => from_in w n (by omega) (by omega), fun w => rfrom_in w n (by omega) (by omega)⟩

theorem run_equalIn_two (w : World) (x y : Int) (d : Nat) : (Op.equalIn (d + 2) 34 (.agg #[.int .u8 x, .int .u8 y]) (.agg #[.int .u8 x, .int .u8 y])).run Tryd.prog w = .ok true w := by
  rw [Op.equalIn]
  simp [run_underlying Tryd.underlying34, go_sem, List.range'_succ]
theorem run_eql_two (w : World) (x y : Int) : (binOp .eql 34 (.agg #[.int .u8 x, .int .u8 y]) (.agg #[.int .u8 x, .int .u8 y])).run Tryd.prog w = .ok (.bool true) w := by
  simp [go_sem, run_equalIn_two]
theorem run_eqGuard_two (w : World) (o1 o2 : Operand) (x y : Int) : (eqGuard .eql 34 o1 o2 (.agg #[.int .u8 x, .int .u8 y]) (.agg #[.int .u8 x, .int .u8 y])).run Tryd.prog w = .ok () w := by
  exact run_eqGuard_agg w .eql 34 o1 o2 _ _ (by kernel_rfl)

set_option maxHeartbeats 4000000 in
theorem tells_any (w : World) (a n : Int) (ha : (Lit.int .u16 a).wf = true) (_hn : (Lit.int .i64 n).wf = true) (hT : Tabs w) : Calls Tryd.prog 4 #[.int .u16 a, .int .i64 n] w (TrueKept w) := by
  have ha := isW_of ha
  obtain ⟨x, ok, F1, F2⟩ := from_both n
  have HF1 := Lib.hid F1
  have HF2 := Lib.hid F2
  have H1 := Lib.hid (fun w => bytes_any w a ha)
  have H2 := Lib.hid (fun w => signed_any w a ha)
  have H3 := Lib.hid (fun w => rsigned_any w a ha)
  have H4 := Lib.hid (fun w => rbytes_any w a ha)
  have H5 := Lib.hid (fun w => hex_any w a ha.1 ha.2)
  have H6 := Lib.hid (fun w => rhex_any w a ha)
  have H7 := Lib.hid (fun w => join_any w a ha)
  have HT := Lib.hid hT
  clear hT ha F1 F2
  generalize hexOf a = hx at *
  generalize sgn a = sx at *
  generalize a / 256 = b0 at *
  generalize a % 256 = b1 at *
  go_enter Tryd.func4, Tryd.ntmps4
  go_wp2_with fail
  refine (HF1.out _).mono ?_
  rintro e w1 ⟨rfl, rfl⟩
  go_wp2_with fail
  refine (HF2.out _).mono ?_
  rintro e w1 ⟨rfl, rfl⟩
  go_wp2_with fail
  refine (H1.out _).mono ?_
  rintro e w1 ⟨rfl, hK1⟩
  go_wp2
  refine wp_region_plan (by kernel_rfl) (.e 0 [] <| .q 1 <| .q 2 <| .q 4 <| .e 3 [4] <| .e 5 [] <| .q 6 <| .q 7 <| .q 8 <| .q 9 <| .q 10 <| .e 11 [9] <| .q 12 <| .q 13 <| .q 14 <| .q 15 <| .q 17 <| .e 16 [17] <| .e 18 [] <| .q 19 <| .q 20 <| .q 21 <| .q 22 <| .q 23 <| .q 24 <| .q 25 <| .q 26 <| .q 27 <| .q 28 <| .q 29 <| .q 30 <| .q 31 <| .q 32 <| .q 33 <| .q 34 <| .q 35 <| .q 37 <| .e 36 [37] <| .q 38 <| .q 39 <| .q 40 <| .nil) (by kernel_rfl) (by kernel_rfl) ?_
  refine plan_e rfl (fun K hK => ?_)
  go_simp
  refine (live_any _ (HT.out.kept (hK1.alloc _).drew)).mono ?_
  rintro e w2 ⟨rfl, hK2⟩
  have hb2 := Blk.kept (Blk.drew (Blk.new w1 34 #[Value.int .u8 b0, Value.int .u8 b1])) hK2 (fun e => e)
  have hK02 := (hK1.alloc (.cells #[Value.int .u8 b0, Value.int .u8 b1] 34)).drew.trans hK2
  generalize w1.heap.size = bq at *
  have hc2 := hb2.cell
  have hl2 := hb2.lt
  refine hK _ _ stab_nil ?_
  clear hK K
  repeat (refine plan_q rfl (fun K hK => ?_); go_simp; refine hK _ ?_; clear hK K)
  refine plan_e rfl (fun K hK => ?_)
  go_simp
  refine (H2.out _).mono ?_
  rintro e w3 ⟨rfl, rfl⟩
  refine hK _ _ (by (repeat (refine stab_cons rfl ?_ ?_; focus (go_simp; done))); exact stab_nil) ?_
  clear hK K
  refine plan_e rfl (fun K hK => ?_)
  go_simp
  refine (H3.out _).mono ?_
  rintro e w3 ⟨rfl, rfl⟩
  refine hK _ _ stab_nil ?_
  clear hK K
  repeat (refine plan_q rfl (fun K hK => ?_); go_simp; refine hK _ ?_; clear hK K)
  refine plan_e rfl (fun K hK => ?_)
  go_simp
  refine (H4.out _).mono ?_
  rintro e w3 ⟨rfl, hK3⟩
  have hb3 := Blk.kept hb2 hK3 (fun e => e)
  have hc3 := hb3.cell
  have hK03 := hK02.trans hK3
  have hl3 := hb3.lt
  clear hb2 hc2 hK3 hl2 hK2 hK02
  refine hK _ _ (by (repeat (refine stab_cons rfl ?_ ?_; focus (go_simp; done))); exact stab_nil) ?_
  clear hK K
  have hE1 := fun w => run_eql_two w b0 b1
  have hE2 := fun w o1 o2 => run_eqGuard_two w o1 o2 b0 b1
  repeat (refine plan_q rfl (fun K hK => ?_); go_simp; refine hK _ ?_; clear hK K)
  clear hE1 hE2
  refine plan_e rfl (fun K hK => ?_)
  go_simp
  refine (H5.out _).mono ?_
  rintro e w4 ⟨rfl, hK4⟩
  have hb4 := Blk.kept hb3 hK4 (fun e => e)
  have hc4 := hb4.cell
  have hK04 := hK03.trans hK4
  have hl4 := hb4.lt
  clear hb3 hc3 hK4 hl3 hK03
  refine hK _ _ (by (repeat (refine stab_cons rfl ?_ ?_; focus (go_simp; done))); exact stab_nil) ?_
  clear hK K
  refine plan_e rfl (fun K hK => ?_)
  go_simp
  refine (H6.out _).mono ?_
  rintro e w5 ⟨rfl, rfl⟩
  refine hK _ _ stab_nil ?_
  clear hK K
  repeat (refine plan_q rfl (fun K hK => ?_); go_simp; refine hK _ ?_; clear hK K)
  refine plan_e rfl (fun K hK => ?_)
  go_simp
  refine (H7.out _).mono ?_
  rintro e w5 ⟨rfl, rfl⟩
  refine hK _ _ (by (repeat (refine stab_cons rfl ?_ ?_; focus (go_simp; done))); exact stab_nil) ?_
  clear hK K
  repeat (refine plan_q rfl (fun K hK => ?_); go_simp; refine hK _ ?_; clear hK K)
  refine plan_nil ?_
  go_wp2
  go_ret
  exact ⟨by simp, hK04⟩
end Go.Proofs.YtkdojdcfakjjfaaDoor
