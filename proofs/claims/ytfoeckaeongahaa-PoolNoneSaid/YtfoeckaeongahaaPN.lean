/- A nil pool; PoolNone, walked. -/
import Derived.Test.YtfoeckaeongahaaP10
namespace Go.Proofs.Ytfoeckaeongahaa
open Go.RowKit Go.Shelf
set_option maxRecDepth 100000

theorem nfree (w : World) (e i : Int) : Calls Try.prog 4 #[.pointer none, .int .u8 e, .int .u8 i] w fun x w' => x = .returned (.tuple #[.bool false, .int .i64 1]) ∧ w = w' := by
  have HA := Lib.hid (fun w e i => at_nil w e i)
  go_enter Try.func4, Try.ntmps4
  go_wp2_with fail
  refine (HA.out _ _ _).mono ?_
  rintro x w1 ⟨rfl, rfl⟩
  go_wp2
  go_ret2
  exact ⟨rfl, rfl⟩
theorem nrep (w : World) (e i : Int) : Calls Try.prog 5 #[.pointer none, .int .u8 e, .int .u8 i] w fun x w' => x = .returned (.tuple #[.bool false, .int .i64 1]) ∧ w = w' := by
  have HA := Lib.hid (fun w e i => at_nil w e i)
  go_enter Try.func5, Try.ntmps5
  go_wp2_with fail
  refine (HA.out _ _ _).mono ?_
  rintro x w1 ⟨rfl, rfl⟩
  go_wp2
  go_ret2
  exact ⟨rfl, rfl⟩
theorem nguard (w : World) (i : Int) : Calls Try.prog 6 #[.pointer none, .int .u8 i] w fun x w' => x = .returned (.tuple #[.agg #[.string ⟨#[]⟩, .int .u8 0], .bool false]) ∧ Kept NoBlk w w' := by
  have HA := Lib.hid (fun w e i => at_nil w e i)
  go_enter Try.func6, Try.ntmps6
  go_wp2_with fail
  refine (HA.out _ _ _).mono ?_
  rintro x w1 ⟨rfl, rfl⟩
  go_wp2
  refine bodyPost_ret (v := .tuple #[.agg #[.string ⟨#[]⟩, .int .u8 0], .bool false]) (by simp [results, Try.f6, go_sem]) rfl ⟨rfl, by repeat (with_reducible first | exact Kept.refl _ _ | apply Kept.drew | apply Kept.drewN | apply Kept.alloc | exact oneHit | apply Kept.setCell)⟩
theorem nquota (w : World) (e n : Int) : Calls Try.prog 8 #[.pointer none, .int .u8 e, .int .i64 n] w fun x w' => x = .returned (.int .i64 1) ∧ w = w' := by
  have HM := Lib.hid (fun w e => may_nil w e)
  go_enter Try.func8, Try.ntmps8
  go_wp2_with fail
  refine (HM.out _ _).mono ?_
  rintro x w1 ⟨rfl, rfl⟩
  go_wp2
  go_ret
  exact ⟨rfl, rfl⟩
theorem ngrant (w : World) (e i : Int) (n : ByteArray) (r : Int) : Calls Try.prog 9 #[.pointer none, .int .u8 e, .int .u8 i, .agg #[.string n, .int .u8 r]] w fun x w' => x = .returned (.int .i64 1) ∧ Kept NoBlk w w' := by
  have HA := Lib.hid (fun w e i => at_nil w e i)
  go_enter Try.func9, Try.ntmps9
  go_wp2_with fail
  refine (HA.out _ _ _).mono ?_
  rintro x w1 ⟨rfl, rfl⟩
  go_wp2
  go_ret
  exact ⟨rfl, by repeat (with_reducible first | exact Kept.refl _ _ | apply Kept.drew | apply Kept.drewN | apply Kept.alloc | exact oneHit | apply Kept.setCell)⟩
theorem nshare (w : World) (f t i : Int) : Calls Try.prog 10 #[.pointer none, .int .u8 f, .int .u8 t, .int .u8 i] w fun x w' => x = .returned (.int .i64 1) ∧ w = w' := by
  have HA := Lib.hid (fun w e i => at_nil w e i)
  go_enter Try.func10, Try.ntmps10
  go_wp2_with fail
  refine (HA.out _ _ _).mono ?_
  rintro x w1 ⟨rfl, rfl⟩
  go_wp2
  go_ret
  exact ⟨rfl, rfl⟩
theorem nowners (w : World) (i : Int) : Calls Try.prog 11 #[.pointer none, .int .u8 i] w fun x w' => x = .returned (.slice none 0 0) ∧ w = w' := by
  have HA := Lib.hid (fun w e i => at_nil w e i)
  go_enter Try.func11, Try.ntmps11
  go_wp2_with fail
  refine (HA.out _ _ _).mono ?_
  rintro x w1 ⟨rfl, rfl⟩
  go_wp2
  go_ret
  exact ⟨rfl, rfl⟩
theorem nthose (w : World) (f : Value) : Calls Try.prog 27 #[.pointer none, f] w fun x w' => x = .returned (.slice none 0 0) ∧ w = w' := by
  go_enter Try.func27, Try.ntmps27
  go_wp2
  go_ret
  exact ⟨rfl, rfl⟩
theorem nframes (w : World) (e : Int) : Calls Try.prog 12 #[.pointer none, .int .u8 e] w fun x w' => x = .returned (.slice none 0 0) ∧ Kept NoBlk w w' := by
  have HT := Lib.hid (fun w f => nthose w f)
  go_enter Try.func12, Try.ntmps12
  go_wp2_with fail
  refine (HT.out _ _).mono ?_
  rintro x w1 ⟨rfl, rfl⟩
  go_wp2
  go_ret
  exact ⟨rfl, by repeat (with_reducible first | exact Kept.refl _ _ | apply Kept.drew | apply Kept.drewN | apply Kept.alloc | exact oneHit | apply Kept.setCell)⟩
theorem nroom (w : World) : Calls Try.prog 14 #[.pointer none] w fun x w' => x = .returned (.slice none 0 0) ∧ w = w' := by
  have HT := Lib.hid (fun w f => nthose w f)
  go_enter Try.func14, Try.ntmps14
  go_wp2_with fail
  refine (HT.out _ _).mono ?_
  rintro x w1 ⟨rfl, rfl⟩
  go_wp2
  go_ret
  exact ⟨rfl, rfl⟩
theorem nholds (w : World) (e i : Int) : Calls Try.prog 13 #[.pointer none, .int .u8 e, .int .u8 i] w fun x w' => x = .returned (.bool false) ∧ w = w' := by
  have HA := Lib.hid (fun w e i => at_nil w e i)
  go_enter Try.func13, Try.ntmps13
  go_wp2_with fail
  refine (HA.out _ _ _).mono ?_
  rintro x w1 ⟨rfl, rfl⟩
  go_wp2
  go_ret
  exact ⟨rfl, rfl⟩
theorem nevents (w : World)  : Calls Try.prog 15 #[.pointer none] w fun x w' => x = .returned (.slice none 0 0) ∧ w = w' := by
  go_enter Try.func15, Try.ntmps15
  go_wp2
  go_ret
  exact ⟨rfl, rfl⟩
theorem nsize (w : World)  : Calls Try.prog 16 #[.pointer none] w fun x w' => x = .returned (.int .i64 0) ∧ w = w' := by
  go_enter Try.func16, Try.ntmps16
  go_wp2
  go_ret
  exact ⟨rfl, rfl⟩
theorem nfork (w : World)  : Calls Try.prog 17 #[.pointer none] w fun x w' => x = .returned (.pointer none) ∧ w = w' := by
  go_enter Try.func17, Try.ntmps17
  go_wp2
  go_ret
  exact ⟨rfl, rfl⟩
theorem run_eql_cap (w : World) (n : ByteArray) (r : Int) : (binOp .eql 23 (.agg #[.string n, .int .u8 r]) (.agg #[.string n, .int .u8 r])).run Try.prog w = .ok (.bool true) w := by
  simp [go_sem]
theorem run_eqGuard_cap (w : World) (o1 o2 : Operand) (n : ByteArray) (r : Int) : (eqGuard .eql 23 o1 o2 (.agg #[.string n, .int .u8 r]) (.agg #[.string n, .int .u8 r])).run Try.prog w = .ok () w :=
  run_eqGuard_agg w .eql 23 o1 o2 _ _ (by kernel_rfl)
def deedV (k m e t f : Int) (n : ByteArray) (r : Int) : Value := .agg #[.int .i64 k, .int .i64 m, .int .u8 e, .int .u8 t, .int .u8 f, .string n, .int .u8 r]
def deedC (k m e t f : Int) (n : ByteArray) (r : Int) : Array Value := #[.int .i64 k, .int .i64 m, .int .u8 e, .int .u8 t, .int .u8 f, .string n, .int .u8 r]
def NewR (N : Int) (x : Ending) : Prop := ∃ p, x = .returned (.pointer p) ∧ p.isNone = decide (N < 1 ∨ 64 < N)
theorem new_all (w : World) (N : Int) : Calls Try.prog 18 #[.int .i64 N] w fun x w' => (∃ p, x = .returned (.pointer p) ∧ p.isNone = (decide (N < 1) || decide (64 < N))) ∧ Kept NoBlk w w' := by
  by_cases h : N < 1 ∨ 64 < N
  · exact (new_none w N h).mono fun x w' ⟨hx, hw⟩ => ⟨⟨none, hx, by rcases h with h | h <;> simp [h]⟩, by subst hw; exact Kept.refl _ _⟩
  · obtain ⟨n, rfl⟩ := Int.eq_ofNat_of_zero_le (show 0 ≤ N by omega)
    refine (new_some w n (by omega) (by omega)).mono fun x w' ⟨hx, _, _, hk⟩ => ⟨⟨_, hx, ?_⟩, hk⟩
    have h1 : ¬ (n : Int) < 1 := by omega
    have h2 : ¬ 64 < (n : Int) := by omega
    simp [h1, h2]
theorem deed_cells {w : World} {b : Nat} {k m e t f : Int} {n : ByteArray} {r : Int} (h : Blk w b 25 (deedC k m e t f n r)) : w.cell? ⟨b, 1, none⟩ = some (.int .i64 m) ∧ w.cell? ⟨b, 2, none⟩ = some (.int .u8 e) ∧ w.cell? ⟨b, 3, none⟩ = some (.int .u8 t) ∧ w.cell? ⟨b, 4, none⟩ = some (.int .u8 f) ∧ w.cell? ⟨b, 5, none⟩ = some (.string n) ∧ w.cell? ⟨b, 6, none⟩ = some (.int .u8 r) := ⟨h.cell 1, h.cell 2, h.cell 3, h.cell 4, h.cell 5, h.cell 6⟩
set_option maxHeartbeats 8000000 in
theorem lawNone_any (w : World) (k m e t f : Int) (n : ByteArray) (r N : Int) : Calls Try.prog 3 #[deedV k m e t f n r, .int .i64 N] w fun x w' => x = .returned (.bool true) ∧ Kept NoBlk w w' := by
  have H4 := Lib.hid (fun w => nfree w e f)
  have H5 := Lib.hid (fun w => nrep w e f)
  have H6 := Lib.hid (fun w => nguard w f)
  have H7 := Lib.hid (fun w => live_any w)
  have H8 := Lib.hid (fun w => nquota w e m)
  have H9 := Lib.hid (fun w => ngrant w e f n r)
  have H10 := Lib.hid (fun w => nshare w e t f)
  have H11 := Lib.hid (fun w => nowners w f)
  have H12 := Lib.hid (fun w => nframes w e)
  have H13 := Lib.hid (fun w => nholds w e f)
  have H14 := Lib.hid (fun w => nroom w)
  have H15 := Lib.hid (fun w => nevents w)
  have H16 := Lib.hid (fun w => nsize w)
  have H17 := Lib.hid (fun w => nfork w)
  have H18 := Lib.hid (fun w => new_all w N)
  have HB0 : Hid (Blk (w.alloc (.cells (deedC k m e t f n r) 25)) w.heap.size 25 (deedC k m e t f n r)) := Lib.hid (Blk.new _ _ _)
  have HK0 : Hid (Kept NoBlk w (w.alloc (.cells (deedC k m e t f n r) 25))) := Lib.hid ((Kept.refl _ _).alloc _)
  have hE1 := fun w => run_eql_cap w
  have hE2 := fun w => run_eqGuard_cap w
  unfold deedC at HB0 HK0
  unfold deedV
  go_enter Try.func3, Try.ntmps3
  go_wp2_with fail
  refine (H4.out _).mono ?_
  rintro x wx ⟨rfl, rfl⟩
  go_wp2_with fail
  refine (H5.out _).mono ?_
  rintro x wx ⟨rfl, rfl⟩
  go_wp2_with fail
  refine (H6.out _).mono ?_
  rintro x w1 ⟨rfl, hk⟩
  have HB1 := Lib.hid ((HB0.out.kept hk (fun e => e)).alloc (.cells #[.string ⟨#[]⟩, .int .u8 0] 23))
  have HX1 := Lib.hid (Blk.new w1 23 #[.string ⟨#[]⟩, .int .u8 0])
  have HK1 := Lib.hid ((HK0.out.trans hk).alloc (.cells #[.string ⟨#[]⟩, .int .u8 0] 23))
  clear hk HB0 HK0
  go_wp2_with fail
  refine (H7.out _).mono ?_
  rintro x w2 ⟨rfl, hk⟩
  have HB2 := Lib.hid (HB1.out.kept hk (fun e => e))
  have HX2 := Lib.hid (HX1.out.kept hk (fun e => e))
  have HK2 := Lib.hid (HK1.out.trans hk)
  obtain ⟨a21, a22, a23, a24, a25, a26⟩ := deed_cells HB2.out
  obtain ⟨x20, x21⟩ := cap_cells HX2.out
  clear hk HB1 HX1 HK1 
  go_wp2_with fail
  refine (H8.out _).mono ?_
  rintro x wx ⟨rfl, rfl⟩
  go_wp2_with fail
  refine (H9.out _).mono ?_
  rintro x w3 ⟨rfl, hk⟩
  have HB3 := Lib.hid (HB2.out.kept hk (fun e => e))
  have HX3 := Lib.hid (HX2.out.kept hk (fun e => e))
  have HK3 := Lib.hid (HK2.out.trans hk)
  obtain ⟨a31, a32, a33, a34, a35, a36⟩ := deed_cells HB3.out
  obtain ⟨x30, x31⟩ := cap_cells HX3.out
  clear hk HB2 HX2 HK2 a21 a22 a23 a24 a25 a26 x20 x21
  go_wp2_with fail
  refine (H10.out _).mono ?_
  rintro x wx ⟨rfl, rfl⟩
  go_wp2_with fail
  refine (H11.out _).mono ?_
  rintro x wx ⟨rfl, rfl⟩
  go_wp2_with fail
  refine (H12.out _).mono ?_
  rintro x w4 ⟨rfl, hk⟩
  have HB4 := Lib.hid (HB3.out.kept hk (fun e => e))
  have HX4 := Lib.hid (HX3.out.kept hk (fun e => e))
  have HK4 := Lib.hid (HK3.out.trans hk)
  obtain ⟨a41, a42, a43, a44, a45, a46⟩ := deed_cells HB4.out
  obtain ⟨x40, x41⟩ := cap_cells HX4.out
  clear hk HB3 HX3 HK3 a31 a32 a33 a34 a35 a36 x30 x31
  go_wp2_with fail
  refine (H13.out _).mono ?_
  rintro x wx ⟨rfl, rfl⟩
  go_wp2_with fail
  refine (H14.out _).mono ?_
  rintro x wx ⟨rfl, rfl⟩
  go_wp2_with fail
  refine (H15.out _).mono ?_
  rintro x wx ⟨rfl, rfl⟩
  go_wp2_with fail
  refine (H16.out _).mono ?_
  rintro x wx ⟨rfl, rfl⟩
  go_wp2_with fail
  refine (H17.out _).mono ?_
  rintro x wx ⟨rfl, rfl⟩
  go_wp2_with fail
  refine (H18.out _).mono ?_
  rintro x w5 ⟨⟨p, rfl, hp⟩, hk⟩
  have HK5 := Lib.hid (HK4.out.trans hk)
  have HP := Lib.hid hp
  clear hk HK4 hp HB4 HX4 a41 a42 a43 a44 a45 a46 x40 x41
  by_cases h1 : N < 1
  · rw [decide_eq_true h1, Bool.true_or] at HP
    obtain rfl := Option.isNone_iff_eq_none.1 HP.out
    go_wp2
    go_ret
    exact ⟨by simp, HK5.out⟩
  · rw [decide_eq_false h1, Bool.false_or] at HP
    by_cases h2 : 64 < N
    · rw [decide_eq_true h2] at HP
      obtain rfl := Option.isNone_iff_eq_none.1 HP.out
      go_wp2
      go_ret
      exact ⟨by simp, HK5.out⟩
    · rw [decide_eq_false h2] at HP
      cases p with
      | none => have := HP.out; simp at this
      | some a =>
        clear HP
        go_wp2
        go_ret
        exact ⟨by simp; omega, HK5.out⟩
end Go.Proofs.Ytfoeckaeongahaa
