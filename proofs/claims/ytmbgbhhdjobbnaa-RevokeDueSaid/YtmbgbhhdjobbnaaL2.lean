/- A deed on both books, walked. -/
import Derived.Test.YtmbgbhhdjobbnaaL1
namespace Go.Proofs.Ytmbgbhhdjobbnaa
open Go.RowKit Go.Maps

def deedV (k now within e f : Int) : Value := .agg #[.int .i64 k, .int .i64 now, .int .i64 within, .int .u8 e, .int .u8 f]
def ThreeBlk (g m h : Nat) : Nat → Prop := fun b => b = g ∨ b = m ∨ b = h
def DoPost (g m h n : Nat) (w : World) (e : Ending) (w' : World) : Prop := e = .returned (.bool true) ∧ ∃ S', Inv S' (n + 1) ∧ PB w' g m S' ∧ PR w' h S' ∧ Kept (ThreeBlk g m h) w w'

theorem doPost_mk {g m h n : Nat} {S S' : St} {w w0 w1 w2 w3 : World} {e : Ending} (he : e = .returned (.bool true)) (hI : Inv S' (n + 1)) (h0 : Kept NoBlk w w0) (hB1 : PB w1 g m S') (hK1 : Kept (TwoBlk g m) w0 w1) (hR1 : PR w1 h S) (hR2 : PR w2 h S') (hK2 : Kept (OneBlk h) w1 w2) (h3 : Kept NoBlk w2 w3) : DoPost g m h n w e w3 :=
  ⟨he, S', hI, (hB1.afterR hR1 hK2).kept h3, hR2.kept h3, (((h0.weaken (fun _ _ e => e.elim)).trans (hK1.weaken (fun _ _ e => by rcases e with e | e; exact .inl e; exact .inr (.inl e)))).trans (hK2.weaken (fun _ _ e => .inr (.inr e)))).trans (h3.weaken (fun _ _ e => e.elim))⟩

set_option maxHeartbeats 4000000 in
theorem do_ask (w : World) (g m h n : Nat) (S : St) (hI : Inv S n) (hn : n ≤ 1000) (hB : PB w g m S) (hR : PR w h S) (now within e f : Int) (h0 : 0 ≤ e) (h1 : 0 ≤ f) :
   Calls Try.prog 23 #[.pointer (some ⟨g, 0, none⟩), .pointer (some ⟨h, 0, none⟩), deedV 0 now within e f] w (DoPost g m h n w) := by
  obtain ⟨err, S', hI', hEB, hER⟩ := ask_both S n hI hn e f now within h0 h1
  have hlt := hB.lt
  have HEB := Lib.hid hEB
  have HER := Lib.hid hER
  have HB := Lib.hid hB
  have HR := Lib.hid hR
  clear hEB hER hB hR
  unfold deedV
  go_enter Try.func23, Try.ntmps23
  go_wp2
  refine wp_region_plan (by kernel_rfl) (.q 0 <| .q 1 <| .q 2 <| .q 3 <| .q 4 <| .q 5 <| .q 6 <| .q 7 <| .q 8 <| .q 10 <| .q 11 <| .q 12 <| .q 13 <| .q 14 <| .q 15 <| .q 16 <| .q 17 <| .q 18 <| .e 9 [10, 11, 12, 13, 14, 15, 16, 17, 18] <| .e 19 [] <| .q 20 <| .q 21 <| .nil) (by kernel_rfl) (by kernel_rfl) ?_
  repeat (refine plan_q rfl (fun K hK => ?_); go_simp; refine hK _ ?_; clear hK K)
  refine plan_e rfl (fun K hK => ?_)
  go_simp
  have hB0 := HB.out.kept (((Kept.refl NoBlk w).alloc (.cells #[.int .i64 0, .int .i64 now, .int .i64 within, .int .u8 e, .int .u8 f] 43)).drew)
  have hR0 := HR.out.kept (((Kept.refl NoBlk w).alloc (.cells #[.int .i64 0, .int .i64 now, .int .i64 within, .int .u8 e, .int .u8 f] 43)).drew)
  refine (HEB.out _ g m hB0).mono ?_
  rintro e' w1 ⟨rfl, hB1, hK1⟩
  have hR1 := hR0.afterB hB0 hK1
  have hbx := (Blk.kept (Blk.drew (Blk.new w 43 _)) hK1 (fun e => by rcases e with e | e <;> omega)).cell
  refine hK _ _ (by (repeat (refine stab_cons rfl ?_ ?_; focus (go_simp; done))); exact stab_nil) ?_
  clear hK K
  refine plan_e rfl (fun K hK => ?_)
  go_simp
  refine (HER.out _ h hR1).mono ?_
  rintro e' w2 ⟨rfl, hR2, hK2⟩
  refine hK _ _ stab_nil ?_
  clear hK K
  repeat (refine plan_q rfl (fun K hK => ?_); go_simp; refine hK _ ?_; clear hK K)
  refine plan_nil ?_
  go_wp2
  go_ret
  exact doPost_mk (by simp) hI' (by repeat (with_reducible first | exact Kept.refl _ _ | apply Kept.drew | apply Kept.drewN | apply Kept.alloc | exact oneHit | apply Kept.setCell)) hB1 hK1 hR1 hR2 hK2 (Kept.refl _ _)

set_option maxHeartbeats 4000000 in
theorem do_done (w : World) (g m h n : Nat) (S : St) (hI : Inv S n) (_hn : n ≤ 1000) (hB : PB w g m S) (hR : PR w h S) (now within e f : Int) (_h0 : 0 ≤ e) (_h1 : 0 ≤ f) :
   Calls Try.prog 23 #[.pointer (some ⟨g, 0, none⟩), .pointer (some ⟨h, 0, none⟩), deedV 1 now within e f] w (DoPost g m h n w) := by
  obtain ⟨err, S', hI', hEB, hER⟩ := done_both S n hI e f
  have hlt := hB.lt
  have HEB := Lib.hid hEB
  have HER := Lib.hid hER
  have HB := Lib.hid hB
  have HR := Lib.hid hR
  clear hEB hER hB hR
  unfold deedV
  go_enter Try.func23, Try.ntmps23
  go_wp2
  refine wp_region_plan (by kernel_rfl) (.q 0 <| .q 1 <| .q 2 <| .q 3 <| .q 4 <| .q 6 <| .q 7 <| .q 8 <| .q 9 <| .q 10 <| .e 5 [6, 7, 8, 9, 10] <| .e 11 [] <| .q 12 <| .q 13 <| .nil) (by kernel_rfl) (by kernel_rfl) ?_
  repeat (refine plan_q rfl (fun K hK => ?_); go_simp; refine hK _ ?_; clear hK K)
  refine plan_e rfl (fun K hK => ?_)
  go_simp
  have hB0 := HB.out.kept (((Kept.refl NoBlk w).alloc (.cells #[.int .i64 1, .int .i64 now, .int .i64 within, .int .u8 e, .int .u8 f] 43)).drew)
  have hR0 := HR.out.kept (((Kept.refl NoBlk w).alloc (.cells #[.int .i64 1, .int .i64 now, .int .i64 within, .int .u8 e, .int .u8 f] 43)).drew)
  refine (HEB.out _ g m hB0).mono ?_
  rintro e' w1 ⟨rfl, hB1, hK1⟩
  have hR1 := hR0.afterB hB0 hK1
  have hbx := (Blk.kept (Blk.drew (Blk.new w 43 _)) hK1 (fun e => by rcases e with e | e <;> omega)).cell
  refine hK _ _ (by (repeat (refine stab_cons rfl ?_ ?_; focus (go_simp; done))); exact stab_nil) ?_
  clear hK K
  refine plan_e rfl (fun K hK => ?_)
  go_simp
  refine (HER.out _ h hR1).mono ?_
  rintro e' w2 ⟨rfl, hR2, hK2⟩
  refine hK _ _ stab_nil ?_
  clear hK K
  repeat (refine plan_q rfl (fun K hK => ?_); go_simp; refine hK _ ?_; clear hK K)
  refine plan_nil ?_
  go_wp2
  go_ret
  exact doPost_mk (by simp) hI' (by repeat (with_reducible first | exact Kept.refl _ _ | apply Kept.drew | apply Kept.drewN | apply Kept.alloc | exact oneHit | apply Kept.setCell)) hB1 hK1 hR1 hR2 hK2 (Kept.refl _ _)

set_option maxHeartbeats 4000000 in
theorem do_out (w : World) (g m h n : Nat) (S : St) (hI : Inv S n) (_hn : n ≤ 1000) (hB : PB w g m S) (hR : PR w h S) (now within e f : Int) (h0 : 0 ≤ e) (_h1 : 0 ≤ f) :
   Calls Try.prog 23 #[.pointer (some ⟨g, 0, none⟩), .pointer (some ⟨h, 0, none⟩), deedV 4 now within e f] w (DoPost g m h n w) := by
  obtain ⟨err, S', hI', hEB, hER⟩ := out_both S n hI e h0
  have hlt := hB.lt
  have HEB := Lib.hid hEB
  have HER := Lib.hid hER
  have HB := Lib.hid hB
  have HR := Lib.hid hR
  clear hEB hER hB hR
  unfold deedV
  go_enter Try.func23, Try.ntmps23
  go_wp2
  refine wp_region_plan (by kernel_rfl) (.q 0 <| .q 1 <| .q 2 <| .q 4 <| .q 5 <| .q 6 <| .e 3 [4, 5, 6] <| .e 7 [] <| .q 8 <| .q 9 <| .nil) (by kernel_rfl) (by kernel_rfl) ?_
  repeat (refine plan_q rfl (fun K hK => ?_); go_simp; refine hK _ ?_; clear hK K)
  refine plan_e rfl (fun K hK => ?_)
  go_simp
  have hB0 := HB.out.kept (((Kept.refl NoBlk w).alloc (.cells #[.int .i64 4, .int .i64 now, .int .i64 within, .int .u8 e, .int .u8 f] 43)).drew)
  have hR0 := HR.out.kept (((Kept.refl NoBlk w).alloc (.cells #[.int .i64 4, .int .i64 now, .int .i64 within, .int .u8 e, .int .u8 f] 43)).drew)
  refine (HEB.out _ g m hB0).mono ?_
  rintro e' w1 ⟨rfl, hB1, hK1⟩
  have hR1 := hR0.afterB hB0 hK1
  have hbx := (Blk.kept (Blk.drew (Blk.new w 43 _)) hK1 (fun e => by rcases e with e | e <;> omega)).cell
  refine hK _ _ (by (repeat (refine stab_cons rfl ?_ ?_; focus (go_simp; done))); exact stab_nil) ?_
  clear hK K
  refine plan_e rfl (fun K hK => ?_)
  go_simp
  refine (HER.out _ h hR1).mono ?_
  rintro e' w2 ⟨rfl, hR2, hK2⟩
  refine hK _ _ stab_nil ?_
  clear hK K
  repeat (refine plan_q rfl (fun K hK => ?_); go_simp; refine hK _ ?_; clear hK K)
  refine plan_nil ?_
  go_wp2
  go_ret
  exact doPost_mk (by simp) hI' (by repeat (with_reducible first | exact Kept.refl _ _ | apply Kept.drew | apply Kept.drewN | apply Kept.alloc | exact oneHit | apply Kept.setCell)) hB1 hK1 hR1 hR2 hK2 (Kept.refl _ _)

set_option maxHeartbeats 4000000 in
theorem do_due (w : World) (g m h n : Nat) (S : St) (hI : Inv S n) (hn : n ≤ 1000) (hB : PB w g m S) (hR : PR w h S) (now within e f : Int) :
   Calls Try.prog 23 #[.pointer (some ⟨g, 0, none⟩), .pointer (some ⟨h, 0, none⟩), deedV 2 now within e f] w (DoPost g m h n w) := by
  have hEB := fun w g m => due_B S n hI hn now w g m
  have hER := fun w h => due_R S n hI hn now w h
  have hI' : Inv (dueSt S now) (n + 1) := (hI.due now).mono (by omega)
  have hl8 : (S.op.filter (qDue now)).length ≤ 1000000 := Nat.le_trans (List.length_filter_le _ _) (Nat.le_trans hI.len (by omega))
  have hlt := hB.lt
  have HEB := Lib.hid hEB
  have HER := Lib.hid hER
  have HB := Lib.hid hB
  have HR := Lib.hid hR
  clear hEB hER hB hR
  unfold deedV
  go_enter Try.func23, Try.ntmps23
  go_wp2
  refine wp_region_plan (by kernel_rfl) (.q 0 <| .q 1 <| .q 2 <| .q 4 <| .q 5 <| .q 6 <| .e 3 [4, 5, 6] <| .e 7 [] <| .e 8 [] <| .q 9 <| .nil) (by kernel_rfl) (by kernel_rfl) ?_
  repeat (refine plan_q rfl (fun K hK => ?_); go_simp; refine hK _ ?_; clear hK K)
  refine plan_e rfl (fun K hK => ?_)
  go_simp
  have hB0 := HB.out.kept (((Kept.refl NoBlk w).alloc (.cells #[.int .i64 2, .int .i64 now, .int .i64 within, .int .u8 e, .int .u8 f] 43)).drew)
  have hR0 := HR.out.kept (((Kept.refl NoBlk w).alloc (.cells #[.int .i64 2, .int .i64 now, .int .i64 within, .int .u8 e, .int .u8 f] 43)).drew)
  refine (HEB.out _ g m hB0).mono ?_
  rintro e' w1 ⟨A, c, rfl, hr1, hB1, hK1⟩
  have hR1 := hR0.afterB hB0 hK1
  have hbx := (Blk.kept (Blk.drew (Blk.new w 43 _)) hK1 (fun e => by rcases e with e | e <;> omega)).cell
  refine hK _ _ (by (repeat (refine stab_cons rfl ?_ ?_; focus (go_simp; done))); exact stab_nil) ?_
  clear hK K
  refine plan_e rfl (fun K hK => ?_)
  go_simp
  refine (HER.out _ h hR1).mono ?_
  rintro e' w2 ⟨A', c', rfl, hr2, hR2, hK2⟩
  refine hK _ _ stab_nil ?_
  clear hK K
  have hr1' : Row w2 37 3 (.slice A (S.op.filter (qDue now)).length c) (S.op.filter (qDue now)).length (asks (S.op.filter (qDue now))) := by
    obtain ⟨v, r, hRx⟩ := hR1
    exact hr1.kept hK2 (fun b cs hb e => hb.ne_ hRx.blk (by decide) e)
  have hS := Lib.hid (rsame_any w2 (S.op.filter (qDue now)) A A' _ c c' rfl hr1' hr2 hl8)
  refine plan_e rfl (fun K hK => ?_)
  go_simp
  refine (hS.out).mono ?_
  rintro e' w3 ⟨rfl, hK3⟩
  refine hK _ _ stab_nil ?_
  clear hK K
  repeat (refine plan_q rfl (fun K hK => ?_); go_simp; refine hK _ ?_; clear hK K)
  refine plan_nil ?_
  go_wp2
  go_ret
  exact doPost_mk (by simp) hI' (by repeat (with_reducible first | exact Kept.refl _ _ | apply Kept.drew | apply Kept.drewN | apply Kept.alloc | exact oneHit | apply Kept.setCell)) hB1 hK1 hR1 hR2 hK2 hK3

set_option maxHeartbeats 4000000 in
theorem do_next (w : World) (g m h n : Nat) (S : St) (hI : Inv S n) (hn : n ≤ 1000) (hB : PB w g m S) (hR : PR w h S) (now within e f : Int) (h0 : 0 ≤ e) :
   Calls Try.prog 23 #[.pointer (some ⟨g, 0, none⟩), .pointer (some ⟨h, 0, none⟩), deedV 3 now within e f] w (DoPost g m h n w) := by
  obtain ⟨x, b, S', hI', hEB, hER⟩ := next_both S n hI hn e h0
  have hlt := hB.lt
  have HEB := Lib.hid hEB
  have HER := Lib.hid hER
  have HB := Lib.hid hB
  have HR := Lib.hid hR
  clear hEB hER hB hR
  unfold deedV
  go_enter Try.func23, Try.ntmps23
  go_wp2_with fail
  have hB0 := HB.out.kept (((Kept.refl NoBlk w).alloc (.cells #[.int .i64 3, .int .i64 now, .int .i64 within, .int .u8 e, .int .u8 f] 43)))
  have hR0 := HR.out.kept (((Kept.refl NoBlk w).alloc (.cells #[.int .i64 3, .int .i64 now, .int .i64 within, .int .u8 e, .int .u8 f] 43)))
  refine (HEB.out _ g m hB0).mono ?_
  rintro e' w1 ⟨rfl, hB1, hK1⟩
  have hR1 := hR0.afterB hB0 hK1
  have hbx := (Blk.kept (Blk.new w 43 _) hK1 (fun e => by rcases e with e | e <;> omega)).cell
  go_wp2_with fail
  refine (HER.out _ h hR1).mono ?_
  rintro e' w2 ⟨rfl, hR2, hK2⟩
  go_wp2
  go_ret
  exact doPost_mk (by simp) hI' (by repeat (with_reducible first | exact Kept.refl _ _ | apply Kept.drew | apply Kept.drewN | apply Kept.alloc | exact oneHit | apply Kept.setCell)) hB1 hK1 hR1 hR2 hK2 (Kept.refl _ _)

set_option maxHeartbeats 1000000 in
theorem do_else (w : World) (g m h n : Nat) (S : St) (hI : Inv S n) (hB : PB w g m S) (hR : PR w h S) (k now within e f : Int) (hk0 : ¬ k = 0) (hk1 : ¬ k = 1) (hk2 : ¬ k = 2) (hk3 : ¬ k = 3) (hk4 : ¬ k = 4) :
   Calls Try.prog 23 #[.pointer (some ⟨g, 0, none⟩), .pointer (some ⟨h, 0, none⟩), deedV k now within e f] w (DoPost g m h n w) := by
  unfold deedV
  have HB := Lib.hid hB
  have HR := Lib.hid hR
  have HI := Lib.hid hI
  clear hB hR hI
  go_enter Try.func23, Try.ntmps23
  go_wp2
  go_ret
  exact ⟨rfl, S, HI.out.mono (by omega), HB.out.kept (by repeat (with_reducible first | exact Kept.refl _ _ | apply Kept.drew | apply Kept.drewN | apply Kept.alloc | exact oneHit | apply Kept.setCell)), HR.out.kept (by repeat (with_reducible first | exact Kept.refl _ _ | apply Kept.drew | apply Kept.drewN | apply Kept.alloc | exact oneHit | apply Kept.setCell)), by repeat (with_reducible first | exact Kept.refl _ _ | apply Kept.drew | apply Kept.drewN | apply Kept.alloc | exact oneHit | apply Kept.setCell)⟩

theorem do_any (w : World) (g m h n : Nat) (S : St) (hI : Inv S n) (hn : n ≤ 1000) (hB : PB w g m S) (hR : PR w h S) (k now within e f : Int) (h0 : 0 ≤ e) (h1 : 0 ≤ f) :
   Calls Try.prog 23 #[.pointer (some ⟨g, 0, none⟩), .pointer (some ⟨h, 0, none⟩), deedV k now within e f] w (DoPost g m h n w) := by
  by_cases hk0 : k = 0
  · subst hk0; exact do_ask w g m h n S hI hn hB hR now within e f h0 h1
  by_cases hk1 : k = 1
  · subst hk1; exact do_done w g m h n S hI hn hB hR now within e f h0 h1
  by_cases hk2 : k = 2
  · subst hk2; exact do_due w g m h n S hI hn hB hR now within e f
  by_cases hk3 : k = 3
  · subst hk3; exact do_next w g m h n S hI hn hB hR now within e f h0
  by_cases hk4 : k = 4
  · subst hk4; exact do_out w g m h n S hI hn hB hR now within e f h0 h1
  exact do_else w g m h n S hI hB hR k now within e f hk0 hk1 hk2 hk3 hk4
end Go.Proofs.Ytmbgbhhdjobbnaa
