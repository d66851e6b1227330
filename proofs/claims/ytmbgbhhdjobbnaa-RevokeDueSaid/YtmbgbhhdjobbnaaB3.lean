/- The program's revoke: Fork and Ask. -/
import Derived.Test.YtmbgbhhdjobbnaaB2
namespace Go.Proofs.Ytmbgbhhdjobbnaa
open Go.RowKit Go.Maps

set_option maxHeartbeats 2000000 in
theorem fork_any (w : World) (g m : Nat) (S : St) (v : Value) (r : Nat → Value) (h : IsB w g m S v r) (hn : S.op.length ≤ 1000000) :
   Calls Try.prog 21 #[.pointer (some ⟨g, 0, none⟩)] w fun x w' => ∃ g' m' v', x = .returned (.pointer (some ⟨g', 0, none⟩)) ∧ w.heap.size ≤ g' ∧ g' < w'.heap.size ∧ w.heap.size ≤ m' ∧ IsB w' g' m' S v' r ∧ Kept NoBlk w w' := by
  obtain ⟨A, cap, hv, _, _, _, _, _⟩ := h.row.form
  have hr := h.row
  rw [hv] at hr
  have hC := Lib.hid (fun w1 (hK : Kept NoBlk w w1) => (clone33 w1 A _ cap _ (hr.kept hK (fun _ _ _ e => e)) (asks_one _) hn).mono (fun (e : Ending) w' ⟨A', c', h1, h2, h3⟩ => (⟨A', c', h1, h2, hK.trans h3⟩ : ∃ A' cap', e = Ending.returned (.slice A' S.op.length cap') ∧ Row w' 37 3 (.slice A' S.op.length cap') S.op.length (asks S.op) ∧ Kept NoBlk w w')))
  have hc := h.blk.cell
  have hlt := h.blk.lt
  rw [hv] at hc
  simp only [arrB] at hc
  have H := Lib.hid h
  clear hr h hn
  go_enter Try.func21, Try.ntmps21
  go_wp2
  refine wp_region_plan (by kernel_rfl) (.q 0 <| .q 1 <| .q 2 <| .q 3 <| .q 5 <| .q 6 <| .q 7 <| .q 8 <| .q 10 <| .q 11 <| .q 12 <| .q 13 <| .e 4 [5, 6, 7, 8, 10, 11, 12, 13] <| .e 9 [10, 11, 12, 13] <| .q 14 <| .e 15 [] <| .q 16 <| .nil) (by kernel_rfl) (by kernel_rfl) ?_
  repeat (refine plan_q rfl (fun K hK => ?_); go_simp; refine hK _ ?_; clear hK K)
  refine plan_e rfl (fun K hK => ?_)
  go_simp
  refine (hC.out _ (by repeat (with_reducible first | exact Kept.refl _ _ | apply Kept.drew | apply Kept.drewN | apply Kept.alloc | exact oneHit | apply Kept.setCell))).mono ?_
  rintro e w1 ⟨A', c', rfl, hr1, hK1⟩
  have H1 := Lib.hid (H.out.kept hK1)
  have hc1 := H1.out.blk.cell
  have hlt1 := H1.out.blk.lt
  rw [hv] at hc1
  simp only [arrB] at hc1
  refine hK _ _ (by (repeat (refine stab_cons rfl ?_ ?_; focus (go_simp; done))); exact stab_nil) ?_
  clear hK K
  repeat (refine plan_q rfl (fun K hK => ?_); go_simp; refine hK _ ?_; clear hK K)
  refine plan_e rfl (fun K hK => ?_)
  go_simp
  refine (mapclone w1 m S.cnt _ H1.out.map).mono ?_
  rintro e w2 ⟨rfl, hm2, hM2, hK2⟩
  have H2 := Lib.hid (H1.out.kept hK2)
  have hc2 := H2.out.blk.cell
  have hlt2 := H2.out.blk.lt
  rw [hv] at hc2
  simp only [arrB] at hc2
  have hM2 := Lib.hid hM2
  have hr2 := Lib.hid (hr1.kept hK2 (fun _ _ _ e => e))
  have hk2 := Lib.hid (hK1.trans hK2)
  have hw1 := hK1.size
  clear hr1 hK1 hK2
  refine hK _ _ (by (repeat (refine stab_cons rfl ?_ ?_; focus (go_simp; done))); exact stab_nil) ?_
  clear hK K
  repeat (refine plan_q rfl (fun K hK => ?_); go_simp; refine hK _ ?_; clear hK K)
  refine plan_e rfl (fun K hK => ?_)
  go_simp
  refine hK _ _ stab_nil ?_
  clear hK K
  repeat (refine plan_q rfl (fun K hK => ?_); go_simp; refine hK _ ?_; clear hK K)
  refine plan_nil ?_
  go_wp2
  go_ret
  refine ⟨_, _, _, rfl, by have := hk2.out.size; simp; omega, by simp, hw1, ⟨Blk.cast (Blk.new_at _ _ _ rfl) rfl, hr2.out.kept (G := NoBlk) (by repeat (with_reducible first | exact Kept.refl _ _ | apply Kept.drew | apply Kept.drewN | apply Kept.alloc | exact oneHit | apply Kept.setCell)) (fun _ _ _ e => e), fun i hi => (H2.out.lost i hi).kept (G := NoBlk) (by repeat (with_reducible first | exact Kept.refl _ _ | apply Kept.drew | apply Kept.drewN | apply Kept.alloc | exact oneHit | apply Kept.setCell)) (fun _ _ _ e => e), hM2.out.kept (G := NoBlk) (by repeat (with_reducible first | exact Kept.refl _ _ | apply Kept.drew | apply Kept.drewN | apply Kept.alloc | exact oneHit | apply Kept.setCell)) (fun e => e)⟩, hk2.out.trans (by repeat (with_reducible first | exact Kept.refl _ _ | apply Kept.drew | apply Kept.drewN | apply Kept.alloc | exact oneHit | apply Kept.setCell))⟩

theorem ask_nil (w : World) (e f now within : Int) :
   Calls Try.prog 18 #[.pointer none, .int .u8 e, .int .u8 f, .int .i64 now, .int .i64 within] w fun x w' => x = .returned (.int .i64 1) ∧ w = w' := by
  go_enter Try.func18, Try.ntmps18
  go_wp2
  go_ret
  exact ⟨rfl, rfl⟩

def askOk (e f now within : Int) : Prop := (0 ≤ e ∧ e < 6) ∧ (0 ≤ f ∧ f < 64) ∧ (0 ≤ now ∧ now ≤ 1073741824) ∧ 0 ≤ within ∧ within ≤ 1000

set_option maxHeartbeats 1000000 in
theorem ask_range (w : World) (p : Option Addr) (e f now within : Int) (hp : p.isSome = true) (h0 : 0 ≤ e) (h1 : 0 ≤ f) (hno : ¬ askOk e f now within) :
   Calls Try.prog 18 #[.pointer p, .int .u8 e, .int .u8 f, .int .i64 now, .int .i64 within] w fun x w' => x = .returned (.int .i64 2) ∧ w = w' := by
  obtain ⟨a, rfl⟩ := Option.isSome_iff_exists.1 hp
  have hcase : 6 ≤ e ∨ (e < 6 ∧ 64 ≤ f) ∨ (e < 6 ∧ f < 64 ∧ now < 0) ∨ (e < 6 ∧ f < 64 ∧ 0 ≤ now ∧ 1073741824 < now) ∨ (e < 6 ∧ f < 64 ∧ 0 ≤ now ∧ now ≤ 1073741824 ∧ within < 0) ∨ (e < 6 ∧ f < 64 ∧ 0 ≤ now ∧ now ≤ 1073741824 ∧ 0 ≤ within ∧ 1000 < within) := by
    unfold askOk at hno
    omega
  clear hp hno
  rcases hcase with h | ⟨h2, h⟩ | ⟨h2, h3, h⟩ | ⟨h2, h3, h4, h⟩ | ⟨h2, h3, h4, h5, h⟩ | ⟨h2, h3, h4, h5, h6, h⟩
  all_goals
    go_enter Try.func18, Try.ntmps18
    go_wp2
    go_ret
    exact ⟨rfl, rfl⟩

set_option maxHeartbeats 2000000 in
theorem ask_exist (w : World) (g m : Nat) (S : St) (v : Value) (r : Nat → Value) (h : IsB w g m S v r) (e f now within : Int) (ha : askOk e f now within) (hex : (lookOp S.op (e, f)).isSome = true) :
   Calls Try.prog 18 #[.pointer (some ⟨g, 0, none⟩), .int .u8 e, .int .u8 f, .int .i64 now, .int .i64 within] w fun x w' => x = .returned (.int .i64 6) ∧ Kept NoBlk w w' := by
  have hc := h.blk.cell
  have hlt := h.blk.lt
  obtain ⟨A, cap, hv, _, _, _, _, _⟩ := h.row.form
  rw [hv] at hc
  simp only [arrB] at hc
  have hL := fun w1 (hK : Kept NoBlk w w1) => (h.map.kept hK (fun e => e)).look mapTy (a := (e, f)) (by unfold askOk at ha; unfold okK; simp only; omega)
  unfold keyK at hL
  rw [hex] at hL
  have HL := Lib.hid hL
  have hkey := Lib.hid (fun w1 u => keyOf_any w1 e f u)
  have H := Lib.hid h
  obtain ⟨⟨a1, a2⟩, ⟨a3, a4⟩, ⟨a5, a6⟩, a7, a8⟩ := ha
  clear h hL hv hex
  go_enter Try.func18, Try.ntmps18
  go_wp2
  refine wp_region_plan (by kernel_rfl) (.q 0 <| .q 1 <| .q 2 <| .q 3 <| .q 4 <| .e 5 [0, 1, 2, 3] <| .e 6 [] <| .q 7 <| .q 8 <| .q 9 <| .q 10 <| .q 11 <| .nil) (by kernel_rfl) (by kernel_rfl) ?_
  repeat (refine plan_q rfl (fun K hK => ?_); go_simp; refine hK _ ?_; clear hK K)
  refine plan_e rfl (fun K hK => ?_)
  go_simp
  refine (hkey.out _ _).mono ?_
  rintro e' w1 ⟨rfl, hK1⟩
  have hk1 : Kept NoBlk w w1 := Kept.trans (by repeat (with_reducible first | exact Kept.refl _ _ | apply Kept.drew | apply Kept.drewN | apply Kept.alloc | exact oneHit | apply Kept.setCell)) hK1
  have hbx := (Blk.kept (Blk.drew (Blk.new w 37 _)) hK1 (fun e => e)).cell
  have H1 := H.out.kept hk1
  have hc1 := H1.blk.cell
  have hlt1 := H1.blk.lt
  obtain ⟨A1, cap1, hv1, _, _, _, _, _⟩ := H1.row.form
  rw [hv1] at hc1
  simp only [arrB] at hc1
  have hL1 := HL.out w1 hk1
  clear H1
  refine hK _ _ (by (repeat (refine stab_cons rfl ?_ ?_; focus (go_simp; done))); exact stab_nil) ?_
  clear hK K
  unfold keyK
  refine plan_e rfl (fun K hK => ?_)
  go_simp
  refine hK _ _ stab_nil ?_
  clear hK K
  repeat (refine plan_q rfl (fun K hK => ?_); go_simp; refine hK _ ?_; clear hK K)
  refine plan_nil ?_
  go_wp2
  go_ret
  exact ⟨rfl, hk1⟩
set_option maxHeartbeats 2000000 in
theorem ask_space (w : World) (g m : Nat) (S : St) (v : Value) (r : Nat → Value) (h : IsB w g m S v r) (e f now within : Int) (ha : askOk e f now within) (hex : (lookOp S.op (e, f)).isSome = false) (hlen : S.op.length = 8) :
   Calls Try.prog 18 #[.pointer (some ⟨g, 0, none⟩), .int .u8 e, .int .u8 f, .int .i64 now, .int .i64 within] w fun x w' => x = .returned (.int .i64 4) ∧ Kept NoBlk w w' := by
  have hc := h.blk.cell
  have hlt := h.blk.lt
  obtain ⟨A, cap, hv, _, _, _, _, _⟩ := h.row.form
  rw [hv] at hc
  simp only [arrB] at hc
  have hL := fun w1 (hK : Kept NoBlk w w1) => (h.map.kept hK (fun e => e)).look mapTy (a := (e, f)) (by unfold askOk at ha; unfold okK; simp only; omega)
  unfold keyK at hL
  rw [hex] at hL
  have HL := Lib.hid hL
  have hkey := Lib.hid (fun w1 u => keyOf_any w1 e f u)
  have H := Lib.hid h
  obtain ⟨⟨a1, a2⟩, ⟨a3, a4⟩, ⟨a5, a6⟩, a7, a8⟩ := ha
  clear h hL hv hex
  go_enter Try.func18, Try.ntmps18
  go_wp2
  refine wp_region_plan (by kernel_rfl) (.q 0 <| .q 1 <| .q 2 <| .q 3 <| .q 4 <| .e 5 [0, 1, 2, 3] <| .e 6 [] <| .q 7 <| .q 8 <| .q 9 <| .q 10 <| .q 11 <| .nil) (by kernel_rfl) (by kernel_rfl) ?_
  repeat (refine plan_q rfl (fun K hK => ?_); go_simp; refine hK _ ?_; clear hK K)
  refine plan_e rfl (fun K hK => ?_)
  go_simp
  refine (hkey.out _ _).mono ?_
  rintro e' w1 ⟨rfl, hK1⟩
  have hk1 : Kept NoBlk w w1 := Kept.trans (by repeat (with_reducible first | exact Kept.refl _ _ | apply Kept.drew | apply Kept.drewN | apply Kept.alloc | exact oneHit | apply Kept.setCell)) hK1
  have hbx := (Blk.kept (Blk.drew (Blk.new w 37 _)) hK1 (fun e => e)).cell
  have H1 := H.out.kept hk1
  have hc1 := H1.blk.cell
  have hlt1 := H1.blk.lt
  obtain ⟨A1, cap1, hv1, _, _, _, _, _⟩ := H1.row.form
  rw [hv1] at hc1
  simp only [arrB] at hc1
  have hL1 := HL.out w1 hk1
  clear H1
  have hl8 : (S.op.length : Int) = 8 := by omega
  refine hK _ _ (by (repeat (refine stab_cons rfl ?_ ?_; focus (go_simp; done))); exact stab_nil) ?_
  clear hK K
  unfold keyK
  refine plan_e rfl (fun K hK => ?_)
  go_simp
  refine hK _ _ stab_nil ?_
  clear hK K
  repeat (refine plan_q rfl (fun K hK => ?_); go_simp; refine hK _ ?_; clear hK K)
  refine plan_nil ?_
  go_wp2
  go_ret
  exact ⟨rfl, hk1⟩
end Go.Proofs.Ytmbgbhhdjobbnaa
