/- The laws of area: RETURN takes UPCALL back. -/
import Derived.Test.YtbggdimkfkdhmaaM1
namespace Go.Proofs.Ytbggdimkfkdhmaa
open Go.RowKit

/-- What Where and Upcall answer, in the four cases that the law tells apart. -/
inductive UpCase (g : Nat) (S : St) (k x : Int) : Prop
  | noent (hw : ∀ w, IsA w g S → Calls Try.prog 19 #[.pointer (some ⟨g, 0, none⟩), .int .u8 k] w fun e w' => ∃ t, e = .returned (.tuple #[.int .u16 t, .bool false]) ∧ Kept NoBlk w w')
      (hu : ∀ w, IsA w g S → Calls Try.prog 15 #[.pointer (some ⟨g, 0, none⟩), .int .u8 k, .int .u16 x] w fun e w' => ∃ err : Int, (err == 0) = false ∧ e = .returned (.int .i64 err) ∧ Kept NoBlk w w')
  | dead (hd : S.dead = true) (hw : ∀ w, IsA w g S → Calls Try.prog 19 #[.pointer (some ⟨g, 0, none⟩), .int .u8 k] w fun e w' => ∃ t, e = .returned (.tuple #[.int .u16 t, .bool true]) ∧ Kept NoBlk w w')
      (hu : ∀ w, IsA w g S → Calls Try.prog 15 #[.pointer (some ⟨g, 0, none⟩), .int .u8 k, .int .u16 x] w fun e w' => ∃ err : Int, (err == 0) = false ∧ e = .returned (.int .i64 err) ∧ Kept NoBlk w w')
  | full (hd : S.dead = false) (hl : S.kept.length = 4) (hw : ∀ w, IsA w g S → Calls Try.prog 19 #[.pointer (some ⟨g, 0, none⟩), .int .u8 k] w fun e w' => ∃ t, e = .returned (.tuple #[.int .u16 t, .bool true]) ∧ Kept NoBlk w w')
      (hu : ∀ w, IsA w g S → Calls Try.prog 15 #[.pointer (some ⟨g, 0, none⟩), .int .u8 k, .int .u16 x] w fun e w' => ∃ err : Int, (err == 0) = false ∧ e = .returned (.int .i64 err) ∧ Kept NoBlk w w')
  | ok (hd : S.dead = false) (hl : S.kept.length < 4) (h1 : k < 5) (hw : ∀ w, IsA w g S → Calls Try.prog 19 #[.pointer (some ⟨g, 0, none⟩), .int .u8 k] w fun e w' => e = .returned (.tuple #[.int .u16 (S.to k.toNat), .bool true]) ∧ Kept NoBlk w w')
      (hu : ∀ w, IsA w g S → Calls Try.prog 15 #[.pointer (some ⟨g, 0, none⟩), .int .u8 k, .int .u16 x] w fun e w' => e = .returned (.int .i64 0) ∧ IsA w' g (upcallSt S k.toNat x) ∧ Kept (OneBlk g) w w')

theorem upCase (g : Nat) (S : St) (hI : Inv S) (k x : Int) (h0 : 0 ≤ k) (hlen : S.kept.length ≤ 4) : UpCase g S k x := by
  by_cases h1 : k < 5
  · have hw : ∀ w, IsA w g S → Calls Try.prog 19 #[.pointer (some ⟨g, 0, none⟩), .int .u8 k] w fun e w' => e = .returned (.tuple #[.int .u16 (S.to k.toNat), .bool (S.has k.toNat)]) ∧ Kept NoBlk w w' :=
      fun w hA => (where_ok w g S hA k h0 h1).mono fun e w' ⟨he, n, hn⟩ => ⟨he, hn ▸ (Kept.refl _ _).drewN n⟩
    cases hh : S.has k.toNat with
    | false =>
      rw [hh] at hw
      refine .noent (fun w hA => (hw w hA).mono fun e w' ⟨he, hK⟩ => ⟨_, he, hK⟩) fun w hA => ?_
      cases hd : S.dead with
      | true => exact (upcall_dead w g S hA hd k x h0 h1).mono fun e w' ⟨he, hK⟩ => ⟨9, rfl, he, hK⟩
      | false => exact (upcall_noent w g S hA hd k x h0 h1 hh (hI.1 _ (by omega) hh)).mono fun e w' ⟨he, hK⟩ => ⟨5, rfl, he, hK⟩
    | true =>
      rw [hh] at hw
      cases hd : S.dead with
      | true => exact .dead hd (fun w hA => (hw w hA).mono fun e w' ⟨he, hK⟩ => ⟨_, he, hK⟩) fun w hA => (upcall_dead w g S hA hd k x h0 h1).mono fun e w' ⟨he, hK⟩ => ⟨9, rfl, he, hK⟩
      | false =>
        by_cases hl : S.kept.length < 4
        · exact .ok hd hl h1 hw fun w hA => upcall_ok w g S hA hd k x h0 h1 hh hl
        · exact .full hd (by omega) (fun w hA => (hw w hA).mono fun e w' ⟨he, hK⟩ => ⟨_, he, hK⟩) fun w hA => (upcall_space w g S hA hd k x h0 h1 hh (by omega)).mono fun e w' ⟨he, hK⟩ => ⟨4, rfl, he, hK⟩
  · exact .noent (fun w _ => (where_range w _ k rfl (by omega)).mono fun e w' ⟨he, hw⟩ => ⟨_, he, hw ▸ Kept.refl _ _⟩) fun w _ => (upcall_range w _ k x rfl (by omega)).mono fun e w' ⟨he, hK⟩ => ⟨2, rfl, he, hK⟩

theorem IsA.len {w : World} {g : Nat} {S : St} (h : IsA w g S) : S.kept.length ≤ 4 := by obtain ⟨_, _, _, h⟩ := h; exact h

theorem regs_lit (w : World) (g : Nat) (S : St) (h : IsA w g S) :
   Calls Try.prog 18 #[.pointer (some ⟨g, 0, none⟩)] w fun e w' => e = .returned (.agg #[.int .u16 (S.rg 0), .int .u16 (S.rg 1), .int .u16 (S.rg 2), .int .u16 (S.rg 3), .int .u16 (S.rg 4), .int .u16 (S.rg 5), .int .u16 (S.rg 6), .int .u16 (S.rg 7), .int .u16 (S.rg 8)]) ∧ Kept NoBlk w w' := regs_any w g S h

theorem regs_up (w : World) (g : Nat) (S : St) (k x : Int) (h0 : 0 ≤ k) (h : IsA w g (upcallSt S k.toNat x)) :
   Calls Try.prog 18 #[.pointer (some ⟨g, 0, none⟩)] w fun e w' => e = .returned (.agg #[.int .u16 (S.to k.toNat), .int .u16 (S.rg 1), .int .u16 x, .int .u16 k, .int .u16 (S.rg 4), .int .u16 (S.rg 5), .int .u16 (S.rg 6), .int .u16 (S.rg 7), .int .u16 (S.rg 8)]) ∧ Kept NoBlk w w' :=
  (regs_any w g _ h).mono fun e w' ⟨he, hK⟩ => ⟨by rw [he]; simp [regV, upcallSt, upd, Int.toNat_of_nonneg h0], hK⟩
theorem depth_up (w : World) (g : Nat) (S : St) (k : Nat) (x : Int) (h : IsA w g (upcallSt S k x)) :
   Calls Try.prog 11 #[.pointer (some ⟨g, 0, none⟩)] w fun e w' => e = .returned (.int .i64 ((S.kept.length : Int) + 1)) ∧ w = w' :=
  (depth_any w g _ h).mono fun e w' ⟨he, hw⟩ => ⟨by rw [he]; simp [upcallSt], hw⟩

theorem set_lit (w : World) (g : Nat) (S : St) (h : IsA w g S) (hd : S.dead = false) (q : Nat → Int) :
   Calls Try.prog 16 #[.pointer (some ⟨g, 0, none⟩), .agg #[.int .u16 (q 0), .int .u16 (q 1), .int .u16 (q 2), .int .u16 (q 3), .int .u16 (q 4), .int .u16 (q 5), .int .u16 (q 6), .int .u16 (q 7), .int .u16 (q 8)]] w fun e w' => e = .returned (.int .i64 0) ∧ IsA w' g { S with rg := q } ∧ Kept (OneBlk g) w w' := set_ok w g S h hd q

set_option maxHeartbeats 8000000 in
theorem returns_any (w : World) (A : Option Addr) (n cap : Nat) (hD : IsDeeds w A n) (dn dk dx : Int) (dq : Nat → Int) (h0 : 0 ≤ dk) (s : Nat → Int) :
   Calls Try.prog 5 #[.slice A n cap, deedV dn dk dx dq, regV s] w (TrueKept w) := by
  have hP := fun o1 o2 => play0 ((w.alloc o1).alloc o2) A n cap (hD.kept (((Kept.refl _ _).alloc o1).alloc o2)) 0
  have HP := Lib.hid hP
  have hq := run_eql_regs
  clear hD hP
  unfold deedV regV
  go_enter Try.func5, Try.ntmps5
  go_wp2_with fail
  refine (HP.out _ _).mono ?_
  rintro e w1 ⟨g, h, rfl, hg, hh, S, hI, hA, hR, hK⟩
  have hbd := (Blk.kept (((Blk.new w 39 _)).alloc _) hK (fun e => e))
  have hbs := (Blk.kept (((Blk.new _ 31 _))) hK (fun e => e))
  have hk0 : Kept NoBlk w w1 := Kept.trans (((Kept.refl _ _).alloc _).alloc _) hK
  have hgw : w.heap.size + 2 ≤ g := by simp at hg; omega
  have hbs' : Blk w1 (w.heap.size + 1) 31 #[.int .u16 (s 0), .int .u16 (s 1), .int .u16 (s 2), .int .u16 (s 3), .int .u16 (s 4), .int .u16 (s 5), .int .u16 (s 6), .int .u16 (s 7), .int .u16 (s 8)] := by simpa using hbs
  go_wp2_with fail
  refine (live_any w1).mono ?_
  rintro e w2 ⟨rfl, hK2⟩
  go_wp2_with fail
  refine (regs_lit w2 g S (hA.ofKept hK2)).mono ?_
  rintro e w3 ⟨rfl, hK3⟩
  go_wp2_with fail
  refine (depth_any w3 g S (hA.ofKept (hK2.trans hK3))).mono ?_
  rintro e w4 ⟨rfl, rfl⟩
  have hk3 := hK2.trans hK3
  have HBD := Lib.hid (hbd.kept hk3 (fun e => e))
  have HBS := Lib.hid (hbs'.kept hk3 (fun e => e))
  have HK := Lib.hid (hk0.trans hk3)
  have HA := Lib.hid (hA.ofKept hk3)
  have hU := upCase g S hI dk dx h0 hA.len
  clear hbd hbs hbs' hK hk0 hK2 hK3 hA hR hk3 hg hh hI
  have hcd := HBD.out.cell
  have hld := HBD.out.lt
  rcases hU with ⟨hw, hu⟩ | ⟨hd, hw, hu⟩ | ⟨hd, hl, hw, hu⟩ | ⟨hd, hl, h1, hw, hu⟩
  · have HW := Lib.hid hw
    have HU := Lib.hid hu
    clear hw hu
    go_wp2_with fail
    refine (HW.out _ (HA.out.ofKept ((Kept.refl _ _).alloc _))).mono ?_
    rintro e w5 ⟨t5, rfl, hK5⟩
    have hk5 := Kept.trans ((Kept.refl NoBlk w3).alloc _) hK5
    have hc5 := (HBD.out.kept hk5 (fun e => e)).cell
    go_wp2_with fail
    refine (HU.out _ (HA.out.ofKept hk5)).mono ?_
    rintro e w6 ⟨err, herr, rfl, hK6⟩
    have hc6 := (Blk.kept (Blk.new w3 31 _) (hK5.trans hK6) (fun e => e)).cell
    have hc7 := fun w7 (hK7 : Kept NoBlk w6 w7) => (Blk.kept (Blk.new w3 31 _) ((hK5.trans hK6).trans hK7) (fun e => e)).cell
    have hA6 := HA.out.ofKept (hk5.trans hK6)
    have HC7 := Lib.hid hc7
    have HK6 := Lib.hid (HK.out.trans (hk5.trans hK6))
    clear hc5 hK5 hk5 hK6 HA HBD HBS HW HU hcd hld hc7
    go_wp2
    refine wp_region_plan (by kernel_rfl) (.q 0 <| .q 2 <| .e 1 [2] <| .q 3 <| .q 4 <| .q 5 <| .q 6 <| .q 7 <| .q 8 <| .q 9 <| .q 10 <| .q 11 <| .q 12 <| .q 13 <| .q 14 <| .q 15 <| .q 16 <| .q 17 <| .q 18 <| .q 19 <| .q 20 <| .q 21 <| .q 22 <| .q 23 <| .nil) (by kernel_rfl) (by kernel_rfl) ?_
    repeat (refine plan_q rfl (fun K hK => ?_); go_simp; refine hK _ ?_; clear hK K)
    refine plan_e rfl (fun K hK => ?_)
    go_simp
    refine (regs_lit _ g S (hA6.ofKept (Kept.refl _ _).drew)).mono ?_
    rintro e w7 ⟨rfl, hK7⟩
    have hk7 := (Kept.refl NoBlk w6).drew.trans hK7
    have hc8 := HC7.out w7 hk7
    have hA7 := hA6.ofKept hk7
    have HK7 := Lib.hid (HK6.out.trans hk7)
    clear hK7 hk7 HC7 HK6
    refine hK _ _ (by (repeat (refine stab_cons rfl ?_ ?_; focus (go_simp; done))); exact stab_nil) ?_
    clear hK K
    repeat (refine plan_q rfl (fun K hK => ?_); go_simp; refine hK _ ?_; clear hK K)
    refine plan_q rfl (fun K hK => ?_)
    go_simp
    refine ⟨_, (depth_any w7 g S hA7).mono (fun _ _ h => ⟨h.1, h.2.symm⟩), hK _ ?_⟩
    clear hK K
    repeat (refine plan_q rfl (fun K hK => ?_); go_simp; refine hK _ ?_; clear hK K)
    refine plan_nil ?_
    go_wp2
    go_ret
    exact trueKept_mk HK7.out
  · have HW := Lib.hid hw
    have HU := Lib.hid hu
    clear hw hu
    go_wp2_with fail
    refine (HW.out _ (HA.out.ofKept ((Kept.refl _ _).alloc _))).mono ?_
    rintro e w5 ⟨t5, rfl, hK5⟩
    have hk5 := Kept.trans ((Kept.refl NoBlk w3).alloc _) hK5
    have hc5 := (HBD.out.kept hk5 (fun e => e)).cell
    go_wp2_with fail
    refine (HU.out _ (HA.out.ofKept hk5)).mono ?_
    rintro e w6 ⟨err, herr, rfl, hK6⟩
    have hc6 := (Blk.kept (Blk.new w3 31 _) (hK5.trans hK6) (fun e => e)).cell
    have hc7 := fun w7 (hK7 : Kept NoBlk w6 w7) => (Blk.kept (Blk.new w3 31 _) ((hK5.trans hK6).trans hK7) (fun e => e)).cell
    have hA6 := HA.out.ofKept (hk5.trans hK6)
    have HC7 := Lib.hid hc7
    have HK6 := Lib.hid (HK.out.trans (hk5.trans hK6))
    clear hc5 hK5 hk5 hK6 HA HBD HBS HW HU hcd hld hc7
    go_wp2
    refine wp_region_plan (by kernel_rfl) (.q 0 <| .q 2 <| .e 1 [2] <| .q 3 <| .q 4 <| .q 5 <| .q 6 <| .q 7 <| .q 8 <| .q 9 <| .q 10 <| .q 11 <| .q 12 <| .q 13 <| .q 14 <| .q 15 <| .q 16 <| .q 17 <| .q 18 <| .q 19 <| .q 20 <| .q 21 <| .q 22 <| .q 23 <| .nil) (by kernel_rfl) (by kernel_rfl) ?_
    repeat (refine plan_q rfl (fun K hK => ?_); go_simp; refine hK _ ?_; clear hK K)
    refine plan_e rfl (fun K hK => ?_)
    go_simp
    refine (regs_lit _ g S (hA6.ofKept (Kept.refl _ _).drew)).mono ?_
    rintro e w7 ⟨rfl, hK7⟩
    have hk7 := (Kept.refl NoBlk w6).drew.trans hK7
    have hc8 := HC7.out w7 hk7
    have hA7 := hA6.ofKept hk7
    have HK7 := Lib.hid (HK6.out.trans hk7)
    clear hK7 hk7 HC7 HK6
    refine hK _ _ (by (repeat (refine stab_cons rfl ?_ ?_; focus (go_simp; done))); exact stab_nil) ?_
    clear hK K
    repeat (refine plan_q rfl (fun K hK => ?_); go_simp; refine hK _ ?_; clear hK K)
    refine plan_q rfl (fun K hK => ?_)
    go_simp
    refine ⟨_, (depth_any w7 g S hA7).mono (fun _ _ h => ⟨h.1, h.2.symm⟩), hK _ ?_⟩
    clear hK K
    repeat (refine plan_q rfl (fun K hK => ?_); go_simp; refine hK _ ?_; clear hK K)
    refine plan_q rfl (fun K hK => ?_)
    go_simp
    refine ⟨_, (alive_any w7 g S hA7).mono (fun _ _ h => ⟨h.1, h.2.symm⟩), hK _ ?_⟩
    clear hK K
    rw [hd]
    repeat (refine plan_q rfl (fun K hK => ?_); go_simp; refine hK _ ?_; clear hK K)
    refine plan_nil ?_
    go_wp2
    go_ret
    exact trueKept_mk HK7.out
  · have HW := Lib.hid hw
    have HU := Lib.hid hu
    clear hw hu
    go_wp2_with fail
    refine (HW.out _ (HA.out.ofKept ((Kept.refl _ _).alloc _))).mono ?_
    rintro e w5 ⟨t5, rfl, hK5⟩
    have hk5 := Kept.trans ((Kept.refl NoBlk w3).alloc _) hK5
    have hc5 := (HBD.out.kept hk5 (fun e => e)).cell
    go_wp2_with fail
    refine (HU.out _ (HA.out.ofKept hk5)).mono ?_
    rintro e w6 ⟨err, herr, rfl, hK6⟩
    have hc6 := (Blk.kept (Blk.new w3 31 _) (hK5.trans hK6) (fun e => e)).cell
    have hc7 := fun w7 (hK7 : Kept NoBlk w6 w7) => (Blk.kept (Blk.new w3 31 _) ((hK5.trans hK6).trans hK7) (fun e => e)).cell
    have hA6 := HA.out.ofKept (hk5.trans hK6)
    have HC7 := Lib.hid hc7
    have HK6 := Lib.hid (HK.out.trans (hk5.trans hK6))
    clear hc5 hK5 hk5 hK6 HA HBD HBS HW HU hcd hld hc7
    go_wp2
    refine wp_region_plan (by kernel_rfl) (.q 0 <| .q 2 <| .e 1 [2] <| .q 3 <| .q 4 <| .q 5 <| .q 6 <| .q 7 <| .q 8 <| .q 9 <| .q 10 <| .q 11 <| .q 12 <| .q 13 <| .q 14 <| .q 15 <| .q 16 <| .q 17 <| .q 18 <| .q 19 <| .q 20 <| .q 21 <| .q 22 <| .q 23 <| .nil) (by kernel_rfl) (by kernel_rfl) ?_
    repeat (refine plan_q rfl (fun K hK => ?_); go_simp; refine hK _ ?_; clear hK K)
    refine plan_e rfl (fun K hK => ?_)
    go_simp
    refine (regs_lit _ g S (hA6.ofKept (Kept.refl _ _).drew)).mono ?_
    rintro e w7 ⟨rfl, hK7⟩
    have hk7 := (Kept.refl NoBlk w6).drew.trans hK7
    have hc8 := HC7.out w7 hk7
    have hA7 := hA6.ofKept hk7
    have HK7 := Lib.hid (HK6.out.trans hk7)
    clear hK7 hk7 HC7 HK6
    refine hK _ _ (by (repeat (refine stab_cons rfl ?_ ?_; focus (go_simp; done))); exact stab_nil) ?_
    clear hK K
    repeat (refine plan_q rfl (fun K hK => ?_); go_simp; refine hK _ ?_; clear hK K)
    refine plan_q rfl (fun K hK => ?_)
    go_simp
    refine ⟨_, (depth_any w7 g S hA7).mono (fun _ _ h => ⟨h.1, h.2.symm⟩), hK _ ?_⟩
    clear hK K
    repeat (refine plan_q rfl (fun K hK => ?_); go_simp; refine hK _ ?_; clear hK K)
    refine plan_q rfl (fun K hK => ?_)
    go_simp
    refine ⟨_, (alive_any w7 g S hA7).mono (fun _ _ h => ⟨h.1, h.2.symm⟩), hK _ ?_⟩
    clear hK K
    rw [hd]
    repeat (refine plan_q rfl (fun K hK => ?_); go_simp; refine hK _ ?_; clear hK K)
    refine plan_nil ?_
    go_wp2
    go_ret
    exact trueKept_mk HK7.out
  · have HW := Lib.hid hw
    have HU := Lib.hid hu
    clear hw hu
    have hglt := HA.out.lt
    go_wp2_with fail
    refine (HW.out _ (HA.out.ofKept ((Kept.refl _ _).alloc _))).mono ?_
    rintro e w5 ⟨rfl, hK5⟩
    have hk5 := Kept.trans ((Kept.refl NoBlk w3).alloc _) hK5
    have hc5 := (HBD.out.kept hk5 (fun e => e)).cell
    go_wp2_with fail
    refine (HU.out _ (HA.out.ofKept hk5)).mono ?_
    rintro e w6 ⟨rfl, hA6, hK6⟩
    have hbd6 := (HBD.out.kept hk5 (fun e => e)).kept hK6 (by show ¬ w.heap.size = g; omega)
    have hbs6 := (HBS.out.kept hk5 (fun e => e)).kept hK6 (by show ¬ w.heap.size + 1 = g; omega)
    have hbw6 := (Blk.kept (Blk.new w3 31 _) hK5 (fun e => e)).kept hK6 (by show ¬ w3.heap.size = g; omega)
    have hk6 : Kept NoBlk w w6 := kept_own (HK.out.trans hk5) (by omega) hK6
    have hwrap : IntKind.wrap .u16 dk = dk := IntWalk.u16_in _ (by omega)
    have HA6 := Lib.hid hA6
    have HD6 := Lib.hid hbd6
    have HS6 := Lib.hid hbs6
    have HW6 := Lib.hid hbw6
    have HK6 := Lib.hid hk6
    clear hc5 hK5 hk5 hK6 HA HBD HBS HW HU hcd hld hA6 hbd6 hbs6 hbw6 hk6 HK
    go_wp2_with fail
    refine (regs_up w6 g S dk dx h0 HA6.out).mono ?_
    rintro e w7 ⟨rfl, hK7⟩
    have hbd7 := HD6.out.kept hK7 (fun e => e)
    have hbw7 := HW6.out.kept hK7 (fun e => e)
    have hcd7 := hbd7.cell
    have hld7 := hbd7.lt
    have hcw7 := hbw7.cell
    have hlw7 := hbw7.lt
    have hbs7 := HS6.out.kept hK7 (fun e => e)
    have hcs7 := hbs7.cell
    have hls7 := hbs7.lt
    clear hbd7 hbs7
    go_wp2_with fail
    refine (depth_up _ g S _ _ (HA6.out.ofKept (hK7.alloc _))).mono ?_
    rintro e w8 ⟨rfl, rfl⟩
    have hA8 := HA6.out.ofKept (hK7.alloc (.cells #[.int .u16 (S.to dk.toNat), .int .u16 (S.rg 1), .int .u16 dx, .int .u16 dk, .int .u16 (S.rg 4), .int .u16 (S.rg 5), .int .u16 (S.rg 6), .int .u16 (S.rg 7), .int .u16 (S.rg 8)] 31)).drew
    have HA8 := Lib.hid hA8
    have HW7 := Lib.hid hbw7
    have HK7 := Lib.hid (HK6.out.trans hK7)
    clear hA8 hbw7 hK7
    go_wp2
    refine wp_region_plan (by kernel_rfl) (.q 0 <| .q 1 <| .e 2 [] <| .q 3 <| .q 4 <| .q 5 <| .e 6 [] <| .q 7 <| .q 8 <| .q 9 <| .q 10 <| .q 12 <| .e 11 [12] <| .q 13 <| .q 14 <| .q 15 <| .q 16 <| .q 17 <| .q 18 <| .q 19 <| .q 20 <| .q 21 <| .nil) (by kernel_rfl) (by kernel_rfl) ?_
    repeat (refine plan_q rfl (fun K hK => ?_); go_simp; refine hK _ ?_; clear hK K)
    refine plan_e rfl (fun K hK => ?_)
    go_simp
    refine (set_lit _ g _ HA8.out hd s).mono ?_
    rintro e w9 ⟨rfl, hA9, hK9⟩
    refine hK _ _ stab_nil ?_
    clear hK K
    repeat (refine plan_q rfl (fun K hK => ?_); go_simp; refine hK _ ?_; clear hK K)
    refine plan_e rfl (fun K hK => ?_)
    go_simp
    refine (return_some _ g _ hA9 hd S.kept S.rg rfl).mono ?_
    rintro e w10 ⟨rfl, hA10, hK10⟩
    have hbw10 := (((HW7.out.alloc _).drew).kept hK9 (by show ¬ w3.heap.size = g; omega)).kept hK10 (by show ¬ w3.heap.size = g; omega)
    have hcw10 := hbw10.cell
    have hk10 := kept_own (kept_own ((HK7.out.alloc _).drew) (by omega) hK9) (by omega) hK10
    refine hK _ _ stab_nil ?_
    clear hK K
    repeat (refine plan_q rfl (fun K hK => ?_); go_simp; refine hK _ ?_; clear hK K)
    refine plan_e rfl (fun K hK => ?_)
    go_simp
    refine (regs_lit w10 g _ hA10).mono ?_
    rintro e w11 ⟨rfl, hK11⟩
    have hcw11 := (hbw10.kept hK11 (fun e => e)).cell
    have hA11 := hA10.ofKept hK11
    refine hK _ _ (by (repeat (refine stab_cons rfl ?_ ?_; focus (go_simp; done))); exact stab_nil) ?_
    clear hK K
    repeat (refine plan_q rfl (fun K hK => ?_); go_simp; refine hK _ ?_; clear hK K)
    refine plan_q rfl (fun K hK => ?_)
    go_simp
    refine ⟨_, (depth_any w11 g _ hA11).mono (fun _ _ h => ⟨h.1, h.2.symm⟩), hK _ ?_⟩
    clear hK K
    repeat (refine plan_q rfl (fun K hK => ?_); go_simp; refine hK _ ?_; clear hK K)
    refine plan_nil ?_
    go_wp2
    go_ret
    exact trueKept_mk (hk10.trans hK11)
end Go.Proofs.Ytbggdimkfkdhmaa
