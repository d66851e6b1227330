/- NameOpens, walked. -/
import Derived.Test.YtlaplonmbnncaaaM0
import Derived.Test.YtlaplonmbnncaaaPlan
namespace Go.Proofs.Ytlaplonmbnncaaa
open Go.RowKit Go.Shelf
set_option maxRecDepth 100000

/-- Three capabilities in boxes. -/
structure Tri (W : World) (b0 b1 b2 : Nat) (m1 m2 m3 : ByteArray) (r1 r2 r3 : Int) : Prop where
  a : Blk W b0 23 (capC m1 r1)
  b : Blk W b1 23 (capC m2 r2)
  c : Blk W b2 23 (capC m3 r3)
theorem Tri.kept {W W' : World} {b0 b1 b2 : Nat} {m1 m2 m3 : ByteArray} {r1 r2 r3 : Int} (h : Tri W b0 b1 b2 m1 m2 m3 r1 r2 r3) (hk : Kept NoBlk W W') : Tri W' b0 b1 b2 m1 m2 m3 r1 r2 r3 :=
  ⟨h.a.kept hk (fun e => e), h.b.kept hk (fun e => e), h.c.kept hk (fun e => e)⟩
set_option maxHeartbeats 4000000 in
theorem lawOpens_any (w : World) (n1 n2 n3 : ByteArray) (r1 r2 r3 : Int) (h1 : n1.size ≤ maxLen) (h2 : n2.size ≤ maxLen) (h3 : n3.size ≤ maxLen) (p1 : 0 ≤ r1) (p2 : 0 ≤ r2) (p3 : 0 ≤ r3) :
    Calls Try.prog 3 #[capV n1 r1, capV n2 r2, capV n3 r3] w (TrueKept w) := by
  have S1 := Lib.hid (fun w => short_any w n1 h1)
  have S2 := Lib.hid (fun w => short_any w n2 h2)
  have S3 := Lib.hid (fun w => short_any w n3 h3)
  have z1 := cut300_size n1
  have z2 := cut300_size n2
  have z3 := cut300_size n3
  generalize cut300 n1 = m1 at *
  generalize cut300 n2 = m2 at *
  generalize cut300 n3 = m3 at *
  have HL := Lib.hid (fun w => live_any w)
  have HO := Lib.hid (fun (w : World) => (⟨opens_any w m1 r1 m2 r2 (by omega) (by omega), opens_any w m2 r2 m3 r3 (by omega) (by omega), opens_any w m1 r1 m3 r3 (by omega) (by omega), opens_any w m1 r1 m1 r1 (by omega) (by omega), right_any w m1 r1 (by omega)⟩ : _ ∧ _ ∧ _ ∧ _ ∧ _))
  have HT : Hid (opensB m1 r1 m2 r2 = true → opensB m2 r2 m3 r3 = true → opensB m1 r1 m3 r3 = true) := Lib.hid (fun a b => opens_trans p1 p2 p3 a b)
  rw [opens_self m1 r1 p1] at HO
  generalize opensB m1 r1 m2 r2 = o12 at *
  generalize opensB m2 r2 m3 r3 = o23 at *
  generalize opensB m1 r1 m3 r3 = o13 at *
  generalize rightB m1 r1 = ri at *
  clear z1 z2 z3 h1 h2 h3 p1 p2 p3
  unfold capV at HO ⊢
  go_enter Try.func3, Try.ntmps3
  go_wp2
  refine wp_region_plan (by kernel_rfl) (.q 0 <| .q 1 <| .q 2 <| .q 3 <| .q 4 <| .q 5 <| .q 6 <| .q 7 <| .q 8 <| .q 9 <| .e 10 [] <| .q 11 <| .e 12 [] <| .q 13 <| .e 14 [] <| .nil) (by kernel_rfl) (by kernel_rfl) ?_
  repeat (refine plan_q rfl (fun K hK => ?_); go_simp; refine hK _ ?_; clear hK K)
  refine plan_q rfl (fun K hK => ?_)
  go_simp
  refine ⟨_, (S1.out _).mono (fun _ _ h => ⟨h.1, h.2.symm⟩), hK _ ?_⟩
  clear hK K
  repeat (refine plan_q rfl (fun K hK => ?_); go_simp; refine hK _ ?_; clear hK K)
  refine plan_q rfl (fun K hK => ?_)
  go_simp
  refine ⟨_, (S2.out _).mono (fun _ _ h => ⟨h.1, h.2.symm⟩), hK _ ?_⟩
  clear hK K
  repeat (refine plan_q rfl (fun K hK => ?_); go_simp; refine hK _ ?_; clear hK K)
  refine plan_q rfl (fun K hK => ?_)
  go_simp
  refine ⟨_, (S3.out _).mono (fun _ _ h => ⟨h.1, h.2.symm⟩), hK _ ?_⟩
  clear hK K
  repeat (refine plan_q rfl (fun K hK => ?_); go_simp; refine hK _ ?_; clear hK K)
  refine plan_e rfl (fun K hK => ?_)
  go_simp
  refine hK _ _ (by (repeat (refine stab_cons rfl ?_ ?_; focus (go_simp; done))); exact stab_nil) ?_
  clear hK K
  repeat (refine plan_q rfl (fun K hK => ?_); go_simp; refine hK _ ?_; clear hK K)
  refine plan_e rfl (fun K hK => ?_)
  go_simp
  refine hK _ _ (by (repeat (refine stab_cons rfl ?_ ?_; focus (go_simp; done))); exact stab_nil) ?_
  clear hK K
  repeat (refine plan_q rfl (fun K hK => ?_); go_simp; refine hK _ ?_; clear hK K)
  refine plan_e rfl (fun K hK => ?_)
  go_simp
  refine hK _ _ (by (repeat (refine stab_cons rfl ?_ ?_; focus (go_simp; done))); exact stab_nil) ?_
  clear hK K
  refine plan_nil ?_
  clear S1 S2 S3
  have hT : Tri ((((w.alloc (.cells #[.string m1, .int .u8 r1] 23)).alloc (.cells #[.string m2, .int .u8 r2] 23)).alloc (.cells #[.string m3, .int .u8 r3] 23)).drew) w.heap.size (w.heap.size + 1) (w.heap.size + 1 + 1) m1 m2 m3 r1 r2 r3 :=
    ⟨(((Blk.new w 23 _).alloc _).alloc _).drew, ((Blk.new_at (n := w.heap.size + 1) _ 23 _ (by simp)).alloc _).drew, (Blk.new_at (n := w.heap.size + 1 + 1) _ 23 _ (by simp)).drew⟩
  have hk : Kept NoBlk w ((((w.alloc (.cells #[.string m1, .int .u8 r1] 23)).alloc (.cells #[.string m2, .int .u8 r2] 23)).alloc (.cells #[.string m3, .int .u8 r3] 23)).drew) := ((((Kept.refl _ _).alloc _).alloc _).alloc _).drew
  generalize ((((w.alloc (.cells #[.string m1, .int .u8 r1] 23)).alloc (.cells #[.string m2, .int .u8 r2] 23)).alloc (.cells #[.string m3, .int .u8 r3] 23)).drew) = W at *
  obtain ⟨a0, a1⟩ := cap_cells hT.a
  obtain ⟨b0, b1⟩ := cap_cells hT.b
  obtain ⟨c0, c1⟩ := cap_cells hT.c
  have HTri := Lib.hid hT
  have HK := Lib.hid hk
  clear hT hk
  go_wp2_with fail
  refine (HO.out _).1.mono ?_
  rintro e w1 ⟨rfl, hk1⟩
  have HK1 := Lib.hid (HK.out.trans hk1)
  have hT1 := HTri.out.kept hk1
  obtain ⟨d0, d1⟩ := cap_cells hT1.a
  obtain ⟨f0, f1⟩ := cap_cells hT1.b
  obtain ⟨g0, g1⟩ := cap_cells hT1.c
  have HT1 := Lib.hid hT1
  clear hk1 hT1 a0 a1 b0 b1 c0 c1 HK HTri
  cases o12 with
  | false =>
    go_wp2
    refine wp_region_plan (by kernel_rfl) (.e 0 [] <| .q 1 <| .q 2 <| .q 3 <| .q 5 <| .e 4 [5] <| .e 6 [] <| .q 7 <| .q 8 <| .q 9 <| .nil) (by kernel_rfl) (by kernel_rfl) ?_
    refine plan_e rfl (fun K hK => ?_)
    go_simp
    refine (HL.out _).mono ?_
    rintro e w5 ⟨rfl, hk5⟩
    have hkk := Kept.trans (Kept.drew (Kept.refl NoBlk w1)) hk5
    have hT5 := HT1.out.kept hkk
    have HK5 := Lib.hid (HK1.out.trans hkk)
    obtain ⟨x0, x1⟩ := cap_cells hT5.a
    have HT5 := Lib.hid hT5
    clear hk5 hkk hT5
    refine hK _ _ (by (repeat (refine stab_cons rfl ?_ ?_; focus (go_simp; done))); exact stab_nil) ?_
    clear hK K
    repeat (refine plan_q rfl (fun K hK => ?_); go_simp; refine hK _ ?_; clear hK K)
    refine plan_e rfl (fun K hK => ?_)
    go_simp
    refine (HO.out _).2.2.2.1.mono ?_
    rintro e w6 ⟨rfl, hk6⟩
    have hT6 := HT5.out.kept hk6
    have HK6 := Lib.hid (HK5.out.trans hk6)
    obtain ⟨y0, y1⟩ := cap_cells hT6.a
    clear hk6 hT6
    refine hK _ _ (by (repeat (refine stab_cons rfl ?_ ?_; focus (go_simp; done))); exact stab_nil) ?_
    clear hK K
    repeat (refine plan_q rfl (fun K hK => ?_); go_simp; refine hK _ ?_; clear hK K)
    refine plan_e rfl (fun K hK => ?_)
    go_simp
    refine (HO.out _).2.2.2.2.mono ?_
    rintro e w7 ⟨rfl, hk7⟩
    have HK7 := Lib.hid (HK6.out.trans hk7)
    clear hk7
    refine hK _ _ (by (repeat (refine stab_cons rfl ?_ ?_; focus (go_simp; done))); exact stab_nil) ?_
    clear hK K
    repeat (refine plan_q rfl (fun K hK => ?_); go_simp; refine hK _ ?_; clear hK K)
    refine plan_nil ?_
    go_wp2
    go_ret
    exact ⟨by simp, HK7.out⟩
  | true =>
    go_wp2_with fail
    refine (HO.out _).2.1.mono ?_
    rintro e w2 ⟨rfl, hk⟩
    have HK2 := Lib.hid (HK1.out.trans hk)
    have hT2 := HT1.out.kept hk
    obtain ⟨d0, d1⟩ := cap_cells hT2.a
    obtain ⟨f0, f1⟩ := cap_cells hT2.b
    obtain ⟨g0, g1⟩ := cap_cells hT2.c
    have HT2 := Lib.hid hT2
    clear hk hT2
    cases o23 with
    | false =>
      go_wp2
      refine wp_region_plan (by kernel_rfl) (.e 0 [] <| .q 1 <| .q 2 <| .q 3 <| .q 5 <| .e 4 [5] <| .e 6 [] <| .q 7 <| .q 8 <| .q 9 <| .nil) (by kernel_rfl) (by kernel_rfl) ?_
      refine plan_e rfl (fun K hK => ?_)
      go_simp
      refine (HL.out _).mono ?_
      rintro e w5 ⟨rfl, hk5⟩
      have hkk := Kept.trans (Kept.drew (Kept.refl NoBlk w2)) hk5
      have hT5 := HT2.out.kept hkk
      have HK5 := Lib.hid (HK2.out.trans hkk)
      obtain ⟨x0, x1⟩ := cap_cells hT5.a
      have HT5 := Lib.hid hT5
      clear hk5 hkk hT5
      refine hK _ _ (by (repeat (refine stab_cons rfl ?_ ?_; focus (go_simp; done))); exact stab_nil) ?_
      clear hK K
      repeat (refine plan_q rfl (fun K hK => ?_); go_simp; refine hK _ ?_; clear hK K)
      refine plan_e rfl (fun K hK => ?_)
      go_simp
      refine (HO.out _).2.2.2.1.mono ?_
      rintro e w6 ⟨rfl, hk6⟩
      have hT6 := HT5.out.kept hk6
      have HK6 := Lib.hid (HK5.out.trans hk6)
      obtain ⟨y0, y1⟩ := cap_cells hT6.a
      clear hk6 hT6
      refine hK _ _ (by (repeat (refine stab_cons rfl ?_ ?_; focus (go_simp; done))); exact stab_nil) ?_
      clear hK K
      repeat (refine plan_q rfl (fun K hK => ?_); go_simp; refine hK _ ?_; clear hK K)
      refine plan_e rfl (fun K hK => ?_)
      go_simp
      refine (HO.out _).2.2.2.2.mono ?_
      rintro e w7 ⟨rfl, hk7⟩
      have HK7 := Lib.hid (HK6.out.trans hk7)
      clear hk7
      refine hK _ _ (by (repeat (refine stab_cons rfl ?_ ?_; focus (go_simp; done))); exact stab_nil) ?_
      clear hK K
      repeat (refine plan_q rfl (fun K hK => ?_); go_simp; refine hK _ ?_; clear hK K)
      refine plan_nil ?_
      go_wp2
      go_ret
      exact ⟨by simp, HK7.out⟩
    | true =>
      have ho := HT.out trivial rfl
      subst ho
      go_wp2_with fail
      refine (HO.out _).2.2.1.mono ?_
      rintro e w3 ⟨rfl, hk⟩
      have HK3 := Lib.hid (HK2.out.trans hk)
      have hT2 := HT2.out.kept hk
      obtain ⟨d0, d1⟩ := cap_cells hT2.a
      obtain ⟨f0, f1⟩ := cap_cells hT2.b
      obtain ⟨g0, g1⟩ := cap_cells hT2.c
      have HT3 := Lib.hid hT2
      clear hk hT2
      go_wp2
      refine wp_region_plan (by kernel_rfl) (.e 0 [] <| .q 1 <| .q 2 <| .q 3 <| .q 5 <| .e 4 [5] <| .e 6 [] <| .q 7 <| .q 8 <| .q 9 <| .nil) (by kernel_rfl) (by kernel_rfl) ?_
      refine plan_e rfl (fun K hK => ?_)
      go_simp
      refine (HL.out _).mono ?_
      rintro e w5 ⟨rfl, hk5⟩
      have hkk := Kept.trans (Kept.drew (Kept.refl NoBlk w3)) hk5
      have hT5 := HT3.out.kept hkk
      have HK5 := Lib.hid (HK3.out.trans hkk)
      obtain ⟨x0, x1⟩ := cap_cells hT5.a
      have HT5 := Lib.hid hT5
      clear hk5 hkk hT5
      refine hK _ _ (by (repeat (refine stab_cons rfl ?_ ?_; focus (go_simp; done))); exact stab_nil) ?_
      clear hK K
      repeat (refine plan_q rfl (fun K hK => ?_); go_simp; refine hK _ ?_; clear hK K)
      refine plan_e rfl (fun K hK => ?_)
      go_simp
      refine (HO.out _).2.2.2.1.mono ?_
      rintro e w6 ⟨rfl, hk6⟩
      have hT6 := HT5.out.kept hk6
      have HK6 := Lib.hid (HK5.out.trans hk6)
      obtain ⟨y0, y1⟩ := cap_cells hT6.a
      clear hk6 hT6
      refine hK _ _ (by (repeat (refine stab_cons rfl ?_ ?_; focus (go_simp; done))); exact stab_nil) ?_
      clear hK K
      repeat (refine plan_q rfl (fun K hK => ?_); go_simp; refine hK _ ?_; clear hK K)
      refine plan_e rfl (fun K hK => ?_)
      go_simp
      refine (HO.out _).2.2.2.2.mono ?_
      rintro e w7 ⟨rfl, hk7⟩
      have HK7 := Lib.hid (HK6.out.trans hk7)
      clear hk7
      refine hK _ _ (by (repeat (refine stab_cons rfl ?_ ?_; focus (go_simp; done))); exact stab_nil) ?_
      clear hK K
      repeat (refine plan_q rfl (fun K hK => ?_); go_simp; refine hK _ ?_; clear hK K)
      refine plan_nil ?_
      go_wp2
      go_ret
      exact ⟨by simp, HK7.out⟩
end Go.Proofs.Ytlaplonmbnncaaa
