/- NameCaps, walked. -/
import Derived.Test.YtlaplonmbnncaaaDoorD11
import Derived.Test.YtlaplonmbnncaaaDoorPlan
namespace Go.Proofs.YtlaplonmbnncaaaDoor
open Go.RowKit Go.Shelf
set_option maxRecDepth 100000

/-- Capabilities in boxes. -/
def Boxes (W : World) (L : List (Nat × ByteArray × Int)) : Prop := ∀ x ∈ L, Blk W x.1 34 (capC x.2.1 x.2.2)
theorem Boxes.kept {W W' : World} {L : List (Nat × ByteArray × Int)} (h : Boxes W L) (hk : Kept NoBlk W W') : Boxes W' L := fun x hx => (h x hx).kept hk (fun e => e)
theorem Boxes.more {W : World} {L : List (Nat × ByteArray × Int)} (h : Boxes W L) (n : ByteArray) (r : Int) : Boxes (W.alloc (.cells (capC n r) 34)) ((W.heap.size, n, r) :: L) := fun x hx => by
  cases hx with
  | head => exact Blk.new W 34 (capC n r)
  | tail _ hx => exact (h x hx).alloc _
theorem Boxes.drew {W : World} {L : List (Nat × ByteArray × Int)} (h : Boxes W L) : Boxes W.drew L := fun x hx => (h x hx).drew
theorem run_eql_cap (w : World) (n : ByteArray) (r : Int) : (binOp .eql 34 (.agg #[.string n, .int .u8 r]) (.agg #[.string n, .int .u8 r])).run Tryd.prog w = .ok (.bool true) w := by
  simp [go_sem]
theorem run_eqGuard_cap (w : World) (o1 o2 : Operand) (n : ByteArray) (r : Int) : (eqGuard .eql 34 o1 o2 (.agg #[.string n, .int .u8 r]) (.agg #[.string n, .int .u8 r])).run Tryd.prog w = .ok () w :=
  run_eqGuard_agg w .eql 34 o1 o2 _ _ (by kernel_rfl)
theorem restr_form (n : ByteArray) (r q : Int) : ∃ an ar ae, restrV n r q = .tuple #[.agg #[.string an, .int .u8 ar], .int .i64 ae] := by
  unfold restrV
  split <;> exact ⟨_, _, _, rfl⟩
theorem outV_form (p : ByteArray × Int × Int) : ∃ an ar ae, outV p = .tuple #[.agg #[.string an, .int .u8 ar], .int .i64 ae] := ⟨_, _, _, rfl⟩
set_option maxHeartbeats 8000000 in
theorem lawCaps_any (w : World) (n1 n2 : ByteArray) (r1 r2 q : Int) (h1 : n1.size ≤ maxLen) (h2 : n2.size ≤ maxLen) (p1 : 0 ≤ r1) (p2 : 0 ≤ r2) (hT : Tabs w) :
    Calls Tryd.prog 4 #[capV n1 r1, capV n2 r2, .int .u8 q] w (TrueKeptJ w) := by
  have S1 := Lib.hid (fun w => short_any w n1 h1)
  have S2 := Lib.hid (fun w => short_any w n2 h2)
  have z1 := cut300_size n1
  have z2 := cut300_size n2
  generalize cut300 n1 = m1 at *
  generalize cut300 n2 = m2 at *
  have HT := Lib.hid hT
  have R1 := fun w => restrict_any w m1 r1 q (by omega)
  have R2 := fun w hT => rrestrict_any w m1 r1 q (by omega) hT
  have E1 := fun w => derive_any w m1 r1 m2 (by omega)
  have E2 := fun w hT => rderive_any w m1 r1 m2 (by omega) (by omega) hT
  obtain ⟨an, ar, ae, ha⟩ := restr_form m1 r1 q
  obtain ⟨bn, br, be, hb⟩ := outV_form (deriveP m1 r1 m2)
  rw [ha] at R1 R2
  rw [hb] at E1 E2
  have G1 := fun w => right_any w m1 r1 (by omega)
  have G2 := fun w hT => rright_any w m1 r1 (by omega) hT
  have O1 := fun w => opens_any w m1 r1 m2 r2 (by omega) (by omega)
  have O2 := fun w hT => ropens_any w m1 r1 m2 r2 (by omega) (by omega) p1 p2 hT
  generalize rightB m1 r1 = bg at *
  generalize opensB m1 r1 m2 r2 = bo at *
  clear hT ha hb z1 z2 h1 h2 p1 p2
  unfold capV at R1 R2 E1 E2 G1 G2 O1 O2 ⊢
  have R1 := Lib.hid R1
  have R2 := Lib.hid R2
  have E1 := Lib.hid E1
  have E2 := Lib.hid E2
  have G1 := Lib.hid G1
  have G2 := Lib.hid G2
  have O1 := Lib.hid O1
  have O2 := Lib.hid O2
  go_enter Tryd.func4, Tryd.ntmps4
  go_wp2
  refine wp_region_plan (by kernel_rfl) (.q 0 <| .q 1 <| .q 2 <| .q 3 <| .q 4 <| .q 5 <| .q 6 <| .e 7 [] <| .q 8 <| .e 9 [] <| .nil) (by kernel_rfl) (by kernel_rfl) ?_
  repeat (refine plan_q rfl (fun K hK => ?_); go_simp; refine hK _ ?_; clear hK K)
  refine plan_q rfl (fun K hK => ?_)
  go_simp
  refine ⟨_, (S1.out _).mono (fun _ _ h => ⟨h.1, h.2.symm⟩), hK _ ?_⟩
  clear hK K
  repeat (refine plan_q rfl (fun K hK => ?_); go_simp; refine hK _ ?_; clear hK K)
  refine plan_q rfl (fun K hK => ?_)
  go_simp
  refine ⟨_, (S2.out _).mono (fun _ _ h => ⟨h.1, h.2.symm⟩), hK _ ?_⟩
  clear hK K
  repeat (refine plan_q rfl (fun K hK => ?_); go_simp; refine hK _ ?_; clear hK K)
  refine plan_e rfl (fun K hK => ?_)
  go_simp
  refine hK _ _ (by (repeat (refine stab_cons rfl ?_ ?_; focus (go_simp; done))); exact stab_nil) ?_
  clear hK K
  repeat (refine plan_q rfl (fun K hK => ?_); go_simp; refine hK _ ?_; clear hK K)
  refine plan_e rfl (fun K hK => ?_)
  go_simp
  refine hK _ _ (by (repeat (refine stab_cons rfl ?_ ?_; focus (go_simp; done))); exact stab_nil) ?_
  clear hK K
  refine plan_nil ?_
  clear S1 S2
  have q0 : Boxes (((w.alloc (.cells #[.string m1, .int .u8 r1] 34)).alloc (.cells #[.string m2, .int .u8 r2] 34)).drew) [(w.heap.size + 1, m2, r2), (w.heap.size, m1, r1)] := fun x hx => by
    simp only [List.mem_cons, List.mem_nil_iff, or_false] at hx
    rcases hx with rfl | rfl
    · exact (Blk.new_at (n := w.heap.size + 1) _ 34 _ (by simp)).drew
    · exact ((Blk.new w 34 _).alloc _).drew
  have hk : Kept NoBlk w (((w.alloc (.cells #[.string m1, .int .u8 r1] 34)).alloc (.cells #[.string m2, .int .u8 r2] 34)).drew) := (((Kept.refl _ _).alloc _).alloc _).drew
  generalize (((w.alloc (.cells #[.string m1, .int .u8 r1] 34)).alloc (.cells #[.string m2, .int .u8 r2] 34)).drew) = W at *
  obtain ⟨a0, a1⟩ := cap_cells (q0 (w.heap.size, m1, r1) (by simp))
  have HB0 := Lib.hid q0
  have HK0 := Lib.hid hk
  clear q0 hk
  go_wp2_with fail
  refine (R1.out _).mono ?_
  rintro e w1 ⟨rfl, hk⟩
  have q := (HB0.out.kept hk).more an ar
  have hkk := (HK0.out.trans hk).alloc (.cells (capC an ar) 34)
  obtain ⟨b10, b11⟩ := cap_cells ((HB0.out.kept hk) (w.heap.size, m1, r1) (by simp))
  obtain ⟨c10, c11⟩ := cap_cells ((HB0.out.kept hk) (w.heap.size + 1, m2, r2) (by simp))
  have lb1 := ((HB0.out.kept hk) (w.heap.size, m1, r1) (by simp)).lt
  have lc1 := ((HB0.out.kept hk) (w.heap.size + 1, m2, r2) (by simp)).lt
  have HB1 := Lib.hid q
  have HK1 := Lib.hid hkk
  unfold capC at HB1 HK1
  clear hk q hkk a0 a1 HB0 HK0 R1
  go_wp2_with fail
  refine (R2.out _ (HT.out.kept HK1.out)).mono ?_
  rintro e w2 ⟨rfl, hk⟩
  have q := (HB1.out.kept hk).more an ar
  have hkk := (HK1.out.trans hk).alloc (.cells (capC an ar) 34)
  obtain ⟨b20, b21⟩ := cap_cells ((HB1.out.kept hk) (w.heap.size, m1, r1) (by simp))
  obtain ⟨c20, c21⟩ := cap_cells ((HB1.out.kept hk) (w.heap.size + 1, m2, r2) (by simp))
  have lb2 := ((HB1.out.kept hk) (w.heap.size, m1, r1) (by simp)).lt
  have lc2 := ((HB1.out.kept hk) (w.heap.size + 1, m2, r2) (by simp)).lt
  have HB2 := Lib.hid q
  have HK2 := Lib.hid hkk
  unfold capC at HB2 HK2
  clear hk q hkk b10 b11 c10 c11 lb1 lc1 HB1 HK1 R2
  go_wp2_with fail
  refine (E1.out _).mono ?_
  rintro e w3 ⟨rfl, hk⟩
  have q := (HB2.out.kept hk).more bn br
  have hkk := (HK2.out.trans hk).alloc (.cells (capC bn br) 34)
  obtain ⟨b30, b31⟩ := cap_cells ((HB2.out.kept hk) (w.heap.size, m1, r1) (by simp))
  obtain ⟨c30, c31⟩ := cap_cells ((HB2.out.kept hk) (w.heap.size + 1, m2, r2) (by simp))
  have lb3 := ((HB2.out.kept hk) (w.heap.size, m1, r1) (by simp)).lt
  have lc3 := ((HB2.out.kept hk) (w.heap.size + 1, m2, r2) (by simp)).lt
  have HB3 := Lib.hid q
  have HK3 := Lib.hid hkk
  unfold capC at HB3 HK3
  clear hk q hkk b20 b21 c20 c21 lb2 lc2 HB2 HK2 E1
  go_wp2_with fail
  refine (E2.out _ (HT.out.kept HK3.out)).mono ?_
  rintro e w4 ⟨rfl, hk⟩
  have q := (HB3.out.kept hk).more bn br
  have hkk := (HK3.out.trans hk).alloc (.cells (capC bn br) 34)
  obtain ⟨b40, b41⟩ := cap_cells ((HB3.out.kept hk) (w.heap.size, m1, r1) (by simp))
  obtain ⟨c40, c41⟩ := cap_cells ((HB3.out.kept hk) (w.heap.size + 1, m2, r2) (by simp))
  have lb4 := ((HB3.out.kept hk) (w.heap.size, m1, r1) (by simp)).lt
  have lc4 := ((HB3.out.kept hk) (w.heap.size + 1, m2, r2) (by simp)).lt
  have HB4 := Lib.hid q
  have HK4 := Lib.hid hkk
  unfold capC at HB4 HK4
  clear hk q hkk b30 b31 c30 c31 lb3 lc3 HB3 HK3 E2
  go_wp2
  refine wp_region_plan (by kernel_rfl) (.e 0 [] <| .q 1 <| .q 2 <| .q 4 <| .e 3 [4] <| .e 5 [] <| .q 6 <| .q 7 <| .q 8 <| .q 9 <| .q 10 <| .q 12 <| .q 13 <| .e 11 [12, 13] <| .e 14 [] <| .q 15 <| .q 16 <| .q 17 <| .q 18 <| .q 19 <| .q 20 <| .q 21 <| .q 22 <| .q 23 <| .q 24 <| .q 25 <| .q 26 <| .q 27 <| .q 28 <| .q 29 <| .q 30 <| .q 31 <| .q 32 <| .q 33 <| .q 34 <| .q 35 <| .q 36 <| .q 37 <| .nil) (by kernel_rfl) (by kernel_rfl) ?_
  refine plan_e rfl (fun K hK => ?_)
  go_simp
  refine (live_any _).mono ?_
  rintro e w5 ⟨rfl, hk⟩
  have hkk := Kept.trans (Kept.drew (Kept.refl NoBlk _)) hk
  have q := HB4.out.kept hkk
  have HK5 := Lib.hid (HK4.out.trans hkk)
  have HB5 := Lib.hid q
  obtain ⟨x0, x1⟩ := cap_cells (q (w.heap.size, m1, r1) (by simp))
  clear hk hkk q HB4 HK4 b40 b41 c40 c41 lb4 lc4
  refine hK _ _ stab_nil ?_
  clear hK K
  repeat (refine plan_q rfl (fun K hK => ?_); go_simp; refine hK _ ?_; clear hK K)
  refine plan_e rfl (fun K hK => ?_)
  go_simp
  refine (G1.out _).mono ?_
  rintro e w6 ⟨rfl, hk⟩
  have q := HB5.out.kept hk
  have HK6 := Lib.hid (HK5.out.trans hk)
  have HB6 := Lib.hid q
  obtain ⟨y0, y1⟩ := cap_cells (q (w.heap.size, m1, r1) (by simp))
  clear x0 x1
  clear hk q HB5 HK5
  refine hK _ _ (by (repeat (refine stab_cons rfl ?_ ?_; focus (go_simp; done))); exact stab_nil) ?_
  clear hK K
  repeat (refine plan_q rfl (fun K hK => ?_); go_simp; refine hK _ ?_; clear hK K)
  refine plan_e rfl (fun K hK => ?_)
  go_simp
  refine (G2.out _ (HT.out.kept HK6.out)).mono ?_
  rintro e w7 ⟨rfl, hk⟩
  have q := HB6.out.kept hk
  have HK7 := Lib.hid (HK6.out.trans hk)
  have HB7 := Lib.hid q
  obtain ⟨x0, x1⟩ := cap_cells (q (w.heap.size, m1, r1) (by simp))
  obtain ⟨z0, z1⟩ := cap_cells (q (w.heap.size + 1, m2, r2) (by simp))
  clear y0 y1
  clear hk q HB6 HK6
  refine hK _ _ (by (repeat (refine stab_cons rfl ?_ ?_; focus (go_simp; done))); exact stab_nil) ?_
  clear hK K
  repeat (refine plan_q rfl (fun K hK => ?_); go_simp; refine hK _ ?_; clear hK K)
  refine plan_e rfl (fun K hK => ?_)
  go_simp
  refine (O1.out _).mono ?_
  rintro e w8 ⟨rfl, hk⟩
  have q := HB7.out.kept hk
  have HK8 := Lib.hid (HK7.out.trans hk)
  have HB8 := Lib.hid q
  obtain ⟨y0, y1⟩ := cap_cells (q (w.heap.size, m1, r1) (by simp))
  obtain ⟨u0, u1⟩ := cap_cells (q (w.heap.size + 1, m2, r2) (by simp))
  clear x0 x1 z0 z1
  clear hk q HB7 HK7
  refine hK _ _ (by (repeat (refine stab_cons rfl ?_ ?_; focus (go_simp; done))); exact stab_nil) ?_
  clear hK K
  repeat (refine plan_q rfl (fun K hK => ?_); go_simp; refine hK _ ?_; clear hK K)
  refine plan_e rfl (fun K hK => ?_)
  go_simp
  refine (O2.out _ (HT.out.kept HK8.out)).mono ?_
  rintro e w9 ⟨rfl, hk⟩
  have q := HB8.out.kept hk
  have HK9 := Lib.hid (HK8.out.trans hk)
  have HB9 := Lib.hid q
  obtain ⟨a0, a1⟩ := cap_cells (q (w1.heap.size, an, ar) (by simp))
  obtain ⟨b0, b1⟩ := cap_cells (q (w2.heap.size, an, ar) (by simp))
  obtain ⟨c0, c1⟩ := cap_cells (q (w3.heap.size, bn, br) (by simp))
  obtain ⟨d0, d1⟩ := cap_cells (q (w4.heap.size, bn, br) (by simp))
  clear y0 y1 u0 u1
  clear hk q HB8 HK8
  refine hK _ _ (by (repeat (refine stab_cons rfl ?_ ?_; focus (go_simp; done))); exact stab_nil) ?_
  clear hK K
  have hE1 := fun w => run_eql_cap w
  have hE2 := fun w => run_eqGuard_cap w
  repeat (refine plan_q rfl (fun K hK => ?_); go_simp; refine hK _ ?_; clear hK K)
  refine plan_nil ?_
  go_wp2
  go_ret
  exact ⟨by simp, HK9.out⟩
end Go.Proofs.YtlaplonmbnncaaaDoor
