/- The program's names: Decode. -/
import Derived.Test.YtlaplonmbnncaaaDoorE1
import Derived.Test.YtlaplonmbnncaaaDoorPlan
namespace Go.Proofs.YtlaplonmbnncaaaDoor
open Go.RowKit Go.Shelf
set_option maxRecDepth 100000

theorem cells_drop {w : World} {b o cap : Nat} {x y : UInt8} {l : List UInt8} (hc : ∀ k (hk : k < (x :: y :: l).length), w.cell? ⟨b, o + k, none⟩ = some (.int .u8 ((x :: y :: l)[k].toNat : Int))) (hb : b < w.heap.size) (h1 : (x :: y :: l).length ≤ cap) (h2 : cap ≤ maxLen) :
    CellsB w (.slice (if cap = 2 then some ⟨b, o, none⟩ else some ⟨b, o + 2, none⟩) l.length (cap - 2)) l := by
  refine ⟨_, _, rfl, ?_, by omega, fun h0 => ?_⟩
  · simp only [List.length_cons] at h1
    omega
  · simp only [List.length_cons] at h1
    refine ⟨b, o + 2, by rw [if_neg (by omega)], hb, fun k hk => ?_⟩
    have := hc (k + 2) (by simp only [List.length_cons]; omega)
    rw [show o + 2 + k = o + (k + 2) by omega, this]
    rfl
set_option maxHeartbeats 4000000 in
theorem decode_any (w : World) (v : Value) (l : List UInt8) (hl : CellsB w v l) : Calls Tryd.prog 38 #[v] w fun e w' => e = .returned (outV (decP l)) ∧ Kept NoBlk w w' := by
  obtain ⟨A, cap, rfl, h1, h2, h3⟩ := hl
  unfold outV
  have ERR : ∀ (u : World), Kept NoBlk w u → Kept NoBlk w u := fun _ h => h
  match l, h1, h3 with
  | [], h1, h3 =>
    go_enter Tryd.func38, Tryd.ntmps38
    go_wp2
    refine bodyPost_ret (v := .tuple #[.agg #[.string ⟨#[]⟩, .int .u8 0], .int .i64 3]) (by simp [results, Tryd.f38, go_sem]) rfl ⟨rfl, by repeat (with_reducible first | exact Kept.refl _ _ | apply Kept.drew | apply Kept.drewN | apply Kept.alloc | exact oneHit | apply Kept.setCell)⟩
  | [x], h1, h3 =>
    go_enter Tryd.func38, Tryd.ntmps38
    go_wp2
    refine bodyPost_ret (v := .tuple #[.agg #[.string ⟨#[]⟩, .int .u8 0], .int .i64 3]) (by simp [results, Tryd.f38, go_sem]) rfl ⟨rfl, by repeat (with_reducible first | exact Kept.refl _ _ | apply Kept.drew | apply Kept.drewN | apply Kept.alloc | exact oneHit | apply Kept.setCell)⟩
  | x :: y :: t, h1, h3 =>
    obtain ⟨b, o, rfl, hb, hc⟩ := h3 (by simp)
    have H1 := Lib.hid (fun w h => right_any w (mk t) (x.toNat : Int) h)
    have c0 := hc 0 (by simp)
    have c1 := hc 1 (by simp)
    simp only [List.getElem_cons_zero, List.getElem_cons_succ, Nat.add_zero] at c0 c1
    have HD := Lib.hid (cells_drop hc hb h1 h2)
    clear hc h3
    obtain ⟨N, hN⟩ : ∃ N, N = (x :: y :: t).length := ⟨_, rfl⟩
    have hN2 : Hid (N = t.length + 2) := Lib.hid hN
    rw [← hN] at h1 ⊢
    have hN3 : (2 : Int) ≤ N := by have := hN2.out; omega
    have hN4 : (0 : Int) < N := by omega
    have hN5 : 0 < N := by omega
    have hmx : (N : Int) ≤ 9223372036854775807 := by simp only [maxLen] at h2; omega
    have hyl : (y.toNat : Int) < 256 := by have := y.toNat_lt; omega
    obtain ⟨V, hV⟩ : ∃ V, decP (x :: y :: t) = V := ⟨_, rfl⟩
    rw [hV]
    have HV := Lib.hid hV.symm
    clear hV hN h2
    by_cases hy : y.toNat = t.length
    · have hyt := Lib.hid hy
      have hy2 : ((y.toNat : Int) != (N : Int) - 2) = false := by have := hN2.out; rw [show (N : Int) - 2 = (y.toNat : Int) by omega]; simp
      clear hy
      have HV2 : Hid (V = if rightB (mk t) (x.toNat : Int) = true then (mk t, (x.toNat : Int), 0) else (⟨#[]⟩, 0, 3)) := Lib.hid (by
        rw [HV.out]; unfold decP; simp only
        by_cases hr : rightB (mk t) (x.toNat : Int) = true
        · rw [if_pos ⟨hyt.out, hr⟩, if_pos hr]
        · rw [if_neg (fun h => hr h.2), if_neg hr])
      have hR := fun w => H1.out w (by rw [mk_size]; have := hyt.out; omega)
      have HR := Lib.hid hR
      generalize rightB (mk t) (x.toNat : Int) = br at *
      clear H1 hR
      obtain ⟨A2, hA2⟩ : ∃ A2, (if cap = 2 then some (⟨b, o, none⟩ : Addr) else some ⟨b, o + 2, none⟩) = A2 := ⟨_, rfl⟩
      rw [hA2] at HD
      have hcv := conv_cells ((HD.out.kept ((Kept.refl NoBlk w).alloc (.cells #[.string ⟨#[]⟩, .int .u8 0] 34))).kept (Kept.refl NoBlk _).drew)
      have hcv2 := conv_cells (HD.out.kept (((Kept.refl NoBlk w).alloc (.cells #[.string ⟨#[]⟩, .int .u8 0] 34)).alloc (.cells #[.string ⟨#[]⟩, .int .u8 0] 34)).drew)
      rw [show t.length = N - 2 by have := hN2.out; omega] at hcv hcv2
      have hlt := (Nat.lt_of_lt_of_le hb (Nat.le_refl _))
      go_enter Tryd.func38, Tryd.ntmps38
      go_wp2
      refine wp_region_plan (by kernel_rfl) (.q 0 <| .q 1 <| .q 2 <| .q 3 <| .q 4 <| .q 5 <| .q 6 <| .e 7 [0, 1, 2, 3, 4, 5, 6] <| .e 8 [] <| .nil) (by kernel_rfl) (by kernel_rfl) ?_
      repeat (refine plan_q rfl (fun K hK => ?_); go_simp; refine hK _ ?_; clear hK K)
      refine plan_e rfl (fun K hK => ?_)
      go_simp
      refine hK _ _ (by (repeat (refine stab_cons rfl ?_ ?_; focus (go_simp; done))); exact stab_nil) ?_
      clear hK K
      refine plan_e rfl (fun K hK => ?_)
      go_simp
      refine hK _ _ stab_nil ?_
      clear hK K
      refine plan_nil ?_
      clear hcv hcv2
      have hb0 : Blk (((w.alloc (.cells #[.string ⟨#[]⟩, .int .u8 0] 34)).alloc (.cells #[.string (mk t), .int .u8 (x.toNat : Int)] 34)).drew) w.heap.size 34 (capC ⟨#[]⟩ 0) := ((Blk.new w 34 _).alloc _).drew
      have hb1 : Blk (((w.alloc (.cells #[.string ⟨#[]⟩, .int .u8 0] 34)).alloc (.cells #[.string (mk t), .int .u8 (x.toNat : Int)] 34)).drew) (w.heap.size + 1) 34 (capC (mk t) (x.toNat : Int)) := (Blk.new_at (n := w.heap.size + 1) _ 34 _ (by simp)).drew
      have hk0 : Kept NoBlk w (((w.alloc (.cells #[.string ⟨#[]⟩, .int .u8 0] 34)).alloc (.cells #[.string (mk t), .int .u8 (x.toNat : Int)] 34)).drew) := (((Kept.refl _ _).alloc _).alloc _).drew
      generalize (((w.alloc (.cells #[.string ⟨#[]⟩, .int .u8 0] 34)).alloc (.cells #[.string (mk t), .int .u8 (x.toNat : Int)] 34)).drew) = W at *
      generalize mk t = m at *
      generalize (x.toNat : Int) = r at *
      unfold capV at HR
      obtain ⟨a0, a1⟩ := cap_cells hb0
      obtain ⟨d0, d1⟩ := cap_cells hb1
      have HB0 := Lib.hid hb0
      have HB1 := Lib.hid hb1
      have HK0 := Lib.hid hk0
      have hne : w.heap.size ≠ w.heap.size + 1 := by omega
      clear hb0 hb1 hk0 a0 a1 c0 c1
      unfold capC at HB0 HB1
      have hlo : w.heap.size ≤ w.heap.size := Nat.le_refl _
      have FIN : Hid (∀ (w1 : World) (n' : ByteArray) (r' : Int), Blk w1 w.heap.size 34 (capC ⟨#[]⟩ 0) → Kept NoBlk w w1 →
          Hid (((w1.setCell ⟨w.heap.size, 0, none⟩ (.string n')).setCell ⟨w.heap.size, 1, none⟩ (.int .u8 r')).cell? ⟨w.heap.size, 0, none⟩ = some (.string n')) ∧
          Hid (((w1.setCell ⟨w.heap.size, 0, none⟩ (.string n')).setCell ⟨w.heap.size, 1, none⟩ (.int .u8 r')).cell? ⟨w.heap.size, 1, none⟩ = some (.int .u8 r')) ∧
          Hid (Kept NoBlk w ((w1.setCell ⟨w.heap.size, 0, none⟩ (.string n')).setCell ⟨w.heap.size, 1, none⟩ (.int .u8 r')))) :=
        Lib.hid fun w1 n' r' h1 h2 => by
          obtain ⟨z0, z1⟩ := cap_cells (cap_stored (n' := n') (r' := r') h1)
          exact ⟨Lib.hid z0, Lib.hid z1, Lib.hid ((h2.setCell (newHit hlo) _).setCell (newHit hlo) _)⟩
      go_wp2_with fail
      refine (HR.out _).mono ?_
      rintro e w3 ⟨rfl, hk3⟩
      have q0 := HB0.out.kept hk3 (fun e => e)
      have q1 := HB1.out.kept hk3 (fun e => e)
      have HK4 := HK0.out.trans hk3
      obtain ⟨a0, a1⟩ := cap_cells q0
      obtain ⟨f0, f1⟩ := cap_cells q1
      have fr := q0.frozen
      have fr1 := q1.frozen
      cases br with
      | false =>
        have HV3 : Hid (V = (⟨#[]⟩, 0, 3)) := Lib.hid (by rw [HV2.out, if_neg (by simp)])
        obtain ⟨Z0, Z1, ZK⟩ := FIN.out w3 ⟨#[]⟩ 0 q0 HK4
        clear q0 q1 HB0 HB1 HK0 hk3 d0 d1
        go_wp2
        refine bodyPost_ret (v := .tuple #[.agg #[.string ⟨#[]⟩, .int .u8 0], .int .i64 3]) (by simp [results, Tryd.f38, go_sem, Z0.out, Z1.out]) rfl ⟨by rw [HV3.out]; rfl, ZK.out⟩
      | true =>
        have HV3 : Hid (V = (m, r, 0)) := Lib.hid (by rw [HV2.out, if_pos rfl])
        obtain ⟨Z0, Z1, ZK⟩ := FIN.out w3 m r q0 HK4
        clear q0 q1 HB0 HB1 HK0 hk3 d0 d1
        go_wp2
        refine bodyPost_ret (v := .tuple #[.agg #[.string m, .int .u8 r], .int .i64 0]) (by simp [results, Tryd.f38, go_sem, Z0.out, Z1.out]) rfl ⟨by rw [HV3.out]; rfl, ZK.out⟩
    · have hy2 : ((y.toNat : Int) != (N : Int) - 2) = true := bne_iff_ne.2 (fun e => hy (by have := hN2.out; omega))
      have HV2 : Hid (V = (⟨#[]⟩, 0, 3)) := Lib.hid (by rw [HV.out]; unfold decP; simp only; rw [if_neg (fun h => hy h.1)])
      clear hy
      go_enter Tryd.func38, Tryd.ntmps38
      go_wp2
      refine bodyPost_ret (v := .tuple #[.agg #[.string ⟨#[]⟩, .int .u8 0], .int .i64 3]) (by simp [results, Tryd.f38, go_sem]) rfl ⟨by rw [HV2.out]; rfl, by repeat (with_reducible first | exact Kept.refl _ _ | apply Kept.drew | apply Kept.drewN | apply Kept.alloc | exact oneHit | apply Kept.setCell)⟩
end Go.Proofs.YtlaplonmbnncaaaDoor
