/- The reference's Decode. -/
import Derived.Test.YtlaplonmbnncaaaDoorF1
import Derived.Test.YtlaplonmbnncaaaDoorE2
namespace Go.Proofs.YtlaplonmbnncaaaDoor
open Go.RowKit Go.Shelf
set_option maxRecDepth 100000

set_option maxHeartbeats 4000000 in
theorem rdecode_any (w : World) (v : Value) (l : List UInt8) (hl : CellsB w v l) (h300 : l.length ≤ 300) (hT : Tabs w) : Calls Tryd.prog 39 #[v] w fun e w' => e = .returned (outV (decP l)) ∧ Kept NoBlk w w' := by
  obtain ⟨A, cap, rfl, h1, h2, h3⟩ := hl
  unfold outV
  have ERR : ∀ (u : World), Kept NoBlk w u → Kept NoBlk w u := fun _ h => h
  match l, h1, h3, h300 with
  | [], h1, h3, _ =>
    go_enter Tryd.func39, Tryd.ntmps39
    go_wp2
    refine bodyPost_ret (v := .tuple #[.agg #[.string ⟨#[]⟩, .int .u8 0], .int .i64 3]) (by simp [results, Tryd.f39, go_sem]) rfl ⟨rfl, by repeat (with_reducible first | exact Kept.refl _ _ | apply Kept.drew | apply Kept.drewN | apply Kept.alloc | exact oneHit | apply Kept.setCell)⟩
  | [x], h1, h3, _ =>
    go_enter Tryd.func39, Tryd.ntmps39
    go_wp2
    refine bodyPost_ret (v := .tuple #[.agg #[.string ⟨#[]⟩, .int .u8 0], .int .i64 3]) (by simp [results, Tryd.f39, go_sem]) rfl ⟨rfl, by repeat (with_reducible first | exact Kept.refl _ _ | apply Kept.drew | apply Kept.drewN | apply Kept.alloc | exact oneHit | apply Kept.setCell)⟩
  | x :: y :: t, h1, h3, h300 =>
    obtain ⟨b, o, rfl, hb, hc⟩ := h3 (by simp)
    simp only [List.length_cons] at h300
    have hnx : x.toNat < 256 := by have := x.toNat_lt; omega
    have H1 := Lib.hid (fun w hT => rencode_any w (mk t) x.toNat (by rw [mk_size]; omega) hnx hT)
    have HT := Lib.hid hT
    have HCB : Hid (CellsB w (.slice (some ⟨b, o, none⟩) (x :: y :: t).length cap) (x :: y :: t)) := Lib.hid ⟨_, _, rfl, h1, h2, h3⟩
    clear hT h300
    have c0 := hc 0 (by simp)
    have c1 := hc 1 (by simp)
    simp only [List.getElem_cons_zero, List.getElem_cons_succ, Nat.add_zero] at c0 c1
    have HD := Lib.hid (cells_drop hc hb h1 h2)
    clear hc h3
    obtain ⟨N, hN⟩ : ∃ N, N = (x :: y :: t).length := ⟨_, rfl⟩
    have hN2 : Hid (N = t.length + 2) := Lib.hid hN
    rw [← hN] at h1 ⊢
    have hN3 : (2 : Int) ≤ N := by have := hN2.out; omega
    have hN4 : (0 : Int) < N := by omega
    have hN5 : 0 < N := by omega
    have hmx : (N : Int) ≤ 9223372036854775807 := by simp only [maxLen] at h2; omega
    have hyl : (y.toNat : Int) < 256 := by have := y.toNat_lt; omega
    rw [← hN] at HCB
    obtain ⟨V, hV⟩ : ∃ V, decP (x :: y :: t) = V := ⟨_, rfl⟩
    rw [hV]
    have HV := Lib.hid hV.symm
    clear hV hN h2 hyl c1
    have HEQ : Hid (rightB (mk t) (x.toNat : Int) = true → (V = if mk (encL (mk t) x.toNat) = mk (x :: y :: t) then (mk t, (x.toNat : Int), 0) else (⟨#[]⟩, 0, 3))) := Lib.hid (fun hr => by
      have h79 := (rightB_parts hr).1
      rw [mk_size] at h79
      rw [HV.out]; unfold decP; simp only
      by_cases hy : y.toNat = t.length
      · rw [if_pos ⟨hy, hr⟩, if_pos]
        unfold encL
        rw [mk_size, mk_list, UInt8.ofNat_toNat, ← hy, UInt8.ofNat_toNat]
      · rw [if_neg (fun h => hy h.1), if_neg]
        intro e
        have e2 := congrArg (fun s : ByteArray => s.data.toList) e
        simp only [mk_list] at e2
        unfold encL at e2
        injection e2 with _ e2
        injection e2 with e2 _
        rw [mk_size] at e2
        exact hy (by rw [← e2, UInt8.toNat_ofNat_of_lt' (by show t.length < 256; omega)]))
    have HNO : Hid (rightB (mk t) (x.toNat : Int) = false → V = (⟨#[]⟩, 0, 3)) := Lib.hid (fun hr => by
      rw [HV.out]; unfold decP; simp only; rw [if_neg (fun h => by rw [hr] at h; exact absurd h.2 (by decide))])
    by_cases hdum : True
    · generalize (x :: y :: t) = lb at *
      generalize encL (mk t) x.toNat = le at *
      generalize rightB (mk t) (x.toNat : Int) = br at *
      have HR := H1
      clear HV hdum
      obtain ⟨A2, hA2⟩ : ∃ A2, (if cap = 2 then some (⟨b, o, none⟩ : Addr) else some ⟨b, o + 2, none⟩) = A2 := ⟨_, rfl⟩
      rw [hA2] at HD
      have HT2 := Lib.hid (HT.out.kept (((Kept.refl NoBlk w).alloc (.cells #[.string ⟨#[]⟩, .int .u8 0] 34)).alloc (.cells #[.string (mk t), .int .u8 (x.toNat : Int)] 34)).drew)
      have HCB2 := Lib.hid (HCB.out.kept (((Kept.refl NoBlk w).alloc (.cells #[.string ⟨#[]⟩, .int .u8 0] 34)).alloc (.cells #[.string (mk t), .int .u8 (x.toNat : Int)] 34)).drew)
      have hcv := conv_cells ((HD.out.kept ((Kept.refl NoBlk w).alloc (.cells #[.string ⟨#[]⟩, .int .u8 0] 34))).kept (Kept.refl NoBlk _).drew)
      have hcv2 := conv_cells (HD.out.kept (((Kept.refl NoBlk w).alloc (.cells #[.string ⟨#[]⟩, .int .u8 0] 34)).alloc (.cells #[.string ⟨#[]⟩, .int .u8 0] 34)).drew)
      rw [show t.length = N - 2 by have := hN2.out; omega] at hcv hcv2
      have hlt := (Nat.lt_of_lt_of_le hb (Nat.le_refl _))
      go_enter Tryd.func39, Tryd.ntmps39
      go_wp2
      refine wp_region_plan (by kernel_rfl) (.q 0 <| .q 1 <| .q 2 <| .q 3 <| .q 4 <| .q 5 <| .q 6 <| .e 7 [0, 1, 2, 3, 4, 5, 6] <| .e 8 [] <| .nil) (by kernel_rfl) (by kernel_rfl) ?_
      repeat (refine plan_q rfl (fun K hK => ?_); go_simp; refine hK _ ?_; clear hK K)
      refine plan_e rfl (fun K hK => ?_)
      go_simp
      refine hK _ _ (by (repeat (refine stab_cons rfl ?_ ?_; focus (go_simp; done))); exact stab_nil) ?_
      clear hK K
      refine plan_e rfl (fun K hK => ?_)
      go_simp
      refine hK _ _ stab_nil ?_
      clear hK K
      refine plan_nil ?_
      clear hcv hcv2
      have hb0 : Blk (((w.alloc (.cells #[.string ⟨#[]⟩, .int .u8 0] 34)).alloc (.cells #[.string (mk t), .int .u8 (x.toNat : Int)] 34)).drew) w.heap.size 34 (capC ⟨#[]⟩ 0) := ((Blk.new w 34 _).alloc _).drew
      have hb1 : Blk (((w.alloc (.cells #[.string ⟨#[]⟩, .int .u8 0] 34)).alloc (.cells #[.string (mk t), .int .u8 (x.toNat : Int)] 34)).drew) (w.heap.size + 1) 34 (capC (mk t) (x.toNat : Int)) := (Blk.new_at (n := w.heap.size + 1) _ 34 _ (by simp)).drew
      have hk0 : Kept NoBlk w (((w.alloc (.cells #[.string ⟨#[]⟩, .int .u8 0] 34)).alloc (.cells #[.string (mk t), .int .u8 (x.toNat : Int)] 34)).drew) := (((Kept.refl _ _).alloc _).alloc _).drew
      generalize (((w.alloc (.cells #[.string ⟨#[]⟩, .int .u8 0] 34)).alloc (.cells #[.string (mk t), .int .u8 (x.toNat : Int)] 34)).drew) = W at *
      generalize mk t = m at *
      generalize (x.toNat : Int) = r at *
      unfold capV at HR
      obtain ⟨a0, a1⟩ := cap_cells hb0
      obtain ⟨d0, d1⟩ := cap_cells hb1
      have HB0 := Lib.hid hb0
      have HB1 := Lib.hid hb1
      have HK0 := Lib.hid hk0
      have hne : w.heap.size ≠ w.heap.size + 1 := by omega
      clear hb0 hb1 hk0 a0 a1 c0
      unfold capC at HB0 HB1
      have hlo : w.heap.size ≤ w.heap.size := Nat.le_refl _
      have FIN : Hid (∀ (w1 : World) (n' : ByteArray) (r' : Int), Blk w1 w.heap.size 34 (capC ⟨#[]⟩ 0) → Kept NoBlk w w1 →
          Hid (((w1.setCell ⟨w.heap.size, 0, none⟩ (.string n')).setCell ⟨w.heap.size, 1, none⟩ (.int .u8 r')).cell? ⟨w.heap.size, 0, none⟩ = some (.string n')) ∧
          Hid (((w1.setCell ⟨w.heap.size, 0, none⟩ (.string n')).setCell ⟨w.heap.size, 1, none⟩ (.int .u8 r')).cell? ⟨w.heap.size, 1, none⟩ = some (.int .u8 r')) ∧
          Hid (Kept NoBlk w ((w1.setCell ⟨w.heap.size, 0, none⟩ (.string n')).setCell ⟨w.heap.size, 1, none⟩ (.int .u8 r')))) :=
        Lib.hid fun w1 n' r' h1 h2 => by
          obtain ⟨z0, z1⟩ := cap_cells (cap_stored (n' := n') (r' := r') h1)
          exact ⟨Lib.hid z0, Lib.hid z1, Lib.hid ((h2.setCell (newHit hlo) _).setCell (newHit hlo) _)⟩
      go_wp2_with fail
      refine (HR.out _ HT2.out).mono ?_
      rintro e w3 ⟨hk3, h⟩
      have q0 := HB0.out.kept hk3 (fun e => e)
      have q1 := HB1.out.kept hk3 (fun e => e)
      have HK4 := HK0.out.trans hk3
      have HC3 := HCB2.out.kept hk3
      obtain ⟨a0, a1⟩ := cap_cells q0
      obtain ⟨f0, f1⟩ := cap_cells q1
      have fr := q0.frozen
      have fr1 := q1.frozen
      rcases h with ⟨hb', v, rfl, hcv⟩ | ⟨hb', rfl⟩
      · have hs1 := conv_cells hcv
        have hs2 := conv_cells HC3
        have hve := HEQ.out hb'
        generalize mk le = s1 at *
        generalize mk lb = s2 at *
        by_cases hss : s1 = s2
        · have HV3 : Hid (V = (m, r, 0)) := Lib.hid (by rw [hve, if_pos hss])
          subst hss
          obtain ⟨Z0, Z1, ZK⟩ := FIN.out w3 m r q0 HK4
          clear q0 q1 HB0 HB1 HK0 hk3 d0 d1 HNO HEQ hcv HC3 hve
          go_wp2
          refine bodyPost_ret (v := .tuple #[.agg #[.string m, .int .u8 r], .int .i64 0]) (by simp [results, Tryd.f39, go_sem, Z0.out, Z1.out]) rfl ⟨by rw [HV3.out]; rfl, ZK.out⟩
        · have HV3 : Hid (V = (⟨#[]⟩, 0, 3)) := Lib.hid (by rw [hve, if_neg hss])
          have hss2 : (s1.toList == s2.toList) = false := beq_eq_false_iff_ne.2 (fun e => hss (by rw [ByteArray.toList_eq, ByteArray.toList_eq] at e; rw [← mk_of s1, ← mk_of s2, e]))
          obtain ⟨Z0, Z1, ZK⟩ := FIN.out w3 ⟨#[]⟩ 0 q0 HK4
          clear q0 q1 HB0 HB1 HK0 hk3 d0 d1 HNO HEQ hcv HC3 hve
          go_wp2
          refine bodyPost_ret (v := .tuple #[.agg #[.string ⟨#[]⟩, .int .u8 0], .int .i64 3]) (by simp [results, Tryd.f39, go_sem, Z0.out, Z1.out]) rfl ⟨by rw [HV3.out]; rfl, ZK.out⟩
      · have HV3 : Hid (V = (⟨#[]⟩, 0, 3)) := Lib.hid (HNO.out hb')
        obtain ⟨Z0, Z1, ZK⟩ := FIN.out w3 ⟨#[]⟩ 0 q0 HK4
        clear q0 q1 HB0 HB1 HK0 hk3 d0 d1 HNO HEQ HC3
        go_wp2
        refine bodyPost_ret (v := .tuple #[.agg #[.string ⟨#[]⟩, .int .u8 0], .int .i64 3]) (by simp [results, Tryd.f39, go_sem, Z0.out, Z1.out]) rfl ⟨by rw [HV3.out]; rfl, ZK.out⟩
    · exact absurd trivial hdum
end Go.Proofs.YtlaplonmbnncaaaDoor
