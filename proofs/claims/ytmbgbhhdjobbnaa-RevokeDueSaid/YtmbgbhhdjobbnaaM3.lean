/- The laws of revoke, walked: Out. -/
import Derived.Test.YtmbgbhhdjobbnaaM2
namespace Go.Proofs.Ytmbgbhhdjobbnaa
open Go.RowKit Go.Maps

theorem open_B (w : World) (g m n : Nat) (S : St) (hI : Inv S n) (h : PB w g m S) : Calls Try.prog 14 #[.pointer (some ⟨g, 0, none⟩)] w fun x w' => ∃ A c, x = .returned (.slice A S.op.length c) ∧ Row w' 37 3 (.slice A S.op.length c) S.op.length (asks S.op) ∧ Kept NoBlk w w' := by
  obtain ⟨v, r, h⟩ := h
  have hl := hI.len
  exact open_any w g m S v r h (by omega)
theorem out_B (w : World) (g m n : Nat) (S : St) (hI : Inv S n) (h : PB w g m S) (i : Nat) (hi : i < 6) :
   Calls Try.prog 15 #[.pointer (some ⟨g, 0, none⟩), .int .u8 i] w fun x w' => x = .returned (.int .i64 (S.op.filter (qOut i)).length) ∧ PB w' g m (outSt S i) ∧ Kept (TwoBlk g m) w w' := by
  obtain ⟨v, r, h⟩ := h
  have hl := hI.len
  exact (out_any w g m S v r h hI.dis hI.ok (by omega) i hi).mono (fun e w' ⟨h1, v', r', h2, h3⟩ => ⟨h1, ⟨v', r', h2⟩, h3⟩)
theorem lost_in (w : World) (g m n : Nat) (S : St) (hI : Inv S n) (hn : n ≤ 1000) (h : PB w g m S) (i : Nat) (hi : i < 6) :
   Calls Try.prog 12 #[.pointer (some ⟨g, 0, none⟩), .int .u8 i] w fun x w' => ∃ A c, x = .returned (.slice A (S.lost i).length c) ∧ Row w' 5 1 (.slice A (S.lost i).length c) (S.lost i).length (u8s (S.lost i)) ∧ Kept NoBlk w w' := by
  have := lost_B w g m S n hI hn h i
  rw [if_pos hi] at this
  exact this

set_option maxHeartbeats 4000000 in
theorem outs_any (w : World) (A : Option Addr) (n cap : Nat) (hD : IsDeeds w A n) (e : Int) (he : 0 ≤ e) (he2 : e ≤ 255) :
   Calls Try.prog 4 #[.slice A n cap, .int .u8 e] w (TrueKept w) := by
  have HP := Lib.hid (play_any w A n cap hD)
  clear hD
  go_enter Try.func4, Try.ntmps4
  go_wp2_with fail
  refine (HP.out).mono ?_
  rintro e' w1 ⟨g, m, h, rfl, hg, hm, hh, S, hI, hB, hR, hK⟩
  go_wp2_with fail
  refine (live_any w1).mono ?_
  rintro e' w2 ⟨rfl, hK2⟩
  have hB2 := hB.kept hK2
  have hk2 := hK.trans hK2
  go_wp2_with fail
  refine (open_B w2 g m 50 S hI hB2).mono ?_
  rintro e' w3 ⟨A3, c3, rfl, hr3, hK3⟩
  have hB3 := hB2.kept hK3
  have hk3 := hk2.trans hK3
  clear hB hR hK hK2 hB2 hk2 hr3 hK3
  obtain ⟨i, hi⟩ : ∃ i : Nat, e % 6 = (i : Int) := ⟨(e % 6).toNat, by omega⟩
  obtain ⟨k, hk⟩ : ∃ k : Nat, (e + 1) % 6 = (k : Int) := ⟨((e + 1) % 6).toNat, by omega⟩
  have hi6 : i < 6 := by omega
  have hk6 : k < 6 := by omega
  have hki : k ≠ i := by omega
  have hL4 := Lib.hid (lost_in w3 g m 50 S hI (by omega) hB3 k hk6)
  have HI6 := Lib.hid hi
  have HK6 := Lib.hid hk
  clear hi hk
  go_wp2_with fail
  rw [HK6.out]
  refine (hL4.out).mono ?_
  rintro e' w4 ⟨A4, c4, rfl, hr4, hK4⟩
  have hB4 := hB3.kept hK4
  have hk4 := hk3.trans hK4
  have hO5 := Lib.hid (out_B w4 g m 50 S hI hB4 i hi6)
  have hI5 : Inv (outSt S i) 50 := hI.out i
  have hl8 := hI.len
  have hspl := filter_split S.op (qOut i)
  have hge4 : ∀ b, TwoBlk g m b → w.heap.size ≤ b := fun b e => by rcases e with e | e <;> omega
  have hr4' : ∀ w', Kept (TwoBlk g m) w4 w' → Row w' 5 1 (.slice A4 (S.lost k).length c4) (S.lost k).length (u8s (S.lost k)) := fun w' hk => by
    obtain ⟨v, r, hB⟩ := hB4
    exact hr4.kept hk (fun b cs hb e => by
      rcases e with e | e
      · exact hb.ne_ hB.blk (by decide) e
      · exact hB.map.ne hb e.symm)
  clear hB3 hB4 hr4 hK4 hL4
  go_wp2_with fail
  rw [HI6.out]
  refine (hO5.out).mono ?_
  rintro e' w5 ⟨rfl, hB5, hK5⟩
  have hr5 := hr4' w5 hK5
  have hk5 := Kept.fresh hk4 hK5 hge4
  have hO6 := Lib.hid (open_B w5 g m 50 _ hI5 hB5)
  clear hr4'
  go_wp2_with fail
  refine (hO6.out).mono ?_
  rintro e' w6 ⟨A6, c6, rfl, hr6, hK6⟩
  have HR6 := Lib.hid hr6
  have HB6 := Lib.hid (hB5.kept hK6)
  have HL6 := Lib.hid (hr5.kept hK6 (fun _ _ _ e => e))
  have hk6' := hk5.trans hK6
  have HK := Lib.hid hk6'
  have HI5 := Lib.hid hI5
  have hmem : ∀ x ∈ (outSt S i).op, ¬ x.1 = (i : Int) := fun x hx => by
    have := (List.mem_filter.1 hx).2
    simpa [qOut] using this
  have HM := Lib.hid hmem
  obtain ⟨op', hop'⟩ : ∃ o, o = (outSt S i).op := ⟨_, rfl⟩
  have hlen2 : (S.op.filter (qOut i)).length + op'.length = S.op.length := by rw [hop']; exact hspl
  rw [← hop'] at HR6 HM ⊢
  generalize (S.op.filter (qOut i)).length = n1 at *
  generalize S.op.length = n0 at *
  have hsub : (n0 : Int) - (op'.length : Int) = n1 := by omega
  have HL5 := Lib.hid (show (outSt S i).lost i = [] by simp [outSt])
  have HLK := Lib.hid (show (outSt S i).lost k = S.lost k by simp [outSt, leave, hki])
  clear hI5 hB5 hr5 hK5 hK6 hk5 hk4 hk3 hr6 hk6' hmem hop' hO5 hO6 hI hspl
  have HIK := Lib.hid (show ((i : Int) + 1) % 6 = (k : Int) by have a := HI6.out; have b := HK6.out; omega)
  go_wp2
  go_loopw [12] (fun iv wr => ∃ (j : Nat), j ≤ op'.length ∧ iv = .int .i64 j ∧ Row wr 37 3 (.slice A6 op'.length c6) op'.length (asks op') ∧ wr = w6) (fun iv _ => op'.length - (intOf iv).toNat)
  case atStart => exact ⟨0, by omega, rfl, HR6.out, rfl⟩
  case round =>
    obtain ⟨j, hj, rfl, hr, rfl⟩ := hrel
    clear HR6
    have HR6 := Lib.hid hr
    clear hr
    by_cases hlt : j < op'.length
    · obtain ⟨⟨e1, f1, u1⟩, hx⟩ : ∃ x, op'[j]? = some x := ⟨_, List.getElem?_eq_getElem hlt⟩
      have hne : ¬ e1 = (i : Int) := HM.out _ (List.mem_of_getElem? hx)
      obtain ⟨b, off, cap', hv', h1, h2, hb, hcs, hcc⟩ := HR6.out.place (by omega)
      injection hv' with q1 q2 q3
      subst q1 q3
      obtain ⟨x1, x2, x3⟩ := asks_at _ j _ _ u1 hx
      have c1 := hcc _ _ x1
      have c2 := hcc _ _ x2
      clear hcc x1 x2 x3 hx
      go_wp2
      go_roundw
      case rel => exact ⟨j + 1, by omega, by go_num, HR6.out, trivial⟩
      case measure => simp [intOf]; omega
    · obtain rfl : j = op'.length := by omega
      have hik : (IntKind.u8.wrap ((i : Int) + 1)).tmod 6 = (k : Int) := by
        have a := HIK.out
        have b : IntKind.u8.wrap ((i : Int) + 1) = (i : Int) + 1 := by rw [IntKind.wrap_u8]; omega
        rw [b, Int.tmod_eq_emod_of_nonneg (by omega)]
        exact a
      have hwn : IntKind.i64.wrap (n1 : Int) = n1 := by rw [IntKind.wrap_i64]; omega
      have hLI := Lib.hid (fun wr' (hk : Kept NoBlk wr wr') => (lost_in wr' g m 50 _ HI5.out (by omega) (HB6.out.kept hk) i hi6).mono (fun e w' ⟨A, c, h1, _, h3⟩ => (⟨A, c, by rw [h1, HL5.out]; rfl, h3⟩ : ∃ A c, e = Ending.returned (.slice A 0 c) ∧ Kept NoBlk wr' w')))
      have hLK := Lib.hid (fun wr' (hk : Kept NoBlk wr wr') => (lost_in wr' g m 50 _ HI5.out (by omega) (HB6.out.kept hk) k hk6).mono (fun e w' ⟨A, c, h1, h2, h3⟩ => (⟨A, c, by rw [h1, HLK.out], by rw [HLK.out] at h2; exact h2, h3⟩ : ∃ A c, e = Ending.returned (.slice A (S.lost k).length c) ∧ Row w' 5 1 (.slice A (S.lost k).length c) (S.lost k).length (u8s (S.lost k)) ∧ Kept NoBlk wr' w')))
      go_wp2
      refine wp_region_plan (by kernel_rfl) (.q 0 <| .q 1 <| .q 2 <| .q 3 <| .q 4 <| .q 5 <| .q 6 <| .q 7 <| .q 8 <| .q 9 <| .e 10 [] <| .q 11 <| .q 12 <| .q 13 <| .q 14 <| .q 15 <| .q 16 <| .q 17 <| .q 18 <| .q 21 <| .q 22 <| .e 19 [21, 22] <| .q 20 <| .q 23 <| .q 24 <| .q 25 <| .nil) (by kernel_rfl) (by kernel_rfl) ?_
      repeat (refine plan_q rfl (fun K hK => ?_); go_simp; refine hK _ ?_; clear hK K)
      refine plan_e rfl (fun K hK => ?_)
      go_simp
      refine ((hLI.out _ (Kept.refl _ _).drew)).mono ?_
      rintro e' w7 ⟨A7, c7, rfl, hK7⟩
      have hk7 : Kept NoBlk wr w7 := Kept.trans (by repeat (with_reducible first | exact Kept.refl _ _ | apply Kept.drew | apply Kept.drewN | apply Kept.alloc | exact oneHit | apply Kept.setCell)) hK7
      refine hK _ _ stab_nil ?_
      clear hK K
      have hcv4 := conv_row w7 A4 _ c4 _ (HL6.out.kept hk7 (fun _ _ _ e => e))
      repeat (refine plan_q rfl (fun K hK => ?_); go_simp; refine hK _ ?_; clear hK K)
      refine plan_e rfl (fun K hK => ?_)
      go_simp
      refine ((hLK.out _ hk7)).mono ?_
      rintro e' w8 ⟨A8, c8, rfl, hr8, hK8⟩
      have hk8 := hk7.trans hK8
      have hcv5 := conv_row w8 A4 _ c4 _ (HL6.out.kept hk8 (fun _ _ _ e => e))
      have hcv6 := conv_row w8 A8 _ c8 _ hr8
      refine hK _ _ (by (repeat (refine stab_cons rfl ?_ ?_; focus (go_simp; done))); exact stab_nil) ?_
      clear hK K
      repeat (refine plan_q rfl (fun K hK => ?_); go_simp; refine hK _ ?_; clear hK K)
      refine plan_nil ?_
      go_wp2
      go_ret
      exact trueKept_mk rfl (HK.out.trans hk8)
end Go.Proofs.Ytmbgbhhdjobbnaa
