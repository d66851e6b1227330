/- The reference's pool: its deeds. -/
import Derived.Test.YtfoeckaeongahaaDoorR2
import Derived.Test.YtfoeckaeongahaaDoorRD5
namespace Go.Proofs.YtfoeckaeongahaaDoor
open Go.RowKit Go.Shelf
set_option maxRecDepth 100000

def RDone (w : World) (rb : Nat) (v : Value) (S : PSt) (x : Ending) (w' : World) : Prop := x = .returned v ∧ RI w' rb S ∧ Kept (OneBlk rb) w w'
/-- How many each has is told by the frames. -/
def Told (S : PSt) : Prop := ∀ e, e < 6 → S.count e = ((framesL S e).length : Int)
theorem Inv.told {n : Nat} {S : PSt} (h : Inv n S) : Told S := fun e he => by rw [h.count e he, framesL_in S e he]; rfl
theorem keptOne {w w' : World} {b : Nat} (h : Kept NoBlk w w') : Kept (OneBlk b) w w' := h.weaken fun _ _ e => e.elim
theorem idx_q (w : World) (b e : Nat) (h : e < 6) : (Instr.indexAt 65 (.pointer (some ⟨b, 513, none⟩)) (.int .u8 (e : Int))).run Tryd.prog w = .ok (.pointer (some ⟨b, 513 + e, none⟩)) w := idx_env w b 513 e h
theorem rquota_any (w : World) (rb : Nat) (S : PSt) (e : Nat) (n : Int) (h : RI w rb S) : Calls Tryd.prog 52 #[.pointer (some ⟨rb, 0, none⟩), .int .u8 (e : Int), .int .i64 n] w (RDone w rb (.int .i64 (quotaC e n)) (quotaT S e n)) := by
  have HM := Lib.hid (fun w h => rmay_any w rb e 0 S h (by omega))
  have lt1 := h.lt
  have fz1 := h.frozen
  have H := Lib.hid h
  clear h
  unfold quotaC quotaT
  by_cases he : e < 6
  · rw [if_pos ⟨he, by omega⟩] at HM
    have hx1 := fun w => idx_q w rb e he
    by_cases h0 : 0 ≤ n
    · have h0' : ¬ n < 0 := by omega
      by_cases h1 : n ≤ 64
      · rw [if_pos ⟨he, h0, h1⟩, if_pos ⟨he, h0, h1⟩]
        have h1' : ¬ (64 : Int) < n := by omega
        have HP := Lib.hid (H.out.setQuota e he n)
        have HK : Hid (Kept (OneBlk rb) w (w.setCell ⟨rb, 513 + e, none⟩ (.int .i64 n))) := Lib.hid ((Kept.refl _ w).setCell oneHit _)
        have c1 := H.out.cells.2.1 e he
        go_enter Tryd.func52, Tryd.ntmps52
        go_wp2_with fail
        refine (HM.out _ H.out).mono ?_
        rintro x w1 ⟨rfl, rfl⟩
        go_wp2
        go_ret
        exact ⟨rfl, HP.out, HK.out⟩
      · rw [if_neg (fun k => h1 k.2.2), if_neg (fun k => h1 k.2.2)]
        have h1' : (64 : Int) < n := by omega
        go_enter Tryd.func52, Tryd.ntmps52
        go_wp2_with fail
        refine (HM.out _ H.out).mono ?_
        rintro x w1 ⟨rfl, rfl⟩
        go_wp2
        go_ret
        exact ⟨rfl, H.out, Kept.refl _ _⟩
    · rw [if_neg (fun k => h0 k.2.1), if_neg (fun k => h0 k.2.1)]
      have h0' : n < 0 := by omega
      go_enter Tryd.func52, Tryd.ntmps52
      go_wp2_with fail
      refine (HM.out _ H.out).mono ?_
      rintro x w1 ⟨rfl, rfl⟩
      go_wp2
      go_ret
      exact ⟨rfl, H.out, Kept.refl _ _⟩
  · rw [if_neg (fun k => he k.1)] at HM
    rw [if_neg (fun k => he k.1), if_neg (fun k => he k.1)]
    go_enter Tryd.func52, Tryd.ntmps52
    go_wp2_with fail
    refine (HM.out _ H.out).mono ?_
    rintro x w1 ⟨rfl, rfl⟩
    go_wp2
    go_ret
    exact ⟨rfl, H.out, Kept.refl _ _⟩
/-- What gives a frame: the has-cell, then the event. -/
theorem giveS_as (S : PSt) (k : Int) (e i : Nat) : giveS S k e i = { ({ ({ S with own := upd S.own i (S.own i ||| 2 ^ e) } : PSt) with ev := S.ev ++ [(k, (e : Int), (i : Int))] } : PSt) with count := upd S.count e (S.count e + 1) } := rfl
theorem has_or (S : PSt) (e i : Nat) (hown : S.own i < 64) (he : e < 6) : ∀ k, k < 6 → (S.own i ||| 2 ^ e).testBit k = if k = e then true else (S.own i).testBit k := fun k hk => by
  rw [or_bit _ e k hown he hk]
  by_cases h : k = e
  · rw [if_pos h, decide_eq_true h, Bool.true_or]
  · rw [if_neg h, decide_eq_false h, Bool.false_or]
theorem has_clr (S : PSt) (e i : Nat) (hown : S.own i < 64) (he : e < 6) : ∀ k, k < 6 → (clr (S.own i) e).testBit k = if k = e then false else (S.own i).testBit k := fun k hk => by
  rw [clr_bit _ e k hown he hk]
  by_cases h : k = e
  · rw [if_pos h, decide_eq_true h]; rfl
  · rw [if_neg h, decide_eq_false h]; rfl
set_option maxHeartbeats 4000000 in
theorem rshare_any (w : World) (rb : Nat) (S : PSt) (f t i : Nat) (h : RI w rb S) (hS : Fit S) (hC : Told S) (hi256 : i < 256) : Calls Tryd.prog 54 #[.pointer (some ⟨rb, 0, none⟩), .int .u8 (f : Int), .int .u8 (t : Int), .int .u8 (i : Int)] w (RDone w rb (.int .i64 (shareC S f t i)) (shareT S f t i)) := by
  obtain ⟨V, hV⟩ : ∃ V : Int, shareC S f t i = V := ⟨_, rfl⟩
  obtain ⟨T, hT⟩ : ∃ T : PSt, shareT S f t i = T := ⟨_, rfl⟩
  rw [hV, hT]
  have HA := Lib.hid (fun w h => rmay_any w rb f i S h hi256)
  have H := Lib.hid h
  have FS := Lib.hid hS
  have hown := hS.own i
  have HCT := Lib.hid hC
  have lt1 := h.lt
  have fz := h.frozen
  clear h hS hC
  by_cases hat : f < 6 ∧ i < 8
  · rw [if_pos hat] at HA
    obtain ⟨he, hi⟩ := hat
    have hx1 := fun w => idx_has w rb i hi
    by_cases ht : t < 6
    · have ht' : ¬ (6 : Int) ≤ (t : Int) := by omega
      have c1 := H.out.has i f hi he
      have c2 := H.out.has i t hi ht
      have hx2 := fun w => idx_bit w rb (129 + i * 6) f he
      have hx3 := fun w => idx_bit w rb (129 + i * 6) t ht
      cases hf : (S.own i).testBit f with
      | false =>
        rw [hf] at c1
        have HV : Hid (V = 7) := Lib.hid (by rw [← hV]; unfold shareC; rw [if_pos ⟨he, hi⟩]; rw [if_pos ht]; rw [hf, if_neg (by decide)])
        have HT : Hid (T = S) := Lib.hid (by rw [← hT]; unfold shareT; rw [if_pos ⟨he, hi⟩]; rw [if_pos ht]; rw [hf, if_neg (by decide)])
        clear hV hT
        go_enter Tryd.func54, Tryd.ntmps54
        go_wp2_with fail
        refine (HA.out _ H.out).mono ?_
        rintro x w1 ⟨rfl, rfl⟩
        go_wp2
        go_ret
        exact ⟨by rw [HV.out]; rfl, by rw [HT.out]; exact H.out, Kept.refl _ _⟩
      | true =>
        rw [hf] at c1
        cases hg : (S.own i).testBit t with
        | true =>
          rw [hg] at c2
          have HV : Hid (V = 6) := Lib.hid (by rw [← hV]; unfold shareC; rw [if_pos ⟨he, hi⟩]; rw [if_pos ht]; rw [if_pos hf]; rw [if_pos hg])
          have HT : Hid (T = S) := Lib.hid (by rw [← hT]; unfold shareT; rw [if_pos ⟨he, hi⟩]; rw [if_pos ht]; rw [if_pos hf]; rw [if_pos hg])
          clear hV hT
          go_enter Tryd.func54, Tryd.ntmps54
          go_wp2_with fail
          refine (HA.out _ H.out).mono ?_
          rintro x w1 ⟨rfl, rfl⟩
          go_wp2
          go_ret
          exact ⟨by rw [HV.out]; rfl, by rw [HT.out]; exact H.out, Kept.refl _ _⟩
        | false =>
          rw [hg] at c2
          have HFR := Lib.hid (fun w h => rframes_any w rb S t h)
          have hct := HCT.out t ht
          have c3 := H.out.cells.2.1 t ht
          have hx4 := fun w => idx_q w rb t ht
          by_cases hq : S.quota t ≤ S.count t
          · have HV : Hid (V = 11) := Lib.hid (by rw [← hV]; unfold shareC; rw [if_pos ⟨he, hi⟩, if_pos ht, if_pos hf, hg, if_neg (by decide)]; unfold giveC; first | rw [if_pos hq] | rw [if_neg hq])
            have HT : Hid (T = S) := Lib.hid (by rw [← hT]; unfold shareT; rw [if_pos ⟨he, hi⟩, if_pos ht, if_pos hf, hg, if_neg (by decide)]; unfold giveT; first | rw [if_pos hq] | rw [if_neg hq])
            clear hV hT
            rw [hct] at hq
            go_enter Tryd.func54, Tryd.ntmps54
            go_wp2_with fail
            refine (HA.out _ H.out).mono ?_
            rintro x w1 ⟨rfl, rfl⟩
            go_wp2
            refine wp_region_plan (by kernel_rfl) (.q 0 <| .q 1 <| .q 4 <| .q 5 <| .q 6 <| .q 7 <| .q 8 <| .q 9 <| .e 2 [4, 5, 6, 7, 8, 9] <| .q 3 <| .q 10 <| .q 11 <| .nil) (by kernel_rfl) (by kernel_rfl) ?_
            repeat (refine plan_q rfl (fun K hK => ?_); go_simp; refine hK _ ?_; clear hK K)
            refine plan_e rfl (fun K hK => ?_)
            go_simp
            refine (HFR.out _ H.out.drew).mono ?_
            rintro x w1 ⟨v, rfl, ho, hk⟩
            obtain ⟨A, cap, rfl⟩ := own_form ho
            have HP := Lib.hid (H.out.drew.keptNo hk)
            have HK1 := Lib.hid ((Kept.refl NoBlk w).drew.trans hk)
            have d3 := HP.out.cells.2.1 t ht
            have d4 := HP.out.has i t hi ht
            have lt2 := HP.out.lt
            have fz2 := HP.out.frozen
            clear ho hk HFR
            refine hK _ _ (by (repeat (refine stab_cons rfl ?_ ?_; focus (go_simp; done))); exact stab_nil) ?_
            clear hK K
            repeat (refine plan_q rfl (fun K hK => ?_); go_simp; refine hK _ ?_; clear hK K)
            refine plan_nil ?_
            go_wp2
            go_ret
            exact ⟨by rw [HV.out]; rfl, by rw [HT.out]; exact HP.out, keptOne HK1.out⟩
          · have HV : Hid (V = 0) := Lib.hid (by rw [← hV]; unfold shareC; rw [if_pos ⟨he, hi⟩, if_pos ht, if_pos hf, hg, if_neg (by decide)]; unfold giveC; first | rw [if_pos hq] | rw [if_neg hq])
            have HT : Hid (T = giveS S 2 t i) := Lib.hid (by rw [← hT]; unfold shareT; rw [if_pos ⟨he, hi⟩, if_pos ht, if_pos hf, hg, if_neg (by decide)]; unfold giveT; first | rw [if_pos hq] | rw [if_neg hq])
            clear hV hT
            rw [hct] at hq
            have HNO := Lib.hid (fun w S' (h : RI w rb S') hl => rnote_any w rb S' 2 (t : Int) (i : Int) h hl)
            go_enter Tryd.func54, Tryd.ntmps54
            go_wp2_with fail
            refine (HA.out _ H.out).mono ?_
            rintro x w1 ⟨rfl, rfl⟩
            go_wp2
            refine wp_region_plan (by kernel_rfl) (.q 0 <| .q 1 <| .q 4 <| .q 5 <| .q 6 <| .q 7 <| .q 8 <| .q 9 <| .e 2 [4, 5, 6, 7, 8, 9] <| .q 3 <| .q 10 <| .q 11 <| .nil) (by kernel_rfl) (by kernel_rfl) ?_
            repeat (refine plan_q rfl (fun K hK => ?_); go_simp; refine hK _ ?_; clear hK K)
            refine plan_e rfl (fun K hK => ?_)
            go_simp
            refine (HFR.out _ H.out.drew).mono ?_
            rintro x w1 ⟨v, rfl, ho, hk⟩
            obtain ⟨A, cap, rfl⟩ := own_form ho
            have HP := Lib.hid (H.out.drew.keptNo hk)
            have HK1 := Lib.hid ((Kept.refl NoBlk w).drew.trans hk)
            have d3 := HP.out.cells.2.1 t ht
            have d4 := HP.out.has i t hi ht
            have lt2 := HP.out.lt
            have fz2 := HP.out.frozen
            clear ho hk HFR
            refine hK _ _ (by (repeat (refine stab_cons rfl ?_ ?_; focus (go_simp; done))); exact stab_nil) ?_
            clear hK K
            repeat (refine plan_q rfl (fun K hK => ?_); go_simp; refine hK _ ?_; clear hK K)
            refine plan_nil ?_
            have HP2 := Lib.hid (HP.out.setHas i t (S.own i ||| 2 ^ t) true hi ht (has_or S t i hown ht))
            have HK2 := Lib.hid ((keptOne (b := rb) HK1.out).setCell (p := ⟨rb, 129 + i * 6 + t, none⟩) oneHit (.bool true))
            go_wp2_with fail
            refine (HNO.out _ _ HP2.out FS.out.ev).mono ?_
            rintro x w3 ⟨rfl, hp3, hk3⟩
            have HP3 := Lib.hid (hp3.count (upd S.count t (S.count t + 1)))
            have HK3 := Lib.hid (HK2.out.trans hk3)
            clear hp3 hk3 HP2 HK2
            go_wp2
            go_ret
            exact ⟨by rw [HV.out]; rfl, by rw [HT.out]; exact HP3.out, HK3.out⟩
    · have ht' : (6 : Int) ≤ (t : Int) := by omega
      have HV : Hid (V = 2) := Lib.hid (by rw [← hV]; unfold shareC; rw [if_pos ⟨he, hi⟩]; rw [if_neg ht])
      have HT : Hid (T = S) := Lib.hid (by rw [← hT]; unfold shareT; rw [if_pos ⟨he, hi⟩]; rw [if_neg ht])
      clear hV hT
      go_enter Tryd.func54, Tryd.ntmps54
      go_wp2_with fail
      refine (HA.out _ H.out).mono ?_
      rintro x w1 ⟨rfl, rfl⟩
      go_wp2
      go_ret
      exact ⟨by rw [HV.out]; rfl, by rw [HT.out]; exact H.out, Kept.refl _ _⟩
  · rw [if_neg hat] at HA
    have HV : Hid (V = 2) := Lib.hid (by rw [← hV]; unfold shareC; rw [if_neg hat])
    have HT : Hid (T = S) := Lib.hid (by rw [← hT]; unfold shareT; rw [if_neg hat])
    clear hV hT
    go_enter Tryd.func54, Tryd.ntmps54
    go_wp2_with fail
    refine (HA.out _ H.out).mono ?_
    rintro x w1 ⟨rfl, rfl⟩
    go_wp2
    go_ret
    exact ⟨by rw [HV.out]; rfl, by rw [HT.out]; exact H.out, Kept.refl _ _⟩
set_option maxHeartbeats 8000000 in
theorem rgrant_any (w : World) (rb : Nat) (S : PSt) (e i : Nat) (n : ByteArray) (r : Int) (h : RI w rb S) (hS : Fit S) (hC : Told S) (hi256 : i < 256) (hn : n.size ≤ 1000) (hTB : Tabs w) : Calls Tryd.prog 53 #[.pointer (some ⟨rb, 0, none⟩), .int .u8 (e : Int), .int .u8 (i : Int), capV n r] w (RDone w rb (.int .i64 (grantC S e i n r)) (grantT S e i n r)) := by
  obtain ⟨V, hV⟩ : ∃ V : Int, grantC S e i n r = V := ⟨_, rfl⟩
  obtain ⟨T, hT⟩ : ∃ T : PSt, grantT S e i n r = T := ⟨_, rfl⟩
  rw [hV, hT]
  have HA := Lib.hid (fun w h => rmay_any w rb e i S h hi256)
  have HR := Lib.hid (fun w hT => rright_any w n r hn hT)
  have HTB := Lib.hid hTB
  have H := Lib.hid h
  have FS := Lib.hid hS
  have hown := hS.own i
  have HCT := Lib.hid hC
  have HB0 : Hid (Blk (w.alloc (.cells (capC n r) 42)) w.heap.size 42 (capC n r)) := Lib.hid (Blk.new _ _ _)
  have HP0 := Lib.hid (h.keptNo ((Kept.refl NoBlk w).alloc (.cells (capC n r) 42)))
  have HK0 : Hid (Kept NoBlk w (w.alloc (.cells (capC n r) 42))) := Lib.hid ((Kept.refl _ _).alloc _)
  have ltw := h.lt
  unfold capC at HB0 HP0 HK0
  unfold capV at HR ⊢
  clear h hS hC hTB
  by_cases hat : e < 6 ∧ i < 8
  · rw [if_pos hat] at HA
    obtain ⟨he, hi⟩ := hat
    have HOW := Lib.hid (fun w h => rowners_any w rb S i h hi256)
    have hol : ownersL S i = memTo (S.own i) 6 := if_pos hi
    have hoz := memTo_zero_ ⟨S.own i, hown⟩
    rw [hol] at HOW
    simp only at hoz
    cases hr : rightB n r with
    | false =>
      rw [hr] at HR
      have HV : Hid (V = 3) := Lib.hid (by rw [← hV]; unfold grantC; rw [if_pos ⟨he, hi⟩]; rw [hr, if_neg (by decide)])
      have HT : Hid (T = S) := Lib.hid (by rw [← hT]; unfold grantT; rw [if_pos ⟨he, hi⟩]; rw [hr, if_neg (by decide)])
      clear hV hT
      go_enter Tryd.func53, Tryd.ntmps53
      go_wp2_with fail
      refine (HA.out _ HP0.out).mono ?_
      rintro x w1 ⟨rfl, rfl⟩
      go_wp2_with fail
      refine (HR.out _ (HTB.out.kept HK0.out)).mono ?_
      rintro x w1 ⟨rfl, hk⟩
      have HP1 := Lib.hid (HP0.out.keptNo hk)
      have HB1 := Lib.hid (HB0.out.kept hk (fun e => e))
      have HK1 := Lib.hid (HK0.out.trans hk)
      clear hk
      go_wp2
      go_ret
      exact ⟨by rw [HV.out]; rfl, by rw [HT.out]; exact HP1.out, keptOne HK1.out⟩
    | true =>
      rw [hr] at HR
      by_cases h0 : S.own i = 0
      · rw [decide_eq_true h0] at hoz
        have hz := of_decide_eq_true hoz
        have HFR := Lib.hid (fun w h => rframes_any w rb S e h)
        have hct := HCT.out e he
        have hx4 := fun w => idx_q w rb e he
        by_cases hq : S.quota e ≤ S.count e
        · have HV : Hid (V = 11) := Lib.hid (by rw [← hV]; unfold grantC; rw [if_pos ⟨he, hi⟩, if_pos hr, if_pos h0]; exact if_pos hq)
          have HT : Hid (T = S) := Lib.hid (by rw [← hT]; unfold grantT; rw [if_pos ⟨he, hi⟩]; rw [if_pos hr]; rw [if_pos h0]; rw [if_pos hq])
          clear hV hT
          rw [hct] at hq
          go_enter Tryd.func53, Tryd.ntmps53
          go_wp2_with fail
          refine (HA.out _ HP0.out).mono ?_
          rintro x w1 ⟨rfl, rfl⟩
          go_wp2_with fail
          refine (HR.out _ (HTB.out.kept HK0.out)).mono ?_
          rintro x w1 ⟨rfl, hk⟩
          have HP1 := Lib.hid (HP0.out.keptNo hk)
          have HB1 := Lib.hid (HB0.out.kept hk (fun e => e))
          have HK1 := Lib.hid (HK0.out.trans hk)
          clear hk
          go_wp2_with fail
          refine (HOW.out _ HP1.out).mono ?_
          rintro x w2 ⟨v, rfl, ho, hk⟩
          obtain ⟨A, cap, rfl⟩ := own_form ho
          have HP2 := Lib.hid (HP1.out.keptNo hk)
          have HB2 := Lib.hid (HB1.out.kept hk (fun e => e))
          have HK2 := Lib.hid (HK1.out.trans hk)
          clear ho hk
          have d5 := HP2.out.cells.2.1 e he
          go_wp2
          refine wp_region_plan (by kernel_rfl) (.q 0 <| .q 1 <| .q 4 <| .q 5 <| .q 6 <| .q 7 <| .q 8 <| .q 9 <| .e 2 [4, 5, 6, 7, 8, 9] <| .q 3 <| .q 10 <| .q 11 <| .nil) (by kernel_rfl) (by kernel_rfl) ?_
          repeat (refine plan_q rfl (fun K hK => ?_); go_simp; refine hK _ ?_; clear hK K)
          refine plan_e rfl (fun K hK => ?_)
          go_simp
          refine (HFR.out _ HP2.out.drew).mono ?_
          rintro x w3 ⟨v, rfl, ho, hk⟩
          obtain ⟨A3, cap3, rfl⟩ := own_form ho
          have HP3 := Lib.hid (HP2.out.drew.keptNo hk)
          have HB3 := Lib.hid (HB2.out.drew.kept hk (fun e => e))
          have HK3 := Lib.hid (HK2.out.drew.trans hk)
          have d3 := HP3.out.cells.2.1 e he
          clear ho hk HFR
          refine hK _ _ (by (repeat (refine stab_cons rfl ?_ ?_; focus (go_simp; done))); exact stab_nil) ?_
          clear hK K
          repeat (refine plan_q rfl (fun K hK => ?_); go_simp; refine hK _ ?_; clear hK K)
          refine plan_nil ?_
          go_wp2
          go_ret
          exact ⟨by rw [HV.out]; rfl, by rw [HT.out]; exact HP3.out, keptOne HK3.out⟩
        · have HV : Hid (V = 0) := Lib.hid (by rw [← hV]; unfold grantC; rw [if_pos ⟨he, hi⟩, if_pos hr, if_pos h0]; exact if_neg hq)
          have HT : Hid (T = { giveS S 1 e i with gn := upd S.gn i n, gr := upd S.gr i r }) := Lib.hid (by rw [← hT]; unfold grantT; rw [if_pos ⟨he, hi⟩]; rw [if_pos hr]; rw [if_pos h0]; rw [if_neg hq])
          clear hV hT
          rw [hct] at hq
          have HNO := Lib.hid (fun w S' (h : RI w rb S') hl => rnote_any w rb S' 1 (e : Int) (i : Int) h hl)
          have hx1 := fun w => idx_has w rb i hi
          have hx2 := fun w => idx_bit w rb (129 + i * 6) e he
          have hx3 := fun w => idx_grd w rb i hi
          go_enter Tryd.func53, Tryd.ntmps53
          go_wp2_with fail
          refine (HA.out _ HP0.out).mono ?_
          rintro x w1 ⟨rfl, rfl⟩
          go_wp2_with fail
          refine (HR.out _ (HTB.out.kept HK0.out)).mono ?_
          rintro x w1 ⟨rfl, hk⟩
          have HP1 := Lib.hid (HP0.out.keptNo hk)
          have HB1 := Lib.hid (HB0.out.kept hk (fun e => e))
          have HK1 := Lib.hid (HK0.out.trans hk)
          clear hk
          go_wp2_with fail
          refine (HOW.out _ HP1.out).mono ?_
          rintro x w2 ⟨v, rfl, ho, hk⟩
          obtain ⟨A, cap, rfl⟩ := own_form ho
          have HP2 := Lib.hid (HP1.out.keptNo hk)
          have HB2 := Lib.hid (HB1.out.kept hk (fun e => e))
          have HK2 := Lib.hid (HK1.out.trans hk)
          clear ho hk
          have d5 := HP2.out.cells.2.1 e he
          go_wp2
          refine wp_region_plan (by kernel_rfl) (.q 0 <| .q 1 <| .q 4 <| .q 5 <| .q 6 <| .q 7 <| .q 8 <| .q 9 <| .e 2 [4, 5, 6, 7, 8, 9] <| .q 3 <| .q 10 <| .q 11 <| .nil) (by kernel_rfl) (by kernel_rfl) ?_
          repeat (refine plan_q rfl (fun K hK => ?_); go_simp; refine hK _ ?_; clear hK K)
          refine plan_e rfl (fun K hK => ?_)
          go_simp
          refine (HFR.out _ HP2.out.drew).mono ?_
          rintro x w3 ⟨v, rfl, ho, hk⟩
          obtain ⟨A3, cap3, rfl⟩ := own_form ho
          have HP3 := Lib.hid (HP2.out.drew.keptNo hk)
          have HB3 := Lib.hid (HB2.out.drew.kept hk (fun e => e))
          have HK3 := Lib.hid (HK2.out.drew.trans hk)
          have d3 := HP3.out.cells.2.1 e he
          clear ho hk HFR
          refine hK _ _ (by (repeat (refine stab_cons rfl ?_ ?_; focus (go_simp; done))); exact stab_nil) ?_
          clear hK K
          repeat (refine plan_q rfl (fun K hK => ?_); go_simp; refine hK _ ?_; clear hK K)
          refine plan_nil ?_
          have d4 := HP3.out.has i e hi he
          have lt2 := HP3.out.lt
          have fz2 := HP3.out.frozen
          obtain ⟨q0, q1⟩ := cap_cells HB3.out
          obtain ⟨z0, z1⟩ := HP3.out.grd i hi
          have hner : w.heap.size ≠ rb := by omega
          have hner2 : rb ≠ w.heap.size := by omega
          have hrd : (2 : Nat) = 2 := rfl
          have HP4 := Lib.hid ((((HP3.out.setHas i e (S.own i ||| 2 ^ e) true hi he (has_or S e i hown he))).setGuard i hi n r).drew)
          have HK4 := Lib.hid (((((keptOne (b := rb) HK3.out).setCell (p := ⟨rb, 129 + i * 6 + e, none⟩) oneHit (.bool true)).setCell (p := ⟨rb, 1 + i * 2, none⟩) oneHit (.string n)).setCell (p := ⟨rb, 1 + i * 2 + 1, none⟩) oneHit (.int .u8 r)).drew)
          go_wp2
          refine wp_region_plan (by kernel_rfl) (.q 0 <| .q 1 <| .q 2 <| .q 3 <| .q 4 <| .q 5 <| .q 6 <| .q 7 <| .q 8 <| .q 9 <| .q 11 <| .q 12 <| .e 10 [3, 4, 5, 11, 12] <| .q 13 <| .e 14 [] <| .nil) (by kernel_rfl) (by kernel_rfl) ?_
          repeat (refine plan_q rfl (fun K hK => ?_); go_simp; refine hK _ ?_; clear hK K)
          refine plan_e rfl (fun K hK => ?_)
          go_simp
          refine hK _ _ (by (repeat (refine stab_cons rfl ?_ ?_; focus (go_simp; done))); exact stab_nil) ?_
          clear hK K
          repeat (refine plan_q rfl (fun K hK => ?_); go_simp; refine hK _ ?_; clear hK K)
          refine plan_e rfl (fun K hK => ?_)
          go_simp
          refine hK _ _ stab_nil ?_
          clear hK K
          refine plan_nil ?_
          go_wp2_with fail
          refine (HNO.out _ _ HP4.out FS.out.ev).mono ?_
          rintro x w5 ⟨rfl, hp5, hk5⟩
          have HP5 := Lib.hid (hp5.count (upd S.count e (S.count e + 1)))
          have HK5 := Lib.hid (HK4.out.trans hk5)
          clear hp5 hk5 HP4 HK4
          go_wp2
          go_ret
          exact ⟨by rw [HV.out]; rfl, by rw [HT.out]; exact HP5.out, HK5.out⟩
      · have hz : ¬ (memTo (S.own i) 6).length = 0 := by rw [decide_eq_false h0] at hoz; exact of_decide_eq_false hoz
        have hz' : (0 : Int) < ((memTo (S.own i) 6).length : Int) := by omega
        have HV : Hid (V = 6) := Lib.hid (by rw [← hV]; unfold grantC; rw [if_pos ⟨he, hi⟩]; rw [if_pos hr]; rw [if_neg h0])
        have HT : Hid (T = S) := Lib.hid (by rw [← hT]; unfold grantT; rw [if_pos ⟨he, hi⟩]; rw [if_pos hr]; rw [if_neg h0])
        clear hV hT
        clear h0 hoz
        go_enter Tryd.func53, Tryd.ntmps53
        go_wp2_with fail
        refine (HA.out _ HP0.out).mono ?_
        rintro x w1 ⟨rfl, rfl⟩
        go_wp2_with fail
        refine (HR.out _ (HTB.out.kept HK0.out)).mono ?_
        rintro x w1 ⟨rfl, hk⟩
        have HP1 := Lib.hid (HP0.out.keptNo hk)
        have HB1 := Lib.hid (HB0.out.kept hk (fun e => e))
        have HK1 := Lib.hid (HK0.out.trans hk)
        clear hk
        go_wp2_with fail
        refine (HOW.out _ HP1.out).mono ?_
        rintro x w2 ⟨v, rfl, ho, hk⟩
        obtain ⟨A, cap, rfl⟩ := own_form ho
        have HP2 := Lib.hid (HP1.out.keptNo hk)
        have HB2 := Lib.hid (HB1.out.kept hk (fun e => e))
        have HK2 := Lib.hid (HK1.out.trans hk)
        clear ho hk
        go_wp2
        go_ret
        exact ⟨by rw [HV.out]; rfl, by rw [HT.out]; exact HP2.out, keptOne HK2.out⟩
  · rw [if_neg hat] at HA
    have HV : Hid (V = 2) := Lib.hid (by rw [← hV]; unfold grantC; rw [if_neg hat])
    have HT : Hid (T = S) := Lib.hid (by rw [← hT]; unfold grantT; rw [if_neg hat])
    clear hV hT
    go_enter Tryd.func53, Tryd.ntmps53
    go_wp2_with fail
    refine (HA.out _ HP0.out).mono ?_
    rintro x w1 ⟨rfl, rfl⟩
    go_wp2
    go_ret
    exact ⟨by rw [HV.out]; rfl, by rw [HT.out]; exact HP0.out, keptOne HK0.out⟩
set_option maxHeartbeats 4000000 in
theorem rgone_any (w : World) (rb : Nat) (S : PSt) (k : Int) (e i : Nat) (h : RI w rb S) (he : e < 6) (hi : i < 8) (hown : S.own i < 64) (hl : S.ev.length ≤ 1000000) : Calls Tryd.prog 64 #[.pointer (some ⟨rb, 0, none⟩), .int .u8 k, .int .u8 (e : Int), .int .u8 (i : Int)] w (RDone w rb (.bool (takeB S e i)) (takeT S k e i)) := by
  obtain ⟨V, hV⟩ : ∃ V, takeB S e i = V := ⟨_, rfl⟩
  obtain ⟨T, hT⟩ : ∃ T, takeT S k e i = T := ⟨_, rfl⟩
  rw [hV, hT]
  have HV := Lib.hid (show V = (clr (S.own i) e == 0) from hV.symm)
  have HT := Lib.hid (show T = if clr (S.own i) e = 0 then { takeS S k e i with gn := upd S.gn i ⟨#[]⟩, gr := upd S.gr i 0 } else takeS S k e i from hT.symm)
  clear hV hT
  have H := Lib.hid h
  have lt1 := h.lt
  have fz := h.frozen
  have c1 := h.has i e hi he
  have hx1 := fun w => idx_has w rb i hi
  have hx2 := fun w => idx_bit w rb (129 + i * 6) e he
  have hx3 := fun w => idx_grd w rb i hi
  have HNO := Lib.hid (fun w S' (h : RI w rb S') hl => rnote_any w rb S' k (e : Int) (i : Int) h hl)
  have HP1 := Lib.hid (h.setHas i e (clr (S.own i) e) false hi he (has_clr S e i hown he))
  have HK1 : Hid (Kept (OneBlk rb) w (w.setCell ⟨rb, 129 + i * 6 + e, none⟩ (.bool false))) := Lib.hid ((Kept.refl _ w).setCell oneHit _)
  have HOW := Lib.hid (fun w h => rowners_any w rb (takeS S k e i) i h (by omega))
  have hol : ownersL (takeS S k e i) i = memTo (clr (S.own i) e) 6 := by
    unfold ownersL
    rw [if_pos hi]
    show memTo (upd S.own i _ i) 6 = _
    unfold upd
    rw [if_pos rfl]
  rw [hol] at HOW
  have hoz := memTo_zero_ ⟨clr (S.own i) e, (or_lt_ ⟨S.own i, hown⟩ ⟨e, he⟩).2.2⟩
  simp only at hoz
  clear h hol
  by_cases hz : clr (S.own i) e = 0
  · rw [decide_eq_true hz] at hoz
    have hz0 := of_decide_eq_true hoz
    have HV2 : Hid (V = true) := Lib.hid (by rw [HV.out, hz]; rfl)
    have HT2 : Hid (T = { takeS S k e i with gn := upd S.gn i ⟨#[]⟩, gr := upd S.gr i 0 }) := Lib.hid (by rw [HT.out, if_pos hz])
    clear HV HT hoz hz
    go_enter Tryd.func64, Tryd.ntmps64
    go_wp2_with fail
    refine (HNO.out _ _ HP1.out hl).mono ?_
    rintro x w2 ⟨rfl, hp2, hk2⟩
    have HP2 := Lib.hid (show RI w2 rb (takeS S k e i) from hp2.count (upd S.count e (S.count e - 1)))
    have HK2 := Lib.hid (HK1.out.trans hk2)
    clear hp2 hk2 HP1 HK1 c1 fz
    go_wp2_with fail
    refine (HOW.out _ HP2.out).mono ?_
    rintro x w3 ⟨v, rfl, ho, hk⟩
    obtain ⟨A, cap, rfl⟩ := own_form ho
    have HP3 := Lib.hid (HP2.out.keptNo hk)
    have HK3 := Lib.hid (HK2.out.trans (keptOne hk))
    have fz3 := HP3.out.frozen
    obtain ⟨z0, z1⟩ := HP3.out.grd i hi
    have HP4 := Lib.hid (HP3.out.setGuard i hi ⟨#[]⟩ 0)
    have HK4 := Lib.hid ((HK3.out.setCell (p := ⟨rb, 1 + i * 2, none⟩) oneHit (.string ⟨#[]⟩)).setCell (p := ⟨rb, 1 + i * 2 + 1, none⟩) oneHit (.int .u8 0))
    clear ho hk HP2 HK2
    go_wp2
    go_ret
    exact ⟨by rw [HV2.out]; rfl, by rw [HT2.out]; exact HP4.out, HK4.out⟩
  · rw [decide_eq_false hz] at hoz
    have hz0 := of_decide_eq_false hoz
    have hz1 : (0 : Int) < ((memTo (clr (S.own i) e) 6).length : Int) := by omega
    have HV2 : Hid (V = false) := Lib.hid (by rw [HV.out]; exact beq_eq_false_iff_ne.2 hz)
    have HT2 : Hid (T = takeS S k e i) := Lib.hid (by rw [HT.out, if_neg hz])
    clear HV HT hoz hz
    go_enter Tryd.func64, Tryd.ntmps64
    go_wp2_with fail
    refine (HNO.out _ _ HP1.out hl).mono ?_
    rintro x w2 ⟨rfl, hp2, hk2⟩
    have HP2 := Lib.hid (show RI w2 rb (takeS S k e i) from hp2.count (upd S.count e (S.count e - 1)))
    have HK2 := Lib.hid (HK1.out.trans hk2)
    clear hp2 hk2 HP1 HK1 c1 fz
    go_wp2_with fail
    refine (HOW.out _ HP2.out).mono ?_
    rintro x w3 ⟨v, rfl, ho, hk⟩
    obtain ⟨A, cap, rfl⟩ := own_form ho
    have HP3 := Lib.hid (HP2.out.keptNo hk)
    have HK3 := Lib.hid (HK2.out.trans (keptOne hk))
    clear ho hk HP2 HK2
    go_wp2
    go_ret
    exact ⟨by rw [HV2.out]; rfl, by rw [HT2.out]; exact HP3.out, HK3.out⟩
set_option maxHeartbeats 4000000 in
theorem rfree_any (w : World) (rb : Nat) (S : PSt) (e i : Nat) (h : RI w rb S) (hS : Fit S) (hi256 : i < 256) : Calls Tryd.prog 55 #[.pointer (some ⟨rb, 0, none⟩), .int .u8 (e : Int), .int .u8 (i : Int)] w (RDone w rb (.tuple #[.bool (freeB S e i), .int .i64 (freeC S e i)]) (freeT S e i)) := by
  obtain ⟨V, hV⟩ : ∃ V : Bool, freeB S e i = V := ⟨_, rfl⟩
  obtain ⟨C, hC⟩ : ∃ C : Int, freeC S e i = C := ⟨_, rfl⟩
  obtain ⟨T, hT⟩ : ∃ T : PSt, freeT S e i = T := ⟨_, rfl⟩
  rw [hV, hC, hT]
  have HA := Lib.hid (fun w h => rmay_any w rb e i S h hi256)
  have H := Lib.hid h
  have FS := Lib.hid hS
  have hown := hS.own i
  clear h hS
  by_cases hat : e < 6 ∧ i < 8
  · rw [if_pos hat] at HA
    obtain ⟨he, hi⟩ := hat
    have c1 := H.out.has i e hi he
    have hx1 := fun w => idx_has w rb i hi
    have hx2 := fun w => idx_bit w rb (129 + i * 6) e he
    cases hf : (S.own i).testBit e with
    | false =>
      rw [hf] at c1
      have HV : Hid (V = false) := Lib.hid (by rw [← hV]; unfold freeB; rw [if_pos ⟨he, hi⟩]; rw [hf, if_neg (by decide)])
      have HC : Hid (C = 7) := Lib.hid (by rw [← hC]; unfold freeC; rw [if_pos ⟨he, hi⟩]; rw [hf, if_neg (by decide)])
      have HT : Hid (T = S) := Lib.hid (by rw [← hT]; unfold freeT; rw [if_pos ⟨he, hi⟩]; rw [hf, if_neg (by decide)])
      clear hV hC hT
      go_enter Tryd.func55, Tryd.ntmps55
      go_wp2_with fail
      refine (HA.out _ H.out).mono ?_
      rintro x w1 ⟨rfl, rfl⟩
      go_wp2
      go_ret2
      exact ⟨by rw [HV.out, HC.out]; rfl, by rw [HT.out]; exact H.out, Kept.refl _ _⟩
    | true =>
      rw [hf] at c1
      have HGV := Lib.hid (fun w h => rgone_any w rb S 3 e i h he hi hown FS.out.ev)
      have HV : Hid (V = takeB S e i) := Lib.hid (by rw [← hV]; unfold freeB; rw [if_pos ⟨he, hi⟩]; rw [if_pos hf])
      have HC : Hid (C = 0) := Lib.hid (by rw [← hC]; unfold freeC; rw [if_pos ⟨he, hi⟩]; rw [if_pos hf])
      have HT : Hid (T = takeT S 3 e i) := Lib.hid (by rw [← hT]; unfold freeT; rw [if_pos ⟨he, hi⟩]; rw [if_pos hf])
      clear hV hC hT
      generalize takeB S e i = gc at *
      generalize takeT S 3 e i = gt at *
      go_enter Tryd.func55, Tryd.ntmps55
      go_wp2_with fail
      refine (HA.out _ H.out).mono ?_
      rintro x w1 ⟨rfl, rfl⟩
      go_wp2_with fail
      refine (HGV.out _ H.out).mono ?_
      rintro x w9 ⟨rfl, hp, hk⟩
      have HP := Lib.hid hp
      have HK := Lib.hid hk
      clear hp hk
      go_wp2
      go_ret2
      exact ⟨by rw [HV.out, HC.out]; rfl, by rw [HT.out]; exact HP.out, HK.out⟩
  · rw [if_neg hat] at HA
    have HV : Hid (V = false) := Lib.hid (by rw [← hV]; unfold freeB; rw [if_neg hat])
    have HC : Hid (C = 2) := Lib.hid (by rw [← hC]; unfold freeC; rw [if_neg hat])
    have HT : Hid (T = S) := Lib.hid (by rw [← hT]; unfold freeT; rw [if_neg hat])
    clear hV hC hT
    go_enter Tryd.func55, Tryd.ntmps55
    go_wp2_with fail
    refine (HA.out _ H.out).mono ?_
    rintro x w1 ⟨rfl, rfl⟩
    go_wp2
    go_ret2
    exact ⟨by rw [HV.out, HC.out]; rfl, by rw [HT.out]; exact H.out, Kept.refl _ _⟩
set_option maxHeartbeats 4000000 in
theorem rrep_any (w : World) (rb : Nat) (S : PSt) (e i : Nat) (h : RI w rb S) (hS : Fit S) (hTo : Told S) (hi256 : i < 256) : Calls Tryd.prog 56 #[.pointer (some ⟨rb, 0, none⟩), .int .u8 (e : Int), .int .u8 (i : Int)] w (RDone w rb (.tuple #[.bool (repB S e i), .int .i64 (repC S e i)]) (repT S e i)) := by
  obtain ⟨V, hV⟩ : ∃ V : Bool, repB S e i = V := ⟨_, rfl⟩
  obtain ⟨C, hC⟩ : ∃ C : Int, repC S e i = C := ⟨_, rfl⟩
  obtain ⟨T, hT⟩ : ∃ T : PSt, repT S e i = T := ⟨_, rfl⟩
  rw [hV, hC, hT]
  have HA := Lib.hid (fun w h => rmay_any w rb e i S h hi256)
  have H := Lib.hid h
  have FS := Lib.hid hS
  have hown := hS.own i
  have HCT := Lib.hid hTo
  clear hTo
  clear h hS
  by_cases hat : e < 6 ∧ i < 8
  · rw [if_pos hat] at HA
    obtain ⟨he, hi⟩ := hat
    have c1 := H.out.has i e hi he
    have hx1 := fun w => idx_has w rb i hi
    have hx2 := fun w => idx_bit w rb (129 + i * 6) e he
    cases hf : (S.own i).testBit e with
    | false =>
      rw [hf] at c1
      have HV : Hid (V = false) := Lib.hid (by rw [← hV]; unfold repB; rw [if_pos ⟨he, hi⟩]; rw [hf, if_neg (by decide)])
      have HC : Hid (C = 7) := Lib.hid (by rw [← hC]; unfold repC; rw [if_pos ⟨he, hi⟩]; rw [hf, if_neg (by decide)])
      have HT : Hid (T = S) := Lib.hid (by rw [← hT]; unfold repT; rw [if_pos ⟨he, hi⟩]; rw [hf, if_neg (by decide)])
      clear hV hC hT
      go_enter Tryd.func56, Tryd.ntmps56
      go_wp2_with fail
      refine (HA.out _ H.out).mono ?_
      rintro x w1 ⟨rfl, rfl⟩
      go_wp2
      go_ret2
      exact ⟨by rw [HV.out, HC.out]; rfl, by rw [HT.out]; exact H.out, Kept.refl _ _⟩
    | true =>
      rw [hf] at c1
      have HFR := Lib.hid (fun w h => rframes_any w rb S e h)
      have hct := HCT.out e he
      by_cases hq : S.count e ≤ 2
      · have HV : Hid (V = false) := Lib.hid (by rw [← hV]; unfold repB; rw [if_pos ⟨he, hi⟩]; rw [if_pos hf]; rw [if_pos hq])
        have HC : Hid (C = 9) := Lib.hid (by rw [← hC]; unfold repC; rw [if_pos ⟨he, hi⟩]; rw [if_pos hf]; rw [if_pos hq])
        have HT : Hid (T = S) := Lib.hid (by rw [← hT]; unfold repT; rw [if_pos ⟨he, hi⟩]; rw [if_pos hf]; rw [if_pos hq])
        clear hV hC hT
        rw [hct] at hq
        go_enter Tryd.func56, Tryd.ntmps56
        go_wp2_with fail
        refine (HA.out _ H.out).mono ?_
        rintro x w1 ⟨rfl, rfl⟩
        go_wp2_with fail
        refine (HFR.out _ H.out).mono ?_
        rintro x w2 ⟨v, rfl, ho, hk⟩
        obtain ⟨A, cap, rfl⟩ := own_form ho
        have HP := Lib.hid (H.out.keptNo hk)
        have HK := Lib.hid hk
        clear ho hk
        go_wp2
        go_ret2
        exact ⟨by rw [HV.out, HC.out]; rfl, by rw [HT.out]; exact HP.out, keptOne HK.out⟩
      · have hq2 : ¬ ((framesL S e).length : Int) ≤ 2 := by rw [hct] at hq; exact hq
        have HGV := Lib.hid (fun w h => rgone_any w rb S 4 e i h he hi hown FS.out.ev)
        have HV : Hid (V = takeB S e i) := Lib.hid (by rw [← hV]; unfold repB; rw [if_pos ⟨he, hi⟩]; rw [if_pos hf]; rw [if_neg hq])
        have HC : Hid (C = 0) := Lib.hid (by rw [← hC]; unfold repC; rw [if_pos ⟨he, hi⟩]; rw [if_pos hf]; rw [if_neg hq])
        have HT : Hid (T = takeT S 4 e i) := Lib.hid (by rw [← hT]; unfold repT; rw [if_pos ⟨he, hi⟩]; rw [if_pos hf]; rw [if_neg hq])
        clear hV hC hT
        generalize takeB S e i = gc at *
        generalize takeT S 4 e i = gt at *
        go_enter Tryd.func56, Tryd.ntmps56
        go_wp2_with fail
        refine (HA.out _ H.out).mono ?_
        rintro x w1 ⟨rfl, rfl⟩
        go_wp2_with fail
        refine (HFR.out _ H.out).mono ?_
        rintro x w2 ⟨v, rfl, ho, hk⟩
        obtain ⟨A, cap, rfl⟩ := own_form ho
        have HP1 := Lib.hid (H.out.keptNo hk)
        have HK1 := Lib.hid hk
        clear ho hk
        go_wp2_with fail
        refine (HGV.out _ HP1.out).mono ?_
        rintro x w9 ⟨rfl, hp, hk⟩
        have HP := Lib.hid hp
        have HK := Lib.hid ((keptOne HK1.out).trans hk)
        clear hp hk
        go_wp2
        go_ret2
        exact ⟨by rw [HV.out, HC.out]; rfl, by rw [HT.out]; exact HP.out, HK.out⟩
  · rw [if_neg hat] at HA
    have HV : Hid (V = false) := Lib.hid (by rw [← hV]; unfold repB; rw [if_neg hat])
    have HC : Hid (C = 2) := Lib.hid (by rw [← hC]; unfold repC; rw [if_neg hat])
    have HT : Hid (T = S) := Lib.hid (by rw [← hT]; unfold repT; rw [if_neg hat])
    clear hV hC hT
    go_enter Tryd.func56, Tryd.ntmps56
    go_wp2_with fail
    refine (HA.out _ H.out).mono ?_
    rintro x w1 ⟨rfl, rfl⟩
    go_wp2
    go_ret2
    exact ⟨by rw [HV.out, HC.out]; rfl, by rw [HT.out]; exact H.out, Kept.refl _ _⟩
end Go.Proofs.YtfoeckaeongahaaDoor
