/- PoolLeast, walked. -/
import Derived.Test.YtfoeckaeongahaaDoorM1
namespace Go.Proofs.YtfoeckaeongahaaDoor
open Go.RowKit Go.Shelf
set_option maxRecDepth 100000

/-! ### the plain law -/
def stR (S : PSt) (l : List Nat) (e i : Nat) : PSt := (l.take i).foldl (fun S f => repT S e f) S
theorem stR_succ (S : PSt) (l : List Nat) (e i : Nat) (h : i < l.length) : stR S l e (i + 1) = repT (stR S l e i) e l[i] := by
  unfold stR
  rw [List.take_succ_eq_append_getElem h, List.foldl_append]
  rfl
structure LeastI (S : PSt) (l : List Nat) (e i c : Nat) : Prop where
  inv : Inv c S
  bits : ∀ f, f < 8 → (S.own f).testBit e = decide (f ∈ l.drop (min i (l.length - 2)))
  cnt : S.count e = ((l.length - min i (l.length - 2) : Nat) : Int)
theorem least_step {S : PSt} {l : List Nat} {e i c : Nat} (h : LeastI S l e i c) (hi : i < l.length) (hn : l.Nodup) (h8 : ∀ x ∈ l, x < 8) (he : e < 6) :
    LeastI (repT S e l[i]) l e (i + 1) (c + 1) ∧ repC S e l[i] = (if 2 < l.length - i then 0 else 9) := by
  have hx8 := h8 _ (List.getElem_mem hi)
  have hmem : l[i] ∈ l.drop (min i (l.length - 2)) := by
    refine List.mem_drop_iff_getElem.2 ⟨i - min i (l.length - 2), by omega, ?_⟩
    congr 1
    omega
  have hb : (S.own l[i]).testBit e = true := by rw [h.bits _ hx8]; exact decide_eq_true hmem
  by_cases hq : 2 < l.length - i
  · have hmin : min i (l.length - 2) = i := by omega
    have hc : ¬ S.count e ≤ 2 := by rw [h.cnt, hmin]; omega
    have ht : repT S e l[i] = takeT S 4 e l[i] := by unfold repT; rw [if_pos ⟨he, hx8⟩, if_pos hb, if_neg hc]
    refine ⟨⟨h.inv.rep e _, fun f hf => ?_, ?_⟩, ?_⟩
    · have e1 : ((repT S e l[i]).own f) = upd S.own l[i] (clr (S.own l[i]) e) f := by
        rw [ht]
        unfold takeT
        split <;> rfl
      have hdrop : l.drop (min i (l.length - 2)) = l[i] :: l.drop (i + 1) := by rw [hmin]; exact List.drop_eq_getElem_cons hi
      have hmin2 : min (i + 1) (l.length - 2) = i + 1 := by omega
      have hnd : l[i] ∉ l.drop (i + 1) := by
        have : (l.drop i).Nodup := hn.sublist (List.drop_sublist _ _)
        rw [List.drop_eq_getElem_cons hi, List.nodup_cons] at this
        exact this.1
      rw [e1, hmin2]
      unfold upd
      by_cases hff : f = l[i]
      · rw [if_pos hff, clr_bit _ e e (h.inv.own _) he he, decide_eq_true rfl, hff]
        exact (decide_eq_false hnd).symm
      · rw [if_neg hff, h.bits f hf, hdrop]
        rw [decide_eq_decide, List.mem_cons]
        exact ⟨fun k => k.resolve_left hff, Or.inr⟩
    · have e1 : (repT S e l[i]).count e = S.count e - 1 := by
        rw [ht]
        have : (takeS S 4 e l[i]).count e = S.count e - 1 := by
          show upd S.count e _ e = _
          unfold upd
          rw [if_pos rfl]
        unfold takeT
        split
        · exact this
        · exact this
      rw [e1, h.cnt]
      omega
    · unfold repC
      rw [if_pos ⟨he, hx8⟩, if_pos hb, if_neg hc, if_pos hq]
  · have hmin : min (i + 1) (l.length - 2) = min i (l.length - 2) := by omega
    have hc : S.count e ≤ 2 := by rw [h.cnt]; omega
    have ht : repT S e l[i] = S := by unfold repT; rw [if_pos ⟨he, hx8⟩, if_pos hb, if_pos hc]
    refine ⟨⟨h.inv.rep e _, fun f hf => ?_, ?_⟩, ?_⟩
    · rw [ht, hmin]; exact h.bits f hf
    · rw [ht, hmin]; exact h.cnt
    · unfold repC
      rw [if_pos ⟨he, hx8⟩, if_pos hb, if_pos hc, if_neg hq]
theorem least_all {S : PSt} {l : List Nat} {e c : Nat} (h : LeastI S l e 0 c) (hn : l.Nodup) (h8 : ∀ x ∈ l, x < 8) (he : e < 6) : ∀ i, i ≤ l.length → LeastI (stR S l e i) l e i (c + i)
  | 0, _ => h
  | i + 1, hi => by
    rw [stR_succ S l e i hi]
    exact (least_step (least_all h hn h8 he i (by omega)) hi hn h8 he).1
theorem suchTo_nodup (t : Nat → Bool) (k : Nat) : (suchTo t k).Nodup := List.Nodup.sublist List.filter_sublist List.nodup_range
theorem least_start (S : PSt) (e c : Nat) (h : Inv c S) (he : e < 6) : LeastI S (framesL S e) e 0 c := by
  refine ⟨h, fun f hf => ?_, ?_⟩
  · rw [Nat.zero_min, List.drop_zero, framesL_in S e he]
    by_cases hb : (S.own f).testBit e = true
    · rw [hb]; exact (decide_eq_true ((suchTo_mem (fun f => (S.own f).testBit e) 8 f).2 ⟨hf, hb⟩)).symm
    · have hb' : (S.own f).testBit e = false := by simpa using hb
      rw [hb']
      exact (decide_eq_false (fun k => hb ((suchTo_mem (fun f => (S.own f).testBit e) 8 f).1 k).2)).symm
  · rw [Nat.zero_min, Nat.sub_zero]
    exact h.told e he
theorem min2_any (w : World) (n : Nat) : Calls Tryd.prog 19 #[.int .i64 (n : Int), .int .i64 2] w fun x w' => x = .returned (.int .i64 ((min n 2 : Nat) : Int)) ∧ w = w' := by
  by_cases h : n < 2
  · have h' : (n : Int) < 2 := by omega
    rw [show min n 2 = n by omega]
    go_enter Tryd.func19, Tryd.ntmps19
    go_wp2
    go_ret
    exact ⟨rfl, rfl⟩
  · have h' : ¬ (n : Int) < 2 := by omega
    rw [show min n 2 = 2 by omega]
    go_enter Tryd.func19, Tryd.ntmps19
    go_wp2
    go_ret
    exact ⟨rfl, rfl⟩
set_option maxHeartbeats 8000000 in
theorem lawLeast_any (w : World) (v : Value) (L : List Deed) (e0 : Nat) (hL : DeedsC w v L) (hF : ∀ d ∈ L, d.Fits) (hT : Tabs w) : Calls Tryd.prog 5 #[v, .int .u8 (e0 : Int)] w (TrueP w) := by
  obtain ⟨en, hen⟩ : ∃ en, e0 % 6 = en := ⟨_, rfl⟩
  obtain ⟨S, hS⟩ : ∃ S, playS L = S := ⟨_, rfl⟩
  have hen6 : en < 6 := by omega
  have r1 : ((e0 : Int)).tmod 6 = (en : Int) := by rw [Int.tmod_eq_emod_of_nonneg (by omega)]; omega
  have HP := Lib.hid (play_any w v L hL hF hT)
  have hI := playS_inv L
  rw [hS] at HP hI
  have hFit := hI.fit (by omega)
  have HL := Lib.hid (fun w => live_any w)
  have hll : (framesL S en).length ≤ 8 := suchTo_le _ _
  have h8 : ∀ x ∈ framesL S en, x < 8 := fun x hx => ((suchTo_mem _ _ _).1 hx).1
  have hst := least_start S en 50 hI hen6
  have hnd : (framesL S en).Nodup := suchTo_nodup _ _
  have HFR := Lib.hid (fun w pb fb h => frames_any w pb fb S en h hFit)
  obtain ⟨l, hl⟩ : ∃ l, framesL S en = l := ⟨_, rfl⟩
  rw [hl] at HFR hst hnd h8 hll
  have HAL := Lib.hid (least_all hst hnd h8 hen6)
  have HST := Lib.hid (fun i hi => (least_step (HAL.out i (Nat.le_of_lt hi)) hi hnd h8 hen6).2)
  have HSU := Lib.hid (stR_succ S l en)
  have HRP := Lib.hid (fun w pb fb i (hi : i < l.length) (h : PI w pb fb (stR S l en i)) => repossess_any w pb fb (stR S l en i) en l[i] h ((HAL.out i (Nat.le_of_lt hi)).inv.fit (by omega)) (by have := h8 _ (List.getElem_mem hi); omega))
  have HFE := Lib.hid (fun w pb fb (h : PI w pb fb (stR S l en l.length)) => frames_any w pb fb (stR S l en l.length) en h ((HAL.out _ (Nat.le_refl _)).inv.fit (by omega)))
  have HEN : Hid (((framesL (stR S l en l.length) en).length : Int) = ((min l.length 2 : Nat) : Int)) := Lib.hid (by
    have q := HAL.out _ (Nat.le_refl l.length)
    rw [← q.inv.told en hen6, q.cnt]
    omega)
  have HM2 := Lib.hid (fun w => min2_any w l.length)
  clear hI hFit hS hL hF hT hst hnd h8 hl hen
  go_enter Tryd.func5, Tryd.ntmps5
  go_wp2_with fail
  refine HP.out.mono ?_
  rintro x w1 ⟨pb, fb, rb, rfl, hB⟩
  have HB1 := Lib.hid hB
  clear hB HP
  go_wp2_with fail
  refine (HL.out _).mono ?_
  rintro x w2 ⟨rfl, hk⟩
  have HB2 := Lib.hid (HB1.out.keptNo hk)
  clear hk HB1
  go_wp2_with fail
  refine (HFR.out _ _ _ HB2.out.p).mono ?_
  rintro x w3 ⟨vr, rfl, ho, hk⟩
  obtain ⟨Ar, cr, rfl, hcr⟩ := nums_form ho
  have HB3 := Lib.hid (HB2.out.keptNo hk)
  have hbig := HB2.out.p.ltP
  have hbig2 := HB2.out.p.ltF
  clear hk ho HB2
  go_wp2
  go_loopw [9] (fun iv wr => ∃ i : Nat, i ≤ l.length ∧ iv = .int .i64 i ∧ Hid (PI wr pb fb (stR S l en i)) ∧ Hid (Kept (TwoBlk pb fb) w3 wr)) (fun iv _ => l.length - (intOf iv).toNat)
  case atStart => exact ⟨0, by omega, rfl, Lib.hid HB3.out.p, Lib.hid (Kept.refl _ _)⟩
  case round =>
    obtain ⟨i, hi, rfl, HPi, HKi⟩ := hrel
    by_cases hlt : i < l.length
    · have hlt' : (i : Int) < (l.length : Int) := by omega
      obtain ⟨g, rfl, hg1, hg2, hc⟩ := hcr (by omega)
      have c1 : wr.cell? ⟨g, i, none⟩ = some (.int .u8 (l[i] : Int)) := by
        rw [HKi.out.cell (p := ⟨g, i, none⟩) hg2 (fun e => by rcases e with e | e <;> (have e' : g = _ := e; omega))]
        exact hc i hlt
      have hx := fun w => idx_num w g l.length cr i hlt
      have hst := HST.out i hlt
      have hsu := HSU.out i hlt
      have HRi := Lib.hid (fun w pb fb h => HRP.out w pb fb i hlt h)
      have hws : wrap64 ((l.length : Int) - (i : Int)) = (l.length : Int) - (i : Int) := wrap64_s _ ⟨by omega, by omega⟩
      clear hc hcr
      rw [hst] at HRi
      generalize repB (stR S l en i) en l[i] = rb1 at *
      by_cases h2 : 2 < l.length - i
      · rw [if_pos h2] at HRi
        have h2' : (2 : Int) < (l.length : Int) - (i : Int) := by omega
        go_wp2_with fail
        refine (HRi.out _ _ _ HPi.out).mono ?_
        rintro x w5 ⟨rfl, hp, hk⟩
        rw [← hsu] at hp
        have HP5 := Lib.hid hp
        have HK5 := Lib.hid (HKi.out.trans hk)
        clear hp hk HPi HKi c1
        go_wp2
        go_roundw
        case rel => exact ⟨i + 1, by omega, by go_num, HP5, HK5⟩
        case measure => simp [intOf]; omega
      · rw [if_neg h2] at HRi
        have h2' : ¬ (2 : Int) < (l.length : Int) - (i : Int) := by omega
        go_wp2_with fail
        refine (HRi.out _ _ _ HPi.out).mono ?_
        rintro x w5 ⟨rfl, hp, hk⟩
        rw [← hsu] at hp
        have HP5 := Lib.hid hp
        have HK5 := Lib.hid (HKi.out.trans hk)
        clear hp hk HPi HKi c1
        go_wp2
        go_roundw
        case rel => exact ⟨i + 1, by omega, by go_num, HP5, HK5⟩
        case measure => simp [intOf]; omega
    · obtain rfl : i = l.length := by omega
      have hlt' : ¬ ((l.length : Nat) : Int) < (l.length : Int) := by omega
      have hen := HEN.out
      clear hcr
      go_wp2_with fail
      refine (HFE.out _ _ _ HPi.out).mono ?_
      rintro x w6 ⟨vf, rfl, ho, hk⟩
      obtain ⟨Af, cf, rfl⟩ := own_form ho
      have HK6 := Lib.hid ((HB3.out.mid HKi.out).2.trans hk)
      clear ho hk HKi HPi
      go_wp2_with fail
      refine (HM2.out _).mono ?_
      rintro x w7 ⟨rfl, rfl⟩
      go_wp2
      go_ret
      exact ⟨by simp, HK6.out⟩
end Go.Proofs.YtfoeckaeongahaaDoor
