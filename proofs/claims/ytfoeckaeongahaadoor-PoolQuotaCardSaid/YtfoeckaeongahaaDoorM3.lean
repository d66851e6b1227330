/- PoolQuota, walked. -/
import Derived.Test.YtfoeckaeongahaaDoorM1
namespace Go.Proofs.YtfoeckaeongahaaDoor
open Go.RowKit Go.Shelf
set_option maxRecDepth 100000

/-! ### the plain law -/
def moreD (S : PSt) (d : Deed) : PSt := if d.k = 0 then S else if d.k = 1 then grantT S d.e d.f d.n d.r else if d.k = 2 then shareT S d.e d.t d.f else if d.k = 3 then freeT S d.e d.f else repT S d.e d.f
structure Within (S : PSt) (en n c : Nat) : Prop where
  inv : Inv c S
  quota : S.quota en = (n : Int)
  count : S.count en ≤ (n : Int)
theorem within_give {S : PSt} {en n : Nat} (k : Int) (e i : Nat) (hq : S.quota en = (n : Int)) (hc : S.count en ≤ (n : Int)) (h : ¬ S.quota e ≤ S.count e) : (giveS S k e i).quota en = (n : Int) ∧ (giveS S k e i).count en ≤ (n : Int) := by
  refine ⟨hq, ?_⟩
  show upd S.count e _ en ≤ _
  unfold upd
  by_cases he : en = e
  · subst he
    rw [if_pos rfl]
    omega
  · rw [if_neg he]; exact hc
theorem within_take {S : PSt} {en n : Nat} (k : Int) (e i : Nat) (hq : S.quota en = (n : Int)) (hc : S.count en ≤ (n : Int)) : (takeT S k e i).quota en = (n : Int) ∧ (takeT S k e i).count en ≤ (n : Int) := by
  have q : (takeS S k e i).count en ≤ (n : Int) := by
    show upd S.count e _ en ≤ _
    unfold upd
    by_cases he : en = e
    · rw [if_pos he, ← he]; omega
    · rw [if_neg he]; exact hc
  unfold takeT
  split
  · exact ⟨hq, q⟩
  · exact ⟨hq, q⟩
theorem within_more {S : PSt} {en n c : Nat} (h : Within S en n c) (d : Deed) : Within (moreD S d) en n (c + 1) := by
  have hI : Inv (c + 1) (moreD S d) := by
    unfold moreD
    split
    · exact h.inv.more (by omega)
    · split
      · exact h.inv.grant _ _ _ _
      · split
        · exact h.inv.share _ _ _
        · split
          · exact h.inv.free _ _
          · exact h.inv.rep _ _
  have hs := And.intro h.quota h.count
  have hqc : (moreD S d).quota en = (n : Int) ∧ (moreD S d).count en ≤ (n : Int) := by
    unfold moreD
    split
    · exact hs
    · split
      · unfold grantT
        split
        · split
          · split
            · split
              · exact hs
              · rename_i hq
                exact within_give 1 d.e d.f hs.1 hs.2 hq
            · exact hs
          · exact hs
        · exact hs
      · split
        · unfold shareT giveT
          split
          · split
            · split
              · split
                · exact hs
                · split
                  · exact hs
                  · rename_i hq
                    exact within_give 2 d.t d.f hs.1 hs.2 hq
              · exact hs
            · exact hs
          · exact hs
        · split
          · unfold freeT
            split
            · split
              · exact within_take 3 d.e d.f hs.1 hs.2
              · exact hs
            · exact hs
          · unfold repT
            split
            · split
              · split
                · exact hs
                · exact within_take 4 d.e d.f hs.1 hs.2
              · exact hs
            · exact hs
  exact ⟨hI, hqc.1, hqc.2⟩
def moreAt (S : PSt) (L : List Deed) (i : Nat) : PSt := (L.take i).foldl moreD S
theorem moreAt_succ (S : PSt) (L : List Deed) (i : Nat) (h : i < L.length) : moreAt S L (i + 1) = moreD (moreAt S L i) L[i] := by
  unfold moreAt
  rw [List.take_succ_eq_append_getElem h, List.foldl_append]
  rfl
theorem more_all {S : PSt} {en n c : Nat} (h : Within S en n c) (L : List Deed) : ∀ i, i ≤ L.length → Within (moreAt S L i) en n (c + i)
  | 0, _ => h
  | i + 1, hi => by
    rw [moreAt_succ S L i hi]
    exact within_more (more_all h L i (by omega)) L[i]
set_option maxHeartbeats 16000000 in
theorem lawQuota_any (w : World) (v v2 : Value) (L M : List Deed) (e0 : Nat) (hL : DeedsC w v L) (hF : ∀ d ∈ L, d.Fits) (hM : DeedsC w v2 M) (hFM : ∀ d ∈ M, d.Fits) (hT : Tabs w) : Calls Tryd.prog 4 #[v, .int .u8 (e0 : Int), v2] w (TrueP w) := by
  obtain ⟨en, hen⟩ : ∃ en, e0 % 6 = en := ⟨_, rfl⟩
  obtain ⟨S, hS⟩ : ∃ S, playS L = S := ⟨_, rfl⟩
  have hen6 : en < 6 := by omega
  have r1 : ((e0 : Int)).tmod 6 = (en : Int) := by rw [Int.tmod_eq_emod_of_nonneg (by omega)]; omega
  have HP := Lib.hid (play_any w v L hL hF hT)
  have hI := playS_inv L
  rw [hS] at HP hI
  have hFit := hI.fit (by omega)
  have HL := Lib.hid (fun w => live_any w)
  have hll : (framesL S en).length ≤ 8 := suchTo_le _ _
  have HFR := Lib.hid (fun w pb fb h => frames_any w pb fb S en h hFit)
  obtain ⟨n, hn⟩ : ∃ n, (framesL S en).length = n := ⟨_, rfl⟩
  have hqc : quotaC en (n : Int) = 0 := if_pos ⟨hen6, by omega, by omega⟩
  have HQ := Lib.hid (fun w pb fb h => quota_any w pb fb S en (n : Int) h)
  rw [hqc] at HQ
  have hW1 : Within (quotaT S en (n : Int)) en n 51 := by
    have e1 : quotaT S en (n : Int) = { S with quota := upd S.quota en (n : Int) } := if_pos ⟨hen6, by omega, by omega⟩
    refine ⟨hI.quota en _, ?_, ?_⟩
    · rw [e1]
      show upd S.quota en _ en = _
      unfold upd
      rw [if_pos rfl]
    · rw [e1]
      show S.count en ≤ _
      rw [hI.told en hen6, hn]
      omega
  generalize quotaT S en (n : Int) = S1 at *
  have HAL := Lib.hid (more_all hW1 M)
  have HSU := Lib.hid (moreAt_succ S1 M)
  have HFE : Hid (∀ w pb fb i, i ≤ M.length → i ≤ 20 → PI w pb fb (moreAt S1 M i) → Calls Tryd.prog 13 #[.pointer (some ⟨pb, 0, none⟩), .int .u8 (en : Int)] w fun x w' => ∃ A q cap, x = .returned (.slice A q cap) ∧ (q : Int) ≤ (n : Int) ∧ Kept NoBlk w w') := Lib.hid fun w pb fb i hi h20 h => by
    have q := HAL.out i hi
    refine (frames_any w pb fb _ en h (q.inv.fit (by omega))).mono fun x w' ⟨v, hx, ho, hk⟩ => ?_
    obtain ⟨A, cap, rfl⟩ := own_form ho
    refine ⟨A, _, cap, hx, ?_, hk⟩
    have := q.inv.told en hen6
    rw [← this]
    exact q.count
  have HFI : Hid (∀ i, i ≤ M.length → i ≤ 20 → Fit (moreAt S1 M i)) := Lib.hid fun i hi h20 => (HAL.out i hi).inv.fit (by omega)
  obtain ⟨A, cap, rfl, c1, c2, hA⟩ := hM
  have hcap : M.length ≤ 9223372036854775807 := by
    have : cap ≤ 9223372036854775807 := by simpa [maxLen] using c2
    omega
  have HFM := Lib.hid hFM
  clear hI hFit hS hL hF hT hW1 hen hFM c1 c2
  go_enter Tryd.func4, Tryd.ntmps4
  go_wp2_with fail
  refine HP.out.mono ?_
  rintro x w1 ⟨pb, fb, rb, rfl, hB⟩
  have HB1 := Lib.hid hB
  clear hB HP
  go_wp2_with fail
  refine (HL.out _).mono ?_
  rintro x w2 ⟨rfl, hk⟩
  have HB2 := Lib.hid (HB1.out.keptNo hk)
  clear hk HB1
  go_wp2_with fail
  refine (HFR.out _ _ _ HB2.out.p).mono ?_
  rintro x w3 ⟨vr, rfl, ho, hk⟩
  obtain ⟨Ar, cr, rfl⟩ := own_form ho
  rw [hn]
  have HB3 := Lib.hid (HB2.out.keptNo hk)
  have hbig := HB2.out.hp
  have hbig2 := HB2.out.hf
  clear hk ho HB2
  go_wp2_with fail
  refine (HQ.out _ _ _ HB3.out.p).mono ?_
  rintro x w4 ⟨rfl, hp4, hk4⟩
  have HP4 := Lib.hid hp4
  have HK4 := Lib.hid ((HB3.out.mid hk4).2)
  clear hp4 hk4 HQ
  go_wp2
  go_loopw [11] (fun iv wr => ∃ i : Nat, i ≤ M.length ∧ i ≤ 20 ∧ iv = .int .i64 i ∧ Hid (PI wr pb fb (moreAt S1 M i)) ∧ Hid (Kept NoBlk w wr)) (fun iv _ => 20 - (intOf iv).toNat)
  case atStart => exact ⟨0, by omega, by omega, rfl, HP4, HK4⟩
  case round =>
    obtain ⟨i, hiN, hi20, rfl, HPi, HKi⟩ := hrel
    clear HP4 HK4 HB3
    by_cases hlt : i < M.length
    · have hlt' : (i : Int) < (M.length : Int) := by omega
      by_cases h50 : i < 20
      · have h50' : (i : Int) < 20 := by omega
        obtain ⟨b, o, rfl, hb, hc⟩ := hA (by omega)
        obtain ⟨c0, c1, c2, c3, c4, c5, c6⟩ := hc i hlt
        have kc : ∀ j, wr.cell? ⟨b, j, none⟩ = w.cell? ⟨b, j, none⟩ := fun j => HKi.out.cell (p := ⟨b, j, none⟩) hb (fun e => e)
        rw [← kc] at c0 c1 c2 c3 c4 c5 c6
        have hix := fun w => idx_deed w b o M.length cap i hlt
        have hsu := HSU.out i hlt
        have hFt := HFI.out i hiN hi20
        have hft := HFM.out _ (List.getElem_mem hlt)
        have HFE1 := Lib.hid (fun w pb fb h => HFE.out w pb fb (i + 1) hlt (by omega) h)
        have ltb := Nat.lt_of_lt_of_le hb HKi.out.size
        clear kc hc hA
        generalize M[i] = d at *
        obtain ⟨dk, dm, de, dt, df, dn, dr⟩ := d
        have hdf : df < 256 := hft.f
        have hdn : dn.size ≤ 9223372036854775807 := hft.n
        dsimp only at c0 c1 c2 c3 c4 c5 c6
        have HPb := Lib.hid (HPi.out.keptNo ((Kept.refl NoBlk wr).alloc (.cells (deedC dk dm (de : Int) (dt : Int) (df : Int) dn dr) 44)))
        have HKb := Lib.hid (HKi.out.alloc (.cells (deedC dk dm (de : Int) (dt : Int) (df : Int) dn dr) 44))
        have HBb : Hid (Blk (wr.alloc (.cells (deedC dk dm (de : Int) (dt : Int) (df : Int) dn dr) 44)) wr.heap.size 44 (deedC dk dm (de : Int) (dt : Int) (df : Int) dn dr)) := Lib.hid (Blk.new _ _ _)
        unfold deedC at HPb HKb HBb
        by_cases k0 : dk = 0
        · have hm : moreAt S1 M (i + 1) = moreAt S1 M i := by rw [hsu]; exact if_pos k0
          subst k0
          go_wp2
          go_roundw
          case rel => exact ⟨i + 1, by omega, by omega, by go_num, by rw [hm]; exact HPb, HKb⟩
          case measure => simp [intOf]; omega
        have e0' : (dk == 0) = false := beq_eq_false_iff_ne.2 k0
        by_cases k1 : dk = 1
        · have hm : moreAt S1 M (i + 1) = grantT (moreAt S1 M i) de df dn dr := by
            rw [hsu]
            unfold moreD
            rw [if_neg k0, if_pos k1]
          subst k1
          have HD := Lib.hid (fun w h => (by have := grant_any w pb fb (moreAt S1 M i) de df dn dr h hFt hdf hdn; unfold capV at this; exact this : Calls Tryd.prog 15 #[.pointer (some ⟨pb, 0, none⟩), .int .u8 (de : Int), .int .u8 (df : Int), .agg #[.string dn, .int .u8 dr]] w (Done w pb fb (.int .i64 (grantC (moreAt S1 M i) de df dn dr)) (grantT (moreAt S1 M i) de df dn dr))))
          rw [← hm] at HD
          go_wp2_with fail
          refine (HD.out _ HPb.out).mono ?_
          rintro x w6 ⟨rfl, hp6, hk6⟩
          have HP6 := Lib.hid hp6
          have HK6 := Lib.hid (Kept.fresh HKb.out hk6 (fun b e => by rcases e with e | e <;> rw [e]; exact hbig; exact hbig2))
          clear hp6 hk6
          go_wp2_with fail
          refine (HFE1.out _ _ _ HP6.out).mono ?_
          rintro x w7 ⟨Af, q, cf, rfl, hq, hk7⟩
          have HP7 := Lib.hid (HP6.out.keptNo hk7)
          have HK7 := Lib.hid (HK6.out.trans hk7)
          have hq' : ¬ (n : Int) < (q : Int) := by omega
          clear hk7
          go_wp2
          go_roundw
          case rel => exact ⟨i + 1, by omega, by omega, by go_num, HP7, HK7⟩
          case measure => simp [intOf]; omega
        have e1' : (dk == 1) = false := beq_eq_false_iff_ne.2 k1
        by_cases k2 : dk = 2
        · have hm : moreAt S1 M (i + 1) = shareT (moreAt S1 M i) de dt df := by
            rw [hsu]
            unfold moreD
            rw [if_neg k0, if_neg k1, if_pos k2]
          subst k2
          have HD := Lib.hid (fun w h => share_any w pb fb (moreAt S1 M i) de dt df h hFt hdf)
          rw [← hm] at HD
          go_wp2_with fail
          refine (HD.out _ HPb.out).mono ?_
          rintro x w6 ⟨rfl, hp6, hk6⟩
          have HP6 := Lib.hid hp6
          have HK6 := Lib.hid (Kept.fresh HKb.out hk6 (fun b e => by rcases e with e | e <;> rw [e]; exact hbig; exact hbig2))
          clear hp6 hk6
          go_wp2_with fail
          refine (HFE1.out _ _ _ HP6.out).mono ?_
          rintro x w7 ⟨Af, q, cf, rfl, hq, hk7⟩
          have HP7 := Lib.hid (HP6.out.keptNo hk7)
          have HK7 := Lib.hid (HK6.out.trans hk7)
          have hq' : ¬ (n : Int) < (q : Int) := by omega
          clear hk7
          go_wp2
          go_roundw
          case rel => exact ⟨i + 1, by omega, by omega, by go_num, HP7, HK7⟩
          case measure => simp [intOf]; omega
        have e2' : (dk == 2) = false := beq_eq_false_iff_ne.2 k2
        by_cases k3 : dk = 3
        · have hm : moreAt S1 M (i + 1) = freeT (moreAt S1 M i) de df := by
            rw [hsu]
            unfold moreD
            rw [if_neg k0, if_neg k1, if_neg k2, if_pos k3]
          subst k3
          have HD := Lib.hid (fun w h => free_any w pb fb (moreAt S1 M i) de df h hFt hdf)
          rw [← hm] at HD
          go_wp2_with fail
          refine (HD.out _ HPb.out).mono ?_
          rintro x w6 ⟨rfl, hp6, hk6⟩
          have HP6 := Lib.hid hp6
          have HK6 := Lib.hid (Kept.fresh HKb.out hk6 (fun b e => by rcases e with e | e <;> rw [e]; exact hbig; exact hbig2))
          clear hp6 hk6
          go_wp2_with fail
          refine (HFE1.out _ _ _ HP6.out).mono ?_
          rintro x w7 ⟨Af, q, cf, rfl, hq, hk7⟩
          have HP7 := Lib.hid (HP6.out.keptNo hk7)
          have HK7 := Lib.hid (HK6.out.trans hk7)
          have hq' : ¬ (n : Int) < (q : Int) := by omega
          clear hk7
          go_wp2
          go_roundw
          case rel => exact ⟨i + 1, by omega, by omega, by go_num, HP7, HK7⟩
          case measure => simp [intOf]; omega
        have e3' : (dk == 3) = false := beq_eq_false_iff_ne.2 k3
        · have hm : moreAt S1 M (i + 1) = repT (moreAt S1 M i) de df := by
            rw [hsu]
            unfold moreD
            rw [if_neg k0, if_neg k1, if_neg k2, if_neg k3]
          have HD := Lib.hid (fun w h => repossess_any w pb fb (moreAt S1 M i) de df h hFt hdf)
          rw [← hm] at HD
          go_wp2_with fail
          refine (HD.out _ HPb.out).mono ?_
          rintro x w6 ⟨rfl, hp6, hk6⟩
          have HP6 := Lib.hid hp6
          have HK6 := Lib.hid (Kept.fresh HKb.out hk6 (fun b e => by rcases e with e | e <;> rw [e]; exact hbig; exact hbig2))
          clear hp6 hk6
          go_wp2_with fail
          refine (HFE1.out _ _ _ HP6.out).mono ?_
          rintro x w7 ⟨Af, q, cf, rfl, hq, hk7⟩
          have HP7 := Lib.hid (HP6.out.keptNo hk7)
          have HK7 := Lib.hid (HK6.out.trans hk7)
          have hq' : ¬ (n : Int) < (q : Int) := by omega
          clear hk7
          go_wp2
          go_roundw
          case rel => exact ⟨i + 1, by omega, by omega, by go_num, HP7, HK7⟩
          case measure => simp [intOf]; omega
      · have h50' : ¬ (i : Int) < 20 := by omega
        go_wp2
        go_ret
        exact ⟨rfl, HKi.out⟩
    · have hlt' : ¬ (i : Int) < (M.length : Int) := by omega
      go_wp2
      go_ret
      exact ⟨rfl, HKi.out⟩
end Go.Proofs.YtfoeckaeongahaaDoor
