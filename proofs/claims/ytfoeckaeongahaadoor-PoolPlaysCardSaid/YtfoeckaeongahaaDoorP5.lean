/- The pool: its deeds, what is read of it. -/
import Derived.Test.YtfoeckaeongahaaDoorP4
namespace Go.Proofs.YtfoeckaeongahaaDoor
open Go.RowKit Go.Shelf
set_option maxRecDepth 100000

set_option maxHeartbeats 4000000 in
theorem share_any (w : World) (pb fb : Nat) (S : PSt) (f t i : Nat) (h : PI w pb fb S) (hS : Fit S) (hi256 : i < 256) : Calls Tryd.prog 16 #[.pointer (some ⟨pb, 0, none⟩), .int .u8 (f : Int), .int .u8 (t : Int), .int .u8 (i : Int)] w (Done w pb fb (.int .i64 (shareC S f t i)) (shareT S f t i)) := by
  obtain ⟨V, hV⟩ : ∃ V : Int, shareC S f t i = V := ⟨_, rfl⟩
  obtain ⟨T, hT⟩ : ∃ T : PSt, shareT S f t i = T := ⟨_, rfl⟩
  rw [hV, hT]
  have HA := Lib.hid (fun w (h : PI w pb fb S) => at_any w pb fb f i S h hi256)
  have HM := Lib.hid (fun w e => may_any w pb e)
  have H := Lib.hid h
  have FS := Lib.hid hS
  have hown := hS.own i
  have HH := Lib.hid (fun w e he => has_any w (S.own i) e hown he)
  unfold atV at HA
  clear h hS
  by_cases hat : f < 6 ∧ i < 8
  · rw [if_pos hat] at HA
    obtain ⟨he, hi⟩ := hat
    have c3 := (H.out.frame i hi).1
    by_cases ht : t < 6
    · have HM2 := Lib.hid (fun w => HM.out w t)
      rw [if_pos ht] at HM2
      have HF := Lib.hid (fun w => HH.out w f he)
      have HG := Lib.hid (fun w => HH.out w t ht)
      cases hf : (S.own i).testBit f with
      | false =>
        rw [hf] at HF
        have HV : Hid (V = 7) := Lib.hid (by rw [← hV]; unfold shareC; rw [if_pos ⟨he, hi⟩]; rw [if_pos ht]; rw [hf, if_neg (by decide)])
        have HT : Hid (T = S) := Lib.hid (by rw [← hT]; unfold shareT; rw [if_pos ⟨he, hi⟩]; rw [if_pos ht]; rw [hf, if_neg (by decide)])
        clear hV hT
        go_enter Tryd.func16, Tryd.ntmps16
        go_wp2_with fail
        refine (HA.out _ H.out).mono ?_
        rintro x w1 ⟨rfl, rfl⟩
        go_wp2_with fail
        refine (HM2.out _).mono ?_
        rintro x w1 ⟨rfl, rfl⟩
        go_wp2_with fail
        refine (HF.out _).mono ?_
        rintro x w1 ⟨rfl, rfl⟩
        go_wp2
        go_ret
        exact ⟨by rw [HV.out]; rfl, by rw [HT.out]; exact H.out, Kept.refl _ _⟩
      | true =>
        rw [hf] at HF
        cases hg : (S.own i).testBit t with
        | true =>
          rw [hg] at HG
          have HV : Hid (V = 6) := Lib.hid (by rw [← hV]; unfold shareC; rw [if_pos ⟨he, hi⟩]; rw [if_pos ht]; rw [if_pos hf]; rw [if_pos hg])
          have HT : Hid (T = S) := Lib.hid (by rw [← hT]; unfold shareT; rw [if_pos ⟨he, hi⟩]; rw [if_pos ht]; rw [if_pos hf]; rw [if_pos hg])
          clear hV hT
          go_enter Tryd.func16, Tryd.ntmps16
          go_wp2_with fail
          refine (HA.out _ H.out).mono ?_
          rintro x w1 ⟨rfl, rfl⟩
          go_wp2_with fail
          refine (HM2.out _).mono ?_
          rintro x w1 ⟨rfl, rfl⟩
          go_wp2_with fail
          refine (HF.out _).mono ?_
          rintro x w1 ⟨rfl, rfl⟩
          go_wp2_with fail
          refine (HG.out _).mono ?_
          rintro x w1 ⟨rfl, rfl⟩
          go_wp2
          go_ret
          exact ⟨by rw [HV.out]; rfl, by rw [HT.out]; exact H.out, Kept.refl _ _⟩
        | false =>
          rw [hg] at HG
          have HGV := Lib.hid (fun w h => give_any w pb fb S 2 t i h ht hi hown (FS.out.count t).1 (FS.out.count t).2 FS.out.ev)
          have HV : Hid (V = giveC S t) := Lib.hid (by rw [← hV]; unfold shareC; rw [if_pos ⟨he, hi⟩]; rw [if_pos ht]; rw [if_pos hf]; rw [hg, if_neg (by decide)])
          have HT : Hid (T = giveT S 2 t i) := Lib.hid (by rw [← hT]; unfold shareT; rw [if_pos ⟨he, hi⟩]; rw [if_pos ht]; rw [if_pos hf]; rw [hg, if_neg (by decide)])
          clear hV hT
          generalize giveC S t = gc at *
          generalize giveT S 2 t i = gt at *
          go_enter Tryd.func16, Tryd.ntmps16
          go_wp2_with fail
          refine (HA.out _ H.out).mono ?_
          rintro x w1 ⟨rfl, rfl⟩
          go_wp2_with fail
          refine (HM2.out _).mono ?_
          rintro x w1 ⟨rfl, rfl⟩
          go_wp2_with fail
          refine (HF.out _).mono ?_
          rintro x w1 ⟨rfl, rfl⟩
          go_wp2_with fail
          refine (HG.out _).mono ?_
          rintro x w1 ⟨rfl, rfl⟩
          go_wp2_with fail
          refine (HGV.out _ H.out).mono ?_
          rintro x w1 ⟨rfl, hp, hk⟩
          have HP := Lib.hid hp
          have HK := Lib.hid hk
          clear hp hk
          go_wp2
          go_ret
          exact ⟨by rw [HV.out]; rfl, by rw [HT.out]; exact HP.out, HK.out⟩
    · have HM2 := Lib.hid (fun w => HM.out w t)
      rw [if_neg ht] at HM2
      have HV : Hid (V = 2) := Lib.hid (by rw [← hV]; unfold shareC; rw [if_pos ⟨he, hi⟩]; rw [if_neg ht])
      have HT : Hid (T = S) := Lib.hid (by rw [← hT]; unfold shareT; rw [if_pos ⟨he, hi⟩]; rw [if_neg ht])
      clear hV hT
      go_enter Tryd.func16, Tryd.ntmps16
      go_wp2_with fail
      refine (HA.out _ H.out).mono ?_
      rintro x w1 ⟨rfl, rfl⟩
      go_wp2_with fail
      refine (HM2.out _).mono ?_
      rintro x w1 ⟨rfl, rfl⟩
      go_wp2
      go_ret
      exact ⟨by rw [HV.out]; rfl, by rw [HT.out]; exact H.out, Kept.refl _ _⟩
  · rw [if_neg hat] at HA
    have HV : Hid (V = 2) := Lib.hid (by rw [← hV]; unfold shareC; rw [if_neg hat])
    have HT : Hid (T = S) := Lib.hid (by rw [← hT]; unfold shareT; rw [if_neg hat])
    clear hV hT
    go_enter Tryd.func16, Tryd.ntmps16
    go_wp2_with fail
    refine (HA.out _ H.out).mono ?_
    rintro x w1 ⟨rfl, rfl⟩
    go_wp2
    go_ret
    exact ⟨by rw [HV.out]; rfl, by rw [HT.out]; exact H.out, Kept.refl _ _⟩
set_option maxHeartbeats 4000000 in
theorem free_any (w : World) (pb fb : Nat) (S : PSt) (e i : Nat) (h : PI w pb fb S) (hS : Fit S) (hi256 : i < 256) : Calls Tryd.prog 17 #[.pointer (some ⟨pb, 0, none⟩), .int .u8 (e : Int), .int .u8 (i : Int)] w (Done w pb fb (.tuple #[.bool (freeB S e i), .int .i64 (freeC S e i)]) (freeT S e i)) := by
  obtain ⟨V, hV⟩ : ∃ V : Bool, freeB S e i = V := ⟨_, rfl⟩
  obtain ⟨C, hC⟩ : ∃ C : Int, freeC S e i = C := ⟨_, rfl⟩
  obtain ⟨T, hT⟩ : ∃ T : PSt, freeT S e i = T := ⟨_, rfl⟩
  rw [hV, hC, hT]
  have HA := Lib.hid (fun w (h : PI w pb fb S) => at_any w pb fb e i S h hi256)
  have HM := Lib.hid (fun w e => may_any w pb e)
  have H := Lib.hid h
  have FS := Lib.hid hS
  have hown := hS.own i
  have HH := Lib.hid (fun w e he => has_any w (S.own i) e hown he)
  unfold atV at HA
  clear h hS
  by_cases hat : e < 6 ∧ i < 8
  · rw [if_pos hat] at HA
    obtain ⟨he, hi⟩ := hat
    have c3 := (H.out.frame i hi).1
    have HF := Lib.hid (fun w => HH.out w e he)
    cases hf : (S.own i).testBit e with
    | false =>
      rw [hf] at HF
      have HV : Hid (V = false) := Lib.hid (by rw [← hV]; unfold freeB; rw [if_pos ⟨he, hi⟩]; rw [hf, if_neg (by decide)])
      have HC : Hid (C = 7) := Lib.hid (by rw [← hC]; unfold freeC; rw [if_pos ⟨he, hi⟩]; rw [hf, if_neg (by decide)])
      have HT : Hid (T = S) := Lib.hid (by rw [← hT]; unfold freeT; rw [if_pos ⟨he, hi⟩]; rw [hf, if_neg (by decide)])
      clear hV hC hT
      go_enter Tryd.func17, Tryd.ntmps17
      go_wp2_with fail
      refine (HA.out _ H.out).mono ?_
      rintro x w1 ⟨rfl, rfl⟩
      go_wp2_with fail
      refine (HF.out _).mono ?_
      rintro x w1 ⟨rfl, rfl⟩
      go_wp2
      go_ret2
      exact ⟨by rw [HV.out, HC.out]; rfl, by rw [HT.out]; exact H.out, Kept.refl _ _⟩
    | true =>
      rw [hf] at HF
      have HGV := Lib.hid (fun w h => take_any w pb fb S 3 e i h he hi hown (FS.out.count e).1 (FS.out.count e).2 FS.out.ev)
      have HV : Hid (V = takeB S e i) := Lib.hid (by rw [← hV]; unfold freeB; rw [if_pos ⟨he, hi⟩]; rw [if_pos hf])
      have HC : Hid (C = 0) := Lib.hid (by rw [← hC]; unfold freeC; rw [if_pos ⟨he, hi⟩]; rw [if_pos hf])
      have HT : Hid (T = takeT S 3 e i) := Lib.hid (by rw [← hT]; unfold freeT; rw [if_pos ⟨he, hi⟩]; rw [if_pos hf])
      clear hV hC hT
      generalize takeB S e i = gc at *
      generalize takeT S 3 e i = gt at *
      go_enter Tryd.func17, Tryd.ntmps17
      go_wp2_with fail
      refine (HA.out _ H.out).mono ?_
      rintro x w1 ⟨rfl, rfl⟩
      go_wp2_with fail
      refine (HF.out _).mono ?_
      rintro x w1 ⟨rfl, rfl⟩
      go_wp2_with fail
      refine (HGV.out _ H.out).mono ?_
      rintro x w1 ⟨rfl, hp, hk⟩
      have HP := Lib.hid hp
      have HK := Lib.hid hk
      clear hp hk
      go_wp2
      go_ret2
      exact ⟨by rw [HV.out, HC.out]; rfl, by rw [HT.out]; exact HP.out, HK.out⟩
  · rw [if_neg hat] at HA
    have HV : Hid (V = false) := Lib.hid (by rw [← hV]; unfold freeB; rw [if_neg hat])
    have HC : Hid (C = 2) := Lib.hid (by rw [← hC]; unfold freeC; rw [if_neg hat])
    have HT : Hid (T = S) := Lib.hid (by rw [← hT]; unfold freeT; rw [if_neg hat])
    clear hV hC hT
    go_enter Tryd.func17, Tryd.ntmps17
    go_wp2_with fail
    refine (HA.out _ H.out).mono ?_
    rintro x w1 ⟨rfl, rfl⟩
    go_wp2
    go_ret2
    exact ⟨by rw [HV.out, HC.out]; rfl, by rw [HT.out]; exact H.out, Kept.refl _ _⟩
set_option maxHeartbeats 4000000 in
theorem repossess_any (w : World) (pb fb : Nat) (S : PSt) (e i : Nat) (h : PI w pb fb S) (hS : Fit S) (hi256 : i < 256) : Calls Tryd.prog 18 #[.pointer (some ⟨pb, 0, none⟩), .int .u8 (e : Int), .int .u8 (i : Int)] w (Done w pb fb (.tuple #[.bool (repB S e i), .int .i64 (repC S e i)]) (repT S e i)) := by
  obtain ⟨V, hV⟩ : ∃ V : Bool, repB S e i = V := ⟨_, rfl⟩
  obtain ⟨C, hC⟩ : ∃ C : Int, repC S e i = C := ⟨_, rfl⟩
  obtain ⟨T, hT⟩ : ∃ T : PSt, repT S e i = T := ⟨_, rfl⟩
  rw [hV, hC, hT]
  have HA := Lib.hid (fun w (h : PI w pb fb S) => at_any w pb fb e i S h hi256)
  have HM := Lib.hid (fun w e => may_any w pb e)
  have H := Lib.hid h
  have FS := Lib.hid hS
  have hown := hS.own i
  have HH := Lib.hid (fun w e he => has_any w (S.own i) e hown he)
  unfold atV at HA
  clear h hS
  by_cases hat : e < 6 ∧ i < 8
  · rw [if_pos hat] at HA
    obtain ⟨he, hi⟩ := hat
    have c3 := (H.out.frame i hi).1
    have HF := Lib.hid (fun w => HH.out w e he)
    cases hf : (S.own i).testBit e with
    | false =>
      rw [hf] at HF
      have HV : Hid (V = false) := Lib.hid (by rw [← hV]; unfold repB; rw [if_pos ⟨he, hi⟩]; rw [hf, if_neg (by decide)])
      have HC : Hid (C = 7) := Lib.hid (by rw [← hC]; unfold repC; rw [if_pos ⟨he, hi⟩]; rw [hf, if_neg (by decide)])
      have HT : Hid (T = S) := Lib.hid (by rw [← hT]; unfold repT; rw [if_pos ⟨he, hi⟩]; rw [hf, if_neg (by decide)])
      clear hV hC hT
      go_enter Tryd.func18, Tryd.ntmps18
      go_wp2_with fail
      refine (HA.out _ H.out).mono ?_
      rintro x w1 ⟨rfl, rfl⟩
      go_wp2_with fail
      refine (HF.out _).mono ?_
      rintro x w1 ⟨rfl, rfl⟩
      go_wp2
      go_ret2
      exact ⟨by rw [HV.out, HC.out]; rfl, by rw [HT.out]; exact H.out, Kept.refl _ _⟩
    | true =>
      rw [hf] at HF
      have c2 := H.out.cells.2.2.1 e he
      have hx7 := fun w => idx_env w pb 7 e he
      by_cases hq : S.count e ≤ 2
      · have HV : Hid (V = false) := Lib.hid (by rw [← hV]; unfold repB; rw [if_pos ⟨he, hi⟩]; rw [if_pos hf]; rw [if_pos hq])
        have HC : Hid (C = 9) := Lib.hid (by rw [← hC]; unfold repC; rw [if_pos ⟨he, hi⟩]; rw [if_pos hf]; rw [if_pos hq])
        have HT : Hid (T = S) := Lib.hid (by rw [← hT]; unfold repT; rw [if_pos ⟨he, hi⟩]; rw [if_pos hf]; rw [if_pos hq])
        clear hV hC hT
        generalize S.count e = ce at *
        go_enter Tryd.func18, Tryd.ntmps18
        go_wp2_with fail
        refine (HA.out _ H.out).mono ?_
        rintro x w1 ⟨rfl, rfl⟩
        go_wp2_with fail
        refine (HF.out _).mono ?_
        rintro x w1 ⟨rfl, rfl⟩
        go_wp2
        go_ret2
        exact ⟨by rw [HV.out, HC.out]; rfl, by rw [HT.out]; exact H.out, Kept.refl _ _⟩
      · have hq' : 2 < S.count e := by omega
        have HGV := Lib.hid (fun w h => take_any w pb fb S 4 e i h he hi hown (FS.out.count e).1 (FS.out.count e).2 FS.out.ev)
        have HV : Hid (V = takeB S e i) := Lib.hid (by rw [← hV]; unfold repB; rw [if_pos ⟨he, hi⟩]; rw [if_pos hf]; rw [if_neg hq])
        have HC : Hid (C = 0) := Lib.hid (by rw [← hC]; unfold repC; rw [if_pos ⟨he, hi⟩]; rw [if_pos hf]; rw [if_neg hq])
        have HT : Hid (T = takeT S 4 e i) := Lib.hid (by rw [← hT]; unfold repT; rw [if_pos ⟨he, hi⟩]; rw [if_pos hf]; rw [if_neg hq])
        clear hV hC hT
        generalize takeB S e i = gc at *
        generalize takeT S 4 e i = gt at *
        go_enter Tryd.func18, Tryd.ntmps18
        go_wp2_with fail
        refine (HA.out _ H.out).mono ?_
        rintro x w1 ⟨rfl, rfl⟩
        go_wp2_with fail
        refine (HF.out _).mono ?_
        rintro x w1 ⟨rfl, rfl⟩
        go_wp2_with fail
        refine (HGV.out _ H.out).mono ?_
        rintro x w1 ⟨rfl, hp, hk⟩
        have HP := Lib.hid hp
        have HK := Lib.hid hk
        clear hp hk
        go_wp2
        go_ret2
        exact ⟨by rw [HV.out, HC.out]; rfl, by rw [HT.out]; exact HP.out, HK.out⟩
  · rw [if_neg hat] at HA
    have HV : Hid (V = false) := Lib.hid (by rw [← hV]; unfold repB; rw [if_neg hat])
    have HC : Hid (C = 2) := Lib.hid (by rw [← hC]; unfold repC; rw [if_neg hat])
    have HT : Hid (T = S) := Lib.hid (by rw [← hT]; unfold repT; rw [if_neg hat])
    clear hV hC hT
    go_enter Tryd.func18, Tryd.ntmps18
    go_wp2_with fail
    refine (HA.out _ H.out).mono ?_
    rintro x w1 ⟨rfl, rfl⟩
    go_wp2
    go_ret2
    exact ⟨by rw [HV.out, HC.out]; rfl, by rw [HT.out]; exact H.out, Kept.refl _ _⟩
theorem holds_any (w : World) (pb fb : Nat) (S : PSt) (e i : Nat) (h : PI w pb fb S) (hS : Fit S) (hi256 : i < 256) : Calls Tryd.prog 12 #[.pointer (some ⟨pb, 0, none⟩), .int .u8 (e : Int), .int .u8 (i : Int)] w fun x w' => x = .returned (.bool (holdsB S e i)) ∧ w = w' := by
  obtain ⟨V, hV⟩ : ∃ V, holdsB S e i = V := ⟨_, rfl⟩
  rw [hV]
  have HA := Lib.hid (fun w (h : PI w pb fb S) => at_any w pb fb e i S h hi256)
  have HM := Lib.hid (fun w e => may_any w pb e)
  have H := Lib.hid h
  have FS := Lib.hid hS
  have hown := hS.own i
  have HH := Lib.hid (fun w e he => has_any w (S.own i) e hown he)
  unfold atV at HA
  clear h hS
  by_cases hat : e < 6 ∧ i < 8
  · rw [if_pos hat] at HA
    obtain ⟨he, hi⟩ := hat
    have c3 := (H.out.frame i hi).1
    have HF := Lib.hid (fun w => HH.out w e he)
    have HV : Hid (V = (S.own i).testBit e) := Lib.hid (by rw [← hV]; unfold holdsB; rw [if_pos ⟨he, hi⟩])
    clear hV
    generalize (S.own i).testBit e = tb at *
    go_enter Tryd.func12, Tryd.ntmps12
    go_wp2_with fail
    refine (HA.out _ H.out).mono ?_
    rintro x w1 ⟨rfl, rfl⟩
    go_wp2_with fail
    refine (HF.out _).mono ?_
    rintro x w1 ⟨rfl, rfl⟩
    cases tb with
    | false =>
      go_wp2
      go_ret
      exact ⟨by rw [HV.out]; rfl, rfl⟩
    | true =>
      go_wp2
      go_ret
      exact ⟨by rw [HV.out]; rfl, rfl⟩
  · rw [if_neg hat] at HA
    have HV : Hid (V = false) := Lib.hid (by rw [← hV]; unfold holdsB; rw [if_neg hat])
    clear hV
    go_enter Tryd.func12, Tryd.ntmps12
    go_wp2_with fail
    refine (HA.out _ H.out).mono ?_
    rintro x w1 ⟨rfl, rfl⟩
    go_wp2
    go_ret
    exact ⟨by rw [HV.out]; rfl, rfl⟩
theorem psize_any (w : World) (pb fb : Nat) (S : PSt) (h : PI w pb fb S) : Calls Tryd.prog 50 #[.pointer (some ⟨pb, 0, none⟩)] w fun x w' => x = .returned (.int .i64 8) ∧ w = w' := by
  obtain ⟨cap, -, c0⟩ := h.cells.1
  unfold frV at c0
  clear h
  go_enter Tryd.func50, Tryd.ntmps50
  go_wp2
  go_ret
  exact ⟨rfl, rfl⟩
set_option maxHeartbeats 2000000 in
theorem guard_any (w : World) (pb fb : Nat) (S : PSt) (i : Nat) (h : PI w pb fb S) (hS : Fit S) (hi256 : i < 256) : Calls Tryd.prog 21 #[.pointer (some ⟨pb, 0, none⟩), .int .u8 (i : Int)] w fun x w' => x = .returned (guardV S i) ∧ Kept NoBlk w w' := by
  obtain ⟨V, hV⟩ : ∃ V, guardV S i = V := ⟨_, rfl⟩
  rw [hV]
  have HA := Lib.hid (fun w (h : PI w pb fb S) => at_any w pb fb 0 i S h hi256)
  have H := Lib.hid h
  have H0 := Lib.hid (h.keptNo ((Kept.refl NoBlk w).alloc (.cells #[.string ⟨#[]⟩, .int .u8 0] 42)))
  have lt2 := h.ltF
  have hown := hS.own i
  unfold atV at HA
  clear h hS
  by_cases hi : i < 8
  · rw [if_pos ⟨by omega, hi⟩] at HA
    obtain ⟨c3, c4, c5⟩ := H.out.frame i hi
    by_cases h0 : S.own i = 0
    · have HV : Hid (V = .tuple #[capV ⟨#[]⟩ 0, .bool false]) := Lib.hid (by rw [← hV]; unfold guardV; rw [if_neg (fun k => k.2 h0)])
      rw [h0] at c3
      clear hV
      go_enter Tryd.func21, Tryd.ntmps21
      go_wp2_with fail
      refine (HA.out _ H0.out).mono ?_
      rintro x w1 ⟨rfl, rfl⟩
      go_wp2
      refine bodyPost_ret (v := .tuple #[.agg #[.string ⟨#[]⟩, .int .u8 0], .bool false]) (by simp [results, Tryd.f21, go_sem]) rfl ⟨by rw [HV.out]; rfl, by repeat (with_reducible first | exact Kept.refl _ _ | apply Kept.drew | apply Kept.drewN | apply Kept.alloc | exact oneHit | apply Kept.setCell)⟩
    · have hne : (((S.own i : Nat) : Int) == 0) = false := beq_eq_false_iff_ne.2 (by omega)
      have HV : Hid (V = .tuple #[capV (S.gn i) (S.gr i), .bool true]) := Lib.hid (by rw [← hV]; unfold guardV; rw [if_pos ⟨hi, h0⟩])
      clear hV h0
      go_enter Tryd.func21, Tryd.ntmps21
      go_wp2_with fail
      refine (HA.out _ H0.out).mono ?_
      rintro x w1 ⟨rfl, rfl⟩
      go_wp2
      refine bodyPost_ret (v := .tuple #[.agg #[.string (S.gn i), .int .u8 (S.gr i)], .bool true]) (by simp [results, Tryd.f21, go_sem]) rfl ⟨by rw [HV.out]; rfl, by repeat (with_reducible first | exact Kept.refl _ _ | apply Kept.drew | apply Kept.drewN | apply Kept.alloc | exact oneHit | apply Kept.setCell)⟩
  · rw [if_neg (fun k => hi k.2)] at HA
    have HV : Hid (V = .tuple #[capV ⟨#[]⟩ 0, .bool false]) := Lib.hid (by rw [← hV]; unfold guardV; rw [if_neg (fun k => hi k.1)])
    clear hV
    go_enter Tryd.func21, Tryd.ntmps21
    go_wp2_with fail
    refine (HA.out _ H0.out).mono ?_
    rintro x w1 ⟨rfl, rfl⟩
    go_wp2
    refine bodyPost_ret (v := .tuple #[.agg #[.string ⟨#[]⟩, .int .u8 0], .bool false]) (by simp [results, Tryd.f21, go_sem]) rfl ⟨by rw [HV.out]; rfl, by repeat (with_reducible first | exact Kept.refl _ _ | apply Kept.drew | apply Kept.drewN | apply Kept.alloc | exact oneHit | apply Kept.setCell)⟩
end Go.Proofs.YtfoeckaeongahaaDoor
