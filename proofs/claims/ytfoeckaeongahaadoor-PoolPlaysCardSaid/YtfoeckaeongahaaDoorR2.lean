/- The reference's pool: who has a frame, whose frames, what is free; note. -/
import Derived.Test.YtfoeckaeongahaaDoorR1
namespace Go.Proofs.YtfoeckaeongahaaDoor
open Go.RowKit Go.Shelf
set_option maxRecDepth 100000

theorem suchTo_none (k : Nat) : suchTo (fun _ => false) k = [] := by unfold suchTo; simp
theorem memTo_zero_ : ∀ m : Fin 64, decide ((memTo m.val 6).length = 0) = decide (m.val = 0) := by decide +kernel
theorem framesL_in (S : PSt) (e : Nat) (he : e < 6) : framesL S e = suchTo (fun f => (S.own f).testBit e) 8 := by
  unfold framesL
  simp only [decide_eq_true he, Bool.true_and]
theorem framesL_out (S : PSt) (e : Nat) (he : ¬ e < 6) : framesL S e = [] := by
  unfold framesL
  simp only [decide_eq_false he, Bool.false_and]
  exact suchTo_none 8
set_option maxHeartbeats 4000000 in
theorem rowners_in (w : World) (rb : Nat) (S : PSt) (f : Nat) (h : RI w rb S) (hf : f < 8) : Calls Tryd.prog 44 #[.pointer (some ⟨rb, 0, none⟩), .int .u8 (f : Int)] w fun x w' => Nums w w' (memTo (S.own f) 6) x := by
  obtain ⟨T, hT⟩ : ∃ T : Nat → Bool, (fun e => (S.own f).testBit e) = T := ⟨_, rfl⟩
  rw [show memTo (S.own f) 6 = suchTo T 6 by first | (rw [← hT]; done) | (rw [← hT]; rfl)]
  have HTC : Hid (∀ k, T k = (S.own f).testBit k) := Lib.hid fun k => by rw [← hT]
  have HM := Lib.hid (fun wr (hK : RI wr rb S) (k : Nat) (hk : k < 256) => rmay_any wr rb k f S hK (by omega))
  have HTS := Lib.hid (suchTo_succ T)
  have HTL := Lib.hid (suchTo_le T)
  have H := Lib.hid h
  clear hT h
  go_enter Tryd.func44, Tryd.ntmps44
  go_wp2
  go_loopw [6, 5] (fun iv ov wr => ∃ (k : Nat) (A : Option Addr) (cap : Nat), k ≤ 6 ∧ iv = .int .u8 k ∧ ov = .slice A (suchTo T k).length cap ∧ Hid (wr.ownsRow w.heap.size 5 1 (.slice A (suchTo T k).length cap) (suchTo T k).length (numV (suchTo T k))) ∧ Kept NoBlk w wr) (fun iv _ _ => 6 - (intOf iv).toNat)
  case atStart => exact ⟨0, none, 0, by omega, rfl, rfl, Lib.hid (own_none _ _ _ _), Kept.refl _ _⟩
  case round =>
    obtain ⟨k, A, cap2, hk8, rfl, rfl, HO, hK⟩ := hrel
    have hle := HTL.out k
    have HK := Lib.hid hK
    have HMk := Lib.hid (fun wr hK => HM.out wr hK k (by omega))
    by_cases hlt : k < 6
    · have hs := HTS.out k
      have hp := H.out.keptNo hK
      have c1 := hp.has f k hf hlt
      rw [← HTC.out k] at c1
      have hx1 := fun w => idx_has w rb f hf
      have hx2 := fun w => idx_bit w rb (129 + f * 6) k hlt
      generalize S.own f = mm at *
      have HP := Lib.hid hp
      have ltr := hp.lt
      clear hK hp
      rw [if_pos ⟨hlt, hf⟩] at HMk
      go_wp2_with fail
      refine (HMk.out _ HP.out).mono ?_
      rintro x w1 ⟨rfl, rfl⟩
      cases ht : T k with
      | false =>
        rw [ht] at c1 hs
        rw [if_neg (by decide), List.append_nil] at hs
        go_wp2
        go_roundw
        case rel => exact ⟨k + 1, A, cap2, by omega, by first | go_num | (simp; omega), by rw [hs], by rw [hs]; exact HO, HK.out⟩
        case measure => simp [intOf]; omega
      | true =>
        rw [ht] at c1 hs
        rw [if_pos rfl] at hs
        have hlen : (suchTo T (k + 1)).length = (suchTo T k).length + 1 := by rw [hs, List.length_append, List.length_singleton]
        have hsv : Hid (numV (suchTo T (k + 1)) = numV (suchTo T k) ++ [.int .u8 (k : Int)]) := Lib.hid (by rw [hs, numV_snoc])
        clear hs
        generalize (suchTo T k).length = q at *
        generalize numV (suchTo T k) = xs at *
        go_wp2_with (refine stopAt 25 rfl ?_)
        refine Held.mk ?_
        refine wpList_append_mine rfl (.tmp 22) (.tmp 24) 37 rfl 5 1 1 Tryd.underlying37 Tryd.szU (by decide) w.heap.size (.slice A q cap2) q xs rfl (own_kept (G := NoBlk) HO.out ((Kept.refl _ _).alloc _) (fun _ _ e => e)) (some ⟨wr.heap.size, 0, none⟩) 1 1 [.int .u8 (k : Int)] rfl (Row.new (Blk.new _ _ _) rfl (by simp [maxLen])) rfl (by simp only [maxLen]; omega) (by omega) (by have := HK.out.size; simp; omega) ?_
        intro A2 cap3 w3 hown3 hK3
        rw [← hsv.out] at hown3
        rw [← hlen] at hown3 ⊢
        have HO3 := Lib.hid hown3
        have HK3 := Lib.hid (Kept.fresh (HK.out.alloc _) hK3 (fun b e => e))
        clear hown3 hK3
        go_wp2
        go_roundw
        case rel => exact ⟨k + 1, A2, cap3, by omega, by first | go_num | (simp; omega), by rw [hlen], HO3, HK3.out⟩
        case measure => simp [intOf]; omega
    · obtain rfl : k = 6 := by omega
      clear hK
      rw [if_neg (by omega)] at HMk
      go_wp2_with fail
      refine (HMk.out _ (H.out.keptNo HK.out)).mono ?_
      rintro x w1 ⟨rfl, rfl⟩
      go_wp2
      go_ret
      exact ⟨_, rfl, HO.out, HK.out⟩
set_option maxHeartbeats 4000000 in
theorem rframes_in (w : World) (rb : Nat) (S : PSt) (e : Nat) (h : RI w rb S) (he : e < 6) : Calls Tryd.prog 45 #[.pointer (some ⟨rb, 0, none⟩), .int .u8 (e : Int)] w fun x w' => Nums w w' (suchTo (fun f => (S.own f).testBit e) 8) x := by
  obtain ⟨T, hT⟩ : ∃ T : Nat → Bool, (fun f => (S.own f).testBit e) = T := ⟨_, rfl⟩
  rw [show suchTo (fun f => (S.own f).testBit e) 8 = suchTo T 8 by first | (rw [← hT]; done) | (rw [← hT]; rfl)]
  have HTC : Hid (∀ k, T k = (S.own k).testBit e) := Lib.hid fun k => by rw [← hT]
  have HM := Lib.hid (fun wr (hK : RI wr rb S) (k : Nat) (hk : k < 256) => rmay_any wr rb e k S hK hk)
  have HTS := Lib.hid (suchTo_succ T)
  have HTL := Lib.hid (suchTo_le T)
  have H := Lib.hid h
  clear hT h
  go_enter Tryd.func45, Tryd.ntmps45
  go_wp2
  go_loopw [6, 5] (fun iv ov wr => ∃ (k : Nat) (A : Option Addr) (cap : Nat), k ≤ 8 ∧ iv = .int .u8 k ∧ ov = .slice A (suchTo T k).length cap ∧ Hid (wr.ownsRow w.heap.size 5 1 (.slice A (suchTo T k).length cap) (suchTo T k).length (numV (suchTo T k))) ∧ Kept NoBlk w wr) (fun iv _ _ => 8 - (intOf iv).toNat)
  case atStart => exact ⟨0, none, 0, by omega, rfl, rfl, Lib.hid (own_none _ _ _ _), Kept.refl _ _⟩
  case round =>
    obtain ⟨k, A, cap2, hk8, rfl, rfl, HO, hK⟩ := hrel
    have hle := HTL.out k
    have HK := Lib.hid hK
    have HMk := Lib.hid (fun wr hK => HM.out wr hK k (by omega))
    by_cases hlt : k < 8
    · have hs := HTS.out k
      have hp := H.out.keptNo hK
      have c1 := hp.has k e hlt he
      rw [← HTC.out k] at c1
      have hx1 := fun w => idx_has w rb k hlt
      have hx2 := fun w => idx_bit w rb (129 + k * 6) e he
      have HP := Lib.hid hp
      have ltr := hp.lt
      clear hK hp
      rw [if_pos ⟨he, hlt⟩] at HMk
      go_wp2_with fail
      refine (HMk.out _ HP.out).mono ?_
      rintro x w1 ⟨rfl, rfl⟩
      cases ht : T k with
      | false =>
        rw [ht] at c1 hs
        rw [if_neg (by decide), List.append_nil] at hs
        go_wp2
        go_roundw
        case rel => exact ⟨k + 1, A, cap2, by omega, by first | go_num | (simp; omega), by rw [hs], by rw [hs]; exact HO, HK.out⟩
        case measure => simp [intOf]; omega
      | true =>
        rw [ht] at c1 hs
        rw [if_pos rfl] at hs
        have hlen : (suchTo T (k + 1)).length = (suchTo T k).length + 1 := by rw [hs, List.length_append, List.length_singleton]
        have hsv : Hid (numV (suchTo T (k + 1)) = numV (suchTo T k) ++ [.int .u8 (k : Int)]) := Lib.hid (by rw [hs, numV_snoc])
        clear hs
        generalize (suchTo T k).length = q at *
        generalize numV (suchTo T k) = xs at *
        go_wp2_with (refine stopAt 25 rfl ?_)
        refine Held.mk ?_
        refine wpList_append_mine rfl (.tmp 22) (.tmp 24) 37 rfl 5 1 1 Tryd.underlying37 Tryd.szU (by decide) w.heap.size (.slice A q cap2) q xs rfl (own_kept (G := NoBlk) HO.out ((Kept.refl _ _).alloc _) (fun _ _ e => e)) (some ⟨wr.heap.size, 0, none⟩) 1 1 [.int .u8 (k : Int)] rfl (Row.new (Blk.new _ _ _) rfl (by simp [maxLen])) rfl (by simp only [maxLen]; omega) (by omega) (by have := HK.out.size; simp; omega) ?_
        intro A2 cap3 w3 hown3 hK3
        rw [← hsv.out] at hown3
        rw [← hlen] at hown3 ⊢
        have HO3 := Lib.hid hown3
        have HK3 := Lib.hid (Kept.fresh (HK.out.alloc _) hK3 (fun b e => e))
        clear hown3 hK3
        go_wp2
        go_roundw
        case rel => exact ⟨k + 1, A2, cap3, by omega, by first | go_num | (simp; omega), by rw [hlen], HO3, HK3.out⟩
        case measure => simp [intOf]; omega
    · obtain rfl : k = 8 := by omega
      clear hK
      rw [if_neg (by omega)] at HMk
      go_wp2_with fail
      refine (HMk.out _ (H.out.keptNo HK.out)).mono ?_
      rintro x w1 ⟨rfl, rfl⟩
      go_wp2
      go_ret
      exact ⟨_, rfl, HO.out, HK.out⟩
theorem rowners_any (w : World) (rb : Nat) (S : PSt) (f : Nat) (h : RI w rb S) (hf : f < 256) : Calls Tryd.prog 44 #[.pointer (some ⟨rb, 0, none⟩), .int .u8 (f : Int)] w fun x w' => Nums w w' (ownersL S f) x := by
  unfold ownersL
  by_cases hf8 : f < 8
  · rw [if_pos hf8]
    exact rowners_in w rb S f h hf8
  · rw [if_neg hf8]
    have HM := Lib.hid (fun w h => rmay_any w rb 0 f S h hf)
    rw [if_neg (fun k => hf8 k.2)] at HM
    have H := Lib.hid h
    clear h
    go_enter Tryd.func44, Tryd.ntmps44
    go_wp2
    go_loopw [6, 5] (fun iv ov wr => iv = .int .u8 0 ∧ ov = .slice none 0 0 ∧ wr = w) (fun _ _ _ => 0)
    case atStart => exact ⟨rfl, rfl, rfl⟩
    case round =>
      obtain ⟨rfl, rfl, rfl⟩ := hrel
      go_wp2_with fail
      refine (HM.out _ H.out).mono ?_
      rintro x w1 ⟨rfl, rfl⟩
      go_wp2
      go_ret
      exact ⟨_, rfl, own_none _ _ _ _, Kept.refl _ _⟩
theorem rframes_any (w : World) (rb : Nat) (S : PSt) (e : Nat) (h : RI w rb S) : Calls Tryd.prog 45 #[.pointer (some ⟨rb, 0, none⟩), .int .u8 (e : Int)] w fun x w' => Nums w w' (framesL S e) x := by
  by_cases he : e < 6
  · rw [framesL_in S e he]
    exact rframes_in w rb S e h he
  · rw [framesL_out S e he]
    have HM := Lib.hid (fun w h => rmay_any w rb e 0 S h (by omega))
    rw [if_neg (fun k => he k.1)] at HM
    have H := Lib.hid h
    clear h
    go_enter Tryd.func45, Tryd.ntmps45
    go_wp2
    go_loopw [6, 5] (fun iv ov wr => iv = .int .u8 0 ∧ ov = .slice none 0 0 ∧ wr = w) (fun _ _ _ => 0)
    case atStart => exact ⟨rfl, rfl, rfl⟩
    case round =>
      obtain ⟨rfl, rfl, rfl⟩ := hrel
      go_wp2_with fail
      refine (HM.out _ H.out).mono ?_
      rintro x w1 ⟨rfl, rfl⟩
      go_wp2
      go_ret
      exact ⟨_, rfl, own_none _ _ _ _, Kept.refl _ _⟩
set_option maxHeartbeats 4000000 in
/-- Room: who has a frame is asked of each. -/
theorem rroom_any (w : World) (rb : Nat) (S : PSt) (h : RI w rb S) (hS : Fit S) : Calls Tryd.prog 47 #[.pointer (some ⟨rb, 0, none⟩)] w fun x w' => Nums w w' (roomL S) x := by
  obtain ⟨T, hT⟩ : ∃ T : Nat → Bool, (fun f => decide (S.own f = 0)) = T := ⟨_, rfl⟩
  rw [show roomL S = suchTo T 8 by rw [← hT]; rfl]
  have HTC : Hid (∀ k, k < 8 → decide ((ownersL S k).length = 0) = T k) := Lib.hid fun k hk => by
    rw [← hT]
    unfold ownersL
    rw [if_pos hk]
    exact memTo_zero_ ⟨S.own k, hS.own k⟩
  have HM := Lib.hid (fun wr (hK : RI wr rb S) (k : Nat) (hk : k < 256) => rmay_any wr rb 0 k S hK hk)
  have HOW := Lib.hid (fun wr (hK : RI wr rb S) (k : Nat) (hk : k < 256) => rowners_any wr rb S k hK hk)
  have HTS := Lib.hid (suchTo_succ T)
  have HTL := Lib.hid (suchTo_le T)
  have H := Lib.hid h
  clear hT h hS
  go_enter Tryd.func47, Tryd.ntmps47

  go_wp2
  go_loopw [4, 3] (fun iv ov wr => ∃ (k : Nat) (A : Option Addr) (cap : Nat), k ≤ 8 ∧ iv = .int .u8 k ∧ ov = .slice A (suchTo T k).length cap ∧ Hid (wr.ownsRow w.heap.size 5 1 (.slice A (suchTo T k).length cap) (suchTo T k).length (numV (suchTo T k))) ∧ Kept NoBlk w wr) (fun iv _ _ => 8 - (intOf iv).toNat)
  case atStart => exact ⟨0, none, 0, by omega, rfl, rfl, Lib.hid (own_none _ _ _ _), Kept.refl _ _⟩
  case round =>
    obtain ⟨k, A, cap2, hk8, rfl, rfl, HO, hK⟩ := hrel
    have hle := HTL.out k
    have HK := Lib.hid hK
    have HMk := Lib.hid (fun wr hK => HM.out wr hK k (by omega))
    by_cases hlt : k < 8
    · have hs := HTS.out k
      have hp := H.out.keptNo hK
      have HP := Lib.hid hp
      have ltr := hp.lt
      clear hK hp
      rw [if_pos ⟨by omega, hlt⟩] at HMk
      go_wp2_with fail
      refine (HMk.out _ HP.out).mono ?_
      rintro x w1 ⟨rfl, rfl⟩
      go_wp2_with fail
      refine (HOW.out _ HP.out k (by omega)).mono ?_
      rintro x w1 ⟨v, rfl, ho, hk1⟩
      obtain ⟨Av, capv, rfl⟩ := own_form ho
      have HK1 := Lib.hid (HK.out.trans hk1)
      have HO1 := Lib.hid (own_kept HO.out hk1 (fun _ _ e => e))
      have hct := HTC.out k hlt
      generalize (ownersL S k).length = ln at *
      clear hk1 ho HOW HTC
      cases ht : T k with
      | false =>
        rw [ht] at hct hs
        have hz : ((ln : Int) == 0) = false := beq_eq_false_iff_ne.2 (by have := of_decide_eq_false hct; omega)
        clear hct
        rw [if_neg (by decide), List.append_nil] at hs
        go_wp2
        go_roundw
        case rel => exact ⟨k + 1, A, cap2, by omega, by first | go_num | (simp; omega), by rw [hs], by rw [hs]; exact HO1, HK1.out⟩
        case measure => simp [intOf]; omega
      | true =>
        rw [ht] at hct hs
        obtain rfl : ln = 0 := of_decide_eq_true hct
        clear hct
        rw [if_pos rfl] at hs
        have hlen : (suchTo T (k + 1)).length = (suchTo T k).length + 1 := by rw [hs, List.length_append, List.length_singleton]
        have hsv : Hid (numV (suchTo T (k + 1)) = numV (suchTo T k) ++ [.int .u8 (k : Int)]) := Lib.hid (by rw [hs, numV_snoc])
        clear hs
        generalize (suchTo T k).length = q at *
        generalize numV (suchTo T k) = xs at *
        go_wp2_with (refine stopAt 19 rfl ?_)
        refine Held.mk ?_
        refine wpList_append_mine rfl (.tmp 16) (.tmp 18) 37 rfl 5 1 1 Tryd.underlying37 Tryd.szU (by decide) w.heap.size (.slice A q cap2) q xs rfl (own_kept (G := NoBlk) HO1.out ((Kept.refl _ _).alloc _) (fun _ _ e => e)) (some ⟨w1.heap.size, 0, none⟩) 1 1 [.int .u8 (k : Int)] rfl (Row.new (Blk.new _ _ _) rfl (by simp [maxLen])) rfl (by simp only [maxLen]; omega) (by omega) (by have := HK1.out.size; simp; omega) ?_
        intro A2 cap3 w3 hown3 hK3
        rw [← hsv.out] at hown3
        rw [← hlen] at hown3 ⊢
        have HO3 := Lib.hid hown3
        have HK3 := Lib.hid (Kept.fresh (HK1.out.alloc _) hK3 (fun b e => e))
        clear hown3 hK3
        go_wp2
        go_roundw
        case rel => exact ⟨k + 1, A2, cap3, by omega, by first | go_num | (simp; omega), by rw [hlen], HO3, HK3.out⟩
        case measure => simp [intOf]; omega
    · obtain rfl : k = 8 := by omega
      clear hK
      rw [if_neg (by omega)] at HMk
      go_wp2_with fail
      refine (HMk.out _ (H.out.keptNo HK.out)).mono ?_
      rintro x w1 ⟨rfl, rfl⟩
      go_wp2
      go_ret
      exact ⟨_, rfl, HO.out, HK.out⟩
set_option maxHeartbeats 2000000 in
theorem rnote_any (w : World) (rb : Nat) (S : PSt) (k e i : Int) (h : RI w rb S) (hl : S.ev.length ≤ 1000000) : Calls Tryd.prog 63 #[.pointer (some ⟨rb, 0, none⟩), .int .u8 k, .int .u8 e, .int .u8 i] w fun x w' => x = .returned (.tuple #[]) ∧ RI w' rb { S with ev := S.ev ++ [(k, e, i)] } ∧ Kept (OneBlk rb) w w' := by
  obtain ⟨v, hr, c9⟩ := h.cells.2.2
  have H := Lib.hid h
  have HR := Lib.hid (hr.kept ((Kept.refl NoBlk w).alloc (.cells #[] 34)) (fun _ _ _ e => e))
  obtain ⟨A, cap, rfl, e1, e2, -⟩ := hr.form
  have hfz := h.frozen
  have hltb := h.lt
  have h1 := evV_one S.ev
  have HFIN : Hid (∀ (w3 : World) (u : Value), Row w3 34 3 u (S.ev.length + 1) (evV S.ev ++ [.int .u8 k, .int .u8 e, .int .u8 i]) → Kept NoBlk w w3 → RI (w3.setCell ⟨rb, 519, none⟩ u) rb { S with ev := S.ev ++ [(k, e, i)] } ∧ Kept (OneBlk rb) w (w3.setCell ⟨rb, 519, none⟩ u) ∧ w3.frozen? ⟨rb, 519, none⟩ = false ∧ ∃ x, w3.cell? ⟨rb, 519, none⟩ = some x) := Lib.hid fun w3 u hrow hk =>
    ⟨H.out.setEv hk (k, e, i) hrow, (hk.weaken fun _ _ e => e.elim).setCell oneHit _, (H.out.keptNo hk).frozen 519, by obtain ⟨v, -, hc⟩ := (H.out.keptNo hk).cells.2.2; exact ⟨v, hc⟩⟩
  clear h hr e1 e2
  generalize hn : S.ev.length = n at *
  generalize evV S.ev = xs at *
  clear hn
  go_enter Tryd.func63, Tryd.ntmps63
  go_wp2_with (refine stopAt 14 rfl ?_)
  refine Held.mk ?_
  refine wpList_append_mine rfl (.tmp 9) (.tmp 13) 30 rfl 34 3 3 Tryd.underlying30 Tryd.szEv (by decide) w.heap.size (.slice (some ⟨w.heap.size, 0, none⟩) 0 0) 0 [] rfl (own_new (Blk.new w 34 #[]) (Nat.le_refl _)) A n cap xs rfl HR.out h1 (by simp only [maxLen]; omega) (by omega) (by simp) ?_
  intro A2 cap2 w3 hown3 hK3
  rw [List.nil_append, Nat.zero_add] at hown3
  rw [Nat.zero_add]
  have HO := Lib.hid hown3
  have HK := Lib.hid (Kept.fresh ((Kept.refl NoBlk w).alloc (.cells #[] 34)) hK3 (fun b e => e))
  clear hown3 hK3 HR c9
  have hsz3 := HK.out.size
  go_wp2_with (refine stopAt 20 rfl ?_)
  refine Held.mk ?_
  refine wpList_append_mine rfl (.tmp 14) (.tmp 19) 30 rfl 34 3 3 Tryd.underlying30 Tryd.szEv (by decide) w.heap.size (.slice A2 n cap2) n xs rfl (own_kept (G := NoBlk) HO.out ((Kept.refl _ _).alloc _) (fun _ _ e => e)) (some ⟨w3.heap.size, 0, none⟩) 1 1 [.int .u8 k, .int .u8 e, .int .u8 i] rfl (Row.new (Blk.new _ _ _) rfl (by simp [maxLen])) rfl (by simp only [maxLen]; omega) (by omega) (by simp; omega) ?_
  intro A4 cap4 w5 hown5 hK5
  obtain ⟨f1, f2, f3, x5, f5⟩ := HFIN.out w5 (.slice A4 (n + 1) cap4) (Row.of_own hown5) (Kept.fresh (HK.out.alloc _) hK5 (fun b e => e))
  have F1 := Lib.hid f1
  have F2 := Lib.hid f2
  clear f1 f2 hown5 hK5 HFIN HO HK
  go_wp2
  refine bodyPost_end (v := .tuple #[]) (by simp [results, Tryd.results63, go_sem]) rfl ?_
  exact ⟨rfl, F1.out, F2.out⟩
end Go.Proofs.YtfoeckaeongahaaDoor
