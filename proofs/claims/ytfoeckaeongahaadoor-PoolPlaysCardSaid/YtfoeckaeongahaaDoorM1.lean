/- PoolOnce, walked. -/
import Derived.Test.YtfoeckaeongahaaDoorR6
namespace Go.Proofs.YtfoeckaeongahaaDoor
open Go.RowKit Go.Shelf
set_option maxRecDepth 100000

def TrueP (w : World) (e : Ending) (w' : World) : Prop := e = .returned (.bool true) ∧ Kept NoBlk w w'
/-- A slice of its own that holds numbers, cell by cell. -/
theorem nums_form {w : World} {base : Nat} {v : Value} {l : List Nat} (h : w.ownsRow base 5 1 v l.length (numV l)) : ∃ A cap, v = .slice A l.length cap ∧ (0 < l.length → ∃ g, A = some ⟨g, 0, none⟩ ∧ base ≤ g ∧ g < w.heap.size ∧ ∀ i (hi : i < l.length), w.cell? ⟨g, i, none⟩ = some (.int .u8 (l[i] : Int))) := by
  obtain ⟨hl, ⟨rfl, h0⟩ | ⟨g, cap, cur, rfl, hg, hb, hn, hm, hs, ht⟩⟩ := h
  · exact ⟨none, 0, by rw [h0], fun h => by omega⟩
  · refine ⟨_, cap, rfl, fun h0 => ⟨g, rfl, hg, Blk.lt (show Blk w g 5 cur from hb), fun i hi => ?_⟩⟩
    rw [Blk.cell (show Blk w g 5 cur from hb)]
    have e : (cur.toList.take (l.length * 1))[i]? = (numV l)[i]? := by rw [ht]
    rw [List.getElem?_take, if_pos (by omega), Array.getElem?_toList] at e
    rw [e]
    unfold numV
    rw [List.getElem?_map, List.getElem?_eq_getElem hi]
    rfl
theorem idx_num (w : World) (g N cap i : Nat) (h : i < N) : (Instr.indexAt 37 (.slice (some ⟨g, 0, none⟩) N cap) (.int .i64 (i : Int))).run Tryd.prog w = .ok (.pointer (some ⟨g, i, none⟩)) w := by
  have h1 : (0 : Int) ≤ (i : Int) ∧ (i : Int) < (N : Int) := by omega
  rw [run_indexAt_slice (P := Tryd.prog) w 37 _ N cap .i64 (i : Int) (by kernel_rfl), if_pos h1, show Tryd.prog.elem 37 = 5 by kernel_rfl]
  simp [go_sem, Addr.add]
  omega
theorem suchTo_mem (t : Nat → Bool) (k x : Nat) : x ∈ suchTo t k ↔ x < k ∧ t x = true := by
  unfold suchTo
  rw [List.mem_filter, List.mem_range]
theorem take_mem_succ (l : List Nat) (x i : Nat) (h : i < l.length) : decide (x ∈ l.take (i + 1)) = (decide (x ∈ l.take i) || decide (l[i] = x)) := by
  rw [List.take_succ_eq_append_getElem h]
  by_cases h1 : x ∈ l.take i
  · rw [decide_eq_true h1, Bool.true_or]; exact decide_eq_true (List.mem_append_left _ h1)
  · rw [decide_eq_false h1, Bool.false_or]
    by_cases h2 : l[i] = x
    · rw [decide_eq_true h2]; exact decide_eq_true (List.mem_append_right _ (by rw [h2]; exact List.mem_singleton_self _))
    · rw [decide_eq_false h2]
      refine decide_eq_false (fun h => ?_)
      rcases List.mem_append.1 h with h | h
      · exact h1 h
      · exact h2 (List.mem_singleton.1 h).symm
set_option maxHeartbeats 8000000 in
theorem once_A (w : World) (v : Value) (L : List Deed) (S : PSt) (hS : playS L = S) (e0 f0 en fr : Nat) (hen : e0 % 6 = en) (hfr : f0 % 8 = fr) (hL : DeedsC w v L) (hF : ∀ d ∈ L, d.Fits) (hT : Tabs w) (h0 : S.own fr ≠ 0) : Calls Tryd.prog 6 #[v, .int .u8 (e0 : Int), .int .u8 (f0 : Int)] w (TrueP w) := by
  have hen6 : en < 6 := by omega
  have hfr8 : fr < 8 := by omega
  have r1 : ((e0 : Int)).tmod 6 = (en : Int) := by rw [Int.tmod_eq_emod_of_nonneg (by omega)]; omega
  have r2 : ((f0 : Int)).tmod 8 = (fr : Int) := by rw [Int.tmod_eq_emod_of_nonneg (by omega)]; omega
  have HP := Lib.hid (play_any w v L hL hF hT)
  have hI := playS_inv L
  rw [hS] at HP hI
  have hFit := hI.fit (by omega)
  have HL := Lib.hid (fun w => live_any w)
  have HO := Lib.hid (fun w pb fb h => owners_any w pb fb S fr h hFit (by omega))
  have HG := Lib.hid (fun w pb fb h => guard_any w pb fb S fr h hFit (by omega))
  have HR := Lib.hid (fun w pb fb h => room_any w pb fb S h)
  have HE := Lib.hid (fun w pb fb h => grant_any w pb fb S en fr ⟨#[47]⟩ 0 h hFit (by omega) (by decide))
  have hin : decide (fr ∈ roomL S) = decide (S.own fr = 0) := by
    unfold roomL
    rw [decide_eq_decide, suchTo_mem, decide_eq_true_iff]
    exact ⟨fun h => h.2, fun h => ⟨hfr8, h⟩⟩
  have hol : ownersL S fr = memTo (S.own fr) 6 := if_pos hfr8
  have hoz := memTo_zero_ ⟨S.own fr, hI.own fr⟩
  simp only at hoz
  have hrb : rightB ⟨#[47]⟩ 0 = true := by decide +kernel
  have hgv : guardV S fr = .tuple #[capV (S.gn fr) (S.gr fr), .bool true] := if_pos ⟨hfr8, h0⟩
  have hgc : grantC S en fr ⟨#[47]⟩ 0 = 6 := by unfold grantC; rw [if_pos ⟨hen6, hfr8⟩, if_pos hrb, if_neg h0]
  rw [decide_eq_false h0] at hoz hin
  have hz := of_decide_eq_false hoz
  have hz' : (0 : Int) < ((memTo (S.own fr) 6).length : Int) := by omega
  have hz2 : (((memTo (S.own fr) 6).length : Int) == 0) = false := beq_eq_false_iff_ne.2 (by omega)
  have hll : (roomL S).length ≤ 8 := suchTo_le _ _
  have HIN := Lib.hid hin
  rw [hgv] at HG
  rw [hgc] at HE
  rw [hol] at HO
  have HTM := Lib.hid (fun i h => take_mem_succ (roomL S) fr i h)
  clear hgv hgc hol hoz hin hrb hI hFit hS hL hF hT h0
  unfold capV at HG HE
  generalize roomL S = l at *
  generalize grantT S en fr ⟨#[47]⟩ 0 = S2 at *
  go_enter Tryd.func6, Tryd.ntmps6
  go_wp2_with fail
  refine HP.out.mono ?_
  rintro x w1 ⟨pb, fb, rb, rfl, hB⟩
  have HB1 := Lib.hid hB
  clear hB HP
  go_wp2_with fail
  refine (HL.out _).mono ?_
  rintro x w2 ⟨rfl, hk⟩
  have HB2 := Lib.hid (HB1.out.keptNo hk)
  clear hk HB1
  go_wp2_with fail
  refine (HO.out _ _ _ HB2.out.p).mono ?_
  rintro x w3 ⟨vo, rfl, ho, hk⟩
  obtain ⟨Ao, co, rfl⟩ := own_form ho
  have HB3 := Lib.hid (HB2.out.keptNo hk)
  clear hk ho HB2
  go_wp2_with fail
  refine (HG.out _ _ _ HB3.out.p).mono ?_
  rintro x w4 ⟨rfl, hk⟩
  have HB4 := Lib.hid ((HB3.out.keptNo hk).keptNo ((Kept.refl NoBlk w4).alloc (.cells #[.string (S.gn fr), .int .u8 (S.gr fr)] 42)))
  clear hk HB3
  go_wp2_with fail
  refine (HR.out _ _ _ HB4.out.p).mono ?_
  rintro x w5 ⟨vr, rfl, ho, hk⟩
  obtain ⟨Ar, cr, rfl, hcr⟩ := nums_form ho
  have HB5 := Lib.hid (HB4.out.keptNo hk)
  clear hk ho HB4
  go_wp2
  go_loopw [15, 13] (fun iv bv wr => ∃ i : Nat, i ≤ l.length ∧ iv = .int .i64 i ∧ bv = .bool (decide (fr ∈ l.take i)) ∧ wr = w5) (fun iv _ _ => l.length - (intOf iv).toNat)
  case atStart => exact ⟨0, by omega, rfl, by simp, rfl⟩
  case round =>
    obtain ⟨i, hi, rfl, rfl, rfl⟩ := hrel
    by_cases hlt : i < l.length
    · have hlt' : (i : Int) < (l.length : Int) := by omega
      obtain ⟨g, rfl, hg1, hg2, hc⟩ := hcr (by omega)
      have c1 := hc i hlt
      have hx := fun w => idx_num w g l.length cr i hlt
      have hs := HTM.out i hlt
      clear hc hcr
      by_cases hm : fr ∈ l.take i
      · rw [decide_eq_true hm] at hs ⊢
        rw [Bool.true_or] at hs
        clear hm
        go_wp2
        go_roundw
        case rel => exact ⟨i + 1, by omega, by go_num, by rw [hs], trivial⟩
        case measure => simp [intOf]; omega
      · rw [decide_eq_false hm] at hs ⊢
        rw [Bool.false_or] at hs
        clear hm
        have hbb : (((l[i] : Nat) : Int) == (fr : Int)) = decide (l[i] = fr) := by
          by_cases h : l[i] = fr
          · rw [h]; simp
          · rw [decide_eq_false h]; exact beq_eq_false_iff_ne.2 (by omega)
        generalize decide (l[i] = fr) = bq at *
        go_wp2
        go_roundw
        case rel => exact ⟨i + 1, by omega, by go_num, by rw [hs], trivial⟩
        case measure => simp [intOf]; omega
    · obtain rfl : i = l.length := by omega
      have hlt' : ¬ ((l.length : Nat) : Int) < (l.length : Int) := by omega
      have hin := HIN.out
      rw [List.take_length, hin]
      clear hcr
      go_wp2_with fail
      refine (HE.out _ _ _ HB5.out.p).mono ?_
      rintro x w6 ⟨rfl, hp6, hk6⟩
      have HK6 := Lib.hid (HB5.out.mid hk6).2
      clear hk6 hp6
      go_wp2
      go_ret
      exact ⟨by simp, HK6.out⟩
set_option maxHeartbeats 8000000 in
theorem once_B (w : World) (v : Value) (L : List Deed) (S : PSt) (hS : playS L = S) (e0 f0 en fr : Nat) (hen : e0 % 6 = en) (hfr : f0 % 8 = fr) (hL : DeedsC w v L) (hF : ∀ d ∈ L, d.Fits) (hT : Tabs w) (h0 : S.own fr = 0) (hq : S.quota en ≤ S.count en) : Calls Tryd.prog 6 #[v, .int .u8 (e0 : Int), .int .u8 (f0 : Int)] w (TrueP w) := by
  have hen6 : en < 6 := by omega
  have hfr8 : fr < 8 := by omega
  have r1 : ((e0 : Int)).tmod 6 = (en : Int) := by rw [Int.tmod_eq_emod_of_nonneg (by omega)]; omega
  have r2 : ((f0 : Int)).tmod 8 = (fr : Int) := by rw [Int.tmod_eq_emod_of_nonneg (by omega)]; omega
  have HP := Lib.hid (play_any w v L hL hF hT)
  have hI := playS_inv L
  rw [hS] at HP hI
  have hFit := hI.fit (by omega)
  have HL := Lib.hid (fun w => live_any w)
  have HO := Lib.hid (fun w pb fb h => owners_any w pb fb S fr h hFit (by omega))
  have HG := Lib.hid (fun w pb fb h => guard_any w pb fb S fr h hFit (by omega))
  have HR := Lib.hid (fun w pb fb h => room_any w pb fb S h)
  have HE := Lib.hid (fun w pb fb h => grant_any w pb fb S en fr ⟨#[47]⟩ 0 h hFit (by omega) (by decide))
  have hin : decide (fr ∈ roomL S) = decide (S.own fr = 0) := by
    unfold roomL
    rw [decide_eq_decide, suchTo_mem, decide_eq_true_iff]
    exact ⟨fun h => h.2, fun h => ⟨hfr8, h⟩⟩
  have hol : ownersL S fr = memTo (S.own fr) 6 := if_pos hfr8
  have hoz := memTo_zero_ ⟨S.own fr, hI.own fr⟩
  simp only at hoz
  have hrb : rightB ⟨#[47]⟩ 0 = true := by decide +kernel
  have hgv : guardV S fr = .tuple #[capV ⟨#[]⟩ 0, .bool false] := if_neg (fun k => k.2 h0)
  rw [decide_eq_true h0] at hoz hin
  have hz := of_decide_eq_true hoz
  have hgc : grantC S en fr ⟨#[47]⟩ 0 = 11 := by unfold grantC; rw [if_pos ⟨hen6, hfr8⟩, if_pos hrb, if_pos h0]; exact if_pos hq
  have hll : (roomL S).length ≤ 8 := suchTo_le _ _
  have HIN := Lib.hid hin
  rw [hgv] at HG
  rw [hgc] at HE
  rw [hol] at HO
  have HTM := Lib.hid (fun i h => take_mem_succ (roomL S) fr i h)
  clear hgv hgc hol hoz hin hrb hI hFit hS hL hF hT h0
  unfold capV at HG HE
  generalize roomL S = l at *
  generalize grantT S en fr ⟨#[47]⟩ 0 = S2 at *
  go_enter Tryd.func6, Tryd.ntmps6
  go_wp2_with fail
  refine HP.out.mono ?_
  rintro x w1 ⟨pb, fb, rb, rfl, hB⟩
  have HB1 := Lib.hid hB
  clear hB HP
  go_wp2_with fail
  refine (HL.out _).mono ?_
  rintro x w2 ⟨rfl, hk⟩
  have HB2 := Lib.hid (HB1.out.keptNo hk)
  clear hk HB1
  go_wp2_with fail
  refine (HO.out _ _ _ HB2.out.p).mono ?_
  rintro x w3 ⟨vo, rfl, ho, hk⟩
  obtain ⟨Ao, co, rfl⟩ := own_form ho
  have HB3 := Lib.hid (HB2.out.keptNo hk)
  clear hk ho HB2
  go_wp2_with fail
  refine (HG.out _ _ _ HB3.out.p).mono ?_
  rintro x w4 ⟨rfl, hk⟩
  have HB4 := Lib.hid ((HB3.out.keptNo hk).keptNo ((Kept.refl NoBlk w4).alloc (.cells #[.string ⟨#[]⟩, .int .u8 0] 42)))
  clear hk HB3
  go_wp2_with fail
  refine (HR.out _ _ _ HB4.out.p).mono ?_
  rintro x w5 ⟨vr, rfl, ho, hk⟩
  obtain ⟨Ar, cr, rfl, hcr⟩ := nums_form ho
  have HB5 := Lib.hid (HB4.out.keptNo hk)
  clear hk ho HB4
  go_wp2
  go_loopw [15, 13] (fun iv bv wr => ∃ i : Nat, i ≤ l.length ∧ iv = .int .i64 i ∧ bv = .bool (decide (fr ∈ l.take i)) ∧ wr = w5) (fun iv _ _ => l.length - (intOf iv).toNat)
  case atStart => exact ⟨0, by omega, rfl, by simp, rfl⟩
  case round =>
    obtain ⟨i, hi, rfl, rfl, rfl⟩ := hrel
    by_cases hlt : i < l.length
    · have hlt' : (i : Int) < (l.length : Int) := by omega
      obtain ⟨g, rfl, hg1, hg2, hc⟩ := hcr (by omega)
      have c1 := hc i hlt
      have hx := fun w => idx_num w g l.length cr i hlt
      have hs := HTM.out i hlt
      clear hc hcr
      by_cases hm : fr ∈ l.take i
      · rw [decide_eq_true hm] at hs ⊢
        rw [Bool.true_or] at hs
        clear hm
        go_wp2
        go_roundw
        case rel => exact ⟨i + 1, by omega, by go_num, by rw [hs], trivial⟩
        case measure => simp [intOf]; omega
      · rw [decide_eq_false hm] at hs ⊢
        rw [Bool.false_or] at hs
        clear hm
        have hbb : (((l[i] : Nat) : Int) == (fr : Int)) = decide (l[i] = fr) := by
          by_cases h : l[i] = fr
          · rw [h]; simp
          · rw [decide_eq_false h]; exact beq_eq_false_iff_ne.2 (by omega)
        generalize decide (l[i] = fr) = bq at *
        go_wp2
        go_roundw
        case rel => exact ⟨i + 1, by omega, by go_num, by rw [hs], trivial⟩
        case measure => simp [intOf]; omega
    · obtain rfl : i = l.length := by omega
      have hlt' : ¬ ((l.length : Nat) : Int) < (l.length : Int) := by omega
      have hin := HIN.out
      rw [List.take_length, hin]
      clear hcr
      go_wp2_with fail
      refine (HE.out _ _ _ HB5.out.p).mono ?_
      rintro x w6 ⟨rfl, hp6, hk6⟩
      have HK6 := Lib.hid (HB5.out.mid hk6).2
      clear hk6 hp6
      go_wp2
      go_ret
      exact ⟨by simp, HK6.out⟩
set_option maxHeartbeats 8000000 in
theorem once_C (w : World) (v : Value) (L : List Deed) (S : PSt) (hS : playS L = S) (e0 f0 en fr : Nat) (hen : e0 % 6 = en) (hfr : f0 % 8 = fr) (hL : DeedsC w v L) (hF : ∀ d ∈ L, d.Fits) (hT : Tabs w) (h0 : S.own fr = 0) (hq : ¬ S.quota en ≤ S.count en) : Calls Tryd.prog 6 #[v, .int .u8 (e0 : Int), .int .u8 (f0 : Int)] w (TrueP w) := by
  have hen6 : en < 6 := by omega
  have hfr8 : fr < 8 := by omega
  have r1 : ((e0 : Int)).tmod 6 = (en : Int) := by rw [Int.tmod_eq_emod_of_nonneg (by omega)]; omega
  have r2 : ((f0 : Int)).tmod 8 = (fr : Int) := by rw [Int.tmod_eq_emod_of_nonneg (by omega)]; omega
  have HP := Lib.hid (play_any w v L hL hF hT)
  have hI := playS_inv L
  rw [hS] at HP hI
  have hFit := hI.fit (by omega)
  have HL := Lib.hid (fun w => live_any w)
  have HO := Lib.hid (fun w pb fb h => owners_any w pb fb S fr h hFit (by omega))
  have HG := Lib.hid (fun w pb fb h => guard_any w pb fb S fr h hFit (by omega))
  have HR := Lib.hid (fun w pb fb h => room_any w pb fb S h)
  have HE := Lib.hid (fun w pb fb h => grant_any w pb fb S en fr ⟨#[47]⟩ 0 h hFit (by omega) (by decide))
  have hin : decide (fr ∈ roomL S) = decide (S.own fr = 0) := by
    unfold roomL
    rw [decide_eq_decide, suchTo_mem, decide_eq_true_iff]
    exact ⟨fun h => h.2, fun h => ⟨hfr8, h⟩⟩
  have hol : ownersL S fr = memTo (S.own fr) 6 := if_pos hfr8
  have hoz := memTo_zero_ ⟨S.own fr, hI.own fr⟩
  simp only at hoz
  have hrb : rightB ⟨#[47]⟩ 0 = true := by decide +kernel
  have hgv : guardV S fr = .tuple #[capV ⟨#[]⟩ 0, .bool false] := if_neg (fun k => k.2 h0)
  rw [decide_eq_true h0] at hoz hin
  have hz := of_decide_eq_true hoz
  have hgc : grantC S en fr ⟨#[47]⟩ 0 = 0 := by unfold grantC; rw [if_pos ⟨hen6, hfr8⟩, if_pos hrb, if_pos h0]; exact if_neg hq
  have hI2 := hI.grant en fr ⟨#[47]⟩ 0
  have hF2 := hI2.fit (by omega)
  have hhb : holdsB (grantT S en fr ⟨#[47]⟩ 0) en fr = true := by
    unfold holdsB
    rw [if_pos ⟨hen6, hfr8⟩]
    unfold grantT
    rw [if_pos ⟨hen6, hfr8⟩, if_pos hrb, if_pos h0, if_neg hq]
    show (upd S.own fr _ fr).testBit en = true
    unfold upd
    rw [if_pos rfl, or_bit _ en en (hI.own fr) hen6 hen6, decide_eq_true rfl, Bool.true_or]
  have HH := Lib.hid (fun w pb fb h => holds_any w pb fb (grantT S en fr ⟨#[47]⟩ 0) en fr h hF2 (by omega))
  rw [hhb] at HH
  have hll : (roomL S).length ≤ 8 := suchTo_le _ _
  have HIN := Lib.hid hin
  rw [hgv] at HG
  rw [hgc] at HE
  rw [hol] at HO
  have HTM := Lib.hid (fun i h => take_mem_succ (roomL S) fr i h)
  clear hgv hgc hol hoz hin hrb hI hFit hS hL hF hT h0
  unfold capV at HG HE
  generalize roomL S = l at *
  generalize grantT S en fr ⟨#[47]⟩ 0 = S2 at *
  go_enter Tryd.func6, Tryd.ntmps6
  go_wp2_with fail
  refine HP.out.mono ?_
  rintro x w1 ⟨pb, fb, rb, rfl, hB⟩
  have HB1 := Lib.hid hB
  clear hB HP
  go_wp2_with fail
  refine (HL.out _).mono ?_
  rintro x w2 ⟨rfl, hk⟩
  have HB2 := Lib.hid (HB1.out.keptNo hk)
  clear hk HB1
  go_wp2_with fail
  refine (HO.out _ _ _ HB2.out.p).mono ?_
  rintro x w3 ⟨vo, rfl, ho, hk⟩
  obtain ⟨Ao, co, rfl⟩ := own_form ho
  have HB3 := Lib.hid (HB2.out.keptNo hk)
  clear hk ho HB2
  go_wp2_with fail
  refine (HG.out _ _ _ HB3.out.p).mono ?_
  rintro x w4 ⟨rfl, hk⟩
  have HB4 := Lib.hid ((HB3.out.keptNo hk).keptNo ((Kept.refl NoBlk w4).alloc (.cells #[.string ⟨#[]⟩, .int .u8 0] 42)))
  clear hk HB3
  go_wp2_with fail
  refine (HR.out _ _ _ HB4.out.p).mono ?_
  rintro x w5 ⟨vr, rfl, ho, hk⟩
  obtain ⟨Ar, cr, rfl, hcr⟩ := nums_form ho
  have HB5 := Lib.hid (HB4.out.keptNo hk)
  clear hk ho HB4
  go_wp2
  go_loopw [15, 13] (fun iv bv wr => ∃ i : Nat, i ≤ l.length ∧ iv = .int .i64 i ∧ bv = .bool (decide (fr ∈ l.take i)) ∧ wr = w5) (fun iv _ _ => l.length - (intOf iv).toNat)
  case atStart => exact ⟨0, by omega, rfl, by simp, rfl⟩
  case round =>
    obtain ⟨i, hi, rfl, rfl, rfl⟩ := hrel
    by_cases hlt : i < l.length
    · have hlt' : (i : Int) < (l.length : Int) := by omega
      obtain ⟨g, rfl, hg1, hg2, hc⟩ := hcr (by omega)
      have c1 := hc i hlt
      have hx := fun w => idx_num w g l.length cr i hlt
      have hs := HTM.out i hlt
      clear hc hcr
      by_cases hm : fr ∈ l.take i
      · rw [decide_eq_true hm] at hs ⊢
        rw [Bool.true_or] at hs
        clear hm
        go_wp2
        go_roundw
        case rel => exact ⟨i + 1, by omega, by go_num, by rw [hs], trivial⟩
        case measure => simp [intOf]; omega
      · rw [decide_eq_false hm] at hs ⊢
        rw [Bool.false_or] at hs
        clear hm
        have hbb : (((l[i] : Nat) : Int) == (fr : Int)) = decide (l[i] = fr) := by
          by_cases h : l[i] = fr
          · rw [h]; simp
          · rw [decide_eq_false h]; exact beq_eq_false_iff_ne.2 (by omega)
        generalize decide (l[i] = fr) = bq at *
        go_wp2
        go_roundw
        case rel => exact ⟨i + 1, by omega, by go_num, by rw [hs], trivial⟩
        case measure => simp [intOf]; omega
    · obtain rfl : i = l.length := by omega
      have hlt' : ¬ ((l.length : Nat) : Int) < (l.length : Int) := by omega
      have hin := HIN.out
      rw [List.take_length, hin]
      clear hcr
      go_wp2_with fail
      refine (HE.out _ _ _ HB5.out.p).mono ?_
      rintro x w6 ⟨rfl, hp6, hk6⟩
      have HK6 := Lib.hid (HB5.out.mid hk6).2
      have HP6 := Lib.hid hp6
      clear hk6 hp6
      go_wp2_with fail
      refine (HH.out _ _ _ HP6.out).mono ?_
      rintro x w7 ⟨rfl, rfl⟩
      go_wp2
      go_ret
      exact ⟨by simp, HK6.out⟩
theorem lawOnce_any (w : World) (v : Value) (L : List Deed) (e0 f0 : Nat) (hL : DeedsC w v L) (hF : ∀ d ∈ L, d.Fits) (hT : Tabs w) : Calls Tryd.prog 6 #[v, .int .u8 (e0 : Int), .int .u8 (f0 : Int)] w (TrueP w) := by
  by_cases h0 : (playS L).own (f0 % 8) = 0
  · by_cases hq : (playS L).quota (e0 % 6) ≤ (playS L).count (e0 % 6)
    · exact once_B w v L _ rfl e0 f0 _ _ rfl rfl hL hF hT h0 hq
    · exact once_C w v L _ rfl e0 f0 _ _ rfl rfl hL hF hT h0 hq
  · exact once_A w v L _ rfl e0 f0 _ _ rfl rfl hL hF hT h0
end Go.Proofs.YtfoeckaeongahaaDoor
