/- The reference's Split, walked. -/
import Derived.Test.YtfoeckaeongahaaDoorRD4
import Derived.Test.YtfoeckaeongahaaDoorPlan
namespace Go.Proofs.YtfoeckaeongahaaDoor
open Go.RowKit Go.Shelf
set_option maxRecDepth 100000

theorem strV_mk (l : List (List UInt8)) (q : List UInt8) : strV ((l ++ [q]).map mk) = strV (l.map mk) ++ [.string (mk q)] := by
  unfold strV
  rw [List.map_append, List.map_append]
  rfl
theorem b_zero (s : ByteArray) (h : 0 < s.size) (h47 : s.data.toList.head? = some 47) : (s[0]'h) = 47 := by
  cases hs : s.data.toList with
  | nil => rw [hs] at h47; cases h47
  | cons c t =>
    rw [hs] at h47
    have hg : s.data.toList[0]'(by rw [hs]; simp) = s[0]'h := rfl
    have : s.data.toList[0]'(by rw [hs]; simp) = c := by simp [hs]
    rw [← hg, this]
    exact Option.some.inj h47
theorem emp_no (s : ByteArray) (h : 0 < s.size) : s.toList.isEmpty = false := by rw [emp]; exact decide_eq_false (by omega)
theorem splitO_cond (s : ByteArray) (h : s.data.toList ≠ [47]) (h47 : s.data.toList.head? = some 47) : splitO s = if ((pieces (s.data.toList.drop 1)).map mk).all label = true ∧ (pieces (s.data.toList.drop 1)).length ≤ 6 then some ((pieces (s.data.toList.drop 1)).map mk) else none := by
  unfold splitO
  rw [if_neg h]
  by_cases hc : ((pieces (s.data.toList.drop 1)).map mk).all label = true ∧ (pieces (s.data.toList.drop 1)).length ≤ 6
  · rw [if_pos ⟨h47, hc⟩, if_pos hc]
  · rw [if_neg (fun k => hc k.2), if_neg hc]
set_option maxHeartbeats 8000000 in
theorem rsplit_walk (w : World) (s : ByteArray) (h : s.data.toList ≠ [47]) (h47 : s.data.toList.head? = some 47) (h200 : s.size ≤ 200) (hT : Tabs w) : Calls Tryd.prog 69 #[.string s] w (SplitRes w s) := by
  have hpos : 0 < s.size := by
    cases hs : s.data.toList with
    | nil => rw [hs] at h47; cases h47
    | cons c t => show 0 < s.data.toList.length; rw [hs]; simp
  have hq := root_no s h
  have he := emp_no s hpos
  have hi0 := fun w => idx_at w s 0 hpos
  have hb0 : (s[0]'hpos).toNat = 47 := by rw [b_zero s hpos h47]; rfl
  have hne0 : ((((s[0]'hpos).toNat : Nat) : Int) != 47) = false := by rw [hb0]; rfl
  have HST := Lib.hid (fun i h => part_step s i h h47)
  have HSP := Lib.hid (splitO_cond s h h47)
  have HT := Lib.hid hT
  have hlast : partP s.data.toList s.size = pieces (s.data.toList.drop 1) := by
    obtain ⟨k, hk⟩ : ∃ k, s.size = k + 1 := ⟨s.size - 1, by omega⟩
    rw [hk]
    show pieces ((s.data.toList.drop 1).take k) = _
    rw [List.take_of_length_le (by rw [List.length_drop]; show s.size - 1 ≤ k; omega)]
  have HLAST := Lib.hid hlast
  clear hlast h h47 hT hb0
  go_enter Tryd.func69, Tryd.ntmps69
  go_wp2
  go_loopw [4, 5] (fun ov iv wr => ∃ (i : Nat) (A : Option Addr) (cap : Nat), i ≤ s.size ∧ iv = .int .i64 i ∧ ov = .slice A (partP s.data.toList i).length cap ∧ Hid (wr.ownsRow w.heap.size 9 1 (.slice A (partP s.data.toList i).length cap) (partP s.data.toList i).length (strV ((partP s.data.toList i).map mk))) ∧ Kept NoBlk w wr) (fun _ iv _ => s.size - (intOf iv).toNat)
  case atStart => exact ⟨0, none, 0, by omega, rfl, rfl, Lib.hid (own_none _ _ _ _), Kept.refl _ _⟩
  case round =>
    obtain ⟨i, A, cap, hi, rfl, rfl, HO, hK⟩ := hrel
    obtain ⟨hn1, hn2⟩ := part_len s.data.toList i
    have hlw := hK.size
    by_cases hlt : i < s.size
    · have hx := fun w => idx_at w s i hlt
      obtain ⟨hyes, hno⟩ := HST.out i hlt
      have HK := Lib.hid hK
      clear hK
      by_cases hb : (s[i]'hlt) = 47
      · have hp := hyes hb
        have hxx : ((((s[i]'hlt).toNat : Nat) : Int) == 47) = true := by rw [hb]; rfl
        have hlen : (partP s.data.toList (i + 1)).length = (partP s.data.toList i).length + 1 := by rw [hp, List.length_append, List.length_singleton]
        have hs : Hid (strV ((partP s.data.toList (i + 1)).map mk) = strV ((partP s.data.toList i).map mk) ++ [.string ⟨#[]⟩]) := Lib.hid (by rw [hp, strV_mk]; rfl)
        clear hyes hno hp hb hn2
        generalize (((s[i]'hlt).toNat : Nat) : Int) = by1 at *
        generalize (partP s.data.toList i).length = n at *
        generalize strV ((partP s.data.toList i).map mk) = xs at *
        go_wp2_with (refine wpList_append_mine rfl (.tmp 31) (.tmp 32) 93 rfl 9 1 16 Tryd.underlying93 Tryd.szS (by decide) w.heap.size (.slice A n cap) n xs rfl (own_kept (G := NoBlk) HO.out ((Kept.refl _ _).alloc _) (fun _ _ e => e)) (some ⟨wr.heap.size, 0, none⟩) 1 1 [.string ⟨#[]⟩] rfl (Row.new (Blk.new _ _ _) rfl (by simp [maxLen])) rfl (by simp only [maxLen]; omega) (by omega) (by simp; omega) ?_; intro A2 cap2 w3 hown3 hK3)
        rw [← hs.out] at hown3
        rw [← hlen] at hown3 ⊢
        have HO3 := Lib.hid hown3
        have HK3 := Lib.hid (Kept.fresh (HK.out.alloc _) hK3 (fun b e => e))
        clear hown3 hK3
        go_roundw
        case rel => exact ⟨i + 1, A2, cap2, by omega, by go_num, rfl, HO3, HK3.out⟩
        case measure => simp [intOf]; omega
      · obtain ⟨r, q, hp1, hp2⟩ := hno hb
        have hlen : (partP s.data.toList (i + 1)).length = (partP s.data.toList i).length := by rw [hp1, hp2, List.length_append, List.length_append]; rfl
        have hlr : (partP s.data.toList i).length = r.length + 1 := by rw [hp1, List.length_append, List.length_singleton]
        have hq200 : q.length ≤ i := hn2 q (by rw [hp1]; simp)
        have hxs : strV ((partP s.data.toList i).map mk) = strV (r.map mk) ++ [.string (mk q)] := by rw [hp1, strV_mk]
        have hrl : (strV (r.map mk)).length = r.length := by unfold strV; rw [List.length_map, List.length_map]
        have hset : Hid (strV ((partP s.data.toList (i + 1)).map mk) = (strV ((partP s.data.toList i).map mk)).set r.length (.string (mk (q ++ [s[i]'hlt])))) := Lib.hid (by
          rw [hp2, strV_mk, hxs, ← hrl, List.set_append_right _ _ (Nat.le_refl _), Nat.sub_self]
          rfl)
        have hone := fun w => sl_one w s i hlt
        have happ : mk q ++ mk [s[i]'hlt] = mk (q ++ [s[i]'hlt]) := mk_append2 _ _
        have hb47 : ((((s[i]'hlt).toNat : Nat) : Int) == 47) = false := beq_eq_false_iff_ne.2 (fun e => hb (UInt8.toNat_inj.1 (by have : ((47 : UInt8)).toNat = 47 := rfl; omega)))
        have hmq : (mk q).size ≤ 200 := by rw [mk_size]; omega
        have hm1 : (mk [s[i]'hlt]).size = 1 := mk_size _
        have hO := HO.out
        rw [hlr] at hO
        obtain ⟨g, cap2, e1, hbg, hglt, ⟨cur, hB⟩, hcell⟩ := own_place hO (by omega)
        injection e1 with e1 _ e2
        subst e1 e2
        have c1 : wr.cell? ⟨g, r.length, none⟩ = some (.string (mk q)) := hcell r.length _ (by
          rw [hxs, List.getElem?_append_right (by rw [hrl]; exact Nat.le_refl _), hrl, Nat.sub_self]
          rfl)
        have f1 := hB.frozen r.length
        have hO2 : (wr.setCell ⟨g, r.length, none⟩ (.string (mk (q ++ [s[i]'hlt])))).ownsRow w.heap.size 9 1 (.slice (some ⟨g, 0, none⟩) (partP s.data.toList (i + 1)).length cap) (partP s.data.toList (i + 1)).length (strV ((partP s.data.toList (i + 1)).map mk)) := by
          rw [hset.out, hlen, hlr]
          exact own_set hO
        have HO2 := Lib.hid hO2
        rw [hlr]
        rw [hlen, hlr] at HO2
        have hlen2 := hlen.trans hlr
        have hr200 : (r.length : Int) ≤ 200 := by omega
        have hw1 : IntKind.i64.wrap (r.length : Int) = r.length := by rw [IntKind.wrap_i64]; omega
        have hw2 : IntKind.i64.wrap ((i : Int) + 1) = (i : Int) + 1 := by rw [IntKind.wrap_i64]; omega
        have hd1 : (0 : Int) ≤ r.length := by omega
        have hd3 : ¬ (9223372036854775807 < (mk q).size + 1) := by omega
        have hd2 : (r.length : Int) < (r.length : Int) + 1 := by omega
        have HB := Lib.hid hB
        clear hyes hno hO hO2 hcell hset hxs hrl hp1 hp2 hlen hlr hB hn1 hn2 HO
        generalize mk (q ++ [s[i]'hlt]) = m3 at *
        generalize mk [s[i]'hlt] = m2 at *
        generalize mk q = m1 at *
        generalize (((s[i]'hlt).toNat : Nat) : Int) = by1 at *
        go_wp2
        refine wp_region_plan (by kernel_rfl) (.q 0 <| .q 1 <| .q 2 <| .q 3 <| .q 4 <| .q 5 <| .q 6 <| .q 7 <| .q 8 <| .q 9 <| .q 10 <| .q 11 <| .q 12 <| .e 13 [] <| .nil) (by kernel_rfl) (by kernel_rfl) ?_
        repeat (refine plan_q rfl (fun K hK => ?_); go_simp; refine hK _ ?_; clear hK K)
        refine plan_e rfl (fun K hK => ?_)
        go_simp
        refine hK _ _ (by (repeat (refine stab_cons rfl ?_ ?_; focus (go_simp; done))); exact stab_nil) ?_
        clear hK K
        refine plan_nil ?_
        go_wp2
        rw [← hlen2] at HO2 ⊢
        go_roundw
        case rel => exact ⟨i + 1, some ⟨g, 0, none⟩, cap, by omega, by go_num, rfl, HO2, HK.out.drew.setCell (newHit hbg) _⟩
        case measure => simp [intOf]; omega
    · have hie : i = s.size := by omega
      have hpart : partP s.data.toList i = pieces (s.data.toList.drop 1) := by rw [hie, HLAST.out]
      rw [hpart] at HO hn1 hn2 ⊢
      have HK := Lib.hid hK
      clear hK hpart HST
      generalize pieces (s.data.toList.drop 1) = ps at *
      have hlen : (ps.map mk).length = ps.length := List.length_map ..
      have hsm : ∀ x ∈ ps.map mk, x.size ≤ 1000 := fun x hx => by
        obtain ⟨p, hp, rfl⟩ := List.mem_map.1 hx
        have := hn2 p hp
        rw [mk_size]
        omega
      rw [← hlen] at HO hn1 ⊢
      have HSP2 : Hid (splitO s = if (ps.map mk).all label = true ∧ (ps.map mk).length ≤ 6 then some (ps.map mk) else none) := Lib.hid (by rw [hlen]; exact HSP.out)
      have hni : ¬ ((i : Int) < s.size) := by omega
      clear hlen hn2 HSP hie
      generalize ps.map mk = x at *
      have hn200 : x.length ≤ 200 := by omega
      generalize hwz : wr = wz at *
      go_wp2
      go_loopw [6] (fun kv wr => ∃ k : Nat, k ≤ x.length ∧ kv = .int .i64 k ∧ Hid ((x.take k).all label = true) ∧ Kept NoBlk wz wr) (fun kv _ => x.length - (intOf kv).toNat)
      case atStart => exact ⟨0, by omega, rfl, Lib.hid rfl, Kept.refl _ _⟩
      case round =>
        obtain ⟨k, hk1, rfl, HR, hK⟩ := hrel
        by_cases l1 : k < x.length
        · obtain ⟨g, cap2, e1, -, hglt, -, hcell⟩ := own_place HO.out (by omega)
          injection e1 with e1 _ e2
          subst e1 e2
          have q1 : wr.cell? ⟨g, k, none⟩ = some (.string x[k]) := (hK.cell (p := ⟨g, k, none⟩) hglt (fun e => e)).trans (hcell k _ (strV_at x k l1))
          have HL := Lib.hid (rlabel_any wr x[k] (hsm _ (List.getElem_mem l1)) (HT.out.kept (HK.out.trans hK)))
          have HA : Hid ((x.take (k + 1)).all label = label x[k]) := Lib.hid (by rw [List.take_succ_eq_append_getElem l1, List.all_append, HR.out, List.all_cons, List.all_nil]; simp)
          have HF : Hid (label x[k] = false → splitO s = none) := Lib.hid fun h => by
            rw [HSP2.out, if_neg]
            rintro ⟨hh, -⟩
            have := List.all_eq_true.1 hh _ (List.getElem_mem l1)
            rw [h] at this
            cases this
          have HKK := Lib.hid hK
          clear hcell hK
          generalize x[k] = sx at *
          generalize label sx = ls at *
          go_wp2_with fail
          refine HL.out.mono ?_
          rintro e w1 ⟨rfl, hk⟩
          have HK1 := Lib.hid (HKK.out.trans hk)
          clear hk
          cases ls with
          | true =>
            go_wp2
            go_roundw
            case rel => exact ⟨k + 1, by omega, by go_num, HA, HK1.out⟩
            case measure => simp [intOf]; omega
          | false =>
            have HN := Lib.hid (HF.out rfl)
            go_wp2
            go_ret2
            exact ⟨HK.out.trans HK1.out, .inr ⟨HN.out, rfl⟩⟩
        · have hke : k = x.length := by omega
          have HAll : Hid (x.all label = true) := Lib.hid (by have := HR.out; rwa [hke, List.take_length] at this)
          have HKK := Lib.hid hK
          clear hK
          by_cases h6 : 6 < x.length
          · have HN : Hid (splitO s = none) := Lib.hid (by rw [HSP2.out, if_neg (fun h => by omega)])
            go_wp2
            go_ret2
            exact ⟨HK.out.trans HKK.out, .inr ⟨HN.out, rfl⟩⟩
          · have HN : Hid (splitO s = some x) := Lib.hid (by rw [HSP2.out, if_pos ⟨HAll.out, by omega⟩])
            have h6' : (x.length : Int) ≤ 6 := by omega
            go_wp2
            go_ret2
            exact ⟨HK.out.trans HKK.out, .inl ⟨x, _, HN.out, rfl, own_kept HO.out HKK.out (fun _ _ e => e)⟩⟩
theorem rsplit_any (w : World) (s : ByteArray) (hs : s.size ≤ 1000) (hT : Tabs w) : Calls Tryd.prog 69 #[.string s] w (SplitRes w s) := by
  by_cases h : s.data.toList = [47]
  · have hq := root_yes s h
    have HS : Hid (splitO s = some []) := Lib.hid (by unfold splitO; rw [if_pos h])
    clear h
    go_enter Tryd.func69, Tryd.ntmps69
    go_wp2
    go_ret2
    exact ⟨Kept.refl _ _, .inl ⟨[], _, HS.out, rfl, own_none _ _ _ _⟩⟩
  have hq := root_no s h
  by_cases h0 : s.size = 0
  · have he : s.toList.isEmpty = true := by rw [emp]; exact decide_eq_true h0
    have HS : Hid (splitO s = none) := Lib.hid (splitO_none s h (.inl (pre_no s (by
      have : s.data.toList = [] := List.eq_nil_of_length_eq_zero h0
      rw [this]
      intro e
      cases e))))
    clear h
    go_enter Tryd.func69, Tryd.ntmps69
    go_wp2
    go_ret2
    exact ⟨Kept.refl _ _, .inr ⟨HS.out, rfl⟩⟩
  have he := emp_no s (by omega)
  have hpos : 0 < s.size := by omega
  by_cases h47 : s.data.toList.head? = some 47
  · by_cases h200 : s.size ≤ 200
    · exact rsplit_walk w s h h47 h200 hT
    · have hne0 : ((((s[0]'hpos).toNat : Nat) : Int) != 47) = false := by rw [b_zero s hpos h47]; rfl
      have HS : Hid (splitO s = none) := Lib.hid (by
        cases hsp : splitO s with
        | none => rfl
        | some l => have := splitO_size s l hsp; omega)
      have h200' : (200 : Int) < s.size := by omega
      clear h h47
      go_enter Tryd.func69, Tryd.ntmps69
      go_wp2
      go_ret2
      exact ⟨Kept.refl _ _, .inr ⟨HS.out, rfl⟩⟩
  · have hne0 : ((((s[0]'hpos).toNat : Nat) : Int) != 47) = true := by
      refine bne_iff_ne.2 (fun e => h47 ?_)
      have hb : (s[0]'hpos) = 47 := UInt8.toNat_inj.1 (by have : ((47 : UInt8)).toNat = 47 := rfl; omega)
      have hl : 0 < s.data.toList.length := hpos
      rw [List.head?_eq_getElem?, List.getElem?_eq_getElem hl]
      exact congrArg some hb
    have HS : Hid (splitO s = none) := Lib.hid (splitO_none s h (.inl (pre_no s h47)))
    clear h h47
    go_enter Tryd.func69, Tryd.ntmps69
    go_wp2
    go_ret2
    exact ⟨Kept.refl _ _, .inr ⟨HS.out, rfl⟩⟩
set_option maxHeartbeats 1000000 in
theorem rright_any (w : World) (n : ByteArray) (r : Int) (hn : n.size ≤ 1000) (hT : Tabs w) : Calls Tryd.prog 62 #[capV n r] w fun e w' => e = .returned (.bool (rightB n r)) ∧ Kept NoBlk w w' := by
  unfold capV rightB
  have HS := Lib.hid (fun w hT => rsplit_any w n hn hT)
  have HT := Lib.hid (hT.kept ((Kept.refl NoBlk w).alloc (.cells #[.string n, .int .u8 r] 42)))
  clear hT
  go_enter Tryd.func62, Tryd.ntmps62
  go_wp2_with fail
  refine (HS.out _ HT.out).mono ?_
  rintro x w1 ⟨hk, ⟨l, v, hsp, rfl, -⟩ | ⟨hsp, rfl⟩⟩
  · have c1 : w1.cell? ⟨w.heap.size, 1, none⟩ = some (.int .u8 r) := (Blk.kept (Blk.new w 42 #[.string n, .int .u8 r]) hk (fun e => e)).cell 1
    have HK := Lib.hid hk
    clear hk HS
    go_wp2
    go_ret
    exact ⟨by rw [hsp]; rfl, Kept.trans ((Kept.refl _ _).alloc _) HK.out⟩
  · have HK := Lib.hid hk
    clear hk HS
    unfold nilS
    go_wp2
    go_ret
    exact ⟨by rw [hsp]; rfl, Kept.trans ((Kept.refl _ _).alloc _) HK.out⟩
end Go.Proofs.YtfoeckaeongahaaDoor
