/- The reference's Common; NameStands, walked. -/
import Derived.Test.YtlaplonmbnncaaaDoorD7
namespace Go.Proofs.YtlaplonmbnncaaaDoor
open Go.RowKit Go.Shelf
set_option maxRecDepth 100000

theorem getD_at (l : List ByteArray) (k : Nat) (h : k < l.length) : l.getD k ⟨#[]⟩ = l[k] := by
  rw [List.getD, List.getElem?_eq_getElem h]
  rfl
set_option maxHeartbeats 4000000 in
theorem rcommon_any (w : World) (a b : ByteArray) (ha : a.size ≤ 1000) (hb : b.size ≤ 1000) (hT : Tabs w) : Calls Tryd.prog 24 #[.string a, .string b] w fun e w' => e = .returned (.tuple #[.string (commonP a b).1, .int .i64 (commonP a b).2]) ∧ Kept NoBlk w w' := by
  have HA := Lib.hid (fun w hT => rsplit_any w a ha hT)
  have HB := Lib.hid (fun w hT => rsplit_any w b hb hT)
  have HT := Lib.hid hT
  clear hT
  obtain ⟨V, hV⟩ : ∃ V, commonP a b = V := ⟨_, rfl⟩
  rw [hV]
  have HV := Lib.hid hV.symm
  clear hV
  go_enter Tryd.func24, Tryd.ntmps24
  go_wp2_with fail
  refine (HA.out _ HT.out).mono ?_
  rintro e w1 ⟨hk1, ⟨x, v, hx, rfl, ox⟩ | ⟨hx, rfl⟩⟩
  · have HX := Lib.hid hx
    have HK1 := Lib.hid hk1
    obtain ⟨hxl, hx6⟩ := splitO_labels a x hx
    have HXL := Lib.hid hxl
    obtain ⟨A, cap, rfl⟩ := own_form ox
    have OX := Lib.hid ox
    clear hx hk1 HA ox hxl
    go_wp2_with fail
    refine (HB.out _ (HT.out.kept HK1.out)).mono ?_
    rintro e w2 ⟨hk2, ⟨y, u, hy, rfl, oy⟩ | ⟨hy, rfl⟩⟩
    · have hy6 := (splitO_labels b y hy).2
      have HV2 : Hid (V = (nameOf (x.take (common x y)), 0)) := Lib.hid (by rw [HV.out]; unfold commonP; rw [HX.out, hy])
      have HJ := Lib.hid (fun k => joinV_take x k hx6 HXL.out)
      have HK2 := Lib.hid (HK1.out.trans hk2)
      have OX2 := Lib.hid (own_kept OX.out hk2 (fun _ _ e => e))
      have RX := Lib.hid (Row.of_own (own_kept OX.out hk2 (fun _ _ e => e)))
      have RY := Lib.hid (Row.of_own oy)
      have HSM : Hid (∀ k, ∀ s ∈ x.take k, s.size ≤ 1000) := Lib.hid fun k s hs => by
        have := (label_facts s (List.all_eq_true.1 HXL.out s (List.mem_of_mem_take hs))).2.1
        omega
      obtain ⟨B, cap', rfl⟩ := own_form oy
      have HG : Hid (0 + common (x.drop 0) (y.drop 0) = common x y) := Lib.hid (by rw [List.drop_zero, List.drop_zero, Nat.zero_add])
      have hA : (A = none ∧ x.length = 0 ∧ cap = 0) ∨ ∃ g, A = some ⟨g, 0, none⟩ ∧ x.length ≤ cap ∧ cap ≤ maxLen := by
        rcases own_cases OX2.out with ⟨hn, hn0⟩ | ⟨g, cap2, hn, hcap, hmax⟩
        · injection hn with e1 e2 e3
          exact .inl ⟨e1, hn0, e3⟩
        · injection hn with e1 e2 e3
          exact .inr ⟨g, e1, by omega, by omega⟩
      have HAA := Lib.hid hA
      clear hk2 oy hy HB OX HX hA
      generalize common x y = L at *
      go_wp2
      go_loopw [10] (fun kv wr => ∃ k : Nat, k ≤ x.length ∧ k ≤ y.length ∧ kv = .int .i64 k ∧ Hid (k + common (x.drop k) (y.drop k) = L) ∧ Kept NoBlk w2 wr) (fun kv _ => x.length - (intOf kv).toNat)
      case atStart => exact ⟨0, by omega, by omega, rfl, HG, Kept.refl _ _⟩
      case round =>
        clear HG
        obtain ⟨k, hk1, hk2, rfl, HR, hK⟩ := hrel
        have leave : Hid (∀ (w3 : World) (V' : ByteArray × Int), Kept NoBlk w2 w3 → k = L → True) := Lib.hid fun _ _ _ _ => trivial
        clear leave
        by_cases hlt : k < x.length ∧ k < y.length ∧ (x.getD k ⟨#[]⟩ = y.getD k ⟨#[]⟩)
        · obtain ⟨l1, l2, he⟩ := hlt
          rw [getD_at _ _ l1, getD_at _ _ l2] at he
          obtain ⟨b1, o, c, e1, -, -, hb1, -, hbc⟩ := RX.out.place (by omega)
          obtain ⟨b', o', c', e1', -, -, hb', -, hbc'⟩ := RY.out.place (by omega)
          injection e1 with e1 _ e2
          subst e1 e2
          injection e1' with e1' _ e2'
          subst e1' e2'
          have q1 : wr.cell? ⟨b1, o + k, none⟩ = some (.string x[k]) := (hK.cell (p := ⟨b1, o + k, none⟩) hb1 (fun e => e)).trans (hbc k _ (strV_at x k l1))
          have q2 : wr.cell? ⟨b', o' + k, none⟩ = some (.string y[k]) := (hK.cell (p := ⟨b', o' + k, none⟩) hb' (fun e => e)).trans (hbc' k _ (strV_at y k l2))
          have hs := HR.out
          rw [common_at x y k l1 l2, if_pos he] at hs
          have hq := strEq x[k] y[k]
          rw [decide_eq_true he] at hq
          have HS := Lib.hid hs
          have HK := Lib.hid hK
          have hl1 : (k : Int) < x.length := by omega
          have hl2 : (k : Int) < y.length := by omega
          clear hbc hbc' HR hK hs he
          generalize x[k] = s at *
          generalize y[k] = t at *
          go_wp2
          go_quiet (fail)
          go_wp2
          go_roundw
          case rel => exact ⟨k + 1, by omega, by omega, by go_num, Lib.hid (by have := HS.out; omega), by repeat (with_reducible first | exact HK.out | apply Kept.drew | apply Kept.drewN)⟩
          case measure => simp [intOf]; omega
        · have hkL : k = L := by
            have hs := HR.out
            by_cases h2 : k < x.length ∧ k < y.length
            · rw [common_at x y k h2.1 h2.2, if_neg] at hs
              · exact hs
              · intro he
                exact hlt ⟨h2.1, h2.2, by rw [getD_at _ _ h2.1, getD_at _ _ h2.2]; exact he⟩
            · rw [common_end x y k h2] at hs
              exact hs
          have HV3 : Hid (V = (nameOf (x.take k), 0)) := Lib.hid (by rw [HV2.out, hkL])
          have hstep : ∃ (R : Prop), R := ⟨True, trivial⟩
          clear hstep
          have HK := Lib.hid hK
          have HJK := Lib.hid (HJ.out k)
          have HSK := Lib.hid (HSM.out k)
          have hl : (x.take k).length = k := by rw [List.length_take]; omega
          have HL := Lib.hid hl
          have hk6 : (k : Int) ≤ 6 := by omega
          clear HJ HSM hl hkL HR HV2
          by_cases h2 : k < x.length ∧ k < y.length
          · obtain ⟨l1, l2⟩ := h2
            obtain ⟨b1, o, c, e1, -, -, hb1, -, hbc⟩ := RX.out.place (by omega)
            obtain ⟨b', o', c', e1', -, -, hb', -, hbc'⟩ := RY.out.place (by omega)
            injection e1 with e1 _ e2
            subst e1 e2
            injection e1' with e1' _ e2'
            subst e1' e2'
            have q1 : wr.cell? ⟨b1, o + k, none⟩ = some (.string x[k]) := (hK.cell (p := ⟨b1, o + k, none⟩) hb1 (fun e => e)).trans (hbc k _ (strV_at x k l1))
            have q2 : wr.cell? ⟨b', o' + k, none⟩ = some (.string y[k]) := (hK.cell (p := ⟨b', o' + k, none⟩) hb' (fun e => e)).trans (hbc' k _ (strV_at y k l2))
            have hq := strEq x[k] y[k]
            rw [decide_eq_false (fun he => hlt ⟨l1, l2, by rw [getD_at _ _ l1, getD_at _ _ l2]; exact he⟩)] at hq
            obtain ⟨g, hg, hcap, hmax⟩ : ∃ g, (some ⟨b1, o, none⟩ : Option Addr) = some ⟨g, 0, none⟩ ∧ x.length ≤ cap ∧ cap ≤ maxLen := by
              rcases HAA.out with ⟨h0, -⟩ | h0
              · cases h0
              · exact h0
            injection hg with hg
            injection hg with hg1 hg2
            subst hg1 hg2
            rw [Nat.zero_add] at q1
            unfold maxLen at hmax
            have hkc : (k : Int) ≤ cap := by omega
            have hl1 : (k : Int) < x.length := by omega
            have hl2 : (k : Int) < y.length := by omega
            have HJF := Lib.hid (fun (w3 : World) (hk : Kept NoBlk w2 w3) => rjoin_any w3 (.slice (some ⟨b1, 0, none⟩) k cap) (x.take k) (by
              have hr := row_take (own_kept OX2.out hk (fun _ _ e => e)) hk1 (by simp)
              rw [strV_take] at hr
              rw [HL.out]
              exact hr) (by have := HL.out; omega) HSK.out (HT.out.kept (HK2.out.trans hk)))
            rw [HJK.out] at HJF
            clear hbc hbc' hK hlt
            generalize x[k] = s at *
            generalize y[k] = t at *
            go_wp2
            go_quiet (fail)
            have HKD := Lib.hid (by repeat (with_reducible first | exact HK.out | apply Kept.drew | apply Kept.drewN) : Kept NoBlk w2 (wr.drewN nq))
            go_wp2_with fail
            refine (HJF.out _ HKD.out).mono ?_
            rintro e w4 ⟨rfl, hk4⟩
            go_wp2
            go_ret2
            exact ⟨by rw [HV3.out]; rfl, (HK2.out.trans HKD.out).trans hk4⟩
          · have hnl : ¬ ((k : Int) < x.length) ∨ ((k : Int) < x.length ∧ ¬ ((k : Int) < y.length)) := by omega
            rcases HAA.out with ⟨hA0, hx0, hc0⟩ | ⟨g, hg, hcap, hmax⟩
            · subst hA0 hc0
              have hk0 : k = 0 := by omega
              subst hk0
              have hz1 : ¬ ((0 : Int) < x.length) := by omega
              have hz2 : ¬ (0 < x.length) := by omega
              have hz3 : decide ((0 : Int) < x.length) = false := decide_eq_false hz1
              have hz4 : decide (0 < x.length) = false := decide_eq_false hz2
              have HJF := Lib.hid (fun (w3 : World) (hk : Kept NoBlk w2 w3) => rjoin_any w3 (.slice none 0 0) (x.take 0) (by rw [List.take_zero]; exact Row.nil _ _ _) (by rw [List.take_zero]; decide) HSK.out (HT.out.kept (HK2.out.trans hk)))
              rw [HJK.out] at HJF
              clear hK hlt hnl h2
              go_wp2
              go_quiet (fail)
              have HKD := Lib.hid (by repeat (with_reducible first | exact HK.out | apply Kept.drew | apply Kept.drewN) : Kept NoBlk w2 (wr.drewN nq))
              go_wp2_with fail
              refine (HJF.out _ HKD.out).mono ?_
              rintro e w4 ⟨rfl, hk4⟩
              go_wp2
              go_ret2
              exact ⟨by rw [HV3.out]; rfl, (HK2.out.trans HKD.out).trans hk4⟩
            · subst hg
              unfold maxLen at hmax
              have hkc : (k : Int) ≤ cap := by omega
              have HJF := Lib.hid (fun (w3 : World) (hk : Kept NoBlk w2 w3) => rjoin_any w3 (.slice (some ⟨g, 0, none⟩) k cap) (x.take k) (by
                have hr := row_take (own_kept OX2.out hk (fun _ _ e => e)) hk1 (by simp)
                rw [strV_take] at hr
                rw [HL.out]
                exact hr) (by have := HL.out; omega) HSK.out (HT.out.kept (HK2.out.trans hk)))
              rw [HJK.out] at HJF
              clear hK hlt h2
              rcases hnl with hnl | ⟨hnl1, hnl⟩
              · have hz2 : ¬ (k < x.length) := by omega
                have hz3 : decide ((k : Int) < x.length) = false := decide_eq_false hnl
                have hz4 : decide (k < x.length) = false := decide_eq_false hz2
                go_wp2
                go_quiet (fail)
                have HKD := Lib.hid (by repeat (with_reducible first | exact HK.out | apply Kept.drew | apply Kept.drewN) : Kept NoBlk w2 (wr.drewN nq))
                go_wp2_with fail
                refine (HJF.out _ HKD.out).mono ?_
                rintro e w4 ⟨rfl, hk4⟩
                go_wp2
                go_ret2
                exact ⟨by rw [HV3.out]; rfl, (HK2.out.trans HKD.out).trans hk4⟩
              · have hz2 : ¬ (k < y.length) := by omega
                have hz3 : decide ((k : Int) < y.length) = false := decide_eq_false hnl
                have hz4 : decide (k < y.length) = false := decide_eq_false hz2
                have hz5 : k < x.length := by omega
                have hz6 : decide ((k : Int) < x.length) = true := decide_eq_true hnl1
                have hz7 : decide (k < x.length) = true := decide_eq_true hz5
                go_wp2
                go_quiet (fail)
                have HKD := Lib.hid (by repeat (with_reducible first | exact HK.out | apply Kept.drew | apply Kept.drewN) : Kept NoBlk w2 (wr.drewN nq))
                go_wp2_with fail
                refine (HJF.out _ HKD.out).mono ?_
                rintro e w4 ⟨rfl, hk4⟩
                go_wp2
                go_ret2
                exact ⟨by rw [HV3.out]; rfl, (HK2.out.trans HKD.out).trans hk4⟩
    · have HV2 : Hid (V = (⟨#[]⟩, 3)) := Lib.hid (by rw [HV.out]; unfold commonP; rw [HX.out, hy])
      clear hy
      unfold nilS
      go_wp2
      go_ret2
      exact ⟨by rw [HV2.out]; rfl, HK1.out.trans hk2⟩
  · have HV2 : Hid (V = (⟨#[]⟩, 3)) := Lib.hid (by rw [HV.out]; unfold commonP; rw [hx])
    have HK1 := Lib.hid hk1
    clear hx hk1
    unfold nilS
    go_wp2_with fail
    refine (HB.out _ (HT.out.kept HK1.out)).mono ?_
    rintro e w2 ⟨hk2, h2⟩
    rcases h2 with ⟨y, u, hy, rfl, oy⟩ | ⟨hy, rfl⟩
    all_goals
      clear hy
      try clear oy
      try unfold nilS
      go_wp2
      go_ret2
      exact ⟨by rw [HV2.out]; rfl, HK1.out.trans hk2⟩

set_option maxHeartbeats 4000000 in
theorem lawStands_any (w : World) (s t : ByteArray) (hs : s.size ≤ maxLen) (ht : t.size ≤ maxLen) (hT : Tabs w) : Calls Tryd.prog 5 #[.string s, .string t] w (TrueKeptJ w) := by
  have S1 := Lib.hid (fun w => short_any w s hs)
  have S2 := Lib.hid (fun w => short_any w t ht)
  have z1 := cut300_size s
  have z2 := cut300_size t
  generalize cut300 s = a at *
  generalize cut300 t = b at *
  have HT := Lib.hid hT
  have H1 := Lib.hid (fun w => common_any w a b (by omega) (by omega))
  have H2 := Lib.hid (fun w hT => rcommon_any w a b (by omega) (by omega) hT)
  have H3 := Lib.hid (fun w => above_any w a b (by omega) (by omega))
  have H4 := Lib.hid (fun w hT => rabove_any w a b (by omega) (by omega) hT)
  generalize (commonP a b).1 = c at *
  generalize (commonP a b).2 = d at *
  generalize aboveB a b = ab at *
  clear hT z1 z2 hs ht
  go_enter Tryd.func5, Tryd.ntmps5
  go_wp2_with fail
  refine (S1.out _).mono ?_
  rintro e w1 ⟨rfl, rfl⟩
  go_wp2_with fail
  refine (S2.out _).mono ?_
  rintro e w1 ⟨rfl, rfl⟩
  go_wp2_with fail
  refine (H1.out _).mono ?_
  rintro e w1 ⟨rfl, hk1⟩
  go_wp2_with fail
  refine (H2.out _ (HT.out.kept hk1)).mono ?_
  rintro e w2 ⟨rfl, hk2⟩
  have HK2 := Lib.hid (hk1.trans hk2)
  clear hk1 hk2
  go_wp2_with fail
  refine (live_any _).mono ?_
  rintro e w3 ⟨rfl, hk3⟩
  have HK3 := Lib.hid (HK2.out.trans hk3)
  clear hk3
  go_wp2_with fail
  refine (H3.out _).mono ?_
  rintro e w4 ⟨rfl, hk4⟩
  have HK4 := Lib.hid (HK3.out.trans hk4)
  clear hk4
  go_wp2_with fail
  refine (H4.out _ (HT.out.kept HK4.out)).mono ?_
  rintro e w5 ⟨rfl, hk5⟩
  go_wp2
  go_ret
  exact ⟨by simp, HK4.out.trans hk5⟩
end Go.Proofs.YtlaplonmbnncaaaDoor
