/- NameSplits, walked. -/
import Derived.Test.YtlaplonmbnncaaaDoorD9
namespace Go.Proofs.YtlaplonmbnncaaaDoor
open Go.RowKit Go.Shelf
set_option maxRecDepth 100000

/-- What both Splits hand back: a row of the same texts, and the same error. -/
theorem split_both {w : World} {s : ByteArray} {e : Ending} {w' : World} (h : SplitRes w s e w') : ∃ (v : Value) (l : List ByteArray) (c : Int), e = .returned (.tuple #[v, .int .i64 c]) ∧ Kept NoBlk w w' ∧ w'.ownsRow w.heap.size 9 1 v l.length (strV l) ∧ l = (splitO s).getD [] ∧ c = (if (splitO s).isSome then 0 else 3) := by
  obtain ⟨hk, ⟨l, v, hs, rfl, ho⟩ | ⟨hs, rfl⟩⟩ := h
  · exact ⟨v, l, 0, rfl, hk, ho, by rw [hs]; rfl, by rw [hs]; rfl⟩
  · exact ⟨nilS, [], 3, rfl, hk, own_none _ _ _ _, by rw [hs]; rfl, by rw [hs]; rfl⟩
theorem split_few (s : ByteArray) : ((splitO s).getD []).length ≤ 6 := by
  cases h : splitO s with
  | none => decide
  | some l => exact (splitO_labels s l h).2
set_option maxHeartbeats 8000000 in
theorem lawSplits_any (w : World) (s t : ByteArray) (hs : s.size ≤ maxLen) (ht : t.size ≤ maxLen) (hT : Tabs w) : Calls Tryd.prog 6 #[.string s, .string t] w (TrueKeptJ w) := by
  have S1 := Lib.hid (fun w => short_any w s hs)
  have S2 := Lib.hid (fun w => short_any w t ht)
  have z1 := cut300_size s
  have z2 := cut300_size t
  generalize cut300 s = a at *
  generalize cut300 t = b at *
  have HT := Lib.hid hT
  have A1 := Lib.hid (fun w => split_any w a (by omega))
  have A2 := Lib.hid (fun w hT => rsplit_any w a (by omega) hT)
  have P1 := Lib.hid (fun w => parent_any w a (by omega))
  have P2 := Lib.hid (fun w hT => rparent_any w a (by omega) hT)
  have C1 := Lib.hid (fun w => child_pair w a b (by omega))
  have C2 := Lib.hid (fun w hT => rchild_any w a b (by omega) (by omega) hT)
  have D1 := Lib.hid (fun w => depth_any w a (by omega))
  have D2 := Lib.hid (fun w hT => rdepth_any w a (by omega) hT)
  have L1 := Lib.hid (fun w => label_any w b)
  have L2 := Lib.hid (fun w hT => rlabel_any w b (by omega) hT)
  have HFEW := Lib.hid (split_few a)
  generalize (parentP a).1 = p1 at *
  generalize (parentP a).2 = p2 at *
  generalize (childP a b).1 = c1 at *
  generalize (childP a b).2 = c2 at *
  generalize (depthP a : Int) = dp at *
  generalize label b = lb at *
  clear hT z1 z2 hs ht
  go_enter Tryd.func6, Tryd.ntmps6
  go_wp2_with fail
  refine (S1.out _).mono ?_
  rintro e w1 ⟨rfl, rfl⟩
  go_wp2_with fail
  refine (S2.out _).mono ?_
  rintro e w1 ⟨rfl, rfl⟩
  go_wp2_with fail
  refine (A1.out _).mono ?_
  intro e w1 hr
  obtain ⟨v1, l1, k1, rfl, hk1, ho1, hl1, hc1⟩ := split_both hr
  clear hr
  have HO1 := Lib.hid (Row.of_own ho1)
  have HK1 := Lib.hid hk1
  obtain ⟨V1, cp1, rfl⟩ := own_form ho1
  have HL1 := Lib.hid hl1
  have HC1 := Lib.hid hc1
  clear ho1 hk1 hl1 hc1
  go_wp2_with fail
  refine (A2.out _ (HT.out.kept HK1.out)).mono ?_
  intro e w2 hr
  obtain ⟨v2, l2, k2, rfl, hk2, ho2, hl2, hc2⟩ := split_both hr
  clear hr
  obtain rfl : l2 = l1 := by rw [HL1.out, hl2]
  obtain rfl : k2 = k1 := by rw [HC1.out, hc2]
  have hl6 : Hid (l2.length ≤ 100) := Lib.hid (by rw [hl2]; have := HFEW.out; omega)
  have HO2 := Lib.hid (Row.of_own ho2)
  have HO1' := Lib.hid (HO1.out.kept hk2 (fun _ _ _ e => e))
  have HK2 := Lib.hid (HK1.out.trans hk2)
  obtain ⟨V2, cp2, rfl⟩ := own_form ho2
  clear ho2 hk2 hl2 hc2 HO1 HL1 HC1
  go_wp2_with fail
  refine (P1.out _).mono ?_
  rintro e w3 ⟨rfl, hk3⟩
  have HK3 := Lib.hid (HK2.out.trans hk3)
  have R3 := Lib.hid (And.intro (HO1'.out.kept hk3 (fun _ _ _ e => e)) (HO2.out.kept hk3 (fun _ _ _ e => e)))
  clear hk3 HO1' HO2
  go_wp2_with fail
  refine (P2.out _ (HT.out.kept HK3.out)).mono ?_
  rintro e w4 ⟨rfl, hk4⟩
  have HK4 := Lib.hid (HK3.out.trans hk4)
  have R4 := Lib.hid (And.intro (R3.out.1.kept hk4 (fun _ _ _ e => e)) (R3.out.2.kept hk4 (fun _ _ _ e => e)))
  clear hk4 R3
  go_wp2_with fail
  refine (C1.out _).mono ?_
  rintro e w5 ⟨rfl, hk5⟩
  have HK5 := Lib.hid (HK4.out.trans hk5)
  have R5 := Lib.hid (And.intro (R4.out.1.kept hk5 (fun _ _ _ e => e)) (R4.out.2.kept hk5 (fun _ _ _ e => e)))
  clear hk5 R4
  go_wp2_with fail
  refine (C2.out _ (HT.out.kept HK5.out)).mono ?_
  rintro e w6 ⟨rfl, hk6⟩
  have HK6 := Lib.hid (HK5.out.trans hk6)
  have R6 := Lib.hid (And.intro (R5.out.1.kept hk6 (fun _ _ _ e => e)) (R5.out.2.kept hk6 (fun _ _ _ e => e)))
  clear hk6 R5
  go_wp2_with fail
  refine (live_any _).mono ?_
  rintro e w7 ⟨rfl, hk7⟩
  have HK7 := Lib.hid (HK6.out.trans hk7)
  have HM := Lib.hid (same_any w7 _ _ l2 (R6.out.1.kept hk7 (fun _ _ _ e => e)) (R6.out.2.kept hk7 (fun _ _ _ e => e)) hl6.out)
  clear hk7 R6
  go_wp2_with fail
  refine HM.out.mono ?_
  rintro e w8 ⟨rfl, hk8⟩
  have HK8 := Lib.hid (HK7.out.trans hk8)
  clear hk8
  go_wp2_with fail
  refine (D1.out _).mono ?_
  rintro e w9 ⟨rfl, hk9⟩
  have HK9 := Lib.hid (HK8.out.trans hk9)
  clear hk9
  go_wp2_with fail
  refine (D2.out _ (HT.out.kept HK9.out)).mono ?_
  rintro e w10 ⟨rfl, hk10⟩
  have HK10 := Lib.hid (HK9.out.trans hk10)
  clear hk10
  go_wp2_with fail
  refine (L1.out _).mono ?_
  rintro e w11 ⟨rfl, hk11⟩
  have HK11 := Lib.hid (HK10.out.trans hk11)
  clear hk11
  go_wp2_with fail
  refine (L2.out _ (HT.out.kept HK11.out)).mono ?_
  rintro e w12 ⟨rfl, hk12⟩
  go_wp2
  go_ret
  exact ⟨by simp, HK11.out.trans hk12⟩
end Go.Proofs.YtlaplonmbnncaaaDoor
