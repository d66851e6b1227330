/- The name above, how many labels, a name below by the reference; NameSplits, walked. -/
import Derived.Test.YtlaplonmbnncaaaDoorD8
namespace Go.Proofs.YtlaplonmbnncaaaDoor
open Go.RowKit Go.Shelf
set_option maxRecDepth 100000

def parentP (a : ByteArray) : ByteArray × Int := match splitO a with
  | none => (⟨#[]⟩, 3)
  | some [] => (⟨#[]⟩, 5)
  | some (p :: q) => (nameOf ((p :: q).take ((p :: q).length - 1)), 0)
def depthP (a : ByteArray) : Nat := ((splitO a).getD []).length
set_option maxHeartbeats 2000000 in
theorem parent_any (w : World) (a : ByteArray) (ha : a.size ≤ 1000) : Calls Tryd.prog 28 #[.string a] w fun e w' => e = .returned (.tuple #[.string (parentP a).1, .int .i64 (parentP a).2]) ∧ Kept NoBlk w w' := by
  have HA := Lib.hid (fun w => split_any w a ha)
  obtain ⟨V, hV⟩ : ∃ V, parentP a = V := ⟨_, rfl⟩
  rw [hV]
  have HV := Lib.hid hV.symm
  clear hV
  go_enter Tryd.func28, Tryd.ntmps28
  go_wp2_with fail
  refine (HA.out _).mono ?_
  rintro e w2 ⟨hk1, ⟨x, v, hx, rfl, ox⟩ | ⟨hx, rfl⟩⟩
  · obtain ⟨hxl, hx6⟩ := splitO_labels a x hx
    have HXL := Lib.hid hxl
    have HK1 := Lib.hid hk1
    rcases own_cases ox with ⟨rfl, h0⟩ | ⟨g, cap, rfl, hcap, hmax⟩
    · have hx0 : x = [] := List.eq_nil_of_length_eq_zero h0
      have HV2 : Hid (V = (⟨#[]⟩, 5)) := Lib.hid (by rw [HV.out]; unfold parentP; rw [hx, hx0])
      clear hx hk1 ox hxl
      go_wp2
      go_ret2
      exact ⟨by rw [HV2.out]; rfl, HK1.out⟩
    · unfold maxLen at hmax
      by_cases h0 : x.length = 0
      · have hx0 : x = [] := List.eq_nil_of_length_eq_zero h0
        have HV2 : Hid (V = (⟨#[]⟩, 5)) := Lib.hid (by rw [HV.out]; unfold parentP; rw [hx, hx0])
        have he : ((x.length : Int) == 0) = true := beq_iff_eq.2 (by omega)
        clear hx hk1 ox hxl hx0
        go_wp2
        go_ret2
        exact ⟨by rw [HV2.out]; rfl, HK1.out⟩
      · have HV2 : Hid (V = (nameOf (x.take (x.length - 1)), 0)) := Lib.hid (by
          rw [HV.out]
          unfold parentP
          rw [hx]
          cases x with
          | nil => exact absurd rfl h0
          | cons p q => rfl)
        have he : ((x.length : Int) == 0) = false := beq_eq_false_iff_ne.2 (by omega)
        have hr := row_take ox (Nat.sub_le x.length 1) (by simp)
        rw [strV_take] at hr
        have hl : (x.take (x.length - 1)).length = x.length - 1 := by rw [List.length_take]; omega
        have hj := join_any w2 (.slice (some ⟨g, 0, none⟩) (x.length - 1) cap) (x.take (x.length - 1)) (by rw [hl]; exact hr) (by omega)
        rw [joinV_take x _ hx6 HXL.out] at hj
        have HJ := Lib.hid hj
        have hsub : (x.length : Int) - 1 = ((x.length - 1 : Nat) : Int) := by omega
        have hkc : ((x.length - 1 : Nat) : Int) ≤ cap := by omega
        have hwn : IntKind.i64.wrap ((x.length - 1 : Nat) : Int) = ((x.length - 1 : Nat) : Int) := by rw [IntKind.wrap_i64]; omega
        clear hx hk1 ox hxl hr hl hj
        generalize hm : x.length - 1 = m at *
        go_wp2_with fail
        refine HJ.out.mono ?_
        rintro e w3 ⟨rfl, hk3⟩
        go_wp2
        go_ret2
        exact ⟨by rw [HV2.out]; rfl, HK1.out.trans hk3⟩
  · have HV2 : Hid (V = (⟨#[]⟩, 3)) := Lib.hid (by rw [HV.out]; unfold parentP; rw [hx])
    clear hx
    unfold nilS
    go_wp2
    go_ret2
    exact ⟨by rw [HV2.out]; rfl, hk1⟩
set_option maxHeartbeats 2000000 in
theorem rparent_any (w : World) (a : ByteArray) (ha : a.size ≤ 1000) (hT : Tabs w) : Calls Tryd.prog 29 #[.string a] w fun e w' => e = .returned (.tuple #[.string (parentP a).1, .int .i64 (parentP a).2]) ∧ Kept NoBlk w w' := by
  have HA := Lib.hid (fun w hT => rsplit_any w a ha hT)
  have HT := Lib.hid hT
  clear hT
  obtain ⟨V, hV⟩ : ∃ V, parentP a = V := ⟨_, rfl⟩
  rw [hV]
  have HV := Lib.hid hV.symm
  clear hV
  go_enter Tryd.func29, Tryd.ntmps29
  go_wp2_with fail
  refine (HA.out _ HT.out).mono ?_
  rintro e w2 ⟨hk1, ⟨x, v, hx, rfl, ox⟩ | ⟨hx, rfl⟩⟩
  · obtain ⟨hxl, hx6⟩ := splitO_labels a x hx
    have HXL := Lib.hid hxl
    have HK1 := Lib.hid hk1
    rcases own_cases ox with ⟨rfl, h0⟩ | ⟨g, cap, rfl, hcap, hmax⟩
    · have hx0 : x = [] := List.eq_nil_of_length_eq_zero h0
      have HV2 : Hid (V = (⟨#[]⟩, 5)) := Lib.hid (by rw [HV.out]; unfold parentP; rw [hx, hx0])
      clear hx hk1 ox hxl
      go_wp2
      go_ret2
      exact ⟨by rw [HV2.out]; rfl, HK1.out⟩
    · unfold maxLen at hmax
      by_cases h0 : x.length = 0
      · have hx0 : x = [] := List.eq_nil_of_length_eq_zero h0
        have HV2 : Hid (V = (⟨#[]⟩, 5)) := Lib.hid (by rw [HV.out]; unfold parentP; rw [hx, hx0])
        have he : ((x.length : Int) == 0) = true := beq_iff_eq.2 (by omega)
        clear hx hk1 ox hxl hx0
        go_wp2
        go_ret2
        exact ⟨by rw [HV2.out]; rfl, HK1.out⟩
      · have HV2 : Hid (V = (nameOf (x.take (x.length - 1)), 0)) := Lib.hid (by
          rw [HV.out]
          unfold parentP
          rw [hx]
          cases x with
          | nil => exact absurd rfl h0
          | cons p q => rfl)
        have he : ((x.length : Int) == 0) = false := beq_eq_false_iff_ne.2 (by omega)
        have hr := row_take ox (Nat.sub_le x.length 1) (by simp)
        rw [strV_take] at hr
        have hl : (x.take (x.length - 1)).length = x.length - 1 := by rw [List.length_take]; omega
        have hj := rjoin_any w2 (.slice (some ⟨g, 0, none⟩) (x.length - 1) cap) (x.take (x.length - 1)) (by rw [hl]; exact hr) (by omega) (fun s hs => by have := (label_facts s (List.all_eq_true.1 HXL.out s (List.mem_of_mem_take hs))).2.1; omega) (HT.out.kept hk1)
        rw [joinV_take x _ hx6 HXL.out] at hj
        have HJ := Lib.hid hj
        have hsub : (x.length : Int) - 1 = ((x.length - 1 : Nat) : Int) := by omega
        have hkc : ((x.length - 1 : Nat) : Int) ≤ cap := by omega
        have hwn : IntKind.i64.wrap ((x.length - 1 : Nat) : Int) = ((x.length - 1 : Nat) : Int) := by rw [IntKind.wrap_i64]; omega
        clear hx hk1 ox hxl hr hl hj
        generalize hm : x.length - 1 = m at *
        go_wp2_with fail
        refine HJ.out.mono ?_
        rintro e w3 ⟨rfl, hk3⟩
        go_wp2
        go_ret2
        exact ⟨by rw [HV2.out]; rfl, HK1.out.trans hk3⟩
  · have HV2 : Hid (V = (⟨#[]⟩, 3)) := Lib.hid (by rw [HV.out]; unfold parentP; rw [hx])
    clear hx
    unfold nilS
    go_wp2
    go_ret2
    exact ⟨by rw [HV2.out]; rfl, hk1⟩
theorem depth_any (w : World) (a : ByteArray) (ha : a.size ≤ 1000) : Calls Tryd.prog 32 #[.string a] w fun e w' => e = .returned (.int .i64 (depthP a : Int)) ∧ Kept NoBlk w w' := by
  have HA := Lib.hid (split_any w a ha)
  obtain ⟨V, hV⟩ : ∃ V, depthP a = V := ⟨_, rfl⟩
  rw [hV]
  have HV := Lib.hid hV.symm
  clear hV
  go_enter Tryd.func32, Tryd.ntmps32
  go_wp2_with fail
  refine HA.out.mono ?_
  rintro e w2 ⟨hk1, ⟨x, v, hx, rfl, ox⟩ | ⟨hx, rfl⟩⟩
  · have HV2 : Hid (V = x.length) := Lib.hid (by rw [HV.out]; unfold depthP; rw [hx]; rfl)
    obtain ⟨A, cap, rfl⟩ := own_form ox
    clear hx ox
    go_wp2
    go_ret
    exact ⟨by rw [HV2.out]; rfl, hk1⟩
  · have HV2 : Hid (V = 0) := Lib.hid (by rw [HV.out]; unfold depthP; rw [hx]; rfl)
    clear hx
    unfold nilS
    go_wp2
    go_ret
    exact ⟨by rw [HV2.out]; rfl, hk1⟩
theorem rdepth_any (w : World) (a : ByteArray) (ha : a.size ≤ 1000) (hT : Tabs w) : Calls Tryd.prog 33 #[.string a] w fun e w' => e = .returned (.int .i64 (depthP a : Int)) ∧ Kept NoBlk w w' := by
  have HA := Lib.hid (rsplit_any w a ha hT)
  obtain ⟨V, hV⟩ : ∃ V, depthP a = V := ⟨_, rfl⟩
  rw [hV]
  have HV := Lib.hid hV.symm
  clear hV
  go_enter Tryd.func33, Tryd.ntmps33
  go_wp2_with fail
  refine HA.out.mono ?_
  rintro e w2 ⟨hk1, ⟨x, v, hx, rfl, ox⟩ | ⟨hx, rfl⟩⟩
  · have HV2 : Hid (V = x.length) := Lib.hid (by rw [HV.out]; unfold depthP; rw [hx]; rfl)
    obtain ⟨A, cap, rfl⟩ := own_form ox
    clear hx ox
    go_wp2
    go_ret
    exact ⟨by rw [HV2.out]; rfl, hk1⟩
  · have HV2 : Hid (V = 0) := Lib.hid (by rw [HV.out]; unfold depthP; rw [hx]; rfl)
    clear hx
    unfold nilS
    go_wp2
    go_ret
    exact ⟨by rw [HV2.out]; rfl, hk1⟩
set_option maxHeartbeats 4000000 in
theorem rchild_any (w : World) (n s : ByteArray) (hn : n.size ≤ 1000) (hs : s.size ≤ 1000) (hT : Tabs w) : Calls Tryd.prog 31 #[.string n, .string s] w fun e w' => e = .returned (.tuple #[.string (childP n s).1, .int .i64 (childP n s).2]) ∧ Kept NoBlk w w' := by
  have HS := Lib.hid (rsplit_any w n hn hT)
  have HL := Lib.hid (fun w hT => rlabel_any w s hs hT)
  have HT := Lib.hid hT
  clear hT
  obtain ⟨V, hV⟩ : ∃ V, childP n s = V := ⟨_, rfl⟩
  rw [hV]
  have HV := Lib.hid hV.symm
  clear hV
  go_enter Tryd.func31, Tryd.ntmps31
  go_wp2_with fail
  refine HS.out.mono ?_
  rintro e w1 ⟨hk1, ⟨l, v, hsp, rfl, ho⟩ | ⟨hsp, rfl⟩⟩
  · obtain ⟨hall, hl6⟩ := splitO_labels n l hsp
    have HALL := Lib.hid hall
    have HSP := Lib.hid hsp
    have HO := Lib.hid (Row.of_own ho)
    have HK1 := Lib.hid hk1
    obtain ⟨A, cap, rfl⟩ := own_form ho
    clear hsp ho hk1 hall HS
    go_wp2_with fail
    refine (HL.out _ (HT.out.kept HK1.out)).mono ?_
    rintro e w2 ⟨rfl, hk2⟩
    have HK2 := Lib.hid (HK1.out.trans hk2)
    have HO2 := Lib.hid (HO.out.kept hk2 (fun _ _ _ e => e))
    have hlt2 := (HK1.out.trans hk2).size
    clear hk2 HO
    have hone : (strV l).all (·.oneCell') = true := by
      unfold strV
      rw [List.all_map, List.all_eq_true]
      intro r _
      rfl
    have HONE := Lib.hid hone
    clear hone
    by_cases hb : label s = true
    · rw [hb]
      have HB := Lib.hid hb
      clear hb
      go_wp2_with (first | (refine wpList_append_mine rfl (.tmp 20) (.tmp 21) 22 rfl 9 1 16 Tryd.underlying22 Tryd.szS (by decide) w.heap.size (.slice (some ⟨w2.heap.size, 0, none⟩) 0 0) 0 [] rfl (own_new (Blk.new _ _ _) (by omega)) A l.length cap (strV l) rfl (HO2.out.kept (G := NoBlk) ((Kept.refl _ _).alloc _) (fun _ _ _ e => e)) HONE.out (by simp only [maxLen]; omega) (by omega) (by simp; omega) ?_; intro A3 cap3 w3 hown3 hK3; simp only [Nat.zero_add, List.nil_append] at hown3; have HO3 := Lib.hid hown3; have HK3 := Lib.hid (Kept.fresh (HK2.out.alloc _) hK3 (fun b e => e)); have hlt3 := HK3.out.size; clear hown3 hK3) | (refine wpList_append_mine rfl (.tmp 22) (.tmp 24) 22 rfl 9 1 16 Tryd.underlying22 Tryd.szS (by decide) w.heap.size _ l.length (strV l) rfl (own_kept (G := NoBlk) HO3.out ((Kept.refl _ _).alloc _) (fun _ _ e => e)) (some ⟨w3.heap.size, 0, none⟩) 1 1 [.string s] rfl (Row.new (Blk.new _ _ _) rfl (by simp [maxLen])) rfl (by simp only [maxLen]; omega) (by omega) (by simp; omega) ?_; intro A4 cap4 w4 hown4 hK4; have HO4 := Lib.hid hown4; have HK4 := Lib.hid (Kept.fresh (HK3.out.alloc _) hK4 (fun b e => e)); clear hown4 hK4))
      have hlen : (l ++ [s]).length = l.length + 1 := by rw [List.length_append, List.length_singleton]
      have hrow : Row w4 9 1 (.slice A4 (l.length + 1) cap4) (l ++ [s]).length (strV (l ++ [s])) := by
        rw [hlen]
        unfold strV
        rw [List.map_append]
        exact Row.of_own HO4.out
      have hall2 : (l ++ [s]).all label = true := by rw [List.all_append, HALL.out, List.all_cons, HB.out]; rfl
      have hj := rjoin_any w4 _ _ hrow (by omega) (fun t ht => by have := (label_facts t (List.all_eq_true.1 hall2 t ht)).2.1; omega) (HT.out.kept HK4.out)
      have hjv : joinV (l ++ [s]) = .tuple #[.string (childP n s).1, .int .i64 (childP n s).2] := by
        rw [← childV_eq]
        unfold childV
        rw [HSP.out]
        simp only
        rw [if_pos HB.out]
      rw [hjv, ← HV.out] at hj
      have HJ := Lib.hid hj
      clear hlen hrow hall2 hj hjv
      refine HJ.out.mono ?_
      rintro e w5 ⟨rfl, hk5⟩
      go_wp2
      go_ret2
      exact ⟨rfl, HK4.out.trans hk5⟩
    · have hb' : label s = false := by simpa using hb
      rw [hb']
      have HV2 : Hid (V = (⟨#[]⟩, 3)) := Lib.hid (by rw [HV.out]; unfold childP; rw [HSP.out]; simp only; rw [if_neg hb])
      clear hb hb'
      go_wp2
      go_ret2
      exact ⟨by rw [HV2.out]; rfl, HK2.out⟩
  · have HV2 : Hid (V = (⟨#[]⟩, 3)) := Lib.hid (by rw [HV.out]; unfold childP; rw [hsp])
    clear hsp
    unfold nilS
    go_wp2
    go_ret2
    exact ⟨by rw [HV2.out]; rfl, hk1⟩
end Go.Proofs.YtlaplonmbnncaaaDoor
