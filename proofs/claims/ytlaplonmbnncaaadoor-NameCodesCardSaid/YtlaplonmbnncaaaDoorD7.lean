/- The reference's Above and Common; NameStands, walked. -/
import Derived.Test.YtlaplonmbnncaaaDoorD6
namespace Go.Proofs.YtlaplonmbnncaaaDoor
open Go.RowKit Go.Shelf
set_option maxRecDepth 100000

set_option maxHeartbeats 4000000 in
theorem rabove_any (w : World) (a b : ByteArray) (ha : a.size ≤ 1000) (hb : b.size ≤ 1000) (hT : Tabs w) : Calls Tryd.prog 26 #[.string a, .string b] w fun e w' => e = .returned (.bool (aboveB a b)) ∧ Kept NoBlk w w' := by
  have HA := Lib.hid (fun w hT => rsplit_any w a ha hT)
  have HB := Lib.hid (fun w hT => rsplit_any w b hb hT)
  have HT := Lib.hid hT
  clear hT
  obtain ⟨V, hV⟩ : ∃ V, aboveB a b = V := ⟨_, rfl⟩
  rw [hV]
  have HV := Lib.hid hV.symm
  clear hV
  go_enter Tryd.func26, Tryd.ntmps26
  go_wp2_with fail
  refine (HA.out _ HT.out).mono ?_
  rintro e w1 ⟨hk1, ⟨x, v, hx, rfl, ox⟩ | ⟨hx, rfl⟩⟩
  · have HX := Lib.hid hx
    have HK1 := Lib.hid hk1
    have hx6 := (splitO_labels a x hx).2
    obtain ⟨A, cap, rfl⟩ := own_form ox
    have OX := Lib.hid ox
    clear hx hk1 HA ox
    go_wp2_with fail
    refine (HB.out _ (HT.out.kept HK1.out)).mono ?_
    rintro e w2 ⟨hk2, ⟨y, u, hy, rfl, oy⟩ | ⟨hy, rfl⟩⟩
    · have hy6 := (splitO_labels b y hy).2
      have HV2 : Hid (V = decide (common x y = x.length)) := Lib.hid (by rw [HV.out]; unfold aboveB; rw [HX.out, hy])
      have HK2 := Lib.hid (HK1.out.trans hk2)
      have hcl := common_le x y
      have RX := Lib.hid (Row.of_own (own_kept OX.out hk2 (fun _ _ e => e)))
      have RY := Lib.hid (Row.of_own oy)
      obtain ⟨B, cap', rfl⟩ := own_form oy
      clear hk2 oy hy HB OX HX
      by_cases hgt : y.length < x.length
      · have hgt' : (y.length : Int) < x.length := by omega
        have HV3 : Hid (V = false) := Lib.hid (by rw [HV2.out]; exact decide_eq_false (by omega))
        go_wp2
        go_ret
        exact ⟨by rw [HV3.out]; rfl, HK2.out⟩
      · have hgt' : (x.length : Int) ≤ y.length := by omega
        have HG : Hid (0 + common (x.drop 0) (y.drop 0) = common x y) := Lib.hid (by rw [List.drop_zero, List.drop_zero, Nat.zero_add])
        generalize common x y = L at *
        go_wp2
        go_loopw [9] (fun kv wr => ∃ k : Nat, k ≤ x.length ∧ kv = .int .i64 k ∧ Hid (k + common (x.drop k) (y.drop k) = L) ∧ Kept NoBlk w2 wr) (fun kv _ => x.length - (intOf kv).toNat)
        case atStart => exact ⟨0, by omega, rfl, HG, Kept.refl _ _⟩
        case round =>
          clear HG
          obtain ⟨k, hk1, rfl, HR, hK⟩ := hrel
          by_cases l1 : k < x.length
          · have l2 : k < y.length := by omega
            obtain ⟨b1, o, c, e1, -, -, hb1, -, hbc⟩ := RX.out.place (by omega)
            obtain ⟨b', o', c', e1', -, -, hb', -, hbc'⟩ := RY.out.place (by omega)
            injection e1 with e1 _ e2
            subst e1 e2
            injection e1' with e1' _ e2'
            subst e1' e2'
            have q1 : wr.cell? ⟨b1, o + k, none⟩ = some (.string x[k]) := (hK.cell (p := ⟨b1, o + k, none⟩) hb1 (fun e => e)).trans (hbc k _ (strV_at x k l1))
            have q2 : wr.cell? ⟨b', o' + k, none⟩ = some (.string y[k]) := (hK.cell (p := ⟨b', o' + k, none⟩) hb' (fun e => e)).trans (hbc' k _ (strV_at y k l2))
            have hs := HR.out
            rw [common_at x y k l1 l2] at hs
            have hq := strEq x[k] y[k]
            have hqn : (x[k].toList != y[k].toList) = !decide (x[k] = y[k]) := by rw [bne, hq]
            have HK := Lib.hid hK
            clear hbc hbc' HR hK
            by_cases he : x[k] = y[k]
            · rw [if_pos he] at hs
              rw [decide_eq_true he] at hq hqn
              have HS := Lib.hid hs
              clear hs he
              generalize x[k] = s at *
              generalize y[k] = t at *
              go_wp2
              go_quiet (fail)
              go_wp2
              go_roundw
              case rel => exact ⟨k + 1, by omega, by go_num, Lib.hid (by have := HS.out; omega), by repeat (with_reducible first | exact HK.out | apply Kept.drew | apply Kept.drewN)⟩
              case measure => simp [intOf]; omega
            · rw [if_neg he] at hs
              rw [decide_eq_false he] at hq hqn
              have HV3 : Hid (V = false) := Lib.hid (by rw [HV2.out]; exact decide_eq_false (by omega))
              clear hs he
              generalize x[k] = s at *
              generalize y[k] = t at *
              go_wp2
              go_quiet (fail)
              go_wp2
              go_ret
              exact ⟨by rw [HV3.out]; rfl, HK2.out.trans (by repeat (with_reducible first | exact HK.out | apply Kept.drew | apply Kept.drewN))⟩
          · have HV3 : Hid (V = true) := Lib.hid (by rw [HV2.out]; exact decide_eq_true (by have := HR.out; omega))
            have hlk : ¬ ((k : Int) < x.length) := by omega
            have HK := Lib.hid hK
            clear hK
            go_wp2
            go_ret
            exact ⟨by rw [HV3.out]; rfl, HK2.out.trans HK.out⟩
    · have HV3 : Hid (V = false) := Lib.hid (by rw [HV.out]; unfold aboveB; rw [HX.out, hy])
      clear hy
      unfold nilS
      go_wp2
      go_ret
      exact ⟨by rw [HV3.out]; rfl, HK1.out.trans hk2⟩
  · have HV3 : Hid (V = false) := Lib.hid (by rw [HV.out]; unfold aboveB; rw [hx])
    have HK1 := Lib.hid hk1
    clear hx hk1
    unfold nilS
    go_wp2_with fail
    refine (HB.out _ (HT.out.kept HK1.out)).mono ?_
    rintro e w2 ⟨hk2, h2⟩
    rcases h2 with ⟨y, u, hy, rfl, oy⟩ | ⟨hy, rfl⟩
    all_goals
      clear hy
      try clear oy
      try unfold nilS
      go_wp2
      go_ret
      exact ⟨by rw [HV3.out]; rfl, HK1.out.trans hk2⟩
end Go.Proofs.YtlaplonmbnncaaaDoor
