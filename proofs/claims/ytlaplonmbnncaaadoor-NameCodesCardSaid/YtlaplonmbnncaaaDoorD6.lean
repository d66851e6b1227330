/- What stands above both; whether a name stands above another one; NameStands, walked. -/
import Derived.Test.YtlaplonmbnncaaaDoorD5
namespace Go.Proofs.YtlaplonmbnncaaaDoor
open Go.RowKit Go.Shelf
set_option maxRecDepth 100000

theorem row_take {W : World} {base n cap k : Nat} {A : Option Addr} {xs : List Value} (h : W.ownsRow base 9 1 (.slice A n cap) n xs) (hk : k ≤ n) (hA : A ≠ none) : Row W 9 1 (.slice A k cap) k (xs.take k) := by
  obtain ⟨hl, ⟨h0, -⟩ | ⟨g, cap', cur, hv, hb, hgg, hn, hm, hs, ht⟩⟩ := h
  · injection h0 with h0
    exact absurd h0 hA
  · injection hv with hv _ hc
    subst hv hc
    refine ⟨by rw [List.length_take, hl]; omega, .inr ⟨g, 0, cap, cur, rfl, hgg, by omega, hm, by omega, ?_⟩⟩
    rw [← ht, List.drop_zero, List.take_take]
    congr 1
    omega
theorem strV_take (x : List ByteArray) (k : Nat) : (strV x).take k = strV (x.take k) := by
  unfold strV
  rw [List.map_take]
def commonP (a b : ByteArray) : ByteArray × Int := match splitO a, splitO b with
  | some x, some y => (nameOf (x.take (common x y)), 0)
  | _, _ => (⟨#[]⟩, 3)
theorem joinV_take (x : List ByteArray) (k : Nat) (h6 : x.length ≤ 6) (ha : x.all label = true) : joinV (x.take k) = .tuple #[.string (nameOf (x.take k)), .int .i64 0] := by
  unfold joinV
  rw [if_neg (by rw [List.length_take]; omega), if_neg]
  intro h
  have : (x.take k).all label = true := List.all_eq_true.2 fun y hy => List.all_eq_true.1 ha y (List.mem_of_mem_take hy)
  rw [this] at h
  cases h
/-- A row of the call's own is nil, or lies somewhere. -/
theorem own_cases {W : World} {base n : Nat} {v : Value} {xs : List Value} (h : W.ownsRow base 9 1 v n xs) : (v = .slice none 0 0 ∧ n = 0) ∨ ∃ g cap, v = .slice (some ⟨g, 0, none⟩) n cap ∧ n ≤ cap ∧ cap ≤ maxLen := by
  obtain ⟨-, h0 | ⟨g, cap, cur, rfl, -, -, hn, hm, -⟩⟩ := h
  · exact .inl h0
  · exact .inr ⟨g, cap, rfl, hn, hm⟩
set_option maxHeartbeats 4000000 in
theorem common_any (w : World) (a b : ByteArray) (ha : a.size ≤ 1000) (hb : b.size ≤ 1000) : Calls Tryd.prog 23 #[.string a, .string b] w fun e w' => e = .returned (.tuple #[.string (commonP a b).1, .int .i64 (commonP a b).2]) ∧ Kept NoBlk w w' := by
  have HA := Lib.hid (fun w => split_any w a ha)
  have HB := Lib.hid (fun w => split_any w b hb)
  obtain ⟨V, hV⟩ : ∃ V, commonP a b = V := ⟨_, rfl⟩
  rw [hV]
  have HV := Lib.hid hV.symm
  clear hV
  go_enter Tryd.func23, Tryd.ntmps23
  go_wp2_with fail
  refine (HA.out _).mono ?_
  rintro e w1 ⟨hk1, ⟨x, v, hx, rfl, ox⟩ | ⟨hx, rfl⟩⟩
  · have HX := Lib.hid hx
    have HK1 := Lib.hid hk1
    obtain ⟨hxl, hx6⟩ := splitO_labels a x hx
    obtain ⟨A, cap, rfl⟩ := own_form ox
    have OX := Lib.hid ox
    have HXL := Lib.hid hxl
    clear hx hk1 HA ox hxl
    go_wp2_with fail
    refine (HB.out _).mono ?_
    rintro e w2 ⟨hk2, ⟨y, u, hy, rfl, oy⟩ | ⟨hy, rfl⟩⟩
    · have hy6 := (splitO_labels b y hy).2
      have HS := Lib.hid (shared_any w2 _ u x y (Row.of_own (own_kept OX.out hk2 (fun _ _ e => e))) (Row.of_own oy) (by omega) (by omega))
      have HV2 : Hid (V = (nameOf (x.take (common x y)), 0)) := Lib.hid (by rw [HV.out]; unfold commonP; rw [HX.out, hy])
      have HJ := Lib.hid (joinV_take x (common x y) hx6 HXL.out)
      have HK2 := Lib.hid (HK1.out.trans hk2)
      have hcl := (common_le x y).1
      have OX2 := Lib.hid (own_kept OX.out hk2 (fun _ _ e => e))
      obtain ⟨B, cap', rfl⟩ := own_form oy
      clear hk2 oy hy HB OX
      generalize common x y = k at *
      have hk6 : (k : Int) ≤ 6 := by omega
      rcases own_cases OX2.out with ⟨hn, hn0⟩ | ⟨g, cap2, hn, hcap, hmax⟩
      · injection hn with e1 e2 e3
        subst e1 e3
        have hk0 : k = 0 := by omega
        have hx0 : x = [] := List.eq_nil_of_length_eq_zero hn0
        subst hk0 hx0
        go_wp2_with fail
        refine HS.out.mono ?_
        rintro e w3 ⟨rfl, hk3⟩
        have HK3 := Lib.hid (HK2.out.trans hk3)
        have hj := join_any w3 (.slice none 0 0) [] (Row.nil _ _ _) (by decide)
        have hj0 := HJ.out
        rw [List.take_nil] at hj0
        rw [hj0] at hj
        have HJJ := Lib.hid hj
        clear hj hj0 hk3
        go_wp2_with fail
        refine HJJ.out.mono ?_
        rintro e w4 ⟨rfl, hk4⟩
        go_wp2
        go_ret2
        exact ⟨by rw [HV2.out]; rfl, HK3.out.trans hk4⟩
      · injection hn with e1 e2 e3
        subst e1 e3
        unfold maxLen at hmax
        have hkc : (k : Int) ≤ cap := by omega
        go_wp2_with fail
        refine HS.out.mono ?_
        rintro e w3 ⟨rfl, hk3⟩
        have HK3 := Lib.hid (HK2.out.trans hk3)
        have hr := row_take (own_kept OX2.out hk3 (fun _ _ e => e)) hcl (by simp)
        rw [strV_take] at hr
        have hl : (x.take k).length = k := by rw [List.length_take]; omega
        have hj := join_any w3 (.slice (some ⟨g, 0, none⟩) k cap) (x.take k) (by rw [hl]; exact hr) (by omega)
        rw [HJ.out] at hj
        have HJJ := Lib.hid hj
        clear hj hr hl hk3
        go_wp2_with fail
        refine HJJ.out.mono ?_
        rintro e w4 ⟨rfl, hk4⟩
        go_wp2
        go_ret2
        exact ⟨by rw [HV2.out]; rfl, HK3.out.trans hk4⟩
    · have HV2 : Hid (V = (⟨#[]⟩, 3)) := Lib.hid (by rw [HV.out]; unfold commonP; rw [HX.out, hy])
      clear hy
      unfold nilS
      go_wp2
      go_ret2
      exact ⟨by rw [HV2.out]; rfl, HK1.out.trans hk2⟩
  · have HV2 : Hid (V = (⟨#[]⟩, 3)) := Lib.hid (by rw [HV.out]; unfold commonP; rw [hx])
    have HK1 := Lib.hid hk1
    clear hx hk1
    unfold nilS
    go_wp2_with fail
    refine (HB.out _).mono ?_
    rintro e w2 ⟨hk2, h2⟩
    rcases h2 with ⟨y, u, hy, rfl, oy⟩ | ⟨hy, rfl⟩
    all_goals
      clear hy
      try clear oy
      try unfold nilS
      go_wp2
      go_ret2
      exact ⟨by rw [HV2.out]; rfl, HK1.out.trans hk2⟩
end Go.Proofs.YtlaplonmbnncaaaDoor
