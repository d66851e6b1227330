/- At most nine labels; texts that are the same; NameJoins, walked. -/
import Derived.Test.YtlaplonmbnncaaaDoorD2
import Derived.Test.YtlaplonmbnncaaaDoorPlan
namespace Go.Proofs.YtlaplonmbnncaaaDoor
open Go.RowKit Go.Shelf
set_option maxRecDepth 100000

/-- A slice value that holds texts, cell by cell. -/
def CellsS (w : World) (v : Value) (l : List ByteArray) : Prop :=
  ∃ A cap, v = .slice A l.length cap ∧ l.length ≤ cap ∧ cap ≤ maxLen ∧ (0 < l.length → ∃ b o, A = some ⟨b, o, none⟩ ∧ b < w.heap.size ∧ ∀ k (hk : k < l.length), w.cell? ⟨b, o + k, none⟩ = some (.string l[k]))
def fewL (l : List ByteArray) : List ByteArray := (l.take 9).map cut300
set_option maxHeartbeats 4000000 in
theorem few_any (w : World) (v : Value) (l : List ByteArray) (hx : CellsS w v l) (hsz : ∀ s ∈ l, s.size ≤ maxLen) : Calls Tryd.prog 8 #[v] w fun e w' => (∃ u, e = .returned u ∧ w'.ownsRow w.heap.size 9 1 u (fewL l).length (strV (fewL l))) ∧ Kept NoBlk w w' := by
  obtain ⟨A, cap, rfl, h1, h2, hc⟩ := hx
  unfold maxLen at h2
  have hlcap : (l.length : Int) ≤ 9223372036854775807 := by omega
  unfold fewL
  by_cases h9 : 9 < l.length
  · obtain ⟨b, o, rfl, hb, hbc⟩ := hc (by omega)
    have hy9 : (l.take 9).length = 9 := by rw [List.length_take]; omega
    have HC : Hid (0 < (l.take 9).length → ∃ b' o', (⟨b, o, none⟩ : Addr) = ⟨b', o', none⟩ ∧ b' < w.heap.size ∧ ∀ k (hk : k < (l.take 9).length), w.cell? ⟨b', o' + k, none⟩ = some (.string (l.take 9)[k])) := Lib.hid fun _ => ⟨b, o, rfl, hb, fun k hk => by
      rw [hbc k (by omega), List.getElem_take]⟩
    replace hsz : ∀ s ∈ l.take 9, s.size ≤ maxLen := fun s hs => hsz s (List.mem_of_mem_take hs)
    have h9' : (9 : Int) < l.length := by omega
    have hc9 : (9 : Int) ≤ cap := by omega
    clear hc hbc
    generalize l.take 9 = y at *
    go_enter Tryd.func8, Tryd.ntmps8
    go_wp2
    go_loopw [3, 4] (fun ov kv wr => ∃ (k : Nat) (A' : Option Addr) (cap' : Nat), k ≤ y.length ∧ kv = .int .i64 k ∧ ov = .slice A' k cap' ∧ Hid (wr.ownsRow w.heap.size 9 1 (.slice A' k cap') k (strV ((y.take k).map cut300))) ∧ Kept NoBlk w wr) (fun _ kv _ => y.length - (intOf kv).toNat)
    case atStart => exact ⟨0, none, 0, by omega, rfl, rfl, Lib.hid (own_none _ _ _ _), Kept.refl _ _⟩
    case round =>
      obtain ⟨k, A', cap', hk1, rfl, rfl, HO, hK⟩ := hrel
      have hlw := hK.size
      have HK := Lib.hid hK
      by_cases l1 : k < y.length
      · obtain ⟨b, o, e1, hb, hbc⟩ := HC.out (by omega)
        injection e1 with e1 e2 _
        subst e1 e2
        have q1 : wr.cell? ⟨b, o + k, none⟩ = some (.string y[k]) := (hK.cell (p := ⟨b, o + k, none⟩) hb (fun e => e)).trans (hbc k l1)
        have HS := Lib.hid (fun w => short_any w y[k] (hsz _ (List.getElem_mem l1)))
        have hs : Hid (strV ((y.take (k + 1)).map cut300) = strV ((y.take k).map cut300) ++ [.string (cut300 y[k])]) := Lib.hid (by
          rw [List.take_succ_eq_append_getElem l1, List.map_append]
          unfold strV
          rw [List.map_append]
          rfl)
        clear hbc hK
        generalize hyk : y[k] = s at *
        generalize cut300 s = t at *
        go_wp2_with fail
        refine (HS.out _).mono ?_
        rintro e w1 ⟨rfl, rfl⟩
        go_wp2_with (refine wpList_append_mine rfl (.tmp 16) (.tmp 22) 22 rfl 9 1 16 Tryd.underlying22 Tryd.szS (by decide) w.heap.size (.slice A' k cap') k (strV ((y.take k).map cut300)) rfl (own_kept (G := NoBlk) HO.out ((Kept.refl _ _).alloc _) (fun _ _ e => e)) (some ⟨wr.heap.size, 0, none⟩) 1 1 [.string t] rfl (Row.new (Blk.new _ _ _) rfl (by simp [maxLen])) rfl (by simp only [maxLen]; omega) (by omega) (by simp; omega) ?_; intro A2 cap2 w3 hown3 hK3)
        have HO3 : Hid (w3.ownsRow w.heap.size 9 1 (.slice A2 (k + 1) cap2) (k + 1) (strV ((y.take (k + 1)).map cut300))) := Lib.hid (by rw [hs.out]; exact hown3)
        have HK3 := Lib.hid (Kept.fresh (HK.out.alloc _) hK3 (fun b e => e))
        clear hown3 hK3
        go_roundw
        case rel => exact ⟨k + 1, A2, cap2, by omega, by go_num, rfl, HO3, HK3.out⟩
        case measure => simp [intOf]; omega
      · have hke : k = y.length := by omega
        have HO2 : Hid (wr.ownsRow w.heap.size 9 1 (.slice A' k cap') (y.map cut300).length (strV (y.map cut300))) := Lib.hid (by
          have := HO.out
          rw [hke, List.take_length] at this
          rw [List.length_map]
          rw [hke]
          exact this)
        clear hK HO
        go_wp2
        go_ret
        exact ⟨⟨_, rfl, HO2.out⟩, HK.out⟩
  · have hyl : l.take 9 = l := List.take_of_length_le (by omega)
    rw [hyl]
    have HC : Hid (0 < l.length → ∃ b' o', A = some ⟨b', o', none⟩ ∧ b' < w.heap.size ∧ ∀ k (hk : k < l.length), w.cell? ⟨b', o' + k, none⟩ = some (.string l[k])) := Lib.hid hc
    have h9' : (l.length : Int) ≤ 9 := by omega
    clear hc hyl
    obtain ⟨y, hy⟩ : ∃ y, y = l := ⟨l, rfl⟩
    subst hy
    go_enter Tryd.func8, Tryd.ntmps8
    go_wp2
    go_loopw [3, 4] (fun ov kv wr => ∃ (k : Nat) (A' : Option Addr) (cap' : Nat), k ≤ y.length ∧ kv = .int .i64 k ∧ ov = .slice A' k cap' ∧ Hid (wr.ownsRow w.heap.size 9 1 (.slice A' k cap') k (strV ((y.take k).map cut300))) ∧ Kept NoBlk w wr) (fun _ kv _ => y.length - (intOf kv).toNat)
    case atStart => exact ⟨0, none, 0, by omega, rfl, rfl, Lib.hid (own_none _ _ _ _), Kept.refl _ _⟩
    case round =>
      obtain ⟨k, A', cap', hk1, rfl, rfl, HO, hK⟩ := hrel
      have hlw := hK.size
      have HK := Lib.hid hK
      by_cases l1 : k < y.length
      · obtain ⟨b, o, e1, hb, hbc⟩ := HC.out (by omega)
        subst e1
        have q1 : wr.cell? ⟨b, o + k, none⟩ = some (.string y[k]) := (hK.cell (p := ⟨b, o + k, none⟩) hb (fun e => e)).trans (hbc k l1)
        have HS := Lib.hid (fun w => short_any w y[k] (hsz _ (List.getElem_mem l1)))
        have hs : Hid (strV ((y.take (k + 1)).map cut300) = strV ((y.take k).map cut300) ++ [.string (cut300 y[k])]) := Lib.hid (by
          rw [List.take_succ_eq_append_getElem l1, List.map_append]
          unfold strV
          rw [List.map_append]
          rfl)
        clear hbc hK
        generalize hyk : y[k] = s at *
        generalize cut300 s = t at *
        go_wp2_with fail
        refine (HS.out _).mono ?_
        rintro e w1 ⟨rfl, rfl⟩
        go_wp2_with (refine wpList_append_mine rfl (.tmp 16) (.tmp 22) 22 rfl 9 1 16 Tryd.underlying22 Tryd.szS (by decide) w.heap.size (.slice A' k cap') k (strV ((y.take k).map cut300)) rfl (own_kept (G := NoBlk) HO.out ((Kept.refl _ _).alloc _) (fun _ _ e => e)) (some ⟨wr.heap.size, 0, none⟩) 1 1 [.string t] rfl (Row.new (Blk.new _ _ _) rfl (by simp [maxLen])) rfl (by simp only [maxLen]; omega) (by omega) (by simp; omega) ?_; intro A2 cap2 w3 hown3 hK3)
        have HO3 : Hid (w3.ownsRow w.heap.size 9 1 (.slice A2 (k + 1) cap2) (k + 1) (strV ((y.take (k + 1)).map cut300))) := Lib.hid (by rw [hs.out]; exact hown3)
        have HK3 := Lib.hid (Kept.fresh (HK.out.alloc _) hK3 (fun b e => e))
        clear hown3 hK3
        go_roundw
        case rel => exact ⟨k + 1, A2, cap2, by omega, by go_num, rfl, HO3, HK3.out⟩
        case measure => simp [intOf]; omega
      · have hke : k = y.length := by omega
        have HO2 : Hid (wr.ownsRow w.heap.size 9 1 (.slice A' k cap') (y.map cut300).length (strV (y.map cut300))) := Lib.hid (by
          have := HO.out
          rw [hke, List.take_length] at this
          rw [List.length_map]
          rw [hke]
          exact this)
        clear hK HO
        go_wp2
        go_ret
        exact ⟨⟨_, rfl, HO2.out⟩, HK.out⟩
set_option maxHeartbeats 2000000 in
theorem same_any (w : World) (v u : Value) (x : List ByteArray) (hx : Row w 9 1 v x.length (strV x)) (hy : Row w 9 1 u x.length (strV x)) (hxl : x.length ≤ 100) :
    Calls Tryd.prog 13 #[v, u] w fun e w' => e = .returned (.bool true) ∧ Kept NoBlk w w' := by
  obtain ⟨A, cap, rfl, h1, h2, hA, -, hc⟩ := hx.form
  obtain ⟨B, cap', rfl, g1, g2, hB, -, gc⟩ := hy.form
  have HX := Lib.hid hx
  have HY := Lib.hid hy
  clear hc gc hx hy
  go_enter Tryd.func13, Tryd.ntmps13
  go_wp2
  go_loopw [5] (fun kv wr => ∃ k : Nat, k ≤ x.length ∧ kv = .int .i64 k ∧ Kept NoBlk w wr) (fun kv _ => x.length - (intOf kv).toNat)
  case atStart => exact ⟨0, by omega, rfl, Kept.refl _ _⟩
  case round =>
    obtain ⟨k, hk1, rfl, hK⟩ := hrel
    by_cases l1 : k < x.length
    · obtain ⟨b, o, c, e1, -, -, hb, -, hbc⟩ := HX.out.place (by omega)
      obtain ⟨b', o', c', e1', -, -, hb', -, hbc'⟩ := HY.out.place (by omega)
      injection e1 with e1 _ e2
      subst e1 e2
      injection e1' with e1' _ e2'
      subst e1' e2'
      have q1 : wr.cell? ⟨b, o + k, none⟩ = some (.string x[k]) := (hK.cell (p := ⟨b, o + k, none⟩) hb (fun e => e)).trans (hbc k _ (strV_at x k l1))
      have q2 : wr.cell? ⟨b', o' + k, none⟩ = some (.string x[k]) := (hK.cell (p := ⟨b', o' + k, none⟩) hb' (fun e => e)).trans (hbc' k _ (strV_at x k l1))
      have HK := Lib.hid hK
      clear hbc hbc' hK
      generalize x[k] = s at *
      go_wp2
      go_quiet (fail)
      go_wp2
      go_roundw
      case rel => exact ⟨k + 1, by omega, by go_num, by repeat (with_reducible first | exact HK.out | apply Kept.drew | apply Kept.drewN)⟩
      case measure => simp [intOf]; omega
    · obtain rfl : k = x.length := by omega
      go_wp2
      go_ret
      exact ⟨rfl, hK⟩

def TrueKeptJ (w : World) (e : Ending) (w' : World) : Prop := e = .returned (.bool true) ∧ Kept NoBlk w w'
theorem joinV_form (x : List ByteArray) : (6 < x.length ∧ joinV x = .tuple #[.string ⟨#[]⟩, .int .i64 4]) ∨ (x.all label = false ∧ joinV x = .tuple #[.string ⟨#[]⟩, .int .i64 3]) ∨ (x.length ≤ 6 ∧ x.all label = true ∧ joinV x = .tuple #[.string (nameOf x), .int .i64 0]) := by
  unfold joinV
  by_cases h6 : 6 < x.length
  · exact .inl ⟨h6, if_pos h6⟩
  · rw [if_neg h6]
    cases hx : x.all label with
    | false => exact .inr (.inl ⟨rfl, if_pos rfl⟩)
    | true => exact .inr (.inr ⟨by omega, rfl, if_neg (by decide)⟩)
set_option maxHeartbeats 4000000 in
theorem lawJoins_any (w : World) (v : Value) (l : List ByteArray) (hx : CellsS w v l) (hsz : ∀ s ∈ l, s.size ≤ maxLen) (hT : Tabs w) : Calls Tryd.prog 3 #[v] w (TrueKeptJ w) := by
  have HF := Lib.hid (few_any w v l hx hsz)
  have HT := Lib.hid hT
  have hl9 : (fewL l).length ≤ 9 := by unfold fewL; rw [List.length_map, List.length_take]; omega
  have h300 : ∀ s ∈ fewL l, s.size ≤ 300 := fun s hs => by
    unfold fewL at hs
    obtain ⟨t, -, rfl⟩ := List.mem_map.1 hs
    exact cut300_size t
  obtain ⟨A, cap, rfl, -⟩ := hx
  clear hsz hT
  generalize fewL l = x at *
  go_enter Tryd.func3, Tryd.ntmps3
  go_wp2_with fail
  refine HF.out.mono ?_
  rintro e w1 ⟨⟨u, rfl, ho⟩, hk1⟩
  have HRow := Lib.hid (Row.of_own ho)
  have HJ := Lib.hid (join_any w1 u x (Row.of_own ho) (by omega))
  have HK1 := Lib.hid hk1
  obtain ⟨A', cap', rfl⟩ := own_form ho
  clear ho hk1 HF
  rcases joinV_form x with ⟨-, hj⟩ | ⟨-, hj⟩ | ⟨h6, hall, hj⟩
  rotate_left 2
  · rw [hj] at HJ
    go_wp2_with fail
    refine HJ.out.mono ?_
    rintro e w2 ⟨rfl, hk2⟩
    have HR := Lib.hid (rjoin_any w2 _ x (HRow.out.kept hk2 (fun _ _ _ e => e)) (by omega) (fun s hs => by have := h300 s hs; omega) (HT.out.kept (HK1.out.trans hk2)))
    rw [hj] at HR
    have HK2 := Lib.hid (HK1.out.trans hk2)
    have HRow2 := Lib.hid (HRow.out.kept hk2 (fun _ _ _ e => e))
    have hsp := splitO_nameOf x hall h6
    have hn79 := splitO_size _ _ hsp
    have HSP := Lib.hid hsp
    have HSS := Lib.hid (fun w => split_any w (nameOf x) (by omega))
    clear hk2 HJ HRow hj hsp hn79
    generalize nameOf x = nm at *
    go_wp2_with fail
    refine HR.out.mono ?_
    rintro e w3 ⟨rfl, hk3⟩
    have HK3 := Lib.hid (HK2.out.trans hk3)
    have HRow3 := Lib.hid (HRow2.out.kept hk3 (fun _ _ _ e => e))
    clear hk3 HR HRow2
    go_wp2_with fail
    refine (HSS.out _).mono ?_
    rintro e w4 ⟨hk4, ⟨l4, v4, h4, rfl, o4⟩ | ⟨h4, -⟩⟩
    · have h5 := HSP.out
      rw [h4] at h5
      obtain rfl := Option.some.inj h5
      have HO4 := Lib.hid (Row.of_own o4)
      have HRow4 := Lib.hid (HRow3.out.kept hk4 (fun _ _ _ e => e))
      have HK4 := Lib.hid (HK3.out.trans hk4)
      obtain ⟨A4, cap4, rfl⟩ := own_form o4
      clear hk4 o4 h4 h5
      go_wp2_with fail
      refine (live_any _).mono ?_
      rintro e w5 ⟨rfl, hk5⟩
      have HM := Lib.hid (same_any w5 _ _ l4 (HO4.out.kept hk5 (fun _ _ _ e => e)) (HRow4.out.kept hk5 (fun _ _ _ e => e)) (by omega))
      have HK5 := Lib.hid (HK4.out.trans hk5)
      clear hk5
      go_wp2_with fail
      refine HM.out.mono ?_
      rintro e w6 ⟨rfl, hk6⟩
      go_wp2
      go_ret
      exact ⟨rfl, HK5.out.trans hk6⟩
    · rw [HSP.out] at h4
      cases h4
  all_goals
    rw [hj] at HJ
    go_wp2_with fail
    refine HJ.out.mono ?_
    rintro e w2 ⟨rfl, hk2⟩
    have HR := Lib.hid (rjoin_any w2 _ x (HRow.out.kept hk2 (fun _ _ _ e => e)) (by omega) (fun s hs => by have := h300 s hs; omega) (HT.out.kept (HK1.out.trans hk2)))
    rw [hj] at HR
    have HK2 := Lib.hid (HK1.out.trans hk2)
    clear hk2 HJ HRow hj
    go_wp2_with fail
    refine HR.out.mono ?_
    rintro e w3 ⟨rfl, hk3⟩
    have HK3 := Lib.hid (HK2.out.trans hk3)
    clear hk3 HR
    go_wp2_with fail
    refine (live_any _).mono ?_
    rintro e w4 ⟨rfl, hk4⟩
    go_wp2
    go_ret
    exact ⟨rfl, HK3.out.trans hk4⟩
end Go.Proofs.YtlaplonmbnncaaaDoor
