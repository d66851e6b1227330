/- The program's names: Join, Child. -/
import Derived.Test.YtlaplonmbnncaaaDoorN6
namespace Go.Proofs.YtlaplonmbnncaaaDoor
open Go.RowKit Go.Shelf
set_option maxRecDepth 100000

theorem joinT (x : List UInt8) (r : List (List UInt8)) : x ++ Lib.joinTail [47] r = joinS (x :: r) := by
  induction r generalizing x with
  | nil => exact List.append_nil x
  | cons a t ih =>
    show x ++ ([47] ++ a ++ Lib.joinTail [47] t) = x ++ 47 :: joinS (a :: t)
    rw [← ih a]
    simp
theorem joinS_join (ls : List (List UInt8)) : Lib.join ls [47] = joinS ls := by
  cases ls with
  | nil => rfl
  | cons x r => rw [Lib.join_cons, joinT]

theorem join1_any (w : World) (s : ByteArray) : Calls Tryd.prog 45 #[.string s] w fun e w' => e = .returned (.bool (!label s)) ∧ Kept NoBlk w w' := by
  have H := Lib.hid (label_any w s)
  go_enter Tryd.func45, Tryd.ntmps45
  go_wp2_with fail
  refine H.out.mono ?_
  rintro e w1 ⟨rfl, hk⟩
  go_wp2
  go_ret
  exact ⟨rfl, hk⟩
set_option maxHeartbeats 2000000 in
theorem indexFunc_any (w : World) (v : Value) (x : List ByteArray) (hx : Row w 9 1 v x.length (strV x)) (hl : x.length ≤ 100) :
    Calls Tryd.prog 59 #[v, .func (.func 45) #[] #[]] w fun e w' => (∃ i : Int, e = .returned (.int .i64 i) ∧ (0 ≤ i ↔ x.all label = false) ∧ -1 ≤ i ∧ i ≤ 100) ∧ Kept NoBlk w w' := by
  obtain ⟨A, cap, rfl, h1, h2, hA, -, hc⟩ := hx.form
  have HX := Lib.hid hx
  clear hc hx
  go_enter Tryd.func59, Tryd.ntmps59
  go_wp2
  go_loopw [8] (fun kv wr => ∃ k : Nat, k ≤ x.length ∧ kv = .int .i64 k ∧ Hid ((x.take k).all label = true) ∧ Kept NoBlk w wr) (fun kv _ => x.length - (intOf kv).toNat)
  case atStart => exact ⟨0, by omega, rfl, Lib.hid rfl, Kept.refl _ _⟩
  case round =>
    obtain ⟨k, hk1, rfl, HR, hK⟩ := hrel
    by_cases l1 : k < x.length
    · obtain ⟨b, o, c, e1, -, -, hb, -, hbc⟩ := HX.out.place (by omega)
      injection e1 with e1 _ e2
      subst e1 e2
      have q1 : wr.cell? ⟨b, o + k, none⟩ = some (.string x[k]) := (hK.cell (p := ⟨b, o + k, none⟩) hb (fun e => e)).trans (hbc k _ (strV_at x k l1))
      have HJ := Lib.hid (join1_any wr x[k])
      have HT : Hid ((x.take (k + 1)).all label = label x[k]) := by
        refine Lib.hid ?_
        rw [List.take_succ_eq_append_getElem l1, List.all_append, HR.out, List.all_cons, List.all_nil]
        simp
      have HF : Hid (label x[k] = false → x.all label = false) := Lib.hid fun h => by
        cases hh : x.all label with
        | false => rfl
        | true => have := List.all_eq_true.1 hh _ (List.getElem_mem l1); rw [h] at this; cases this
      have HK := Lib.hid hK
      clear hbc hK
      generalize x[k] = s at *
      generalize label s = ls at *
      go_wp2_with fail
      refine HJ.out.mono ?_
      rintro e w1 ⟨rfl, hk⟩
      have HK1 := Lib.hid (HK.out.trans hk)
      clear hk
      cases ls with
      | true =>
        go_wp2
        go_roundw
        case rel => exact ⟨k + 1, by omega, by go_num, HT, HK1.out⟩
        case measure => simp [intOf]; omega
      | false =>
        go_wp2
        go_ret
        exact ⟨⟨k, rfl, ⟨fun _ => HF.out trivial, fun _ => by omega⟩, by omega, by omega⟩, HK1.out⟩
    · have hke : k = x.length := by omega
      have HT : Hid (x.all label = true) := Lib.hid (by have := HR.out; rwa [hke, List.take_length] at this)
      have HK := Lib.hid hK
      clear hK
      go_wp2
      go_ret
      exact ⟨⟨-1, rfl, ⟨fun h => by omega, fun h => by rw [HT.out] at h; cases h⟩, by omega, by omega⟩, HK.out⟩
theorem contains_any (w : World) (v : Value) (x : List ByteArray) (hx : Row w 9 1 v x.length (strV x)) (hl : x.length ≤ 100) :
    Calls Tryd.prog 44 #[v, .func (.func 45) #[] #[]] w fun e w' => e = .returned (.bool (!x.all label)) ∧ Kept NoBlk w w' := by
  have H := Lib.hid (indexFunc_any w v x hx hl)
  obtain ⟨A, cap, rfl, -⟩ := hx.form
  clear hx
  generalize x.all label = b at *
  go_enter Tryd.func44, Tryd.ntmps44
  go_wp2_with fail
  refine H.out.mono ?_
  rintro e w1 ⟨⟨i, rfl, h0, h1, h2⟩, hk⟩
  cases b with
  | true =>
    have hi : ¬ (0 ≤ i) := fun h => by have := h0.1 h; cases this
    have hi' : i < 0 := by omega
    clear h0 hi
    go_wp2
    go_ret
    exact ⟨by simp; omega, hk⟩
  | false =>
    have hi := h0.2 rfl
    clear h0
    go_wp2
    go_ret
    exact ⟨rfl, hk⟩

/-- What Join hands back. -/
def joinV (l : List ByteArray) : Value := if 6 < l.length then .tuple #[.string ⟨#[]⟩, .int .i64 4] else if l.all label = false then .tuple #[.string ⟨#[]⟩, .int .i64 3] else .tuple #[.string (nameOf l), .int .i64 0]
theorem sjoin_any (w : World) (v : Value) (x : List ByteArray) (hx : Row w 9 1 v x.length (strV x)) (hl : x.length ≤ 6) (ha : x.all label = true) :
    Calls Tryd.prog 46 #[v, .string ⟨#[47]⟩] w fun e w' => e = .returned (.string (mk (joinS (x.map fun s => s.data.toList)))) ∧ Kept NoBlk w w' := by
  have hj := joinS_size x ha
  have h47 : (⟨#[47]⟩ : ByteArray).data.toList = [47] := rfl
  by_cases h0 : x.length = 0
  · obtain ⟨A, cap, rfl, -⟩ := hx.form
    obtain rfl : x = [] := List.eq_nil_of_length_eq_zero h0
    exact (Tryd.strings_Join_none A cap ⟨#[47]⟩ w).mono fun e w' h => ⟨h.1, by rw [h.2]; exact Kept.refl _ _⟩
  · obtain ⟨b, o, cap, rfl, h1, -, hb, -, hc⟩ := hx.place (by omega)
    refine (Tryd.strings_Join b o cap x ⟨#[47]⟩ w (fun j y hy => hc j _ (by unfold strV; rw [List.getElem?_map, hy]; rfl)) hb (by omega) h1 (by rw [h47, joinS_join]; omega)).mono fun e w' h => ⟨?_, Kept.of_below h.2⟩
    rw [h.1, h47, joinS_join]
    rfl
set_option maxHeartbeats 1000000 in
theorem join_any (w : World) (v : Value) (x : List ByteArray) (hx : Row w 9 1 v x.length (strV x)) (hl : x.length ≤ 100) : Calls Tryd.prog 9 #[v] w fun e w' => e = .returned (joinV x) ∧ Kept NoBlk w w' := by
  have HX := Lib.hid hx
  obtain ⟨A, cap, rfl, -⟩ := hx.form
  clear hx
  obtain ⟨V, hV⟩ : ∃ V, joinV x = V := ⟨_, rfl⟩
  rw [hV]
  have HV := Lib.hid hV.symm
  clear hV
  by_cases h6 : 6 < x.length
  · go_enter Tryd.func9, Tryd.ntmps9
    go_wp2
    go_ret2
    exact ⟨by rw [HV.out]; unfold joinV; rw [if_pos h6]; rfl, Kept.refl _ _⟩
  have HC := Lib.hid (contains_any w _ x HX.out hl)
  by_cases ha : x.all label = true
  · rw [ha] at HC
    have HJ := Lib.hid (fun w1 (hk : Kept NoBlk w w1) => sjoin_any w1 _ x (HX.out.kept hk (fun _ _ _ e => e)) (by omega) ha)
    have hj := joinS_size x ha
    have hsz := mk_size (joinS (x.map fun s => s.data.toList))
    have hsz' : (mk (joinS (x.map fun s => s.data.toList))).size ≤ 999 := by omega
    have hadd := slash_add (joinS (x.map fun s => s.data.toList))
    have hnm : mk (47 :: joinS (x.map fun s => s.data.toList)) = nameOf x := rfl
    rw [hnm] at hadd
    have HA := Lib.hid ha
    clear hj hsz ha hnm
    generalize mk (joinS (x.map fun s => s.data.toList)) = t at *
    go_enter Tryd.func9, Tryd.ntmps9
    go_wp2_with fail
    refine HC.out.mono ?_
    rintro e w1 ⟨rfl, hk⟩
    have HK := Lib.hid hk
    clear hk
    go_wp2_with fail
    refine (HJ.out _ HK.out).mono ?_
    rintro e w2 ⟨rfl, hk⟩
    have HK2 := Lib.hid (HK.out.trans hk)
    clear hk
    go_wp2
    go_ret2
    exact ⟨by rw [HV.out]; unfold joinV; rw [if_neg h6, if_neg (by rw [HA.out]; decide)]; rfl, HK2.out⟩
  · have ha' : x.all label = false := by simpa using ha
    rw [ha'] at HC
    have HA := Lib.hid ha'
    clear ha ha'
    go_enter Tryd.func9, Tryd.ntmps9
    go_wp2_with fail
    refine HC.out.mono ?_
    rintro e w1 ⟨rfl, hk⟩
    go_wp2
    go_ret2
    exact ⟨by rw [HV.out]; unfold joinV; rw [if_neg h6, if_pos HA.out]; rfl, hk⟩

/-- What Child hands back. -/
def childV (n s : ByteArray) : Value := match splitO n with
  | some l => if label s = true then joinV (l ++ [s]) else .tuple #[.string ⟨#[]⟩, .int .i64 3]
  | none => .tuple #[.string ⟨#[]⟩, .int .i64 3]
theorem Tryd.szS : (Tryd.prog.info? 9).map (fun i => (i.zero.map (·.cells.size), i.size, i.bytes)) = some (some 1, 1, 16) := by kernel_rfl
set_option maxHeartbeats 2000000 in
theorem child_any (w : World) (n s : ByteArray) (hn : n.size ≤ 1000) : Calls Tryd.prog 30 #[.string n, .string s] w fun e w' => e = .returned (childV n s) ∧ Kept NoBlk w w' := by
  have HS := Lib.hid (fun w => split_any w n hn)
  have HL := Lib.hid (fun w => label_any w s)
  obtain ⟨V, hV⟩ : ∃ V, childV n s = V := ⟨_, rfl⟩
  rw [hV]
  have HV := Lib.hid hV.symm
  clear hV
  go_enter Tryd.func30, Tryd.ntmps30
  go_wp2_with fail
  refine (HS.out _).mono ?_
  rintro e w1 ⟨hk1, ⟨l, v, hsp, rfl, ho⟩ | ⟨hsp, rfl⟩⟩
  · have hl6 := (splitO_labels n l hsp).2
    have HSP := Lib.hid hsp
    have HO := Lib.hid ho
    have HK1 := Lib.hid hk1
    obtain ⟨A, cap, rfl⟩ := own_form ho
    clear hsp ho hk1
    go_wp2_with fail
    refine (HL.out _).mono ?_
    rintro e w2 ⟨rfl, hk2⟩
    have HK2 := Lib.hid (HK1.out.trans hk2)
    have HO2 := Lib.hid (own_kept HO.out hk2 (fun _ _ e => e))
    have hlt2 := (HK1.out.trans hk2).size
    clear hk2
    by_cases hb : label s = true
    · rw [hb]
      have HB := Lib.hid hb
      clear hb
      go_wp2_with (refine wpList_append_mine rfl (.tmp 20) (.tmp 22) 22 rfl 9 1 16 Tryd.underlying22 Tryd.szS (by decide) w.heap.size (.slice A l.length cap) l.length (strV l) rfl (own_kept (G := NoBlk) HO2.out ((Kept.refl _ _).alloc _) (fun _ _ e => e)) (some ⟨w2.heap.size, 0, none⟩) 1 1 [.string s] rfl (Row.new (Blk.new _ _ _) rfl (by simp [maxLen])) rfl (by simp only [maxLen]; omega) (by omega) (by simp; omega) ?_; intro A' cap' w3 hown3 hK3)
      have HK3 := Lib.hid (Kept.fresh (HK2.out.alloc _) hK3 (fun b e => e))
      have hlen : (l ++ [s]).length = l.length + 1 := by rw [List.length_append, List.length_singleton]
      have hrow : Row w3 9 1 (.slice A' (l.length + 1) cap') (l ++ [s]).length (strV (l ++ [s])) := by
        rw [hlen]
        unfold strV
        rw [List.map_append]
        exact Row.of_own hown3
      have HJ := Lib.hid (join_any w3 _ _ hrow (by omega))
      have hall : (l ++ [s]).all label = true := by rw [List.all_append, (splitO_labels n l HSP.out).1, List.all_cons, HB.out]; rfl
      have hjv : joinV (l ++ [s]) = if 6 < l.length + 1 then .tuple #[.string ⟨#[]⟩, .int .i64 4] else .tuple #[.string (nameOf (l ++ [s])), .int .i64 0] := by
        unfold joinV
        rw [hlen, hall]
        rfl
      have HV2 : Hid (V = joinV (l ++ [s])) := Lib.hid (by rw [HV.out]; unfold childV; rw [HSP.out]; simp only; rw [if_pos HB.out])
      clear hown3 hK3 hlen hrow hall
      by_cases h6 : 6 < l.length + 1
      · rw [if_pos h6] at hjv
        rw [hjv] at HJ HV2
        clear hjv
        refine HJ.out.mono ?_
        rintro e w4 ⟨rfl, hk4⟩
        go_wp2
        go_ret2
        exact ⟨by rw [HV2.out]; rfl, HK3.out.trans hk4⟩
      · rw [if_neg h6] at hjv
        rw [hjv] at HJ HV2
        clear hjv
        refine HJ.out.mono ?_
        rintro e w4 ⟨rfl, hk4⟩
        go_wp2
        go_ret2
        exact ⟨by rw [HV2.out]; rfl, HK3.out.trans hk4⟩
    · have hb' : label s = false := by simpa using hb
      rw [hb']
      have HB := Lib.hid hb'
      clear hb hb'
      go_wp2
      go_ret2
      exact ⟨by rw [HV.out]; unfold childV; rw [HSP.out]; simp only; rw [if_neg (by rw [HB.out]; decide)]; rfl, HK2.out⟩
  · have HSP := Lib.hid hsp
    clear hsp
    unfold nilS
    go_wp2
    go_ret2
    exact ⟨by rw [HV.out]; unfold childV; rw [HSP.out]; rfl, hk1⟩
end Go.Proofs.YtlaplonmbnncaaaDoor
