/- The pool: give, take. -/
import Derived.Test.YtfoeckaeongahaaDoorP2
namespace Go.Proofs.YtfoeckaeongahaaDoor
open Go.RowKit Go.Shelf
set_option maxRecDepth 100000

/-- What a deed answers, and the state that it leaves. -/
def Done (w : World) (pb fb : Nat) (v : Value) (S : PSt) (x : Ending) (w' : World) : Prop := x = .returned v ∧ PI w' pb fb S ∧ Kept (TwoBlk pb fb) w w'
def giveS (S : PSt) (k : Int) (e i : Nat) : PSt := { S with own := upd S.own i (S.own i ||| 2 ^ e), count := upd S.count e (S.count e + 1), ev := S.ev ++ [(k, (e : Int), (i : Int))] }
def giveC (S : PSt) (e : Nat) : Int := if S.quota e ≤ S.count e then 11 else 0
def giveT (S : PSt) (k : Int) (e i : Nat) : PSt := if S.quota e ≤ S.count e then S else giveS S k e i
set_option maxHeartbeats 2000000 in
theorem give_any (w : World) (pb fb : Nat) (S : PSt) (k : Int) (e i : Nat) (h : PI w pb fb S) (he : e < 6) (hi : i < 8) (hown : S.own i < 64) (hc0 : 0 ≤ S.count e) (hc1 : S.count e ≤ 1000) (hl : S.ev.length ≤ 1000000) :
    Calls Tryd.prog 36 #[.pointer (some ⟨pb, 0, none⟩), .int .u8 k, .pointer (some ⟨fb, i * 3, none⟩), .int .u8 (e : Int), .int .u8 (i : Int)] w (Done w pb fb (.int .i64 (giveC S e)) (giveT S k e i)) := by
  obtain ⟨V, hV⟩ : ∃ V, giveC S e = V := ⟨_, rfl⟩
  obtain ⟨T, hT⟩ : ∃ T, giveT S k e i = T := ⟨_, rfl⟩
  rw [hV, hT]
  have HV := Lib.hid (show V = if S.quota e ≤ S.count e then 11 else 0 from hV.symm)
  have HT := Lib.hid (show T = if S.quota e ≤ S.count e then S else giveS S k e i from hT.symm)
  clear hV hT
  obtain ⟨-, cq, cc, -⟩ := h.cells
  have c1 := cq e he
  have c2 := cc e he
  have c3 := (h.frame i hi).1
  have hx1 := fun w => idx_env w pb 1 e he
  have hx7 := fun w => idx_env w pb 7 e he
  have hne := h.ne
  have hne' : fb ≠ pb := fun e => hne e.symm
  obtain ⟨fz1, fz2⟩ := h.frozen
  have hor := or_own (S.own i) e hown he
  have H := Lib.hid h
  have lt1 := h.ltP
  have lt2 := h.ltF
  clear h cq cc
  by_cases hq : S.quota e ≤ S.count e
  · have HV2 : Hid (V = 11) := Lib.hid (by rw [HV.out, if_pos hq])
    have HT2 : Hid (T = S) := Lib.hid (by rw [HT.out, if_pos hq])
    go_enter Tryd.func36, Tryd.ntmps36
    go_wp2
    refine wp_region_plan (by kernel_rfl) (.q 0 <| .q 1 <| .q 2 <| .q 3 <| .q 4 <| .q 5 <| .q 6 <| .q 7 <| .q 8 <| .q 9 <| .q 10 <| .q 11 <| .q 12 <| .nil) (by kernel_rfl) (by kernel_rfl) ?_
    repeat (refine plan_q rfl (fun K hK => ?_); go_simp; refine hK _ ?_; clear hK K)
    refine plan_nil ?_
    go_wp2
    go_ret
    exact ⟨by rw [HV2.out]; rfl, by rw [HT2.out]; exact H.out.drew, (Kept.refl _ _).drew⟩
  · have HV2 : Hid (V = 0) := Lib.hid (by rw [HV.out, if_neg hq])
    have HT2 : Hid (T = giveS S k e i) := Lib.hid (by rw [HT.out, if_neg hq])
    have HN := Lib.hid (fun (W : World) (S' : PSt) (h : PI W pb fb S') (hl : S'.ev.length ≤ 1000000) => note_any W pb fb S' k e i h hl)
    have HP : Hid (PI (((w.setCell ⟨fb, i * 3, none⟩ (.int .u8 ((S.own i ||| 2 ^ e : Nat) : Int))).setCell ⟨pb, 7 + e, none⟩ (.int .i64 (S.count e + 1))).drew.drew) pb fb { S with own := upd S.own i (S.own i ||| 2 ^ e), count := upd S.count e (S.count e + 1) }) :=
      Lib.hid ((((H.out.setOwn i _).setCount e he _).drew).drew)
    have HK : Hid (Kept (TwoBlk pb fb) w (((w.setCell ⟨fb, i * 3, none⟩ (.int .u8 ((S.own i ||| 2 ^ e : Nat) : Int))).setCell ⟨pb, 7 + e, none⟩ (.int .i64 (S.count e + 1))).drew.drew)) :=
      Lib.hid (((((Kept.refl _ w).setCell twoF _).setCell twoP _).drew).drew)
    clear HV HT H
    generalize hS0 : S.own i = m0 at *
    generalize hS1 : S.quota e = qe at *
    generalize hS2 : S.count e = ce at *
    have HS := Lib.hid (And.intro hS0 (And.intro hS1 hS2))
    clear hS0 hS1 hS2
    go_enter Tryd.func36, Tryd.ntmps36
    go_wp2
    refine wp_region_plan (by kernel_rfl) (.q 0 <| .q 1 <| .q 2 <| .q 3 <| .q 4 <| .q 5 <| .q 6 <| .q 7 <| .q 8 <| .q 9 <| .q 10 <| .q 11 <| .q 12 <| .nil) (by kernel_rfl) (by kernel_rfl) ?_
    repeat (refine plan_q rfl (fun K hK => ?_); go_simp; refine hK _ ?_; clear hK K)
    refine plan_nil ?_
    go_wp2
    refine wp_region_plan (by kernel_rfl) (.q 0 <| .q 1 <| .q 2 <| .q 3 <| .q 4 <| .q 5 <| .q 6 <| .q 7 <| .q 8 <| .q 9 <| .e 10 [] <| .nil) (by kernel_rfl) (by kernel_rfl) ?_
    repeat (refine plan_q rfl (fun K hK => ?_); go_simp; refine hK _ ?_; clear hK K)
    refine plan_e rfl (fun K hK => ?_)
    go_simp
    refine hK _ _ stab_nil ?_
    clear hK K
    refine plan_nil ?_
    go_wp2_with fail
    refine (HN.out _ _ HP.out hl).mono ?_
    rintro x w2 ⟨rfl, hp2, hk2⟩
    have HP2 := Lib.hid hp2
    have HK2 := Lib.hid (HK.out.trans hk2.toTwo)
    clear hp2 hk2 HP HK HN
    go_wp2
    go_ret
    exact ⟨by rw [HV2.out]; rfl, by rw [HT2.out]; unfold giveS; rw [HS.out.1, HS.out.2.2]; exact HP2.out, HK2.out⟩

def takeS (S : PSt) (k : Int) (e i : Nat) : PSt := { S with own := upd S.own i (clr (S.own i) e), count := upd S.count e (S.count e - 1), ev := S.ev ++ [(k, (e : Int), (i : Int))] }
def takeT (S : PSt) (k : Int) (e i : Nat) : PSt := if clr (S.own i) e = 0 then { takeS S k e i with gn := upd S.gn i ⟨#[]⟩, gr := upd S.gr i 0 } else takeS S k e i
def takeB (S : PSt) (e i : Nat) : Bool := clr (S.own i) e == 0
set_option maxHeartbeats 4000000 in
theorem take_any (w : World) (pb fb : Nat) (S : PSt) (k : Int) (e i : Nat) (h : PI w pb fb S) (he : e < 6) (hi : i < 8) (hown : S.own i < 64) (hc0 : 0 ≤ S.count e) (hc1 : S.count e ≤ 1000) (hl : S.ev.length ≤ 1000000) :
    Calls Tryd.prog 37 #[.pointer (some ⟨pb, 0, none⟩), .int .u8 k, .pointer (some ⟨fb, i * 3, none⟩), .int .u8 (e : Int), .int .u8 (i : Int)] w (Done w pb fb (.bool (takeB S e i)) (takeT S k e i)) := by
  obtain ⟨V, hV⟩ : ∃ V, takeB S e i = V := ⟨_, rfl⟩
  obtain ⟨T, hT⟩ : ∃ T, takeT S k e i = T := ⟨_, rfl⟩
  rw [hV, hT]
  have HV := Lib.hid (show V = (clr (S.own i) e == 0) from hV.symm)
  have HT := Lib.hid (show T = if clr (S.own i) e = 0 then { takeS S k e i with gn := upd S.gn i ⟨#[]⟩, gr := upd S.gr i 0 } else takeS S k e i from hT.symm)
  clear hV hT
  obtain ⟨-, cq, cc, -⟩ := h.cells
  have c2 := cc e he
  have c3 := (h.frame i hi).1
  have hx7 := fun w => idx_env w pb 7 e he
  have hne := h.ne
  have hne' : fb ≠ pb := fun e => hne e.symm
  obtain ⟨fz1, fz2⟩ := h.frozen
  have hor := clr_own (S.own i) e hown he
  have H := Lib.hid h
  have lt1 := h.ltP
  have lt2 := h.ltF
  clear h cq cc
  have HN := Lib.hid (fun (W : World) (S' : PSt) (h : PI W pb fb S') (hl : S'.ev.length ≤ 1000000) => note_any W pb fb S' k e i h hl)
  have HP : Hid (PI (((w.setCell ⟨fb, i * 3, none⟩ (.int .u8 ((clr (S.own i) e : Nat) : Int))).setCell ⟨pb, 7 + e, none⟩ (.int .i64 (S.count e - 1))).drew) pb fb { S with own := upd S.own i (clr (S.own i) e), count := upd S.count e (S.count e - 1) }) :=
    Lib.hid (((H.out.setOwn i _).setCount e he _).drew)
  have HK : Hid (Kept (TwoBlk pb fb) w (((w.setCell ⟨fb, i * 3, none⟩ (.int .u8 ((clr (S.own i) e : Nat) : Int))).setCell ⟨pb, 7 + e, none⟩ (.int .i64 (S.count e - 1))).drew)) :=
    Lib.hid ((((Kept.refl _ w).setCell twoF _).setCell twoP _).drew)
  have HU : Hid (∀ W, PI W pb fb (takeS S k e i) → W.cell? ⟨fb, i * 3, none⟩ = some (.int .u8 ((clr (S.own i) e : Nat) : Int)) ∧ W.cell? ⟨fb, i * 3 + 1, none⟩ = some (.string (S.gn i)) ∧ W.cell? ⟨fb, i * 3 + 2, none⟩ = some (.int .u8 (S.gr i))) := Lib.hid fun W hW => by
    have := hW.frame i hi
    unfold takeS upd at this
    simpa using this
  clear H
  generalize hS0 : S.own i = m0 at *
  generalize hS2 : S.count e = ce at *
  have HS := Lib.hid (And.intro hS0 hS2)
  clear hS0 hS2
  generalize hm : clr m0 e = m at *
  have HM := Lib.hid hm
  clear hm
  by_cases hz : m = 0
  · subst hz
    have HV2 : Hid (V = true) := Lib.hid (by rw [HV.out]; rfl)
    have HT2 : Hid (T = { takeS S k e i with gn := upd S.gn i ⟨#[]⟩, gr := upd S.gr i 0 }) := Lib.hid (by rw [HT.out, if_pos rfl])
    clear HV HT
    go_enter Tryd.func37, Tryd.ntmps37
    go_wp2
    refine wp_region_plan (by kernel_rfl) (.q 0 <| .q 1 <| .q 2 <| .q 3 <| .q 4 <| .q 5 <| .q 6 <| .q 7 <| .q 8 <| .q 9 <| .e 10 [] <| .nil) (by kernel_rfl) (by kernel_rfl) ?_
    repeat (refine plan_q rfl (fun K hK => ?_); go_simp; refine hK _ ?_; clear hK K)
    refine plan_e rfl (fun K hK => ?_)
    go_simp
    refine hK _ _ stab_nil ?_
    clear hK K
    refine plan_nil ?_
    go_wp2_with fail
    refine (HN.out _ _ HP.out hl).mono ?_
    rintro x w2 ⟨rfl, hp2, hk2⟩
    have hp3 : PI w2 pb fb (takeS S k e i) := by unfold takeS; rw [HS.out.1, HS.out.2, HM.out]; exact hp2
    obtain ⟨d0, d1, d2⟩ := HU.out w2 hp3
    obtain ⟨g1, g2⟩ := hp3.frozen
    have HP2 := Lib.hid hp3
    have HK2 := Lib.hid (HK.out.trans hk2.toTwo)
    have HP3 := Lib.hid (HP2.out.setGuard i ⟨#[]⟩ 0)
    have HK3 := Lib.hid ((HK2.out.setCell (p := ⟨fb, i * 3 + 1, none⟩) twoF (.string ⟨#[]⟩)).setCell (p := ⟨fb, i * 3 + 2, none⟩) twoF (.int .u8 0))
    clear hp2 hp3 hk2 HP HK HN c2 c3 fz1 fz2
    go_wp2
    go_ret
    exact ⟨by rw [HV2.out]; rfl, by rw [HT2.out]; exact HP3.out, HK3.out⟩
  · have hz' : (((m : Nat) : Int) == 0) = false := beq_eq_false_iff_ne.2 (by omega)
    have HV2 : Hid (V = false) := Lib.hid (by rw [HV.out]; exact beq_eq_false_iff_ne.2 hz)
    have HT2 : Hid (T = takeS S k e i) := Lib.hid (by rw [HT.out, if_neg hz])
    clear HV HT
    have hz2 := Lib.hid hz
    clear hz
    go_enter Tryd.func37, Tryd.ntmps37
    go_wp2
    refine wp_region_plan (by kernel_rfl) (.q 0 <| .q 1 <| .q 2 <| .q 3 <| .q 4 <| .q 5 <| .q 6 <| .q 7 <| .q 8 <| .q 9 <| .e 10 [] <| .nil) (by kernel_rfl) (by kernel_rfl) ?_
    repeat (refine plan_q rfl (fun K hK => ?_); go_simp; refine hK _ ?_; clear hK K)
    refine plan_e rfl (fun K hK => ?_)
    go_simp
    refine hK _ _ stab_nil ?_
    clear hK K
    refine plan_nil ?_
    go_wp2_with fail
    refine (HN.out _ _ HP.out hl).mono ?_
    rintro x w2 ⟨rfl, hp2, hk2⟩
    have hp3 : PI w2 pb fb (takeS S k e i) := by unfold takeS; rw [HS.out.1, HS.out.2, HM.out]; exact hp2
    obtain ⟨d0, d1, d2⟩ := HU.out w2 hp3
    have HP2 := Lib.hid hp3
    have HK2 := Lib.hid (HK.out.trans hk2.toTwo)
    clear hp2 hp3 hk2 HP HK HN c2 c3 fz1 fz2
    go_wp2
    go_ret
    exact ⟨by rw [HV2.out]; rfl, by rw [HT2.out]; exact HP2.out, HK2.out⟩
end Go.Proofs.YtfoeckaeongahaaDoor
