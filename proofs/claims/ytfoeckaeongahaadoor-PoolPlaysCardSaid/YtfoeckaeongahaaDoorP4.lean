/- The pool: its deeds. -/
import Derived.Test.YtfoeckaeongahaaDoorP3
namespace Go.Proofs.YtfoeckaeongahaaDoor
open Go.RowKit Go.Shelf
set_option maxRecDepth 100000

/-- What the walks need of a state. -/
structure Fit (S : PSt) : Prop where
  own : ∀ i, S.own i < 64
  count : ∀ e, 0 ≤ S.count e ∧ S.count e ≤ 1000
  ev : S.ev.length ≤ 1000000
def quotaC (e : Nat) (n : Int) : Int := if e < 6 ∧ 0 ≤ n ∧ n ≤ 64 then 0 else 2
def quotaT (S : PSt) (e : Nat) (n : Int) : PSt := if e < 6 ∧ 0 ≤ n ∧ n ≤ 64 then { S with quota := upd S.quota e n } else S
def grantC (S : PSt) (e i : Nat) (n : ByteArray) (r : Int) : Int := if e < 6 ∧ i < 8 then (if rightB n r = true then (if S.own i = 0 then giveC S e else 6) else 3) else 2
def grantT (S : PSt) (e i : Nat) (n : ByteArray) (r : Int) : PSt := if e < 6 ∧ i < 8 then (if rightB n r = true then (if S.own i = 0 then (if S.quota e ≤ S.count e then S else { giveS S 1 e i with gn := upd S.gn i n, gr := upd S.gr i r }) else S) else S) else S
def shareC (S : PSt) (f t i : Nat) : Int := if f < 6 ∧ i < 8 then (if t < 6 then (if (S.own i).testBit f = true then (if (S.own i).testBit t = true then 6 else giveC S t) else 7) else 2) else 2
def shareT (S : PSt) (f t i : Nat) : PSt := if f < 6 ∧ i < 8 then (if t < 6 then (if (S.own i).testBit f = true then (if (S.own i).testBit t = true then S else giveT S 2 t i) else S) else S) else S
def freeB (S : PSt) (e i : Nat) : Bool := if e < 6 ∧ i < 8 then (if (S.own i).testBit e = true then takeB S e i else false) else false
def freeC (S : PSt) (e i : Nat) : Int := if e < 6 ∧ i < 8 then (if (S.own i).testBit e = true then 0 else 7) else 2
def freeT (S : PSt) (e i : Nat) : PSt := if e < 6 ∧ i < 8 then (if (S.own i).testBit e = true then takeT S 3 e i else S) else S
def repB (S : PSt) (e i : Nat) : Bool := if e < 6 ∧ i < 8 then (if (S.own i).testBit e = true then (if S.count e ≤ 2 then false else takeB S e i) else false) else false
def repC (S : PSt) (e i : Nat) : Int := if e < 6 ∧ i < 8 then (if (S.own i).testBit e = true then (if S.count e ≤ 2 then 9 else 0) else 7) else 2
def repT (S : PSt) (e i : Nat) : PSt := if e < 6 ∧ i < 8 then (if (S.own i).testBit e = true then (if S.count e ≤ 2 then S else takeT S 4 e i) else S) else S
def holdsB (S : PSt) (e i : Nat) : Bool := if e < 6 ∧ i < 8 then (S.own i).testBit e else false
def guardV (S : PSt) (i : Nat) : Value := if i < 8 ∧ S.own i ≠ 0 then .tuple #[capV (S.gn i) (S.gr i), .bool true] else .tuple #[capV ⟨#[]⟩ 0, .bool false]
theorem quota_any (w : World) (pb fb : Nat) (S : PSt) (e : Nat) (n : Int) (h : PI w pb fb S) : Calls Tryd.prog 14 #[.pointer (some ⟨pb, 0, none⟩), .int .u8 (e : Int), .int .i64 n] w (Done w pb fb (.int .i64 (quotaC e n)) (quotaT S e n)) := by
  have HM := Lib.hid (fun w => may_any w pb e)
  have lt1 := h.ltP
  have fz1 := h.frozen.1
  have H := Lib.hid h
  clear h
  unfold quotaC quotaT
  by_cases he : e < 6
  · rw [if_pos he] at HM
    have hx1 := fun w => idx_env w pb 1 e he
    by_cases h0 : 0 ≤ n
    · have h0' : ¬ n < 0 := by omega
      by_cases h1 : n ≤ 64
      · rw [if_pos ⟨he, h0, h1⟩, if_pos ⟨he, h0, h1⟩]
        have h1' : ¬ (64 : Int) < n := by omega
        have HP := Lib.hid (H.out.setQuota e he n)
        have HK : Hid (Kept (TwoBlk pb fb) w (w.setCell ⟨pb, 1 + e, none⟩ (.int .i64 n))) := Lib.hid ((Kept.refl _ w).setCell twoP _)
        have c1 := H.out.cells.2.1 e he
        go_enter Tryd.func14, Tryd.ntmps14
        go_wp2_with fail
        refine (HM.out _).mono ?_
        rintro x w1 ⟨rfl, rfl⟩
        go_wp2
        go_ret
        exact ⟨rfl, HP.out, HK.out⟩
      · rw [if_neg (fun k => h1 k.2.2), if_neg (fun k => h1 k.2.2)]
        have h1' : (64 : Int) < n := by omega
        go_enter Tryd.func14, Tryd.ntmps14
        go_wp2_with fail
        refine (HM.out _).mono ?_
        rintro x w1 ⟨rfl, rfl⟩
        go_wp2
        go_ret
        exact ⟨rfl, H.out, Kept.refl _ _⟩
    · rw [if_neg (fun k => h0 k.2.1), if_neg (fun k => h0 k.2.1)]
      have h0' : n < 0 := by omega
      go_enter Tryd.func14, Tryd.ntmps14
      go_wp2_with fail
      refine (HM.out _).mono ?_
      rintro x w1 ⟨rfl, rfl⟩
      go_wp2
      go_ret
      exact ⟨rfl, H.out, Kept.refl _ _⟩
  · rw [if_neg he] at HM
    rw [if_neg (fun k => he k.1), if_neg (fun k => he k.1)]
    go_enter Tryd.func14, Tryd.ntmps14
    go_wp2_with fail
    refine (HM.out _).mono ?_
    rintro x w1 ⟨rfl, rfl⟩
    go_wp2
    go_ret
    exact ⟨rfl, H.out, Kept.refl _ _⟩
set_option maxHeartbeats 4000000 in
theorem grant_any (w : World) (pb fb : Nat) (S : PSt) (e i : Nat) (n : ByteArray) (r : Int) (h : PI w pb fb S) (hS : Fit S) (hi256 : i < 256) (hn : n.size ≤ 9223372036854775807) : Calls Tryd.prog 15 #[.pointer (some ⟨pb, 0, none⟩), .int .u8 (e : Int), .int .u8 (i : Int), capV n r] w (Done w pb fb (.int .i64 (grantC S e i n r)) (grantT S e i n r)) := by
  obtain ⟨V, hV⟩ : ∃ V : Int, grantC S e i n r = V := ⟨_, rfl⟩
  obtain ⟨T, hT⟩ : ∃ T : PSt, grantT S e i n r = T := ⟨_, rfl⟩
  rw [hV, hT]
  have HA := Lib.hid (fun w (h : PI w pb fb S) => at_any w pb fb e i S h hi256)
  have H := Lib.hid h
  have FS := Lib.hid hS
  unfold atV at HA
  clear h hS
  have HR := Lib.hid (fun w => right_any w n r hn)
  have HB0 : Hid (Blk (w.alloc (.cells (capC n r) 42)) w.heap.size 42 (capC n r)) := Lib.hid (Blk.new _ _ _)
  have HP0 := Lib.hid (H.out.keptNo ((Kept.refl NoBlk w).alloc (.cells (capC n r) 42)))
  have HK0 : Hid (Kept NoBlk w (w.alloc (.cells (capC n r) 42))) := Lib.hid ((Kept.refl _ _).alloc _)
  unfold capC at HB0 HP0 HK0
  unfold capV at HR ⊢
  by_cases hat : e < 6 ∧ i < 8
  · rw [if_pos hat] at HA
    obtain ⟨he, hi⟩ := hat
    have hown := FS.out.own i
    cases hr : rightB n r with
    | false =>
      rw [hr] at HR
      have HV : Hid (V = 3) := Lib.hid (by rw [← hV]; unfold grantC; rw [if_pos ⟨he, hi⟩]; rw [hr, if_neg (by decide)])
      have HT : Hid (T = S) := Lib.hid (by rw [← hT]; unfold grantT; rw [if_pos ⟨he, hi⟩]; rw [hr, if_neg (by decide)])
      clear hV hT
      go_enter Tryd.func15, Tryd.ntmps15
      go_wp2_with fail
      refine (HA.out _ HP0.out).mono ?_
      rintro x w1 ⟨rfl, rfl⟩
      go_wp2_with fail
      refine (HR.out _).mono ?_
      rintro x w1 ⟨rfl, hk⟩
      have HP1 := Lib.hid (HP0.out.keptNo hk)
      have HK1 : Hid (Kept (TwoBlk pb fb) w w1) := Lib.hid (HK0.out.trans hk).noTwo
      clear hk
      go_wp2
      go_ret
      exact ⟨by rw [HV.out]; rfl, by rw [HT.out]; exact HP1.out, HK1.out⟩
    | true =>
      rw [hr] at HR
      by_cases h0 : S.own i = 0
      · have HG := Lib.hid (fun w h => give_any w pb fb S 1 e i h he hi hown (FS.out.count e).1 (FS.out.count e).2 FS.out.ev)
        by_cases hq : S.quota e ≤ S.count e
        · have hgc : giveC S e = 11 := if_pos hq
          have hgt : giveT S 1 e i = S := if_pos hq
          rw [hgc, hgt] at HG
          have HV : Hid (V = 11) := Lib.hid (by rw [← hV]; unfold grantC; rw [if_pos ⟨he, hi⟩, if_pos hr, if_pos h0]; exact hgc)
          have HT : Hid (T = S) := Lib.hid (by rw [← hT]; unfold grantT; rw [if_pos ⟨he, hi⟩, if_pos hr, if_pos h0]; first | rw [if_pos hq] | rw [if_neg hq])
          clear hV hT
          go_enter Tryd.func15, Tryd.ntmps15
          go_wp2_with fail
          refine (HA.out _ HP0.out).mono ?_
          rintro x w1 ⟨rfl, rfl⟩
          go_wp2_with fail
          refine (HR.out _).mono ?_
          rintro x w1 ⟨rfl, hk⟩
          have HP1 := Lib.hid (HP0.out.keptNo hk)
          have HK1 := Lib.hid (HK0.out.trans hk)
          have c3 := (HP1.out.frame i hi).1
          rw [h0] at c3
          clear hk
          go_wp2_with fail
          refine (HG.out _ HP1.out).mono ?_
          rintro x w2 ⟨rfl, hp2, hk2⟩
          have HP2 := Lib.hid hp2
          have HK2 := Lib.hid (HK1.out.noTwo.trans hk2)
          clear hp2 hk2 c3
          go_wp2
          go_ret
          exact ⟨by rw [HV.out]; rfl, by rw [HT.out]; exact HP2.out, HK2.out⟩
        · have hgc : giveC S e = 0 := if_neg hq
          have hgt : giveT S 1 e i = giveS S 1 e i := if_neg hq
          rw [hgc, hgt] at HG
          have HV : Hid (V = 0) := Lib.hid (by rw [← hV]; unfold grantC; rw [if_pos ⟨he, hi⟩, if_pos hr, if_pos h0]; exact hgc)
          have HT : Hid (T = { giveS S 1 e i with gn := upd S.gn i n, gr := upd S.gr i r }) := Lib.hid (by rw [← hT]; unfold grantT; rw [if_pos ⟨he, hi⟩, if_pos hr, if_pos h0]; first | rw [if_pos hq] | rw [if_neg hq])
          clear hV hT
          go_enter Tryd.func15, Tryd.ntmps15
          go_wp2_with fail
          refine (HA.out _ HP0.out).mono ?_
          rintro x w1 ⟨rfl, rfl⟩
          go_wp2_with fail
          refine (HR.out _).mono ?_
          rintro x w1 ⟨rfl, hk⟩
          have HP1 := Lib.hid (HP0.out.keptNo hk)
          have HK1 := Lib.hid (HK0.out.trans hk)
          have HB1 := Lib.hid (HB0.out.kept hk (fun e => e))
          have c3 := (HP1.out.frame i hi).1
          rw [h0] at c3
          clear hk
          go_wp2_with fail
          refine (HG.out _ HP1.out).mono ?_
          rintro x w2 ⟨rfl, hp2, hk2⟩
          have hnb : ¬ TwoBlk pb fb w.heap.size := fun k => by
            have l1 := H.out.ltP
            have l2 := H.out.ltF
            rcases k with k | k <;> omega
          obtain ⟨d0, d1⟩ := cap_cells (HB1.out.kept hk2 hnb)
          have fz2 := hp2.frozen.2
          obtain ⟨-, x1, x2⟩ := hp2.frame i hi
          have HP2 := Lib.hid (hp2.setGuard i n r)
          have HK2 := Lib.hid (((HK1.out.noTwo.trans hk2).setCell (p := ⟨fb, i * 3 + 1, none⟩) twoF (.string n)).setCell (p := ⟨fb, i * 3 + 2, none⟩) twoF (.int .u8 r))
          clear hp2 hk2 c3 hnb
          go_wp2
          go_ret
          exact ⟨by rw [HV.out]; rfl, by rw [HT.out]; exact HP2.out, HK2.out⟩
      · have hne : (((S.own i : Nat) : Int) != 0) = true := bne_iff_ne.2 (by omega)
        have HV : Hid (V = 6) := Lib.hid (by rw [← hV]; unfold grantC; rw [if_pos ⟨he, hi⟩]; rw [if_pos hr]; rw [if_neg h0])
        have HT : Hid (T = S) := Lib.hid (by rw [← hT]; unfold grantT; rw [if_pos ⟨he, hi⟩]; rw [if_pos hr]; rw [if_neg h0])
        clear hV hT
        clear h0
        go_enter Tryd.func15, Tryd.ntmps15
        go_wp2_with fail
        refine (HA.out _ HP0.out).mono ?_
        rintro x w1 ⟨rfl, rfl⟩
        go_wp2_with fail
        refine (HR.out _).mono ?_
        rintro x w1 ⟨rfl, hk⟩
        have HP1 := Lib.hid (HP0.out.keptNo hk)
        have HK1 := Lib.hid (HK0.out.trans hk)
        have c3 := (HP1.out.frame i hi).1
        clear hk
        go_wp2
        go_ret
        exact ⟨by rw [HV.out]; rfl, by rw [HT.out]; exact HP1.out, HK1.out.noTwo⟩
  · rw [if_neg hat] at HA
    have HV : Hid (V = 2) := Lib.hid (by rw [← hV]; unfold grantC; rw [if_neg hat])
    have HT : Hid (T = S) := Lib.hid (by rw [← hT]; unfold grantT; rw [if_neg hat])
    clear hV hT
    go_enter Tryd.func15, Tryd.ntmps15
    go_wp2_with fail
    refine (HA.out _ HP0.out).mono ?_
    rintro x w1 ⟨rfl, rfl⟩
    go_wp2
    go_ret
    exact ⟨by rw [HV.out]; rfl, by rw [HT.out]; exact HP0.out, HK0.out.noTwo⟩
end Go.Proofs.YtfoeckaeongahaaDoor
