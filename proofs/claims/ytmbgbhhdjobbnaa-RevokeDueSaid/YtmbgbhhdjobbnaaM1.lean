/- The laws of revoke, walked: Plays, Order, None, Forks. -/
import Derived.Test.YtmbgbhhdjobbnaaL3
namespace Go.Proofs.Ytmbgbhhdjobbnaa
open Go.RowKit Go.Maps

theorem trueKept_mk {w w' : World} {e : Ending} (he : e = .returned (.bool true)) (hk : Kept NoBlk w w') : TrueKept w e w' := ⟨he, hk⟩

set_option maxHeartbeats 1000000 in
theorem plays_any (w : World) (A : Option Addr) (n cap : Nat) (hD : IsDeeds w A n) :
   Calls Try.prog 6 #[.slice A n cap] w (TrueKept w) := by
  have HP := Lib.hid (play_any w A n cap hD)
  clear hD
  go_enter Try.func6, Try.ntmps6
  go_wp2_with fail
  refine (HP.out).mono ?_
  rintro e w1 ⟨g, m, h, rfl, hg, hm, hh, S, hI, hB, hR, hK⟩
  go_wp2_with fail
  refine (live_any w1).mono ?_
  rintro e w2 ⟨rfl, hK2⟩
  have hk2 := hK.trans hK2
  go_wp2_with fail
  refine (same_any w2 g m h 50 S hI (by omega) (hB.kept hK2) (hR.kept hK2)).mono ?_
  rintro e w3 ⟨rfl, hK3⟩
  go_wp2
  go_ret
  exact trueKept_mk rfl (hk2.trans hK3)

def popN (S : St) (i j : Nat) : St := { S with lost := fun k => if k = i then (S.lost k).drop j else S.lost k }
theorem popN_zero (S : St) (i : Nat) : popN S i 0 = S := by simp [popN]
theorem popN_succ (S : St) (i j : Nat) : popB (popN S i j) i = popN S i (j + 1) := by
  simp only [popB, popN]
  congr 1
  funext k
  by_cases h : k = i
  · simp [h]
  · simp [h]
theorem popN_at (S : St) (i j : Nat) : (popN S i j).lost i = (S.lost i).drop j := by simp [popN]

set_option maxHeartbeats 4000000 in
theorem order_out (w : World) (A : Option Addr) (n cap : Nat) (hD : IsDeeds w A n) (e : Int) (he : 6 ≤ e) :
   Calls Try.prog 3 #[.slice A n cap, .int .u8 e] w (TrueKept w) := by
  have HP := Lib.hid (play_any w A n cap hD)
  clear hD
  go_enter Try.func3, Try.ntmps3
  go_wp2_with fail
  refine (HP.out).mono ?_
  rintro e' w1 ⟨g, m, h, rfl, hg, hm, hh, S, hI, hB, hR, hK⟩
  go_wp2_with fail
  refine (live_any w1).mono ?_
  rintro e' w2 ⟨rfl, hK2⟩
  have hk2 := hK.trans hK2
  clear hI hB hR
  go_wp2_with fail
  refine (lost_range w2 _ e rfl he).mono ?_
  rintro e' w3 ⟨rfl, rfl⟩
  go_wp2_with fail
  refine wp_loop_rounds 1 ?_
  rw [rounds_succ]
  go_wp2_with fail
  refine (next_range w2 _ e rfl he).mono ?_
  rintro e' w3 ⟨rfl, rfl⟩
  go_wp2_with fail
  refine (lost_range w2 _ e rfl he).mono ?_
  rintro e' w3 ⟨rfl, rfl⟩
  go_wp2
  go_ret
  exact trueKept_mk rfl hk2

set_option maxHeartbeats 4000000 in
theorem order_in (w : World) (A : Option Addr) (n cap : Nat) (hD : IsDeeds w A n) (i : Nat) (hi : i < 6) :
   Calls Try.prog 3 #[.slice A n cap, .int .u8 i] w (TrueKept w) := by
  have HP := Lib.hid (play_any w A n cap hD)
  clear hD
  go_enter Try.func3, Try.ntmps3
  go_wp2_with fail
  refine (HP.out).mono ?_
  rintro e' w1 ⟨g, m, h, rfl, hg, hm, hh, S, hI, hB, hR, hK⟩
  go_wp2_with fail
  refine (live_any w1).mono ?_
  rintro e' w2 ⟨rfl, hK2⟩
  have hk2 := hK.trans hK2
  have hB2 := hB.kept hK2
  have hmany := hI.many i hi
  go_wp2_with fail
  refine (lost_B w2 g m S 50 hI (by omega) hB2 i).mono ?_
  rw [if_pos hi]
  rintro e' w3 ⟨A3, c3, rfl, hr, hK3⟩
  have HR := Lib.hid hr
  have HB := Lib.hid (hB2.kept hK3)
  have HK := Lib.hid (hk2.trans hK3)
  have HI := Lib.hid hI
  clear hI hB hR hK hK2 hk2 hB2 hr hK3
  obtain ⟨l, hl⟩ : ∃ l, l = S.lost i := ⟨_, rfl⟩
  rw [← hl] at HR hmany ⊢
  have HL := Lib.hid hl
  have hll : l.length ≤ 50 := by omega
  clear hl hmany
  go_wp2_with fail
  go_loopw [9, 10, 11] (fun iv _ _ wr => ∃ (j : Nat), j ≤ l.length ∧ iv = .int .i64 j ∧ Row wr 5 1 (.slice A3 l.length c3) l.length (u8s l) ∧ PB wr g m (popN S i j) ∧ Kept NoBlk w wr) (fun iv _ _ _ => l.length - (intOf iv).toNat)
  case atStart => exact ⟨0, by omega, rfl, HR.out, by rw [popN_zero]; exact HB.out, HK.out⟩
  case round =>
    obtain ⟨j, hj, rfl, hr, hB, hK⟩ := hrel
    clear HR HB HK
    have HR := Lib.hid hr
    have HB := Lib.hid hB
    have HK := Lib.hid hK
    clear hr hB hK
    by_cases hlt : j < l.length
    · obtain ⟨x, hx⟩ : ∃ x, l[j]? = some x := ⟨_, List.getElem?_eq_getElem hlt⟩
      have hdrop : (popN S i j).lost i = x :: l.drop (j + 1) := by
        rw [popN_at, ← HL.out, List.drop_eq_getElem_cons hlt]
        rw [List.getElem?_eq_getElem hlt] at hx
        injection hx with hx
        rw [hx]
      have hN : ∀ (wr' : World), Kept NoBlk wr wr' → Calls Try.prog 13 #[.pointer (some ⟨g, 0, none⟩), .int .u8 i] wr' fun y w' => y = .returned (.tuple #[.int .u8 x, .bool true]) ∧ PB w' g m (popN S i (j + 1)) ∧ Kept (OneBlk g) wr' w' := fun wr' hk => by
        obtain ⟨v, r, hB⟩ := HB.out.kept hk
        exact (next_some wr' g m _ v r hB i hi x _ hdrop (by rw [List.length_drop]; omega)).mono (fun e w' ⟨h1, r', h2, h3⟩ => ⟨h1, ⟨v, r', popN_succ S i j ▸ h2⟩, h3⟩)
      have HN := Lib.hid hN
      obtain ⟨b, off, cap', hv', h1, h2, hb, hcs, hcc⟩ := HR.out.place (by omega)
      injection hv' with q1 q2 q3
      subst q1 q3
      have hx1 : (u8s l)[j]? = some (.int .u8 x) := by simp [u8s, hx]
      clear hN hdrop hx hcc hcs
      go_wp2_with fail
      refine (HN.out _ (Kept.refl _ _)).mono ?_
      rintro e' w5 ⟨rfl, hB5, hK5⟩
      have hR5 := HR.out.kept hK5 (fun b cs hb e => by obtain ⟨v, r, hB⟩ := HB.out; exact hb.ne_ hB.blk (by decide) e)
      have hc5 : w5.cell? ⟨b, off + j, none⟩ = some (.int .u8 x) := by
        obtain ⟨b', off', cap'', hv'', _, _, _, _, hcc⟩ := hR5.place (by omega)
        injection hv'' with q1 q2 q3
        injection q1 with q1
        injection q1 with q4 q5 q6
        subst q4 q5
        exact hcc j _ hx1
      have hk5 : Kept NoBlk w w5 := HK.out.fresh hK5 (fun b e => by have e' : b = g := e; omega)
      have HB5 := Lib.hid hB5
      have HR5 := Lib.hid hR5
      clear hB5 hR5 hK5
      go_wp2
      go_roundw
      case rel => exact ⟨j + 1, by omega, by go_num, HR5.out, HB5.out, hk5⟩
      case measure => simp [intOf]; omega
    · obtain rfl : j = l.length := by omega
      have hnil : (popN S i l.length).lost i = [] := by
        rw [popN_at, ← HL.out]
        exact List.drop_eq_nil_of_le (Nat.le_refl _)
      have HE := Lib.hid hnil
      clear hnil
      go_wp2_with fail
      have hN : Calls Try.prog 13 #[.pointer (some ⟨g, 0, none⟩), .int .u8 i] wr fun x w' => x = .returned (.tuple #[.int .u8 0, .bool false]) ∧ wr = w' := by
        obtain ⟨v, r, hB⟩ := HB.out
        exact next_none wr g m _ v r hB i hi HE.out
      refine (hN).mono ?_
      rintro e' w5 ⟨rfl, rfl⟩
      go_wp2_with fail
      have hL : Calls Try.prog 12 #[.pointer (some ⟨g, 0, none⟩), .int .u8 i] wr fun x w' => ∃ A c, x = .returned (.slice A 0 c) ∧ Kept NoBlk wr w' := by
        obtain ⟨v, r, hB⟩ := HB.out
        refine (lost_any wr g m _ v r hB i hi (by rw [HE.out]; simp)).mono ?_
        rw [HE.out]
        exact fun e w' ⟨A, c, h1, _, h3⟩ => ⟨A, c, h1, h3⟩
      refine (hL).mono ?_
      rintro e' w6 ⟨A6, c6, rfl, hK6⟩
      go_wp2
      go_ret
      exact trueKept_mk rfl (HK.out.trans hK6)

theorem order_any (w : World) (A : Option Addr) (n cap : Nat) (hD : IsDeeds w A n) (e : Int) (he : 0 ≤ e) :
   Calls Try.prog 3 #[.slice A n cap, .int .u8 e] w (TrueKept w) := by
  by_cases h6 : e < 6
  · obtain ⟨i, rfl⟩ : ∃ i : Nat, e = (i : Int) := ⟨e.toNat, by omega⟩
    exact order_in w A n cap hD i (by omega)
  · exact order_out w A n cap hD e (by omega)

set_option maxHeartbeats 4000000 in
theorem none_any (w : World) (k now within e f : Int) : Calls Try.prog 9 #[deedV k now within e f] w (TrueKept w) := by
  have HBX := Lib.hid (Blk.new w 43 #[.int .i64 k, .int .i64 now, .int .i64 within, .int .u8 e, .int .u8 f])
  unfold deedV
  go_enter Try.func9, Try.ntmps9
  go_wp2_with fail
  refine (next_nil _ e).mono ?_
  rintro x w1 ⟨rfl, rfl⟩
  go_wp2_with fail
  refine (asked_nil _ e f).mono ?_
  rintro x w1 ⟨rfl, rfl⟩
  go_wp2_with fail
  refine (live_any _).mono ?_
  rintro x w1 ⟨rfl, hK1⟩
  have hb1 := (HBX.out.kept hK1 (fun e => e)).cell
  have hl1 := (HBX.out.kept hK1 (fun e => e)).lt
  go_wp2_with fail
  refine (ask_nil _ e f now within).mono ?_
  rintro x w2 ⟨rfl, rfl⟩
  go_wp2_with fail
  refine (done_nil _ e f).mono ?_
  rintro x w2 ⟨rfl, hK2⟩
  have hk2 := hK1.trans hK2
  have hb2 := (HBX.out.kept hk2 (fun e => e)).cell
  have hl2 := (HBX.out.kept hk2 (fun e => e)).lt
  go_wp2_with fail
  refine (due_nil _ now).mono ?_
  rintro x w3 ⟨rfl, hK3⟩
  have hk3 := hk2.trans hK3
  have hb3 := (HBX.out.kept hk3 (fun e => e)).cell
  have hl3 := (HBX.out.kept hk3 (fun e => e)).lt
  go_wp2_with fail
  refine (out_nil _ e).mono ?_
  rintro x w4 ⟨rfl, hK4⟩
  have hk4 := hk3.trans hK4
  have hb4 := (HBX.out.kept hk4 (fun e => e)).cell
  have hl4 := (HBX.out.kept hk4 (fun e => e)).lt
  go_wp2_with fail
  refine (open_nil _).mono ?_
  rintro x w5 ⟨rfl, rfl⟩
  go_wp2_with fail
  refine (lost_nil _ e).mono ?_
  rintro x w5 ⟨rfl, rfl⟩
  go_wp2_with fail
  refine (fork_nil _).mono ?_
  rintro x w5 ⟨rfl, rfl⟩
  go_wp2
  go_ret
  exact trueKept_mk rfl (Kept.trans (by repeat (with_reducible first | exact Kept.refl _ _ | apply Kept.drew | apply Kept.drewN | apply Kept.alloc | exact oneHit | apply Kept.setCell)) hk4)
end Go.Proofs.Ytmbgbhhdjobbnaa
