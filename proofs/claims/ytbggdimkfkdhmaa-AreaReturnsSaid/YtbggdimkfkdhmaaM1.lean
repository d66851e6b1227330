/- The laws of area: what each call of a law comes to. -/
import Derived.Test.YtbggdimkfkdhmaaL3
namespace Go.Proofs.Ytbggdimkfkdhmaa
open Go.RowKit

def q0 : Nat → Int := fun _ => 0

theorem trueKept_mk {w w' : World} (h : Kept NoBlk w w') : TrueKept w (.returned (.bool true)) w' := ⟨rfl, h⟩

theorem play0 (w : World) (A : Option Addr) (n cap : Nat) (hD : IsDeeds w A n) (p : Int) :
   Calls Try.prog 9 #[.agg #[.int .u16 p, .int .u16 0, .int .u16 0, .int .u16 0, .int .u16 0, .int .u16 0, .int .u16 0, .int .u16 0, .int .u16 0], .slice A n cap] w (PlayPost w) :=
  play_any w (fun | 0 => p | _ => 0) A n cap hD 

set_option maxHeartbeats 1000000 in
theorem plays_any (w : World) (s : Nat → Int) (A : Option Addr) (n cap : Nat) (hD : IsDeeds w A n) :
   Calls Try.prog 6 #[regV s, .slice A n cap] w (TrueKept w) := by
  have hP := fun o => play_any (w.alloc o) s A n cap (hD.kept ((Kept.refl _ _).alloc o)) 
  unfold regV at hP ⊢
  have HP := Lib.hid hP
  clear hP hD
  go_enter Try.func6, Try.ntmps6
  go_wp2_with fail
  refine (HP.out _).mono ?_
  rintro e w1 ⟨g, h, rfl, hg, hh, S, hI, hA, hR, hK⟩
  have hk1 : Kept NoBlk w w1 := Kept.trans (by repeat (with_reducible first | exact Kept.refl _ _ | apply Kept.drew | apply Kept.drewN | apply Kept.alloc | exact oneHit | apply Kept.setCell)) hK
  go_wp2_with fail
  refine (live_any w1).mono ?_
  rintro e w2 ⟨rfl, hK2⟩
  have hk2 := hk1.trans hK2
  go_wp2_with fail
  refine (same_any w2 g h S hI (hA.ofKept hK2) (hR.ofKept hK2)).mono ?_
  rintro e w3 ⟨rfl, hK3⟩
  go_wp2
  go_ret
  exact trueKept_mk (hk2.trans hK3)

set_option maxHeartbeats 2000000 in
theorem deep_any (w : World) (A : Option Addr) (n cap : Nat) (hD : IsDeeds w A n) :
   Calls Try.prog 3 #[.slice A n cap] w (TrueKept w) := by
  have HP := Lib.hid (play0 w A n cap hD  0)
  clear hD
  go_enter Try.func3, Try.ntmps3
  go_wp2_with fail
  refine (HP.out).mono ?_
  rintro e w1 ⟨g, h, rfl, hg, hh, S, hI, hA, hR, hK⟩
  go_wp2_with fail
  refine (live_any w1).mono ?_
  rintro e w2 ⟨rfl, hK2⟩
  have hA2 := hA.ofKept hK2
  have hk2 := hK.trans hK2
  go_wp2_with fail
  refine (depth_any w2 g S hA2).mono ?_
  rintro e w2' ⟨rfl, rfl⟩
  have hm4 : S.kept.length ≤ 4 := by obtain ⟨_, _, _, q⟩ := hA2; exact q
  generalize hm : S.kept.length = m at *
  have HM := Lib.hid hm
  have HI := Lib.hid hI
  have HA2 := Lib.hid hA2
  have HK2 := Lib.hid hk2
  clear hm hI hA hR hK hK2 hA2 hk2
  go_wp2_with fail
  go_loopw [7] (fun i wr => ∃ (j : Nat) (S' : St), j ≤ m ∧ i = .int .i64 j ∧ S'.kept.length = j ∧ (S'.dead = true → S'.kept = []) ∧ IsA wr g S' ∧ Kept NoBlk w wr) (fun i _ => (intOf i).toNat)
  case atStart => exact ⟨m, S, by omega, rfl, HM.out, fun e => (HI.out.2 e).1, HA2.out, HK2.out⟩
  case round =>
    obtain ⟨j, S', hj, rfl, hlen, hdead, hA', hK'⟩ := hrel
    clear HA2 HK2
    by_cases hpos : 0 < j
    · have hd : S'.dead = false := by
        cases hq : S'.dead with
        | false => rfl
        | true => have := hdead hq; rw [this] at hlen; simp at hlen; omega
      rcases List.eq_nil_or_concat S'.kept with hk | ⟨l, a, hk⟩
      · rw [hk] at hlen; simp at hlen; omega
      rw [List.concat_eq_append] at hk
      have hl1 : l.length + 1 = j := by rw [hk] at hlen; simpa using hlen
      have HDp := Lib.hid (depth_any wr g S' hA')
      have HRt := Lib.hid (return_some wr g S' hA' hd l a hk)
      have HLen := Lib.hid hlen
      have HK := Lib.hid hK'
      have HD := Lib.hid hd
      clear hlen hk hdead hA' hK' hd
      go_wp2_with fail
      refine (HDp.out).mono ?_
      rintro e w3 ⟨rfl, rfl⟩
      rw [HLen.out]
      go_wp2_with fail
      refine (HRt.out).mono ?_
      rintro e w4 ⟨rfl, hA4, hK4⟩
      have hk4 := HK.out.fresh hK4 (fun b e => by rw [show b = g from e]; exact hg)
      go_wp2
      go_roundw
      case rel => exact ⟨l.length, _, by omega, by rw [← hl1]; go_num, rfl, fun e => absurd e (by rw [show _ = S'.dead from rfl, HD.out]; simp), hA4, hk4⟩
      case measure => simp [intOf]; omega
    · obtain rfl : j = 0 := by omega
      have HDp := Lib.hid (depth_any wr g S' hA')
      have hnil : S'.kept = [] := List.eq_nil_of_length_eq_zero hlen
      have hret : Calls Try.prog 12 #[.pointer (some ⟨g, 0, none⟩)] wr fun e w' => e = .returned (.int .i64 9) ∧ wr = w' := by
        cases hq : S'.dead with
        | false => exact return_none wr g S' hA' hq hnil
        | true => exact return_dead wr g S' hA' hq
      have HRt := Lib.hid hret
      have HLen := Lib.hid hlen
      have HK := Lib.hid hK'
      clear hlen hdead hA' hK' hnil hret hpos
      go_wp2_with fail
      refine (HDp.out).mono ?_
      rintro e w3 ⟨rfl, rfl⟩
      rw [HLen.out]
      go_wp2_with fail
      refine (HRt.out).mono ?_
      rintro e w4 ⟨rfl, rfl⟩
      go_wp2
      go_ret
      exact trueKept_mk HK.out
end Go.Proofs.Ytbggdimkfkdhmaa
