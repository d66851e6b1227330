/- The pool: what must be whatever is asked. -/
import Derived.Test.YtfoeckaeongahaaDoorP9
namespace Go.Proofs.YtfoeckaeongahaaDoor
open Go.RowKit Go.Shelf
set_option maxRecDepth 100000

def L1 : PSt := grantT S0 0 5 ⟨#[47, 97]⟩ 0
def L2 : PSt := shareT L1 0 1 5
def L3 : PSt := freeT L2 0 5
theorem live_1 : grantC S0 0 5 ⟨#[47, 97]⟩ 0 = 0 := by decide +kernel
theorem live_2 : shareC L1 0 1 5 = 0 := by decide +kernel
theorem live_3 : freeB L2 0 5 = false ∧ freeC L2 0 5 = 0 := by decide +kernel
theorem live_4 : holdsB L3 1 5 = true ∧ holdsB L3 0 5 = false := by decide +kernel
theorem live_5 : L3.ev.length = 3 := by decide +kernel
theorem live_6 : grantC L3 2 5 ⟨#[47]⟩ 0 = 6 := by decide +kernel
set_option maxHeartbeats 4000000 in
theorem live_any (w : World) : Calls Tryd.prog 10 #[] w fun e w' => e = .returned (.bool true) ∧ Kept NoBlk w w' := by
  have F0 := S0_inv.fit (by omega)
  have I1 : Inv 1 L1 := S0_inv.grant 0 5 _ 0
  have I2 : Inv 2 L2 := I1.share 0 1 5
  have I3 : Inv 3 L3 := I2.free 0 5
  have F1 := I1.fit (by omega)
  have F2 := I2.fit (by omega)
  have F3 := I3.fit (by omega)
  have H0 := Lib.hid (fun w => new8 w)
  have H1 : Hid (∀ w pb fb, PI w pb fb S0 → Calls Tryd.prog 15 #[.pointer (some ⟨pb, 0, none⟩), .int .u8 0, .int .u8 5, .agg #[.string ⟨#[47, 97]⟩, .int .u8 0]] w (Done w pb fb (.int .i64 0) L1)) := Lib.hid fun w pb fb h => by
    have := grant_any w pb fb S0 0 5 ⟨#[47, 97]⟩ 0 h F0 (by omega) (by decide)
    rw [live_1] at this
    exact this
  have H2 : Hid (∀ w pb fb, PI w pb fb L1 → Calls Tryd.prog 16 #[.pointer (some ⟨pb, 0, none⟩), .int .u8 0, .int .u8 1, .int .u8 5] w (Done w pb fb (.int .i64 0) L2)) := Lib.hid fun w pb fb h => by
    have := share_any w pb fb L1 0 1 5 h F1 (by omega)
    rw [live_2] at this
    exact this
  have H3 : Hid (∀ w pb fb, PI w pb fb L2 → Calls Tryd.prog 17 #[.pointer (some ⟨pb, 0, none⟩), .int .u8 0, .int .u8 5] w (Done w pb fb (.tuple #[.bool false, .int .i64 0]) L3)) := Lib.hid fun w pb fb h => by
    have := free_any w pb fb L2 0 5 h F2 (by omega)
    rw [live_3.1, live_3.2] at this
    exact this
  have H4 : Hid (∀ w pb fb, PI w pb fb L3 → Calls Tryd.prog 12 #[.pointer (some ⟨pb, 0, none⟩), .int .u8 1, .int .u8 5] w fun x w' => x = .returned (.bool true) ∧ w = w') := Lib.hid fun w pb fb h => by
    have := holds_any w pb fb L3 1 5 h F3 (by omega)
    rw [live_4.1] at this
    exact this
  have H5 : Hid (∀ w pb fb, PI w pb fb L3 → Calls Tryd.prog 12 #[.pointer (some ⟨pb, 0, none⟩), .int .u8 0, .int .u8 5] w fun x w' => x = .returned (.bool false) ∧ w = w') := Lib.hid fun w pb fb h => by
    have := holds_any w pb fb L3 0 5 h F3 (by omega)
    rw [live_4.2] at this
    exact this
  have H6 : Hid (∀ w pb fb, PI w pb fb L3 → Calls Tryd.prog 11 #[.pointer (some ⟨pb, 0, none⟩)] w fun x w' => ∃ A cap, x = .returned (.slice A 3 cap) ∧ Kept NoBlk w w') := Lib.hid fun w pb fb h => (events_any w pb fb L3 h F3.ev).mono fun x w' ⟨v, hx, ho, hk⟩ => by
    rw [live_5] at ho
    obtain ⟨-, ⟨-, h0⟩ | ⟨g, cap, cur, rfl, -⟩⟩ := ho
    · cases h0
    · exact ⟨_, cap, hx, hk⟩
  have H7 : Hid (∀ w pb fb, PI w pb fb L3 → Calls Tryd.prog 15 #[.pointer (some ⟨pb, 0, none⟩), .int .u8 2, .int .u8 5, .agg #[.string ⟨#[47]⟩, .int .u8 0]] w (Done w pb fb (.int .i64 6) (grantT L3 2 5 ⟨#[47]⟩ 0))) := Lib.hid fun w pb fb h => by
    have := grant_any w pb fb L3 2 5 ⟨#[47]⟩ 0 h F3 (by omega) (by decide)
    rw [live_6] at this
    exact this
  clear F0 F1 F2 F3 I1 I2 I3
  generalize grantT L3 2 5 ⟨#[47]⟩ 0 = S4 at *
  generalize L1 = S1 at *
  generalize L2 = S2 at *
  generalize L3 = S3 at *
  generalize S0 = S0 at *
  go_enter Tryd.func10, Tryd.ntmps10
  go_wp2_with fail
  refine (H0.out _).mono ?_
  rintro x w1 ⟨rfl, hp, hk⟩
  have HP0 := Lib.hid hp
  have HK0 := Lib.hid hk
  have hsz : Hid (∀ (w' w'' : World), Kept NoBlk w w' → Kept (TwoBlk (w.heap.size + 1) w.heap.size) w' w'' → Kept NoBlk w w'') := Lib.hid fun w' w'' a b => Kept.fresh a b (fun c e => by rcases e with e | e <;> omega)
  clear hp hk
  generalize hpb : w.heap.size + 1 = pb at *
  generalize hfb : w.heap.size = fb at *
  clear hpb hfb
  go_wp2_with fail
  refine (H1.out _ _ _ HP0.out).mono ?_
  rintro x w2 ⟨rfl, hp, hk⟩
  have HP1 := Lib.hid hp
  have HK1 := Lib.hid (hsz.out _ _ HK0.out hk)
  clear hp hk HP0 HK0
  go_wp2_with fail
  refine (H2.out _ _ _ HP1.out).mono ?_
  rintro x w3 ⟨rfl, hp, hk⟩
  have HP2 := Lib.hid hp
  have HK2 := Lib.hid (hsz.out _ _ HK1.out hk)
  clear hp hk HP1 HK1
  go_wp2_with fail
  refine (H3.out _ _ _ HP2.out).mono ?_
  rintro x w4 ⟨rfl, hp, hk⟩
  have HP3 := Lib.hid hp
  have HK3 := Lib.hid (hsz.out _ _ HK2.out hk)
  clear hp hk HP2 HK2
  go_wp2_with fail
  refine (H4.out _ _ _ HP3.out).mono ?_
  rintro x w5 ⟨rfl, rfl⟩
  go_wp2_with fail
  refine (H5.out _ _ _ HP3.out).mono ?_
  rintro x w5 ⟨rfl, rfl⟩
  go_wp2_with fail
  refine (H6.out _ _ _ HP3.out).mono ?_
  rintro x w5 ⟨A, cap, rfl, hk⟩
  have HP4 := Lib.hid (HP3.out.keptNo hk)
  have HK4 := Lib.hid (HK3.out.trans hk)
  clear hk HP3 HK3
  go_wp2_with fail
  refine (H7.out _ _ _ HP4.out).mono ?_
  rintro x w6 ⟨rfl, hp, hk⟩
  have HK5 := Lib.hid (hsz.out _ _ HK4.out hk)
  clear hp hk
  go_wp2
  go_ret
  exact ⟨by simp, HK5.out⟩
end Go.Proofs.YtfoeckaeongahaaDoor
