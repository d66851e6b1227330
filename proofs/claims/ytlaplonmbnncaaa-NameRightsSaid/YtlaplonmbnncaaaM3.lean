/- NameRights, walked. -/
import Derived.Test.YtlaplonmbnncaaaR2
namespace Go.Proofs.Ytlaplonmbnncaaa
open Go.RowKit Go.Shelf
set_option maxRecDepth 100000

def TrueKept3 (w : World) (e : Ending) (w' : World) : Prop := e = .returned (.bool true) ∧ Kept NoBlk w w'
set_option maxHeartbeats 4000000 in
theorem lawRights_any (w : World) (r0 : Int) (s : ByteArray) (h0 : 0 ≤ r0) (h1 : r0 < 256) (hs : s.size ≤ maxLen) : Calls Try.prog 5 #[.int .u8 r0, .string s] w (TrueKept3 w) := by
  obtain ⟨r, rfl⟩ := Int.eq_ofNat_of_zero_le h0
  have hr : r < 256 := by omega
  have S1 := Lib.hid (fun w => short_any w s hs)
  generalize cut300 s = t at *
  have HL := Lib.hid (fun w => live_any w)
  have H1 := Lib.hid (fun w => rights_any w r hr)
  have H2 := Lib.hid (fun w => rrights_any w r hr)
  have H3 := Lib.hid (fun w => readRights_any w t)
  have H4 := Lib.hid (fun w => rreadRights_any w t)
  generalize (readP t).1 = c at *
  generalize (readP t).2 = g at *
  clear h0 h1
  by_cases h31 : r < 32
  · have hA : rightsP r = (rightsS r, 0) := by unfold rightsP; rw [if_neg (by omega)]
    have hX : readP (rightsS r) = ((r : Int), 0) := by
      have := said_read ⟨r, h31⟩
      simp only at this
      unfold readP
      rw [this]
    rw [hA] at H1 H2
    have H5 := Lib.hid (fun w => readRights_any w (rightsS r))
    rw [hX] at H5
    clear hA hX
    generalize rightsS r = a at *
    go_enter Try.func5, Try.ntmps5
    go_wp2_with fail
    refine (S1.out _).mono ?_
    rintro e w1 ⟨rfl, rfl⟩
    go_wp2_with fail
    refine (H1.out _).mono ?_
    rintro e w1 ⟨rfl, hk1⟩
    go_wp2_with fail
    refine (H2.out _).mono ?_
    rintro e w2 ⟨rfl, rfl⟩
    go_wp2_with fail
    refine (H3.out _).mono ?_
    rintro e w2 ⟨rfl, hk2⟩
    go_wp2_with fail
    refine (H4.out _).mono ?_
    rintro e w3 ⟨rfl, rfl⟩
    go_wp2_with fail
    refine (H5.out _).mono ?_
    rintro e w3 ⟨rfl, hk3⟩
    go_wp2_with fail
    refine (HL.out _).mono ?_
    rintro e w4 ⟨rfl, hk4⟩
    go_wp2
    go_ret
    exact ⟨by simp, ((hk1.trans hk2).trans hk3).trans hk4⟩
  · have hA : rightsP r = (⟨#[]⟩, 3) := by unfold rightsP; rw [if_pos (by omega)]
    rw [hA] at H1 H2
    have H5 := Lib.hid (fun w => readRights_any w ⟨#[]⟩)
    generalize (readP ⟨#[]⟩).1 = x at *
    generalize (readP ⟨#[]⟩).2 = y at *
    clear hA
    go_enter Try.func5, Try.ntmps5
    go_wp2_with fail
    refine (S1.out _).mono ?_
    rintro e w1 ⟨rfl, rfl⟩
    go_wp2_with fail
    refine (H1.out _).mono ?_
    rintro e w1 ⟨rfl, hk1⟩
    go_wp2_with fail
    refine (H2.out _).mono ?_
    rintro e w2 ⟨rfl, rfl⟩
    go_wp2_with fail
    refine (H3.out _).mono ?_
    rintro e w2 ⟨rfl, hk2⟩
    go_wp2_with fail
    refine (H4.out _).mono ?_
    rintro e w3 ⟨rfl, rfl⟩
    go_wp2_with fail
    refine (H5.out _).mono ?_
    rintro e w3 ⟨rfl, hk3⟩
    go_wp2_with fail
    refine (HL.out _).mono ?_
    rintro e w4 ⟨rfl, hk4⟩
    go_wp2
    go_ret
    exact ⟨by simp, ((hk1.trans hk2).trans hk3).trans hk4⟩
end Go.Proofs.Ytlaplonmbnncaaa
