/- What is printed is read: the law's walk. -/
import Derived.Test.YtkdojdcfakjjfaaDoorS1
namespace Go.Proofs.YtkdojdcfakjjfaaDoor
open Go.RowKit
set_option maxRecDepth 100000

theorem sgn_from (a : Int) (ha : isW a) : fromO (sgn a) = some a := by
  obtain ⟨h0, h1⟩ := ha
  unfold fromO sgn
  split
  · rw [if_neg (by omega)]; congr 1; omega
  · rw [if_neg (by omega)]; congr 1; omega
set_option maxHeartbeats 4000000 in
theorem signs_any (w : World) (a : Int) (ha : (Lit.int .u16 a).wf = true) (hT : Tabs w) : Calls Tryd.prog 3 #[.int .u16 a] w (TrueKept w) := by
  have ha := isW_of ha
  have H1 := Lib.hid (fun w => signed_any w a ha)
  have h2 := fun w => fromO_any w (sgn a)
  rw [sgn_from a ha] at h2
  have H2 := Lib.hid h2
  have H3 := Lib.hid (fun w => hex_any w a ha.1 ha.2)
  have hz : ((⟨#[120]⟩ : ByteArray) ++ hexOf a).size ≤ 1000 := by rw [ByteArray.size_append, hexOf_size]; decide
  have h4 := fun w hT => parse_any w (⟨#[120]⟩ ++ hexOf a) hz hT
  rw [say_hex quoP a ha] at h4
  have H4 := Lib.hid h4
  obtain ⟨s, hs, hsay, h5⟩ := digits_any quoP a ha
  have H5 := Lib.hid h5
  have h6 := fun w hT => parse_any w s (by omega) hT
  rw [hsay] at h6
  have H6 := Lib.hid h6
  have H7 := Lib.hid (fun w => neg_any w a ha)
  have hn : isW ((0 - a) % 65536) := by unfold isW; omega
  have h8 := fun w => neg_any w ((0 - a) % 65536) hn
  rw [show (0 - (0 - a) % 65536) % 65536 = a by have := ha.1; have := ha.2; omega] at h8
  have H8 := Lib.hid h8
  have HT := Lib.hid hT
  have hz2 : (hexOf a).size = 4 := hexOf_size a
  unfold okE at H4 H6
  unfold okW at H2
  clear hT ha h2 h4 h5 h6 h8 hsay hn
  generalize sgn a = sx at *
  generalize hexOf a = hx at *
  generalize (0 - a) % 65536 = na at *
  go_enter Tryd.func3, Tryd.ntmps3
  go_wp2_with fail
  refine (H1.out _).mono ?_
  rintro e w1 ⟨rfl, rfl⟩
  go_wp2_with fail
  refine (H2.out _).mono ?_
  rintro e w1 ⟨rfl, rfl⟩
  go_wp2_with fail
  refine (H3.out _).mono ?_
  rintro e w1 ⟨rfl, hK1⟩
  go_wp2_with fail
  refine (H4.out _ (HT.out.kept hK1)).mono ?_
  rintro e w2 ⟨rfl, hK2⟩
  have hK2 := hK1.trans hK2
  go_wp2_with fail
  refine (H5.out _).mono ?_
  rintro e w3 ⟨rfl, rfl⟩
  go_wp2_with fail
  refine (H6.out _ (HT.out.kept hK2)).mono ?_
  rintro e w3 ⟨rfl, hK3⟩
  have hK3 := hK2.trans hK3
  go_wp2_with fail
  refine (live_any _ (HT.out.kept hK3)).mono ?_
  rintro e w4 ⟨rfl, hK4⟩
  have hK4 := hK3.trans hK4
  go_wp2_with fail
  refine (H7.out _).mono ?_
  rintro e w5 ⟨rfl, rfl⟩
  go_wp2_with fail
  refine (H8.out _).mono ?_
  rintro e w5 ⟨rfl, rfl⟩
  go_wp2
  go_ret
  exact ⟨rfl, hK4⟩
end Go.Proofs.YtkdojdcfakjjfaaDoor
