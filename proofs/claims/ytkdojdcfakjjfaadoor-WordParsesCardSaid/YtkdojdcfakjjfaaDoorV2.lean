/- The laws of words, walked: Back, Reckons. -/
import Derived.Test.YtkdojdcfakjjfaaDoorV1
namespace Go.Proofs.YtkdojdcfakjjfaaDoor
open Go.RowKit
set_option maxRecDepth 100000
def TrueKept (w : World) (e : Ending) (w' : World) : Prop := e = .returned (.bool true) ∧ Kept NoBlk w w'
theorem mul_bounds {a b : Int} (ha : isW a) (hb : isW b) : 0 ≤ a * b ∧ a * b ≤ 4294836225 := by
  obtain ⟨h0, h1⟩ := ha
  obtain ⟨h2, h3⟩ := hb
  refine ⟨Int.mul_nonneg h0 h2, ?_⟩
  have h4 : a * b ≤ 65535 * 65535 := Int.mul_le_mul h1 h3 h2 (by omega)
  omega
theorem div_bounds {a b : Int} (ha : isW a) (hb : isW b) (hz : ¬ b = 0) : (0 ≤ a / b ∧ a / b ≤ a) ∧ (0 ≤ a % b ∧ a % b < b) ∧ b * (a / b) + a % b = a := by
  obtain ⟨h0, h1⟩ := ha
  obtain ⟨h2, h3⟩ := hb
  have hb : 0 < b := by omega
  exact ⟨⟨Int.ediv_nonneg h0 h2, Int.ediv_le_self b h0⟩, ⟨Int.emod_nonneg a hz, Int.emod_lt_of_pos a hb⟩, Int.mul_ediv_add_emod a b⟩

set_option maxHeartbeats 2000000 in
theorem reckons_any (w : World) (a b : Int) (ha : (Lit.int .u16 a).wf = true) (hb : (Lit.int .u16 b).wf = true) (hT : Tabs w) : Calls Tryd.prog 6 #[.int .u16 a, .int .u16 b] w (TrueKept w) := by
  have ha := isW_of ha
  have hb := isW_of hb
  have hp := mul_bounds ha hb
  have H1 := Lib.hid (fun w => add_any w a b ha hb)
  have H2 := Lib.hid (fun w => radd_any w a b ha hb)
  have H3 := Lib.hid (fun w => sub_any w a b ha hb)
  have H4 := Lib.hid (fun w => rsub_any w a b ha hb)
  have H5 := Lib.hid (fun w => mul_any w a b ha hb hp)
  have H6 := Lib.hid (fun w => rmul_any w a b ha hb hp)
  have H7 := Lib.hid (fun w => neg_any w a ha)
  have H8 := Lib.hid (fun w => rneg_any w a ha)
  obtain ⟨q, r, e, hd1, hd2⟩ : ∃ q r e, (∀ w, Calls Tryd.prog 25 #[.int .u16 a, .int .u16 b] w fun x w' => x = .returned (.tuple #[.int .u16 q, .int .u16 r, .int .i64 e]) ∧ Kept NoBlk w w') ∧ (∀ w, Calls Tryd.prog 30 #[.int .u16 a, .int .u16 b] w fun x w' => x = .returned (.tuple #[.int .u16 q, .int .u16 r, .int .i64 e]) ∧ Kept NoBlk w w') := by
    by_cases hz : b = 0
    · subst hz
      exact ⟨0, 0, 14, fun w => (div_zero w a).mono (fun x w' h => ⟨h.1, h.2 ▸ Kept.refl _ _⟩), fun w => (rdiv_zero w a).mono (fun x w' h => ⟨h.1, h.2 ▸ Kept.refl _ _⟩)⟩
    · obtain ⟨⟨d0, d1⟩, ⟨d2, d3⟩, _⟩ := div_bounds ha hb hz
      have h1 := ha.2
      have h2 := hb.2
      exact ⟨a / b, a % b, 0, fun w => div_any w a b ha hb hz (by omega) (by omega), fun w => rdiv_any w a b ha hb hz (by omega) (by omega)⟩
  have H9 := Lib.hid hd1
  have H10 := Lib.hid hd2
  have hc : decide ((a + b) % 65536 < a) = decide (65536 ≤ a + b) := by
    obtain ⟨h0, h1⟩ := ha
    obtain ⟨h2, h3⟩ := hb
    rw [decide_eq_decide]
    omega
  rw [hc] at H1
  have HT := Lib.hid hT
  clear ha hb hp hd1 hd2 hc hT
  generalize (a + b) % 65536 = x1 at *
  generalize decide (65536 ≤ a + b) = c1 at *
  generalize (a - b) % 65536 = x2 at *
  generalize decide (a < b) = c2 at *
  generalize a * b / 65536 = x3 at *
  generalize a * b % 65536 = x4 at *
  generalize (0 - a) % 65536 = x5 at *
  go_enter Tryd.func6, Tryd.ntmps6
  go_wp2_with fail
  refine (H1.out _).mono ?_
  rintro x w1 ⟨rfl, rfl⟩
  go_wp2_with fail
  refine (H2.out _).mono ?_
  rintro x w1 ⟨rfl, rfl⟩
  go_wp2_with fail
  refine (H3.out _).mono ?_
  rintro x w1 ⟨rfl, rfl⟩
  go_wp2_with fail
  refine (H4.out _).mono ?_
  rintro x w1 ⟨rfl, rfl⟩
  go_wp2_with fail
  refine (H5.out _).mono ?_
  rintro x w1 ⟨rfl, rfl⟩
  go_wp2_with fail
  refine (H6.out _).mono ?_
  rintro x w1 ⟨rfl, rfl⟩
  go_wp2_with fail
  refine (H9.out _).mono ?_
  rintro x w1 ⟨rfl, hK1⟩
  go_wp2_with fail
  refine (H10.out _).mono ?_
  rintro x w2 ⟨rfl, hK2⟩
  have hk2 := hK1.trans hK2
  go_wp2_with fail
  refine (live_any _ (HT.out.kept hk2)).mono ?_
  rintro x w3 ⟨rfl, hK3⟩
  go_wp2_with fail
  refine (H7.out _).mono ?_
  rintro x w4 ⟨rfl, rfl⟩
  go_wp2_with fail
  refine (H8.out _).mono ?_
  rintro x w4 ⟨rfl, rfl⟩
  go_wp2
  go_ret
  exact ⟨rfl, hk2.trans hK3⟩

set_option maxHeartbeats 4000000 in
theorem back_any (w : World) (a b : Int) (ha : (Lit.int .u16 a).wf = true) (hb : (Lit.int .u16 b).wf = true) (hT : Tabs w) : Calls Tryd.prog 5 #[.int .u16 a, .int .u16 b] w (TrueKept w) := by
  have ha := isW_of ha
  have hb := isW_of hb
  have ha' := ha
  have hb' := hb
  obtain ⟨h0, h1⟩ := ha'
  obtain ⟨h2, h3⟩ := hb'
  obtain ⟨s, hs⟩ : ∃ s, s = (a + b) % 65536 := ⟨_, rfl⟩
  have hsW : isW s := by unfold isW; omega
  have hsub : (s - b) % 65536 = a := by omega
  have hlt : (s < a ∧ s < b) ∨ (¬ s < a ∧ ¬ s < b) := by omega
  have H1 := Lib.hid (fun w => add_any w a b ha hb)
  rw [← hs] at H1
  have H2 := Lib.hid (fun w => sub_any w s b hsW hb)
  rw [hsub] at H2
  have HT := Lib.hid hT
  clear hs hsub hT
  by_cases hz : b = 0
  · subst hz
    have H3 := Lib.hid (fun w => div_zero w a)
    clear ha hb hsW
    have hcc : (decide (s < a) = true ∧ decide (s < (0 : Int)) = true) ∨ (decide (s < a) = false ∧ decide (s < (0 : Int)) = false) := by
      rcases hlt with ⟨h4, h5⟩ | ⟨h4, h5⟩
      · exact .inl ⟨decide_eq_true h4, decide_eq_true h5⟩
      · exact .inr ⟨decide_eq_false h4, decide_eq_false h5⟩
    clear hlt
    rcases hcc with ⟨h4, h5⟩ | ⟨h4, h5⟩
    all_goals
      rw [h4] at H1
      rw [h5] at H2
      go_enter Tryd.func5, Tryd.ntmps5
      go_wp2_with fail
      refine (H1.out _).mono ?_
      rintro x w1 ⟨rfl, rfl⟩
      go_wp2_with fail
      refine (H2.out _).mono ?_
      rintro x w1 ⟨rfl, rfl⟩
      go_wp2_with fail
      refine (H3.out _).mono ?_
      rintro x w1 ⟨rfl, rfl⟩
      go_wp2_with fail
      refine (live_any _ HT.out).mono ?_
      rintro x w3 ⟨rfl, hK3⟩
      go_wp2
      go_ret
      exact ⟨rfl, hK3⟩
  · obtain ⟨⟨d0, d1⟩, ⟨d2, d3⟩, d4⟩ := div_bounds ha hb hz
    have H3 := Lib.hid (fun w => div_any w a b ha hb hz (by omega) (by omega))
    have hqW : isW (a / b) := by unfold isW; omega
    have hp := mul_bounds hqW hb
    have H4 := Lib.hid (fun w => mul_any w (a / b) b hqW hb hp)
    have hc : a / b * b = b * (a / b) := Int.mul_comm _ _
    have hpa : a / b * b ≤ 65535 := by omega
    have m1 : a / b * b / 65536 = 0 := by omega
    have m2 : a / b * b % 65536 = a / b * b := by omega
    rw [m1, m2] at H4
    have hpW : isW (a / b * b) := by unfold isW; omega
    have hrW : isW (a % b) := by unfold isW; omega
    have H5 := Lib.hid (fun w => add_any w (a / b * b) (a % b) hpW hrW)
    have m3 : (a / b * b + a % b) % 65536 = a := by omega
    have m4 : ¬ a < a / b * b := by omega
    rw [m3, decide_eq_false m4] at H5
    generalize a / b * b = p at *
    generalize a / b = q at *
    generalize a % b = r at *
    clear ha hb hsW hqW hp hpW hrW hc m1 m2 m3 d4 hpa
    have hcc : (decide (s < a) = true ∧ decide (s < b) = true) ∨ (decide (s < a) = false ∧ decide (s < b) = false) := by
      rcases hlt with ⟨h4, h5⟩ | ⟨h4, h5⟩
      · exact .inl ⟨decide_eq_true h4, decide_eq_true h5⟩
      · exact .inr ⟨decide_eq_false h4, decide_eq_false h5⟩
    clear hlt
    rcases hcc with ⟨h4, h5⟩ | ⟨h4, h5⟩
    all_goals
      rw [h4] at H1
      rw [h5] at H2
      go_enter Tryd.func5, Tryd.ntmps5
      go_wp2_with fail
      refine (H1.out _).mono ?_
      rintro x w1 ⟨rfl, rfl⟩
      go_wp2_with fail
      refine (H2.out _).mono ?_
      rintro x w1 ⟨rfl, rfl⟩
      go_wp2_with fail
      refine (H3.out _).mono ?_
      rintro x w1 ⟨rfl, hK1⟩
      go_wp2_with fail
      refine (H4.out _).mono ?_
      rintro x w2 ⟨rfl, rfl⟩
      go_wp2_with fail
      refine (H5.out _).mono ?_
      rintro x w2 ⟨rfl, rfl⟩
      go_wp2_with fail
      refine (live_any _ (HT.out.kept hK1)).mono ?_
      rintro x w3 ⟨rfl, hK3⟩
      go_wp2
      go_ret
      exact ⟨rfl, hK1.trans hK3⟩
end Go.Proofs.YtkdojdcfakjjfaaDoor
