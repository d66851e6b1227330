/- What a text says: the law's own walk. -/
import Derived.Test.YtkdojdcfakjjfaaDoorPE
import Derived.ShutString
namespace Go.Proofs.YtkdojdcfakjjfaaDoor
open Go.RowKit
set_option maxRecDepth 100000

theorem numG_no (base : Int) (s : ByteArray) (most : Nat) (h : most < s.size) : numG base s most = none := by unfold numG; rw [if_pos (.inr h)]
/-- No text of more than six bytes says anything. -/
theorem say_long (s : ByteArray) (h : 6 < s.size) : sayO quoP s = none := by
  unfold sayO
  rw [if_neg (by omega)]
  split
  · exact numG_no _ _ _ (by rw [tail_size]; omega)
  split
  · rw [quo_eq]
    unfold quoR
    rw [if_pos (.inr (.inl h))]
  split
  · unfold minO
    rw [numG_no _ _ _ (by rw [tail_size]; omega)]
  · unfold plusO
    rw [numG_no _ _ _ (by omega)]
theorem rparse_any (w : World) (s : ByteArray) (hT : Tabs w) : Calls Tryd.prog 42 #[.string s] w fun e w' => e = .returned (okE (sayO quoP s)) ∧ Kept NoBlk w w' := by
  by_cases h6 : 6 < s.size
  · rw [say_long s h6]
    exact (rparse_long w s h6).mono fun e w' h => ⟨h.1, h.2 ▸ Kept.refl _ _⟩
  unfold sayO
  by_cases hz : s.size = 0
  · rw [if_pos hz]
    exact (rparse_zero w s hz).mono fun e w' h => ⟨h.1, h.2 ▸ Kept.refl _ _⟩
  rw [if_neg hz]
  by_cases h1 : b0 s = 120
  · rw [if_pos h1]
    exact (rparse_hex w s (by omega) (by omega) h1).mono fun e w' h => ⟨h.1, h.2 ▸ Kept.refl _ _⟩
  rw [if_neg h1]
  by_cases h2 : b0 s = 39
  · rw [if_pos h2, quo_eq]
    exact rparse_quo w s (by omega) (by omega) h2 hT
  rw [if_neg h2]
  by_cases h3 : b0 s = 45
  · rw [if_pos h3]
    exact (rparse_min w s (by omega) (by omega) h3).mono fun e w' h => ⟨h.1, h.2 ▸ Kept.refl _ _⟩
  · rw [if_neg h3]
    exact (rparse_plus w s (by omega) (by omega) h1 h2 h3).mono fun e w' h => ⟨h.1, h.2 ▸ Kept.refl _ _⟩
theorem slice400 (w : World) (s : ByteArray) (h : 400 < s.size) : (Instr.slice 9 (.string s) none (some (.int .i64 400)) none).run Tryd.prog w = .ok (.string (s.extract 0 400)) w :=
  run_slice_string_h (P := Tryd.prog) w 9 s Tryd.underlying9 .i64 400 (by omega) (by omega)
set_option maxHeartbeats 2000000 in
theorem parses_any (w : World) (s : ByteArray) (hs : s.size ≤ maxLen) (hT : Tabs w) : Calls Tryd.prog 9 #[.string s] w fun e w' => e = .returned (.bool true) ∧ Kept NoBlk w w' := by
  have hmax : (s.size : Int) ≤ 9223372036854775807 := by unfold maxLen at hs; omega
  by_cases h : 400 < s.size
  · have h' : (400 : Int) < s.size := by omega
    have hsl := fun w => slice400 w s h
    have ht : (s.extract 0 400).size = 400 := by rw [ByteArray.size_extract]; omega
    generalize s.extract 0 400 = t at *
    have C1 := Lib.hid (parse_any w t (by omega) hT)
    have C2 := Lib.hid (fun w1 hT1 => rparse_any w1 t hT1)
    have HT := Lib.hid hT
    clear hT
    generalize sayO quoP t = O at *
    cases O
    all_goals
      unfold okE at C1 C2
      go_enter Tryd.func9, Tryd.ntmps9
      go_wp2_with fail
      refine C1.out.mono ?_
      rintro x w1 ⟨rfl, hK1⟩
      go_wp2_with fail
      refine (C2.out _ (HT.out.kept hK1)).mono ?_
      rintro x w2 ⟨rfl, hK2⟩
      go_wp2_with fail
      refine (live_any _ ((HT.out.kept hK1).kept hK2)).mono ?_
      rintro x w3 ⟨rfl, hK3⟩
      go_wp2
      go_ret
      exact ⟨rfl, (hK1.trans hK2).trans hK3⟩
  · have h' : (s.size : Int) ≤ 400 := by omega
    have C1 := Lib.hid (parse_any w s (by omega) hT)
    have C2 := Lib.hid (fun w1 hT1 => rparse_any w1 s hT1)
    have HT := Lib.hid hT
    clear hT
    generalize sayO quoP s = O at *
    cases O
    all_goals
      unfold okE at C1 C2
      go_enter Tryd.func9, Tryd.ntmps9
      go_wp2_with fail
      refine C1.out.mono ?_
      rintro x w1 ⟨rfl, hK1⟩
      go_wp2_with fail
      refine (C2.out _ (HT.out.kept hK1)).mono ?_
      rintro x w2 ⟨rfl, hK2⟩
      go_wp2_with fail
      refine (live_any _ ((HT.out.kept hK1).kept hK2)).mono ?_
      rintro x w3 ⟨rfl, hK3⟩
      go_wp2
      go_ret
      exact ⟨rfl, (hK1.trans hK2).trans hK3⟩
end Go.Proofs.YtkdojdcfakjjfaaDoor
