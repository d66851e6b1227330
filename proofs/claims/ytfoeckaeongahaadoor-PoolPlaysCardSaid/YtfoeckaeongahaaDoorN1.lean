/- The program's names: a letter, a label. -/
import Derived.Test.YtfoeckaeongahaaDoorNB
namespace Go.Proofs.YtfoeckaeongahaaDoor
open Go.RowKit
set_option maxRecDepth 100000

theorem letter_any (w : World) (r : Nat) : Calls Tryd.prog 74 #[.int .i32 (r : Int)] w fun e w' => e = .returned (.bool (letterB r)) ∧ w = w' := by
  rcases (by omega : r < 48 ∨ (48 ≤ r ∧ r ≤ 57) ∨ (58 ≤ r ∧ r < 97) ∨ (97 ≤ r ∧ r ≤ 122) ∨ (123 ≤ r ∧ r < 945) ∨ (945 ≤ r ∧ r ≤ 969) ∨ 969 < r) with h | h | h | h | h | h | h
  all_goals
    first
      | rw [show letterB r = true from decide_eq_true (by omega)]
      | rw [show letterB r = false from decide_eq_false (by omega)]
    have h0 : 0 ≤ (r : Int) := by omega
    try have h1 : (r : Int) < 48 := by omega
    try have h1 : (48 : Int) ≤ r := by omega
    try have h2 : (r : Int) ≤ 57 := by omega
    try have h2 : (57 : Int) < r := by omega
    try have h3 : (r : Int) < 97 := by omega
    try have h3 : (97 : Int) ≤ r := by omega
    try have h4 : (r : Int) ≤ 122 := by omega
    try have h4 : (122 : Int) < r := by omega
    try have h5 : (r : Int) < 945 := by omega
    try have h5 : (945 : Int) ≤ r := by omega
    try have h6 : (r : Int) ≤ 969 := by omega
    try have h6 : (969 : Int) < r := by omega
    go_enter Tryd.func74, Tryd.ntmps74
    go_wp2
    go_ret
    refine ⟨?_, rfl⟩
    first | rfl | (simp; omega) | (simp; done)

theorem labG_step (s : ByteArray) (f pos n : Nat) (h : pos < s.size) : labG s (f + 1) pos n = if n < 6 ∧ letterB (Utf8.decode s pos).1 = true then labG s f (pos + (Utf8.decode s pos).2) (n + 1) else false := by
  conv => lhs; unfold labG
  rw [if_pos h]
theorem labG_end (s : ByteArray) (f pos n : Nat) (h : ¬ pos < s.size) : labG s (f + 1) pos n = decide (0 < n) := by
  conv => lhs; unfold labG
  rw [if_neg h]
set_option maxHeartbeats 2000000 in
theorem label_any (w : World) (s : ByteArray) : Calls Tryd.prog 68 #[.string s] w fun e w' => e = .returned (.bool (label s)) ∧ Kept NoBlk w w' := by
  unfold label
  generalize hL : labG s (s.size + 1) 0 0 = L
  have HL := Lib.hid hL
  clear hL
  go_enter Tryd.func68, Tryd.ntmps68
  go_wp2
  go_loopw [3] (fun nv wr => ∃ (f pos n : Nat), pos ≤ s.size ∧ n ≤ 6 ∧ nv = .int .i64 n ∧ Hid (labG s (f + 1) pos n = L) ∧ s.size < pos + (f + 1) ∧ wr = w.iter s pos) (fun _ wr => s.size - wr.iterPos w.heap.size)
  case atStart => exact ⟨s.size, 0, 0, by omega, by omega, rfl, HL, by omega, rfl⟩
  case round =>
    obtain ⟨f, pos, n, hp, hn6, rfl, HR, hf, rfl⟩ := hrel
    clear HL
    by_cases hlt : pos < s.size
    · have hs := HR.out
      rw [labG_step s f pos n hlt] at hs
      have hn := fun ty => run_next_any (P := Tryd.prog) w s pos ty hlt
      have HV := Lib.hid (fun w => letter_any w (Utf8.decode s pos).1)
      have hle := decode_le s pos
      by_cases h6 : n = 6
      · rw [if_neg (fun h => by omega)] at hs
        subst hs
        subst h6
        clear HR
        generalize (Utf8.decode s pos).1 = c at *
        go_wp2
        go_ret
        exact ⟨rfl, (Kept.refl NoBlk w).alloc _⟩
      · by_cases hc : letterB (Utf8.decode s pos).1 = true
        · rw [if_pos ⟨by omega, hc⟩] at hs
          obtain ⟨k1, k2, k3, -⟩ := letter_shape s pos hlt hc
          rw [hc] at HV
          obtain ⟨f', rfl⟩ : ∃ f', f = f' + 1 := ⟨f - 1, by omega⟩
          have HS := Lib.hid hs
          have hn5 : (n : Int) < 6 := by omega
          clear hs HR hc
          generalize (Utf8.decode s pos).1 = c at *
          generalize (Utf8.decode s pos).2 = d at *
          go_wp2_with fail
          refine (HV.out _).mono ?_
          rintro e w1 ⟨rfl, rfl⟩
          go_wp2
          go_roundw
          case rel => exact ⟨f', pos + d, n + 1, by omega, by omega, by go_num, HS, by omega, rfl⟩
          case measure => simp; omega
        · rw [if_neg (fun h => hc h.2)] at hs
          subst hs
          have hc' : letterB (Utf8.decode s pos).1 = false := by simpa using hc
          rw [hc'] at HV
          have hn5 : (n : Int) < 6 := by omega
          clear HR hc hc'
          generalize (Utf8.decode s pos).1 = c at *
          go_wp2_with fail
          refine (HV.out _).mono ?_
          rintro e w1 ⟨rfl, rfl⟩
          go_wp2
          go_ret
          exact ⟨rfl, (Kept.refl NoBlk w).alloc _⟩
    · obtain rfl : pos = s.size := by omega
      have hs := HR.out
      rw [labG_end s f _ n hlt] at hs
      subst hs
      have hn := fun ty => run_next_end (P := Tryd.prog) w s s.size ty hlt
      clear HR
      go_wp2
      go_ret
      exact ⟨by simp, (Kept.refl NoBlk w).alloc _⟩
end Go.Proofs.YtfoeckaeongahaaDoor
