/- What a text says: the document's 'Parse' at a quoted character, and at texts without a byte or with more than six. -/
import Derived.Test.YtkdojdcfakjjfaaDoorP6
namespace Go.Proofs.YtkdojdcfakjjfaaDoor
open Go.RowKit
set_option maxRecDepth 100000

def quoR (s : ByteArray) : Option Int := if s.size < 3 ∨ 6 < s.size ∨ bL s ≠ 39 then none else if ((Lib.decodeGo (s.extract 1 s.size)).2 : Int) ≠ (s.size : Int) - 2 ∨ ((Lib.decodeGo (s.extract 1 s.size)).1 = 65533 ∧ (Lib.decodeGo (s.extract 1 s.size)).2 = 1) then none else chr ((Lib.decodeGo (s.extract 1 s.size)).1 : Int)
theorem rparse_zero (w : World) (s : ByteArray) (h : s.size = 0) : Calls Tryd.prog 42 #[.string s] w fun e w' => e = .returned (okE none) ∧ w = w' := by
  have hz : ((s.size : Int) == 0) = true := beq_iff_eq.2 (by omega)
  unfold okE
  go_enter Tryd.func42, Tryd.ntmps42
  go_wp2
  go_ret2
  exact ⟨rfl, rfl⟩
theorem rparse_long (w : World) (s : ByteArray) (h : 6 < s.size) : Calls Tryd.prog 42 #[.string s] w fun e w' => e = .returned (okE none) ∧ w = w' := by
  have hz := size_no s (by omega)
  have h' : (6 : Int) < s.size := by omega
  unfold okE
  go_enter Tryd.func42, Tryd.ntmps42
  go_wp2
  go_ret2
  exact ⟨rfl, rfl⟩
set_option maxHeartbeats 4000000 in
theorem rparse_quo (w : World) (s : ByteArray) (h0 : 0 < s.size) (h6 : s.size ≤ 6) (hb : b0 s = 39) (hT : Tabs w) : Calls Tryd.prog 42 #[.string s] w fun e w' => e = .returned (okE (quoR s)) ∧ Kept NoBlk w w' := by
  have hi := fun w => index0 w s h0
  rw [hb] at hi
  have hz := size_no s h0
  have h6' : (s.size : Int) ≤ 6 := by omega
  unfold quoR
  by_cases h3 : s.size < 3
  · rw [if_pos (.inl h3)]
    have h3' : (s.size : Int) < 3 := by omega
    unfold okE
    go_enter Tryd.func42, Tryd.ntmps42
    go_wp2
    go_ret2
    exact ⟨rfl, Kept.refl _ _⟩
  have h3' : (3 : Int) ≤ s.size := by omega
  have hl := fun w => indexL w s h0
  by_cases hL : bL s = 39
  case neg =>
    rw [if_pos (.inr (.inr hL))]
    have hne : (bL s != 39) = true := bne_iff_ne.2 hL
    unfold okE
    go_enter Tryd.func42, Tryd.ntmps42
    go_wp2
    go_ret2
    exact ⟨rfl, Kept.refl _ _⟩
  rw [if_neg (by rintro (h | h | h); exact h3 h; omega; exact h hL)]
  rw [hL] at hl
  clear hL h3
  have hsl := fun w => slice1 w s (by omega)
  have HC := Tryd.utf8_DecodeRuneInString (s.extract 1 s.size) w hT
  have HC := Lib.hid HC
  generalize s.extract 1 s.size = t at *
  generalize (Lib.decodeGo t).1 = r at *
  generalize (Lib.decodeGo t).2 = z at *
  by_cases hzz : (z : Int) = (s.size : Int) - 2
  case neg =>
    rw [if_pos (.inl hzz)]
    have hne : ((z : Int) != (s.size : Int) - 2) = true := bne_iff_ne.2 hzz
    unfold okE
    clear hzz
    go_enter Tryd.func42, Tryd.ntmps42
    go_wp2_with fail
    refine HC.out.mono ?_
    rintro e w1 ⟨rfl, hb⟩
    go_wp2
    go_ret2
    exact ⟨rfl, Kept.of_below hb⟩
  have hne : ((z : Int) != (s.size : Int) - 2) = false := by rw [hzz]; exact bne_self_eq_false _
  by_cases hr : r = 65533
  · subst hr
    by_cases h1 : z = 1
    · rw [if_pos (.inr ⟨rfl, h1⟩)]
      have h1' : ((z : Int) == 1) = true := beq_iff_eq.2 (by omega)
      unfold okE
      clear hzz h1
      go_enter Tryd.func42, Tryd.ntmps42
      go_wp2_with fail
      refine HC.out.mono ?_
      rintro e w1 ⟨rfl, hb⟩
      go_wp2
      go_ret2
      exact ⟨rfl, Kept.of_below hb⟩
    · rw [if_neg (by rintro (h | h); exact h hzz; exact h1 h.2)]
      have h1' : ((z : Int) == 1) = false := beq_eq_false_iff_ne.2 (by omega)
      have hc : chr ((65533 : Nat) : Int) = some 65533 := rfl
      rw [hc]
      unfold okE
      clear hzz h1
      go_enter Tryd.func42, Tryd.ntmps42
      go_wp2_with fail
      refine HC.out.mono ?_
      rintro e w1 ⟨rfl, hb⟩
      go_wp2
      go_ret2
      exact ⟨rfl, Kept.of_below hb⟩
  have hr' : ((r : Int) == 65533) = false := beq_eq_false_iff_ne.2 (by omega)
  rw [if_neg (by rintro (h | h); exact h hzz; exact hr h.1)]
  clear hzz
  unfold chr
  by_cases h32 : (r : Int) < 32
  · rw [if_pos (.inl h32)]
    unfold okE
    go_enter Tryd.func42, Tryd.ntmps42
    go_wp2_with fail
    refine HC.out.mono ?_
    rintro e w1 ⟨rfl, hb⟩
    go_wp2
    go_ret2
    exact ⟨rfl, Kept.of_below hb⟩
  by_cases h65 : 65535 < (r : Int)
  · rw [if_pos (.inr (.inl h65))]
    unfold okE
    go_enter Tryd.func42, Tryd.ntmps42
    go_wp2_with fail
    refine HC.out.mono ?_
    rintro e w1 ⟨rfl, hb⟩
    go_wp2
    go_ret2
    exact ⟨rfl, Kept.of_below hb⟩
  by_cases h39 : (r : Int) = 39
  · rw [if_pos (.inr (.inr h39))]
    have h39' : ((r : Int) == 39) = true := beq_iff_eq.2 h39
    unfold okE
    clear h39
    go_enter Tryd.func42, Tryd.ntmps42
    go_wp2_with fail
    refine HC.out.mono ?_
    rintro e w1 ⟨rfl, hb⟩
    go_wp2
    go_ret2
    exact ⟨rfl, Kept.of_below hb⟩
  · rw [if_neg (by rintro (h | h | h); exact h32 h; exact h65 h; exact h39 h)]
    have h39' : ((r : Int) == 39) = false := beq_eq_false_iff_ne.2 h39
    have hw : IntKind.u16.wrap (r : Int) = r := u16_in _ (by omega) (by omega)
    unfold okE
    clear h39
    go_enter Tryd.func42, Tryd.ntmps42
    go_wp2_with fail
    refine HC.out.mono ?_
    rintro e w1 ⟨rfl, hb⟩
    go_wp2
    go_ret2
    exact ⟨rfl, Kept.of_below hb⟩
end Go.Proofs.YtkdojdcfakjjfaaDoor
