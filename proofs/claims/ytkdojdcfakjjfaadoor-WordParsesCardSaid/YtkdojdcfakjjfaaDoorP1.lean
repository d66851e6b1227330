/- What digits say: the program's 'value' and 'number', for every text. -/
import Derived.Test.YtkdojdcfakjjfaaDoorT1
namespace Go.Proofs.YtkdojdcfakjjfaaDoor
open Go.RowKit
set_option maxRecDepth 100000

/-- A digit's value; the base where it is none. -/
def valN (c base : Int) : Int := if 48 ≤ c ∧ c ≤ 57 then c - 48 else if 97 ≤ c ∧ c ≤ 102 then c - 87 else base
theorem value_any (w : World) (c base : Int) (_c0 : -2147483648 ≤ c) (_c1 : c ≤ 2147483647) : Calls Tryd.prog 51 #[.int .i32 c, .int .i64 base] w fun e w' => e = .returned (.tuple #[.int .i64 (valN c base), .bool (decide (valN c base < base))]) ∧ w = w' := by
  unfold valN
  by_cases h : 48 ≤ c ∧ c ≤ 57
  · rw [if_pos h]
    obtain ⟨h0, h1⟩ := h
    go_enter Tryd.func51, Tryd.ntmps51
    go_wp2
    go_ret2
    exact ⟨rfl, rfl⟩
  · rw [if_neg h]
    by_cases h' : 97 ≤ c ∧ c ≤ 102
    · rw [if_pos h']
      obtain ⟨h0, h1⟩ := h'
      have e1 : c - 87 = c - 97 + 10 := by omega
      rw [e1]
      clear e1
      go_enter Tryd.func51, Tryd.ntmps51
      go_wp2
      go_ret2
      exact ⟨by simp, rfl⟩
    · rw [if_neg h']
      rcases (by omega : c < 48 ∨ (57 < c ∧ c < 97) ∨ 102 < c) with h1 | ⟨h1, h2⟩ | h1
      all_goals
        go_enter Tryd.func51, Tryd.ntmps51
        go_wp2
        go_ret2
        exact ⟨by simp, rfl⟩

/-- What digits say, byte for byte. -/
def numF (base : Int) : List UInt8 → Int → Option Int
  | [], n => some n
  | b :: t, n => if b.toNat < 128 ∧ valN b.toNat base < base then numF base t (n * base + valN b.toNat base) else none
def numG (base : Int) (s : ByteArray) (most : Nat) : Option Int := if s.size = 0 ∨ most < s.size then none else numF base s.data.toList 0
def okN : Option Int → Value
  | none => .tuple #[.int .i64 0, .bool false]
  | some n => .tuple #[.int .i64 n, .bool true]
theorem valN_lo (c base : Int) (b0 : 0 ≤ base) : 0 ≤ valN c base := by unfold valN; split <;> (try split) <;> omega
theorem numF_bound (base : Int) (b0 : 0 ≤ base) (b1 : base ≤ 16) : ∀ (l : List UInt8) (n m : Int), 0 ≤ n → numF base l n = some m → 0 ≤ m ∧ (∀ k : Nat, n < 16 ^ k → m < 16 ^ (k + l.length))
  | [], n, m, h, e => by
    simp only [numF, Option.some.injEq] at e
    subst e
    exact ⟨h, fun k hk => hk⟩
  | b :: t, n, m, h, e => by
    simp only [numF] at e
    split at e
    · rename_i hc
      have hv := valN_lo b.toNat base b0
      have hm : 0 ≤ n * base := Int.mul_nonneg h b0
      obtain ⟨h1, h2⟩ := numF_bound base b0 b1 t _ m (by omega) e
      refine ⟨h1, fun k hk => ?_⟩
      have := h2 (k + 1) (by
        rw [Int.pow_succ]
        have : n * base ≤ n * 16 := Int.mul_le_mul_of_nonneg_left b1 h
        omega)
      rw [show k + (b :: t).length = k + 1 + t.length by simp; omega]
      exact this
    · cases e
theorem pow_le5 (j : Nat) (h : j ≤ 5) : (16 : Int) ^ j ≤ 1048576 := by
  have hc : j = 0 ∨ j = 1 ∨ j = 2 ∨ j = 3 ∨ j = 4 ∨ j = 5 := by omega
  rcases hc with rfl | rfl | rfl | rfl | rfl | rfl <;> decide

theorem emp (s : ByteArray) : s.toList.isEmpty = decide (s.size = 0) := by
  rw [ByteArray.toList_eq, show s.size = s.data.toList.length from rfl]
  cases s.data.toList <;> rfl
theorem drop_at (s : ByteArray) (j : Nat) (h : j < s.size) : s.data.toList.drop j = s[j] :: s.data.toList.drop (j + 1) := by
  have h' : j < s.data.toList.length := h
  rw [List.drop_eq_getElem_cons h']
  rfl
theorem numF_step (s : ByteArray) (base n : Int) (j : Nat) (h : j < s.size) : numF base (s.data.toList.drop j) n = if (s[j]'h).toNat < 128 ∧ valN (s[j]'h).toNat base < base then numF base (s.data.toList.drop (j + 1)) (n * base + valN (s[j]'h).toNat base) else none := by
  rw [drop_at s j h]
  rfl
theorem step_bound (n base v : Int) (j : Nat) (h0 : 0 ≤ n) (hn : n < 16 ^ j) (b0 : 1 ≤ base) (b1 : base ≤ 16) (v0 : 0 ≤ v) (v1 : v < base) (hj : j < 5) : 0 ≤ n * base ∧ n * base + v < 16 ^ (j + 1) ∧ n * base + v ≤ 1048576 := by
  have h1 := Int.mul_nonneg h0 (show 0 ≤ base by omega)
  have h2 : n * base ≤ (16 ^ j - 1) * base := Int.mul_le_mul_of_nonneg_right (by omega) (by omega)
  have h3 : (16 ^ j - 1) * base ≤ (16 ^ j - 1) * 16 := Int.mul_le_mul_of_nonneg_left b1 (by omega)
  have h4 := pow_le5 (j + 1) (by omega)
  rw [Int.pow_succ] at *
  omega

set_option maxHeartbeats 4000000 in
theorem number_any (w : World) (s : ByteArray) (base : Int) (most : Nat) (b0 : 1 ≤ base) (b1 : base ≤ 16) (hm : most ≤ 5) : Calls Tryd.prog 43 #[.string s, .int .i64 base, .int .i64 most] w fun e w' => e = .returned (okN (numG base s most)) ∧ Kept NoBlk w w' := by
  by_cases hz : s.size = 0
  · have he : s.toList.isEmpty = true := by rw [emp]; exact decide_eq_true hz
    have hg : numG base s most = none := by unfold numG; rw [if_pos (.inl hz)]
    rw [hg]
    unfold okN
    go_enter Tryd.func43, Tryd.ntmps43
    go_wp2
    go_ret2
    exact ⟨rfl, Kept.refl _ _⟩
  · have he : s.toList.isEmpty = false := by rw [emp]; exact decide_eq_false hz
    by_cases hl : most < s.size
    · have hg : numG base s most = none := by unfold numG; rw [if_pos (.inr hl)]
      rw [hg]
      unfold okN
      go_enter Tryd.func43, Tryd.ntmps43
      go_wp2
      go_ret2
      exact ⟨rfl, Kept.refl _ _⟩
    · have hg : numG base s most = numF base s.data.toList 0 := by unfold numG; rw [if_neg (by omega)]
      rw [hg]
      have HG : numF base (s.data.toList.drop 0) 0 = numF base s.data.toList 0 := by rw [List.drop_zero]
      generalize numF base s.data.toList 0 = R at *
      have HG := Lib.hid HG
      clear hg
      go_enter Tryd.func43, Tryd.ntmps43
      go_wp2
      go_loopw [8] (fun nv wr => ∃ (j : Nat) (n : Int), j ≤ s.size ∧ nv = .int .i64 n ∧ Hid (numF base (s.data.toList.drop j) n = R) ∧ 0 ≤ n ∧ n < 16 ^ j ∧ wr = w.iter s j) (fun _ wr => s.size - wr.iterPos w.heap.size)
      case atStart => exact ⟨0, 0, by omega, rfl, HG, by omega, by decide, rfl⟩
      case round =>
        obtain ⟨j, n, hj, rfl, HR, n0, n1, rfl⟩ := hrel
        clear HG
        by_cases hlt : j < s.size
        · have hs := numF_step s base n j hlt
          rw [HR.out] at hs
          by_cases ha : (s[j]'hlt).toNat < 128
          · have hn := fun ty => run_next_ascii (P := Tryd.prog) w s j ty hlt ha
            have HV := Lib.hid (fun w => value_any w (s[j]'hlt).toNat base (by omega) (by omega))
            by_cases hv : valN (s[j]'hlt).toNat base < base
            · rw [if_pos ⟨ha, hv⟩] at hs
              have v0 := valN_lo (s[j]'hlt).toNat base (by omega)
              obtain ⟨p0, p1, p2⟩ := step_bound n base _ j n0 n1 b0 b1 v0 hv (by omega)
              have hd : decide (valN (s[j]'hlt).toNat base < base) = true := decide_eq_true hv
              rw [hd] at HV
              have HS := Lib.hid hs
              clear hs hd
              generalize valN (s[j]'hlt).toNat base = v at *
              have P1 := Lib.hid p1
              clear n1 p1
              generalize (s[j]'hlt).toNat = c at *
              go_wp2_with fail
              refine (HV.out _).mono ?_
              rintro e w1 ⟨rfl, rfl⟩
              go_wp2
              go_roundw
              case rel => exact ⟨j + 1, n * base + v, by omega, rfl, HS.out.symm, by omega, P1.out, rfl⟩
              case measure => simp; omega
            · rw [if_neg (fun h => hv h.2)] at hs
              subst hs
              have hd : decide (valN (s[j]'hlt).toNat base < base) = false := decide_eq_false hv
              rw [hd] at HV
              clear n1 hd
              generalize valN (s[j]'hlt).toNat base = v at *
              generalize (s[j]'hlt).toNat = c at *
              go_wp2_with fail
              refine (HV.out _).mono ?_
              rintro e w1 ⟨rfl, rfl⟩
              go_wp2
              go_ret2
              exact ⟨rfl, (Kept.refl NoBlk w).alloc _⟩
          · rw [if_neg (fun h => ha h.1)] at hs
            subst hs
            have hn := fun ty => run_next_any (P := Tryd.prog) w s j ty hlt
            have hh := (decode_high s j hlt (by omega)).1
            have hle := decode_le s j
            have HV := Lib.hid (fun w => value_any w ((Utf8.decode s j).1 : Int) base (by omega) (by omega))
            have hv : valN ((Utf8.decode s j).1 : Int) base = base := by
              unfold valN
              rw [if_neg (by omega), if_neg (by omega)]
            rw [hv, decide_eq_false (show ¬ base < base by omega)] at HV
            clear n1 hv
            generalize (Utf8.decode s j).1 = c at *
            go_wp2_with fail
            refine (HV.out _).mono ?_
            rintro e w1 ⟨rfl, rfl⟩
            go_wp2
            go_ret2
            exact ⟨rfl, (Kept.refl NoBlk w).alloc _⟩
        · obtain rfl : j = s.size := by omega
          have hr := HR.out
          rw [List.drop_eq_nil_of_le (show s.data.toList.length ≤ s.size from Nat.le_refl _)] at hr
          have hr' : R = some n := hr.symm
          subst hr'
          have hn := fun ty => run_next_end (P := Tryd.prog) w s s.size ty hlt
          clear n1 hr
          go_wp2
          go_ret2
          exact ⟨rfl, (Kept.refl NoBlk w).alloc _⟩
end Go.Proofs.YtkdojdcfakjjfaaDoor
