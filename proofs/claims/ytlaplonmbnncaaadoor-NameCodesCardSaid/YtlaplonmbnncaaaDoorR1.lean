/- Rights: what letters say, program and reference. -/
import Derived.Test.YtlaplonmbnncaaaDoorR0
namespace Go.Proofs.YtlaplonmbnncaaaDoor
open Go.RowKit Go.Shelf
set_option maxRecDepth 100000

theorem letterN_idx (k : Nat) (h : k < 5) : idxL (letterN k).toNat = k := by
  rcases (by omega : k = 0 ∨ k = 1 ∨ k = 2 ∨ k = 3 ∨ k = 4) with rfl | rfl | rfl | rfl | rfl <;> rfl
theorem idx_letter (c : Nat) (h : idxL c < 5) : (letterN (idxL c)).toNat = c := by
  unfold idxL at h ⊢
  by_cases h1 : c = 114
  · rw [if_pos h1, h1]; rfl
  rw [if_neg h1] at h ⊢
  by_cases h2 : c = 119
  · rw [if_pos h2, h2]; rfl
  rw [if_neg h2] at h ⊢
  by_cases h3 : c = 120
  · rw [if_pos h3, h3]; rfl
  rw [if_neg h3] at h ⊢
  by_cases h4 : c = 103
  · rw [if_pos h4, h4]; rfl
  rw [if_neg h4] at h ⊢
  by_cases h5 : c = 100
  · rw [if_pos h5, h5]; rfl
  rw [if_neg h5] at h
  omega
/-- Where the search for a rune ends: at its letter, or behind the last one. -/
def seekL (c j : Nat) : Nat := if j ≤ idxL c ∧ idxL c < 5 then idxL c else 5
theorem seek_ne (c j i : Nat) (h1 : j ≤ i) (h2 : i < seekL c j) : ¬ ((letterN i).toNat : Int) = (c : Int) := by
  intro e
  have e' : (letterN i).toNat = c := by omega
  have hi : i < 5 := by
    unfold seekL at h2
    split at h2 <;> omega
  have := letterN_idx i hi
  rw [e'] at this
  unfold seekL at h2
  rw [if_pos ⟨by omega, by omega⟩] at h2
  omega
set_option maxHeartbeats 8000000 in
theorem readRights_any (w : World) (s : ByteArray) : Calls Tryd.prog 57 #[.string s] w fun e w' => e = .returned (.tuple #[.int .u8 (readP s).1, .int .i64 (readP s).2]) ∧ Kept NoBlk w w' := by
  obtain ⟨V, hV⟩ : ∃ V, readP s = V := ⟨_, rfl⟩
  rw [hV]
  unfold readP readO at hV
  by_cases h45 : s.data.toList = [45]
  · rw [if_pos h45] at hV
    subst hV
    have hq : (s.toList == [45]) = true := by rw [ByteArray.toList_eq]; exact beq_iff_eq.2 h45
    go_enter Tryd.func57, Tryd.ntmps57
    go_wp2
    go_ret2
    exact ⟨rfl, Kept.refl _ _⟩
  rw [if_neg h45] at hV
  have hq : (s.toList == [45]) = false := by rw [ByteArray.toList_eq]; exact beq_eq_false_iff_ne.2 h45
  have HG : Hid (scanL (s.data.toList.drop 0) 0 0 = scanL s.data.toList 0 0) := Lib.hid (by rw [List.drop_zero])
  generalize scanL s.data.toList 0 0 = R at *
  have HV := Lib.hid hV.symm
  clear hV h45
  go_enter Tryd.func57, Tryd.ntmps57
  go_wp2
  go_loopw [4, 5] (fun rv nv wr => ∃ (pos j r : Nat), pos ≤ s.size ∧ j ≤ 5 ∧ rv = .int .u8 (r : Int) ∧ nv = .int .u8 ((2 ^ j : Nat) : Int) ∧ r < 2 ^ j ∧ scanL (s.data.toList.drop pos) j r = R ∧ wr = w.iter s pos) (fun _ _ wr => s.size - wr.iterPos w.heap.size)
  case atStart => exact ⟨0, 0, 0, by omega, by omega, rfl, rfl, by decide, HG.out, rfl⟩
  case round =>
    clear HG
    obtain ⟨pos, j, r, hp, hj, rfl, rfl, hrj, HR, rfl⟩ := hrel
    by_cases hlt : pos < s.size
    · have hlt' : pos < s.data.toList.length := hlt
      have hs := HR
      rw [scanL_step _ pos j r hlt'] at hs
      by_cases ha : (s[pos]'hlt).toNat < 128
      · have hn := fun ty => run_next_ascii (P := Tryd.prog) w s pos ty hlt ha
        have hcc : (s.data.toList[pos]'hlt').toNat = (s[pos]'hlt).toNat := rfl
        rw [hcc] at hs
        clear hcc
        have HN := Lib.hid (seek_ne (s[pos]'hlt).toNat j)
        by_cases hc : j ≤ idxL (s[pos]'hlt).toNat ∧ idxL (s[pos]'hlt).toNat < 5
        · rw [if_pos hc] at hs
          have hsk : seekL (s[pos]'hlt).toNat j = idxL (s[pos]'hlt).toNat := by unfold seekL; rw [if_pos hc]
          have HH := Lib.hid (idx_letter (s[pos]'hlt).toNat hc.2)
          rw [hsk] at HN
          obtain ⟨hjk, hk5⟩ := hc
          have HS := Lib.hid hs
          clear hs HR hsk ha
          generalize idxL (s[pos]'hlt).toNat = k at *
          have HH : Hid (((letterN k).toNat : Int) = ((s[pos]'hlt).toNat : Int)) := Lib.hid (by have := HH.out; omega)
          generalize ((s[pos]'hlt).toNat : Int) = c at *
          generalize hpk : ((2 ^ j : Nat) : Int) = pj at *
          go_wp2
          go_loopw [5] (fun nv wr => ∃ i : Nat, j ≤ i ∧ i ≤ k ∧ nv = .int .u8 ((2 ^ i : Nat) : Int) ∧ wr = w.iter s (pos + 1)) (fun nv _ => 64 - (intOf nv).toNat)
          case atStart => exact ⟨j, Nat.le_refl _, hjk, by rw [← hpk], rfl⟩
          case round =>
            obtain ⟨i, hi1, hi2, rfl, rfl⟩ := hrel
            by_cases hik : i < k
            · have hne := HN.out i hi1 hik
              rcases (by omega : i = 0 ∨ i = 1 ∨ i = 2 ∨ i = 3 ∨ i = 4) with rfl | rfl | rfl | rfl | rfl
              · have hp : ((2 ^ 0 : Nat) : Int) = 1 := rfl
                rw [hp]
                have hc : ((114 : Int) != c) = true := bne_iff_ne.2 (fun e => hne (by rw [← e]; rfl))
                clear hne
                go_wp2_with fail
                refine (letterOf_0 _).mono ?_
                rintro e w1 ⟨rfl, rfl⟩
                go_wp2
                go_roundw
                case rel => exact ⟨1, by omega, by omega, rfl, trivial⟩
                case measure => simp [intOf]
              · have hp : ((2 ^ 1 : Nat) : Int) = 2 := rfl
                rw [hp]
                have hc : ((119 : Int) != c) = true := bne_iff_ne.2 (fun e => hne (by rw [← e]; rfl))
                clear hne
                go_wp2_with fail
                refine (letterOf_1 _).mono ?_
                rintro e w1 ⟨rfl, rfl⟩
                go_wp2
                go_roundw
                case rel => exact ⟨2, by omega, by omega, rfl, trivial⟩
                case measure => simp [intOf]
              · have hp : ((2 ^ 2 : Nat) : Int) = 4 := rfl
                rw [hp]
                have hc : ((120 : Int) != c) = true := bne_iff_ne.2 (fun e => hne (by rw [← e]; rfl))
                clear hne
                go_wp2_with fail
                refine (letterOf_2 _).mono ?_
                rintro e w1 ⟨rfl, rfl⟩
                go_wp2
                go_roundw
                case rel => exact ⟨3, by omega, by omega, rfl, trivial⟩
                case measure => simp [intOf]
              · have hp : ((2 ^ 3 : Nat) : Int) = 8 := rfl
                rw [hp]
                have hc : ((103 : Int) != c) = true := bne_iff_ne.2 (fun e => hne (by rw [← e]; rfl))
                clear hne
                go_wp2_with fail
                refine (letterOf_3 _).mono ?_
                rintro e w1 ⟨rfl, rfl⟩
                go_wp2
                go_roundw
                case rel => exact ⟨4, by omega, by omega, rfl, trivial⟩
                case measure => simp [intOf]
              · have hp : ((2 ^ 4 : Nat) : Int) = 16 := rfl
                rw [hp]
                have hc : ((100 : Int) != c) = true := bne_iff_ne.2 (fun e => hne (by rw [← e]; rfl))
                clear hne
                go_wp2_with fail
                refine (letterOf_4 _).mono ?_
                rintro e w1 ⟨rfl, rfl⟩
                go_wp2
                go_roundw
                case rel => exact ⟨5, by omega, by omega, rfl, trivial⟩
                case measure => simp [intOf]
            · obtain rfl : i = k := by omega
              have hk := HH.out
              rcases (by omega : i = 0 ∨ i = 1 ∨ i = 2 ∨ i = 3 ∨ i = 4) with rfl | rfl | rfl | rfl | rfl
              · have hp : ((2 ^ 0 : Nat) : Int) = 1 := rfl
                rw [hp]
                have hc : ((114 : Int) != c) = false := by rw [← hk]; rfl
                have hor : bits .or .u8 (r : Int) 1 = ((r + 1 : Nat) : Int) := or_nat 0 r (by omega) (Nat.lt_of_lt_of_le hrj (Nat.pow_le_pow_right (by decide) hi1))
                have hr2 : Hid (r + 1 < 2 ^ 1) := Lib.hid (by have := Nat.lt_of_lt_of_le hrj (Nat.pow_le_pow_right (by decide) hi1); omega)
                clear hk
                go_wp2_with fail
                refine (letterOf_0 _).mono ?_
                rintro e w1 ⟨rfl, rfl⟩
                go_wp2
                go_roundw
                case rel => exact ⟨pos + 1, 1, r + 1, by omega, by omega, rfl, rfl, hr2.out, HS.out, rfl⟩
                case measure => simp; omega
              · have hp : ((2 ^ 1 : Nat) : Int) = 2 := rfl
                rw [hp]
                have hc : ((119 : Int) != c) = false := by rw [← hk]; rfl
                have hor : bits .or .u8 (r : Int) 2 = ((r + 2 : Nat) : Int) := or_nat 1 r (by omega) (Nat.lt_of_lt_of_le hrj (Nat.pow_le_pow_right (by decide) hi1))
                have hr2 : Hid (r + 2 < 2 ^ 2) := Lib.hid (by have := Nat.lt_of_lt_of_le hrj (Nat.pow_le_pow_right (by decide) hi1); omega)
                clear hk
                go_wp2_with fail
                refine (letterOf_1 _).mono ?_
                rintro e w1 ⟨rfl, rfl⟩
                go_wp2
                go_roundw
                case rel => exact ⟨pos + 1, 2, r + 2, by omega, by omega, rfl, rfl, hr2.out, HS.out, rfl⟩
                case measure => simp; omega
              · have hp : ((2 ^ 2 : Nat) : Int) = 4 := rfl
                rw [hp]
                have hc : ((120 : Int) != c) = false := by rw [← hk]; rfl
                have hor : bits .or .u8 (r : Int) 4 = ((r + 4 : Nat) : Int) := or_nat 2 r (by omega) (Nat.lt_of_lt_of_le hrj (Nat.pow_le_pow_right (by decide) hi1))
                have hr2 : Hid (r + 4 < 2 ^ 3) := Lib.hid (by have := Nat.lt_of_lt_of_le hrj (Nat.pow_le_pow_right (by decide) hi1); omega)
                clear hk
                go_wp2_with fail
                refine (letterOf_2 _).mono ?_
                rintro e w1 ⟨rfl, rfl⟩
                go_wp2
                go_roundw
                case rel => exact ⟨pos + 1, 3, r + 4, by omega, by omega, rfl, rfl, hr2.out, HS.out, rfl⟩
                case measure => simp; omega
              · have hp : ((2 ^ 3 : Nat) : Int) = 8 := rfl
                rw [hp]
                have hc : ((103 : Int) != c) = false := by rw [← hk]; rfl
                have hor : bits .or .u8 (r : Int) 8 = ((r + 8 : Nat) : Int) := or_nat 3 r (by omega) (Nat.lt_of_lt_of_le hrj (Nat.pow_le_pow_right (by decide) hi1))
                have hr2 : Hid (r + 8 < 2 ^ 4) := Lib.hid (by have := Nat.lt_of_lt_of_le hrj (Nat.pow_le_pow_right (by decide) hi1); omega)
                clear hk
                go_wp2_with fail
                refine (letterOf_3 _).mono ?_
                rintro e w1 ⟨rfl, rfl⟩
                go_wp2
                go_roundw
                case rel => exact ⟨pos + 1, 4, r + 8, by omega, by omega, rfl, rfl, hr2.out, HS.out, rfl⟩
                case measure => simp; omega
              · have hp : ((2 ^ 4 : Nat) : Int) = 16 := rfl
                rw [hp]
                have hc : ((100 : Int) != c) = false := by rw [← hk]; rfl
                have hor : bits .or .u8 (r : Int) 16 = ((r + 16 : Nat) : Int) := or_nat 4 r (by omega) (Nat.lt_of_lt_of_le hrj (Nat.pow_le_pow_right (by decide) hi1))
                have hr2 : Hid (r + 16 < 2 ^ 5) := Lib.hid (by have := Nat.lt_of_lt_of_le hrj (Nat.pow_le_pow_right (by decide) hi1); omega)
                clear hk
                go_wp2_with fail
                refine (letterOf_4 _).mono ?_
                rintro e w1 ⟨rfl, rfl⟩
                go_wp2
                go_roundw
                case rel => exact ⟨pos + 1, 5, r + 16, by omega, by omega, rfl, rfl, hr2.out, HS.out, rfl⟩
                case measure => simp; omega
        · rw [if_neg hc] at hs
          subst hs
          have hsk : seekL (s[pos]'hlt).toNat j = 5 := by unfold seekL; rw [if_neg hc]
          obtain ⟨k, hk⟩ : ∃ k, k = 5 := ⟨5, rfl⟩
          rw [hsk, ← hk] at HN
          have hjk : j ≤ k := by omega
          have HH := Lib.hid hk
          have hk5 : k ≤ 5 := by omega
          clear HR hsk ha hc hk
          generalize ((s[pos]'hlt).toNat : Int) = c at *
          generalize hpk : ((2 ^ j : Nat) : Int) = pj at *
          go_wp2
          go_loopw [5] (fun nv wr => ∃ i : Nat, j ≤ i ∧ i ≤ k ∧ nv = .int .u8 ((2 ^ i : Nat) : Int) ∧ wr = w.iter s (pos + 1)) (fun nv _ => 64 - (intOf nv).toNat)
          case atStart => exact ⟨j, Nat.le_refl _, hjk, by rw [← hpk], rfl⟩
          case round =>
            obtain ⟨i, hi1, hi2, rfl, rfl⟩ := hrel
            by_cases hik : i < k
            · have hne := HN.out i hi1 hik
              rcases (by omega : i = 0 ∨ i = 1 ∨ i = 2 ∨ i = 3 ∨ i = 4) with rfl | rfl | rfl | rfl | rfl
              · have hp : ((2 ^ 0 : Nat) : Int) = 1 := rfl
                rw [hp]
                have hc : ((114 : Int) != c) = true := bne_iff_ne.2 (fun e => hne (by rw [← e]; rfl))
                clear hne
                go_wp2_with fail
                refine (letterOf_0 _).mono ?_
                rintro e w1 ⟨rfl, rfl⟩
                go_wp2
                go_roundw
                case rel => exact ⟨1, by omega, by omega, rfl, trivial⟩
                case measure => simp [intOf]
              · have hp : ((2 ^ 1 : Nat) : Int) = 2 := rfl
                rw [hp]
                have hc : ((119 : Int) != c) = true := bne_iff_ne.2 (fun e => hne (by rw [← e]; rfl))
                clear hne
                go_wp2_with fail
                refine (letterOf_1 _).mono ?_
                rintro e w1 ⟨rfl, rfl⟩
                go_wp2
                go_roundw
                case rel => exact ⟨2, by omega, by omega, rfl, trivial⟩
                case measure => simp [intOf]
              · have hp : ((2 ^ 2 : Nat) : Int) = 4 := rfl
                rw [hp]
                have hc : ((120 : Int) != c) = true := bne_iff_ne.2 (fun e => hne (by rw [← e]; rfl))
                clear hne
                go_wp2_with fail
                refine (letterOf_2 _).mono ?_
                rintro e w1 ⟨rfl, rfl⟩
                go_wp2
                go_roundw
                case rel => exact ⟨3, by omega, by omega, rfl, trivial⟩
                case measure => simp [intOf]
              · have hp : ((2 ^ 3 : Nat) : Int) = 8 := rfl
                rw [hp]
                have hc : ((103 : Int) != c) = true := bne_iff_ne.2 (fun e => hne (by rw [← e]; rfl))
                clear hne
                go_wp2_with fail
                refine (letterOf_3 _).mono ?_
                rintro e w1 ⟨rfl, rfl⟩
                go_wp2
                go_roundw
                case rel => exact ⟨4, by omega, by omega, rfl, trivial⟩
                case measure => simp [intOf]
              · have hp : ((2 ^ 4 : Nat) : Int) = 16 := rfl
                rw [hp]
                have hc : ((100 : Int) != c) = true := bne_iff_ne.2 (fun e => hne (by rw [← e]; rfl))
                clear hne
                go_wp2_with fail
                refine (letterOf_4 _).mono ?_
                rintro e w1 ⟨rfl, rfl⟩
                go_wp2
                go_roundw
                case rel => exact ⟨5, by omega, by omega, rfl, trivial⟩
                case measure => simp [intOf]
            · obtain rfl : i = k := by omega
              have hk := HH.out
              obtain rfl : i = 5 := hk
              have hp : ((2 ^ 5 : Nat) : Int) = 32 := rfl
              rw [hp]
              go_wp2
              go_ret2
              exact ⟨by rw [HV.out]; rfl, (Kept.refl NoBlk w).alloc _⟩
      · have hh := (decode_high s pos hlt (by omega)).1
        have hb5 : idxL (s.data.toList[pos]'hlt').toNat = 5 := by
          have hcc : (s.data.toList[pos]'hlt').toNat = (s[pos]'hlt).toNat := rfl
          rw [hcc]
          unfold idxL
          rw [if_neg (by omega), if_neg (by omega), if_neg (by omega), if_neg (by omega), if_neg (by omega)]
        rw [hb5, if_neg (by omega)] at hs
        subst hs
        have hd5 : idxL (Utf8.decode s pos).1 = 5 := by
          unfold idxL
          rw [if_neg (by omega), if_neg (by omega), if_neg (by omega), if_neg (by omega), if_neg (by omega)]
        have HN := Lib.hid (seek_ne (Utf8.decode s pos).1 j)
        have hsk : seekL (Utf8.decode s pos).1 j = 5 := by unfold seekL; rw [hd5, if_neg (by omega)]
        obtain ⟨k, hk⟩ : ∃ k, k = 5 := ⟨5, rfl⟩
        rw [hsk, ← hk] at HN
        have hjk : j ≤ k := by omega
        have HH := Lib.hid hk
        have hk5 : k ≤ 5 := by omega
        have hn := fun ty => run_next_any (P := Tryd.prog) w s pos ty hlt
        clear HR hsk ha hk hd5 hb5 hh
        generalize ((Utf8.decode s pos).1 : Int) = c at *
        generalize hpz : pos + (Utf8.decode s pos).2 = z at *
        generalize hpk : ((2 ^ j : Nat) : Int) = pj at *
        go_wp2
        go_loopw [5] (fun nv wr => ∃ i : Nat, j ≤ i ∧ i ≤ k ∧ nv = .int .u8 ((2 ^ i : Nat) : Int) ∧ wr = w.iter s z) (fun nv _ => 64 - (intOf nv).toNat)
        case atStart => exact ⟨j, Nat.le_refl _, hjk, by rw [← hpk], rfl⟩
        case round =>
          obtain ⟨i, hi1, hi2, rfl, rfl⟩ := hrel
          by_cases hik : i < k
          · have hne := HN.out i hi1 hik
            rcases (by omega : i = 0 ∨ i = 1 ∨ i = 2 ∨ i = 3 ∨ i = 4) with rfl | rfl | rfl | rfl | rfl
            · have hp : ((2 ^ 0 : Nat) : Int) = 1 := rfl
              rw [hp]
              have hc : ((114 : Int) != c) = true := bne_iff_ne.2 (fun e => hne (by rw [← e]; rfl))
              clear hne
              go_wp2_with fail
              refine (letterOf_0 _).mono ?_
              rintro e w1 ⟨rfl, rfl⟩
              go_wp2
              go_roundw
              case rel => exact ⟨1, by omega, by omega, rfl, trivial⟩
              case measure => simp [intOf]
            · have hp : ((2 ^ 1 : Nat) : Int) = 2 := rfl
              rw [hp]
              have hc : ((119 : Int) != c) = true := bne_iff_ne.2 (fun e => hne (by rw [← e]; rfl))
              clear hne
              go_wp2_with fail
              refine (letterOf_1 _).mono ?_
              rintro e w1 ⟨rfl, rfl⟩
              go_wp2
              go_roundw
              case rel => exact ⟨2, by omega, by omega, rfl, trivial⟩
              case measure => simp [intOf]
            · have hp : ((2 ^ 2 : Nat) : Int) = 4 := rfl
              rw [hp]
              have hc : ((120 : Int) != c) = true := bne_iff_ne.2 (fun e => hne (by rw [← e]; rfl))
              clear hne
              go_wp2_with fail
              refine (letterOf_2 _).mono ?_
              rintro e w1 ⟨rfl, rfl⟩
              go_wp2
              go_roundw
              case rel => exact ⟨3, by omega, by omega, rfl, trivial⟩
              case measure => simp [intOf]
            · have hp : ((2 ^ 3 : Nat) : Int) = 8 := rfl
              rw [hp]
              have hc : ((103 : Int) != c) = true := bne_iff_ne.2 (fun e => hne (by rw [← e]; rfl))
              clear hne
              go_wp2_with fail
              refine (letterOf_3 _).mono ?_
              rintro e w1 ⟨rfl, rfl⟩
              go_wp2
              go_roundw
              case rel => exact ⟨4, by omega, by omega, rfl, trivial⟩
              case measure => simp [intOf]
            · have hp : ((2 ^ 4 : Nat) : Int) = 16 := rfl
              rw [hp]
              have hc : ((100 : Int) != c) = true := bne_iff_ne.2 (fun e => hne (by rw [← e]; rfl))
              clear hne
              go_wp2_with fail
              refine (letterOf_4 _).mono ?_
              rintro e w1 ⟨rfl, rfl⟩
              go_wp2
              go_roundw
              case rel => exact ⟨5, by omega, by omega, rfl, trivial⟩
              case measure => simp [intOf]
          · obtain rfl : i = k := by omega
            have hk := HH.out
            obtain rfl : i = 5 := hk
            have hp : ((2 ^ 5 : Nat) : Int) = 32 := rfl
            rw [hp]
            go_wp2
            go_ret2
            exact ⟨by rw [HV.out]; rfl, (Kept.refl NoBlk w).alloc _⟩
    · obtain rfl : pos = s.size := by omega
      rw [List.drop_eq_nil_of_le (show s.data.toList.length ≤ s.size from Nat.le_refl _)] at HR
      have hn := fun ty => run_next_end (P := Tryd.prog) w s s.size ty hlt
      unfold scanL at HR
      generalize hpk : ((2 ^ j : Nat) : Int) = pj at *
      by_cases hr0 : r = 0
      · rw [if_pos hr0] at HR
        subst HR
        subst hr0
        go_wp2
        go_ret2
        exact ⟨by rw [HV.out]; rfl, (Kept.refl NoBlk w).alloc _⟩
      · rw [if_neg hr0] at HR
        subst HR
        have hr0' : ((r : Int) == 0) = false := beq_eq_false_iff_ne.2 (by omega)
        clear hr0
        go_wp2
        go_ret2
        exact ⟨by rw [HV.out]; rfl, (Kept.refl NoBlk w).alloc _⟩
end Go.Proofs.YtlaplonmbnncaaaDoor
