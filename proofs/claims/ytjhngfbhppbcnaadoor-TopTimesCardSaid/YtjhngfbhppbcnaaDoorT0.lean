/- Words: sums, products, digits, for TopTimes: turned by program out of the texts on words. -/
import Derived.Test.YtjhngfbhppbcnaaDoorBase
import Derived.Test.YtjhngfbhppbcnaaDoorPlan
import Derived.Laws.RangeAny
import Derived.Laws.IdiomStrings
import Derived.Laws.BitsAllLaws
namespace Go.Proofs.YtjhngfbhppbcnaaDoor
open Go.RowKit
set_option maxRecDepth 100000

theorem add_any (w : World) (a b : Int) (ha : 0 ≤ a ∧ a ≤ 65535) (hb : 0 ≤ b ∧ b ≤ 65535) : Calls Tryd.prog 4 #[.int .u16 a, .int .u16 b] w fun e w' => e = .returned (.tuple #[.int .u16 ((a + b) % 65536), .bool (decide ((a + b) % 65536 < a))]) ∧ w = w' := by
  obtain ⟨h0, h1⟩ := ha
  obtain ⟨h2, h3⟩ := hb
  go_enter Tryd.func4, Tryd.ntmps4
  go_wp2
  go_ret2
  exact ⟨by simp [IntKind.wrap_u16], rfl⟩
def nib (n : Int) : Int := if n < 10 then 48 + n else 87 + n
theorem nibble_any (w : World) (n : Int) (h0 : 0 ≤ n) (h1 : n ≤ 15) : Calls Tryd.prog 12 #[.int .u16 n] w fun e w' => e = .returned (.int .u8 (nib n)) ∧ w = w' := by
  unfold nib
  by_cases h : n < 10
  · rw [if_pos h]
    go_enter Tryd.func12, Tryd.ntmps12
    go_wp2
    go_ret
    exact ⟨rfl, rfl⟩
  · rw [if_neg h]
    go_enter Tryd.func12, Tryd.ntmps12
    go_wp2
    go_ret
    exact ⟨rfl, rfl⟩
theorem u16_in (n : Int) (h0 : 0 ≤ n) (h1 : n < 2 ^ 16) : IntKind.u16.wrap n = n := by
  rw [IntKind.wrap_u16]
  omega
theorem and15 (x : Int) (h0 : 0 ≤ x) (h1 : x ≤ 65535) : bits .and .u16 x 15 = x % 16 := by
  have h := bits_mask .u16 16 (by decide) u16_in 4 (by decide) x (by omega) (by omega)
  have e : ((2 : Int) ^ 4 - 1) = 15 := by decide
  have e2 : ((2 : Int) ^ 4) = 16 := by decide
  rw [e, e2] at h
  exact h
theorem conv4 (w : World) (b : Nat) (c0 c1 c2 c3 : Int) (h0 : w.cell? ⟨b, 0, none⟩ = some (.int .u8 c0)) (h1 : w.cell? ⟨b, 1, none⟩ = some (.int .u8 c1)) (h2 : w.cell? ⟨b, 2, none⟩ = some (.int .u8 c2)) (h3 : w.cell? ⟨b, 3, none⟩ = some (.int .u8 c3)) :
    (convert 41 9 (.slice (some ⟨b, 0, none⟩) 4 4)).run Tryd.prog w = .ok (.string ⟨#[UInt8.ofNat c0.toNat, UInt8.ofNat c1.toNat, UInt8.ofNat c2.toNat, UInt8.ofNat c3.toNat]⟩) w := by
  rw [run_convert_bytes_string w 41 9 5 _ 4 4 Tryd.underlying41 Tryd.underlying5 Tryd.underlying9]
  have hl := run_loadCells_list (P := Tryd.prog) w ⟨b, 0, none⟩ [.int .u8 c0, .int .u8 c1, .int .u8 c2, .int .u8 c3] (fun j u hj => by
    match j, hj with
    | 0, hj => simp at hj; subst hj; exact h0
    | 1, hj => simp at hj; subst hj; exact h1
    | 2, hj => simp at hj; subst hj; exact h2
    | 3, hj => simp at hj; subst hj; exact h3)
  exact run_bytesToString w ⟨b, 0, none⟩ 4 4 [c0, c1, c2, c3] hl
def hexOf (a : Int) : ByteArray := ⟨#[UInt8.ofNat (nib (a / 4096 % 16)).toNat, UInt8.ofNat (nib (a / 256 % 16)).toNat, UInt8.ofNat (nib (a / 16 % 16)).toNat, UInt8.ofNat (nib (a % 16)).toNat]⟩
set_option maxHeartbeats 1000000 in
theorem hex_any (w : World) (a : Int) (ha : 0 ≤ a) (hb : a ≤ 65535) : Calls Tryd.prog 7 #[.int .u16 a] w fun e w' => e = .returned (.string (hexOf a)) ∧ Kept NoBlk w w' := by
  have m1 := and15 (a / 4096) (by omega) (by omega)
  have m2 := and15 (a / 256) (by omega) (by omega)
  have m3 := and15 (a / 16) (by omega) (by omega)
  have m4 := and15 a (by omega) (by omega)
  have n1 := fun w => nibble_any w (a / 4096 % 16) (by omega) (by omega)
  have n2 := fun w => nibble_any w (a / 256 % 16) (by omega) (by omega)
  have n3 := fun w => nibble_any w (a / 16 % 16) (by omega) (by omega)
  have n4 := fun w => nibble_any w (a % 16) (by omega) (by omega)
  have N1 := Lib.hid n1
  have N2 := Lib.hid n2
  have N3 := Lib.hid n3
  have N4 := Lib.hid n4
  clear n1 n2 n3 n4
  unfold hexOf
  generalize nib (a / 4096 % 16) = r1 at *
  generalize nib (a / 256 % 16) = r2 at *
  generalize nib (a / 16 % 16) = r3 at *
  generalize nib (a % 16) = r4 at *
  go_enter Tryd.func7, Tryd.ntmps7
  go_wp2
  refine wp_loop_rounds 5 ?_
  rw [rounds_succ]
  go_wp2_with fail
  refine (N1.out _).mono ?_
  rintro e w1 ⟨rfl, rfl⟩
  go_wp2
  rw [rounds_succ]
  go_wp2_with fail
  refine (N2.out _).mono ?_
  rintro e w1 ⟨rfl, rfl⟩
  go_wp2
  rw [rounds_succ]
  go_wp2_with fail
  refine (N3.out _).mono ?_
  rintro e w1 ⟨rfl, rfl⟩
  go_wp2
  rw [rounds_succ]
  go_wp2_with fail
  refine (N4.out _).mono ?_
  rintro e w1 ⟨rfl, rfl⟩
  have hc := (Blk.new w 39 #[.int .u8 r1, .int .u8 r2, .int .u8 r3, .int .u8 r4]).cell
  have hcv := conv4 (w.alloc (.cells #[.int .u8 r1, .int .u8 r2, .int .u8 r3, .int .u8 r4] 39)) w.heap.size r1 r2 r3 r4 (hc 0) (hc 1) (hc 2) (hc 3)
  go_wp2
  rw [rounds_succ]
  go_wp2
  go_ret
  exact ⟨rfl, (Kept.refl NoBlk w).alloc _⟩
def isW (a : Int) : Prop := 0 ≤ a ∧ a ≤ 65535
theorem isW_of {a : Int} (h : (Lit.int .u16 a).wf = true) : isW a := by simpa [isW, Lit.wf, IntKind.min, IntKind.max, IntKind.signed, IntKind.bits] using h
theorem wr (x : Int) : IntKind.u16.wrap x = x % 65536 := IntKind.wrap_u16 x
theorem mul_any (w : World) (a b : Int) (ha : isW a) (hb : isW b) (hp : 0 ≤ a * b ∧ a * b ≤ 4294836225) : Calls Tryd.prog 5 #[.int .u16 a, .int .u16 b] w fun e w' => e = .returned (.tuple #[.int .u16 (a * b / 65536), .int .u16 (a * b % 65536)]) ∧ w = w' := by
  obtain ⟨h0, h1⟩ := ha
  obtain ⟨h2, h3⟩ := hb
  obtain ⟨h4, h5⟩ := hp
  go_enter Tryd.func5, Tryd.ntmps5
  go_wp2
  go_ret2
  exact ⟨by simp [wr], rfl⟩
theorem mul_bounds {a b : Int} (ha : isW a) (hb : isW b) : 0 ≤ a * b ∧ a * b ≤ 4294836225 := by
  obtain ⟨h0, h1⟩ := ha
  obtain ⟨h2, h3⟩ := hb
  refine ⟨Int.mul_nonneg h0 h2, ?_⟩
  have h4 : a * b ≤ 65535 * 65535 := Int.mul_le_mul h1 h3 h2 (by omega)
  omega
def valN (c base : Int) : Int := if 48 ≤ c ∧ c ≤ 57 then c - 48 else if 97 ≤ c ∧ c ≤ 102 then c - 87 else base
theorem value_any (w : World) (c base : Int) (_c0 : -2147483648 ≤ c) (_c1 : c ≤ 2147483647) : Calls Tryd.prog 13 #[.int .i32 c, .int .i64 base] w fun e w' => e = .returned (.tuple #[.int .i64 (valN c base), .bool (decide (valN c base < base))]) ∧ w = w' := by
  unfold valN
  by_cases h : 48 ≤ c ∧ c ≤ 57
  · rw [if_pos h]
    obtain ⟨h0, h1⟩ := h
    go_enter Tryd.func13, Tryd.ntmps13
    go_wp2
    go_ret2
    exact ⟨rfl, rfl⟩
  · rw [if_neg h]
    by_cases h' : 97 ≤ c ∧ c ≤ 102
    · rw [if_pos h']
      obtain ⟨h0, h1⟩ := h'
      have e1 : c - 87 = c - 97 + 10 := by omega
      rw [e1]
      clear e1
      go_enter Tryd.func13, Tryd.ntmps13
      go_wp2
      go_ret2
      exact ⟨by simp, rfl⟩
    · rw [if_neg h']
      rcases (by omega : c < 48 ∨ (57 < c ∧ c < 97) ∨ 102 < c) with h1 | ⟨h1, h2⟩ | h1
      all_goals
        go_enter Tryd.func13, Tryd.ntmps13
        go_wp2
        go_ret2
        exact ⟨by simp, rfl⟩
def numF (base : Int) : List UInt8 → Int → Option Int
  | [], n => some n
  | b :: t, n => if b.toNat < 128 ∧ valN b.toNat base < base then numF base t (n * base + valN b.toNat base) else none
def numG (base : Int) (s : ByteArray) (most : Nat) : Option Int := if s.size = 0 ∨ most < s.size then none else numF base s.data.toList 0
def okN : Option Int → Value
  | none => .tuple #[.int .i64 0, .bool false]
  | some n => .tuple #[.int .i64 n, .bool true]
theorem valN_lo (c base : Int) (b0 : 0 ≤ base) : 0 ≤ valN c base := by unfold valN; split <;> (try split) <;> omega
theorem numF_bound (base : Int) (b0 : 0 ≤ base) (b1 : base ≤ 16) : ∀ (l : List UInt8) (n m : Int), 0 ≤ n → numF base l n = some m → 0 ≤ m ∧ (∀ k : Nat, n < 16 ^ k → m < 16 ^ (k + l.length))
  | [], n, m, h, e => by
    simp only [numF, Option.some.injEq] at e
    subst e
    exact ⟨h, fun k hk => hk⟩
  | b :: t, n, m, h, e => by
    simp only [numF] at e
    split at e
    · rename_i hc
      have hv := valN_lo b.toNat base b0
      have hm : 0 ≤ n * base := Int.mul_nonneg h b0
      obtain ⟨h1, h2⟩ := numF_bound base b0 b1 t _ m (by omega) e
      refine ⟨h1, fun k hk => ?_⟩
      have := h2 (k + 1) (by
        rw [Int.pow_succ]
        have : n * base ≤ n * 16 := Int.mul_le_mul_of_nonneg_left b1 h
        omega)
      rw [show k + (b :: t).length = k + 1 + t.length by simp; omega]
      exact this
    · cases e
theorem pow_le5 (j : Nat) (h : j ≤ 5) : (16 : Int) ^ j ≤ 1048576 := by
  have hc : j = 0 ∨ j = 1 ∨ j = 2 ∨ j = 3 ∨ j = 4 ∨ j = 5 := by omega
  rcases hc with rfl | rfl | rfl | rfl | rfl | rfl <;> decide
theorem emp (s : ByteArray) : s.toList.isEmpty = decide (s.size = 0) := by
  rw [ByteArray.toList_eq, show s.size = s.data.toList.length from rfl]
  cases s.data.toList <;> rfl
theorem drop_at (s : ByteArray) (j : Nat) (h : j < s.size) : s.data.toList.drop j = s[j] :: s.data.toList.drop (j + 1) := by
  have h' : j < s.data.toList.length := h
  rw [List.drop_eq_getElem_cons h']
  rfl
theorem numF_step (s : ByteArray) (base n : Int) (j : Nat) (h : j < s.size) : numF base (s.data.toList.drop j) n = if (s[j]'h).toNat < 128 ∧ valN (s[j]'h).toNat base < base then numF base (s.data.toList.drop (j + 1)) (n * base + valN (s[j]'h).toNat base) else none := by
  rw [drop_at s j h]
  rfl
theorem step_bound (n base v : Int) (j : Nat) (h0 : 0 ≤ n) (hn : n < 16 ^ j) (b0 : 1 ≤ base) (b1 : base ≤ 16) (v0 : 0 ≤ v) (v1 : v < base) (hj : j < 5) : 0 ≤ n * base ∧ n * base + v < 16 ^ (j + 1) ∧ n * base + v ≤ 1048576 := by
  have h1 := Int.mul_nonneg h0 (show 0 ≤ base by omega)
  have h2 : n * base ≤ (16 ^ j - 1) * base := Int.mul_le_mul_of_nonneg_right (by omega) (by omega)
  have h3 : (16 ^ j - 1) * base ≤ (16 ^ j - 1) * 16 := Int.mul_le_mul_of_nonneg_left b1 (by omega)
  have h4 := pow_le5 (j + 1) (by omega)
  rw [Int.pow_succ] at *
  omega
set_option maxHeartbeats 4000000 in
theorem number_any (w : World) (s : ByteArray) (base : Int) (most : Nat) (b0 : 1 ≤ base) (b1 : base ≤ 16) (hm : most ≤ 5) : Calls Tryd.prog 9 #[.string s, .int .i64 base, .int .i64 most] w fun e w' => e = .returned (okN (numG base s most)) ∧ Kept NoBlk w w' := by
  by_cases hz : s.size = 0
  · have he : s.toList.isEmpty = true := by rw [emp]; exact decide_eq_true hz
    have hg : numG base s most = none := by unfold numG; rw [if_pos (.inl hz)]
    rw [hg]
    unfold okN
    go_enter Tryd.func9, Tryd.ntmps9
    go_wp2
    go_ret2
    exact ⟨rfl, Kept.refl _ _⟩
  · have he : s.toList.isEmpty = false := by rw [emp]; exact decide_eq_false hz
    by_cases hl : most < s.size
    · have hg : numG base s most = none := by unfold numG; rw [if_pos (.inr hl)]
      rw [hg]
      unfold okN
      go_enter Tryd.func9, Tryd.ntmps9
      go_wp2
      go_ret2
      exact ⟨rfl, Kept.refl _ _⟩
    · have hg : numG base s most = numF base s.data.toList 0 := by unfold numG; rw [if_neg (by omega)]
      rw [hg]
      have HG : numF base (s.data.toList.drop 0) 0 = numF base s.data.toList 0 := by rw [List.drop_zero]
      generalize numF base s.data.toList 0 = R at *
      have HG := Lib.hid HG
      clear hg
      go_enter Tryd.func9, Tryd.ntmps9
      go_wp2
      go_loopw [8] (fun nv wr => ∃ (j : Nat) (n : Int), j ≤ s.size ∧ nv = .int .i64 n ∧ Hid (numF base (s.data.toList.drop j) n = R) ∧ 0 ≤ n ∧ n < 16 ^ j ∧ wr = w.iter s j) (fun _ wr => s.size - wr.iterPos w.heap.size)
      case atStart => exact ⟨0, 0, by omega, rfl, HG, by omega, by decide, rfl⟩
      case round =>
        obtain ⟨j, n, hj, rfl, HR, n0, n1, rfl⟩ := hrel
        clear HG
        by_cases hlt : j < s.size
        · have hs := numF_step s base n j hlt
          rw [HR.out] at hs
          by_cases ha : (s[j]'hlt).toNat < 128
          · have hn := fun ty => run_next_ascii (P := Tryd.prog) w s j ty hlt ha
            have HV := Lib.hid (fun w => value_any w (s[j]'hlt).toNat base (by omega) (by omega))
            by_cases hv : valN (s[j]'hlt).toNat base < base
            · rw [if_pos ⟨ha, hv⟩] at hs
              have v0 := valN_lo (s[j]'hlt).toNat base (by omega)
              obtain ⟨p0, p1, p2⟩ := step_bound n base _ j n0 n1 b0 b1 v0 hv (by omega)
              have hd : decide (valN (s[j]'hlt).toNat base < base) = true := decide_eq_true hv
              rw [hd] at HV
              have HS := Lib.hid hs
              clear hs hd
              generalize valN (s[j]'hlt).toNat base = v at *
              have P1 := Lib.hid p1
              clear n1 p1
              generalize (s[j]'hlt).toNat = c at *
              go_wp2_with fail
              refine (HV.out _).mono ?_
              rintro e w1 ⟨rfl, rfl⟩
              go_wp2
              go_roundw
              case rel => exact ⟨j + 1, n * base + v, by omega, rfl, HS.out.symm, by omega, P1.out, rfl⟩
              case measure => simp; omega
            · rw [if_neg (fun h => hv h.2)] at hs
              subst hs
              have hd : decide (valN (s[j]'hlt).toNat base < base) = false := decide_eq_false hv
              rw [hd] at HV
              clear n1 hd
              generalize valN (s[j]'hlt).toNat base = v at *
              generalize (s[j]'hlt).toNat = c at *
              go_wp2_with fail
              refine (HV.out _).mono ?_
              rintro e w1 ⟨rfl, rfl⟩
              go_wp2
              go_ret2
              exact ⟨rfl, (Kept.refl NoBlk w).alloc _⟩
          · rw [if_neg (fun h => ha h.1)] at hs
            subst hs
            have hn := fun ty => run_next_any (P := Tryd.prog) w s j ty hlt
            have hh := (decode_high s j hlt (by omega)).1
            have hle := decode_le s j
            have HV := Lib.hid (fun w => value_any w ((Utf8.decode s j).1 : Int) base (by omega) (by omega))
            have hv : valN ((Utf8.decode s j).1 : Int) base = base := by
              unfold valN
              rw [if_neg (by omega), if_neg (by omega)]
            rw [hv, decide_eq_false (show ¬ base < base by omega)] at HV
            clear n1 hv
            generalize (Utf8.decode s j).1 = c at *
            go_wp2_with fail
            refine (HV.out _).mono ?_
            rintro e w1 ⟨rfl, rfl⟩
            go_wp2
            go_ret2
            exact ⟨rfl, (Kept.refl NoBlk w).alloc _⟩
        · obtain rfl : j = s.size := by omega
          have hr := HR.out
          rw [List.drop_eq_nil_of_le (show s.data.toList.length ≤ s.size from Nat.le_refl _)] at hr
          have hr' : R = some n := hr.symm
          subst hr'
          have hn := fun ty => run_next_end (P := Tryd.prog) w s s.size ty hlt
          clear n1 hr
          go_wp2
          go_ret2
          exact ⟨rfl, (Kept.refl NoBlk w).alloc _⟩
theorem numG_bound (base : Int) (s : ByteArray) (most : Nat) (n : Int) (b0 : 0 ≤ base) (b1 : base ≤ 16) (hm : most ≤ 5) (h : numG base s most = some n) : 0 ≤ n ∧ n ≤ 1048575 ∧ 1 ≤ s.size ∧ s.size ≤ most := by
  unfold numG at h
  split at h
  · cases h
  · rename_i hc
    obtain ⟨h1, h2⟩ := numF_bound base b0 b1 s.data.toList 0 n (Int.le_refl _) h
    have h3 := h2 0 (by decide)
    have h4 : s.data.toList.length = s.size := rfl
    have h5 := pow_le5 (0 + s.data.toList.length) (by omega)
    omega
theorem numG_four (s : ByteArray) (n : Int) (h : numG 16 s 4 = some n) : n ≤ 65535 := by
  unfold numG at h
  split at h
  · cases h
  · obtain ⟨h1, h2⟩ := numF_bound 16 (by decide) (by decide) s.data.toList 0 n (Int.le_refl _) h
    have h3 := h2 0 (by decide)
    have h4 : s.data.toList.length = s.size := rfl
    have hc : 0 + s.data.toList.length = 0 ∨ 0 + s.data.toList.length = 1 ∨ 0 + s.data.toList.length = 2 ∨ 0 + s.data.toList.length = 3 ∨ 0 + s.data.toList.length = 4 := by omega
    rcases hc with e | e | e | e | e <;> rw [e] at h3 <;> omega
def b0 (s : ByteArray) : Int := (s.data.toList.getD 0 0).toNat
theorem index0 (w : World) (s : ByteArray) (h : 0 < s.size) : (Instr.index 9 (.string s) (.int .i64 0)).run Tryd.prog w = .ok (.int .u8 (b0 s)) w := by
  rw [run_index_string (P := Tryd.prog) w 9 s .i64 0 Tryd.underlying9, dif_pos (by omega)]
  unfold b0
  have h' : 0 < s.data.toList.length := h
  rw [List.getD, List.getElem?_eq_getElem h']
  rfl
theorem slice1 (w : World) (s : ByteArray) (h : 1 ≤ s.size) : (Instr.slice 9 (.string s) (some (.int .i64 1)) none none).run Tryd.prog w = .ok (.string (s.extract 1 s.size)) w :=
  run_slice_string_l (P := Tryd.prog) w 9 s Tryd.underlying9 .i64 1 (by omega) (by omega)
end Go.Proofs.YtjhngfbhppbcnaaDoor
