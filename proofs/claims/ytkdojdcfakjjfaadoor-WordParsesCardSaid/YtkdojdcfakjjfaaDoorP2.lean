/- What a text says: the program's 'decimal', for every text. -/
import Derived.Test.YtkdojdcfakjjfaaDoorP1
namespace Go.Proofs.YtkdojdcfakjjfaaDoor
open Go.RowKit
set_option maxRecDepth 100000

def okW : Option Int → Value
  | none => .tuple #[.int .u16 0, .bool false]
  | some n => .tuple #[.int .u16 n, .bool true]
def fromO (n : Int) : Option Int := if n < -32768 ∨ 65535 < n then none else some (n % 65536)
theorem fromO_any (w : World) (n : Int) : Calls Tryd.prog 10 #[.int .i64 n] w fun e w' => e = .returned (okW (fromO n)) ∧ w = w' := by
  unfold fromO
  split
  · rename_i h
    exact from_out w n h
  · exact from_in w n (by omega) (by omega)
theorem rfromO_any (w : World) (n : Int) : Calls Tryd.prog 17 #[.int .i64 n] w fun e w' => e = .returned (okW (fromO n)) ∧ w = w' := by
  unfold fromO
  split
  · rename_i h
    exact rfrom_out w n h
  · exact rfrom_in w n (by omega) (by omega)
theorem numG_bound (base : Int) (s : ByteArray) (most : Nat) (n : Int) (b0 : 0 ≤ base) (b1 : base ≤ 16) (hm : most ≤ 5) (h : numG base s most = some n) : 0 ≤ n ∧ n ≤ 1048575 ∧ 1 ≤ s.size ∧ s.size ≤ most := by
  unfold numG at h
  split at h
  · cases h
  · rename_i hc
    obtain ⟨h1, h2⟩ := numF_bound base b0 b1 s.data.toList 0 n (Int.le_refl _) h
    have h3 := h2 0 (by decide)
    have h4 : s.data.toList.length = s.size := rfl
    have h5 := pow_le5 (0 + s.data.toList.length) (by omega)
    omega
theorem numG_four (s : ByteArray) (n : Int) (h : numG 16 s 4 = some n) : n ≤ 65535 := by
  unfold numG at h
  split at h
  · cases h
  · obtain ⟨h1, h2⟩ := numF_bound 16 (by decide) (by decide) s.data.toList 0 n (Int.le_refl _) h
    have h3 := h2 0 (by decide)
    have h4 : s.data.toList.length = s.size := rfl
    have hc : 0 + s.data.toList.length = 0 ∨ 0 + s.data.toList.length = 1 ∨ 0 + s.data.toList.length = 2 ∨ 0 + s.data.toList.length = 3 ∨ 0 + s.data.toList.length = 4 := by omega
    rcases hc with e | e | e | e | e <;> rw [e] at h3 <;> omega
/-- A text's first byte, if it has one. -/
def b0 (s : ByteArray) : Int := (s.data.toList.getD 0 0).toNat
theorem index0 (w : World) (s : ByteArray) (h : 0 < s.size) : (Instr.index 9 (.string s) (.int .i64 0)).run Tryd.prog w = .ok (.int .u8 (b0 s)) w := by
  rw [run_index_string (P := Tryd.prog) w 9 s .i64 0 Tryd.underlying9, dif_pos (by omega)]
  unfold b0
  have h' : 0 < s.data.toList.length := h
  rw [List.getD, List.getElem?_eq_getElem h']
  rfl
theorem slice1 (w : World) (s : ByteArray) (h : 1 ≤ s.size) : (Instr.slice 9 (.string s) (some (.int .i64 1)) none none).run Tryd.prog w = .ok (.string (s.extract 1 s.size)) w :=
  run_slice_string_l (P := Tryd.prog) w 9 s Tryd.underlying9 .i64 1 (by omega) (by omega)
/-- What digits behind a sign say. -/
def minO (s : ByteArray) : Option Int := match numG 10 (s.extract 1 s.size) 5 with
  | none => none
  | some n => if b0 (s.extract 1 s.size) = 48 then none else fromO (-n)
def plusO (s : ByteArray) : Option Int := match numG 10 s 5 with
  | none => none
  | some n => if b0 s = 48 ∧ s.data.toList ≠ [48] then none else fromO n
theorem zero_no (s : ByteArray) (h : s.data.toList ≠ [48]) : (s.toList == [48]) = false := by
  rw [ByteArray.toList_eq]
  exact beq_eq_false_iff_ne.2 h
theorem zero_yes (s : ByteArray) (h : s.data.toList = [48]) : (s.toList == [48]) = true := by
  rw [ByteArray.toList_eq]
  exact beq_iff_eq.2 h
theorem b0_no (s : ByteArray) (b : Int) (hb : b0 s = b) (h : b ≠ 48) : s.data.toList ≠ [48] := by
  intro e
  unfold b0 at hb
  rw [e] at hb
  exact h hb.symm
set_option maxHeartbeats 2000000 in
theorem decimal_min (w : World) (s : ByteArray) (h : 0 < s.size) (hb : b0 s = 45) : Calls Tryd.prog 45 #[.string s] w fun e w' => e = .returned (okW (minO s)) ∧ Kept NoBlk w w' := by
  have hi := fun w => index0 w s h
  rw [hb] at hi
  have hsl := fun w => slice1 w s h
  have hlt : (s.extract 1 s.size).size < s.size := by rw [ByteArray.size_extract]; omega
  have HN := Lib.hid (fun w => number_any w (s.extract 1 s.size) 10 5 (by decide) (by decide) (by decide))
  unfold minO
  generalize s.extract 1 s.size = t at *
  cases hn : numG 10 t 5 with
  | none =>
    rw [hn] at HN
    unfold okN at HN
    unfold okW
    clear hn
    go_enter Tryd.func45, Tryd.ntmps45
    go_wp2_with fail
    refine (HN.out _).mono ?_
    rintro e w1 ⟨rfl, hK⟩
    go_wp2
    go_ret2
    exact ⟨rfl, hK⟩
  | some n =>
    rw [hn] at HN
    obtain ⟨n0, n1, z1, z2⟩ := numG_bound 10 t 5 n (by decide) (by decide) (by decide) hn
    have hi2 := fun w => index0 w t z1
    clear hn
    unfold okN at HN
    by_cases hc : b0 t = 48
    · dsimp only
      rw [if_pos hc]
      rw [hc] at hi2
      have hq := zero_no s (b0_no s _ hb (by decide))
      unfold okW
      go_enter Tryd.func45, Tryd.ntmps45
      go_wp2_with fail
      refine (HN.out _).mono ?_
      rintro e w1 ⟨rfl, hK⟩
      go_wp2
      go_ret2
      exact ⟨rfl, hK⟩
    · dsimp only
      rw [if_neg hc]
      have HF := Lib.hid (fun w => fromO_any w (-n))
      generalize fromO (-n) = R at *
      go_enter Tryd.func45, Tryd.ntmps45
      go_wp2_with fail
      refine (HN.out _).mono ?_
      rintro e w1 ⟨rfl, hK⟩
      go_wp2_with fail
      refine (HF.out _).mono ?_
      rintro e w2 ⟨rfl, rfl⟩
      cases R with
      | none =>
        unfold okW
        go_wp2
        go_ret2
        exact ⟨rfl, hK⟩
      | some m =>
        unfold okW
        go_wp2
        go_ret2
        exact ⟨rfl, hK⟩
set_option maxHeartbeats 2000000 in
theorem decimal_plus (w : World) (s : ByteArray) (h : 0 < s.size) (hb : b0 s ≠ 45) : Calls Tryd.prog 45 #[.string s] w fun e w' => e = .returned (okW (plusO s)) ∧ Kept NoBlk w w' := by
  have hi := fun w => index0 w s h
  have HN := Lib.hid (fun w => number_any w s 10 5 (by decide) (by decide) (by decide))
  unfold plusO
  cases hn : numG 10 s 5 with
  | none =>
    rw [hn] at HN
    unfold okN at HN
    unfold okW
    clear hn
    go_enter Tryd.func45, Tryd.ntmps45
    go_wp2_with fail
    refine (HN.out _).mono ?_
    rintro e w1 ⟨rfl, hK⟩
    go_wp2
    go_ret2
    exact ⟨rfl, hK⟩
  | some n =>
    rw [hn] at HN
    obtain ⟨n0, n1, z1, z2⟩ := numG_bound 10 s 5 n (by decide) (by decide) (by decide) hn
    clear hn
    unfold okN at HN
    dsimp only
    have HF := Lib.hid (fun w => fromO_any w n)
    by_cases hz : s.data.toList = [48]
    · have hq := zero_yes s hz
      rw [if_neg (fun h => h.2 hz)]
      clear hz
      generalize fromO n = R at *
      by_cases hc : b0 s = 48
      · rw [hc] at hi
        cases R with
        | none =>
          unfold okW at HF ⊢
          go_enter Tryd.func45, Tryd.ntmps45
          go_wp2_with fail
          refine (HN.out _).mono ?_
          rintro e w1 ⟨rfl, hK⟩
          go_wp2_with fail
          refine (HF.out _).mono ?_
          rintro e w2 ⟨rfl, rfl⟩
          go_wp2
          go_ret2
          exact ⟨rfl, hK⟩
        | some m =>
          unfold okW at HF ⊢
          go_enter Tryd.func45, Tryd.ntmps45
          go_wp2_with fail
          refine (HN.out _).mono ?_
          rintro e w1 ⟨rfl, hK⟩
          go_wp2_with fail
          refine (HF.out _).mono ?_
          rintro e w2 ⟨rfl, rfl⟩
          go_wp2
          go_ret2
          exact ⟨rfl, hK⟩
      · exact absurd (by unfold b0; rw [ByteArray.toList_eq] at hq; rw [beq_iff_eq.1 hq]; rfl) hc
    · have hq := zero_no s hz
      by_cases hc : b0 s = 48
      · rw [if_pos ⟨hc, hz⟩]
        rw [hc] at hi
        clear HF hz
        unfold okW
        go_enter Tryd.func45, Tryd.ntmps45
        go_wp2_with fail
        refine (HN.out _).mono ?_
        rintro e w1 ⟨rfl, hK⟩
        go_wp2
        go_ret2
        exact ⟨rfl, hK⟩
      · rw [if_neg (fun h => hc h.1)]
        clear hz
        generalize fromO n = R at *
        cases R with
        | none =>
          unfold okW at HF ⊢
          go_enter Tryd.func45, Tryd.ntmps45
          go_wp2_with fail
          refine (HN.out _).mono ?_
          rintro e w1 ⟨rfl, hK⟩
          go_wp2_with fail
          refine (HF.out _).mono ?_
          rintro e w2 ⟨rfl, rfl⟩
          go_wp2
          go_ret2
          exact ⟨rfl, hK⟩
        | some m =>
          unfold okW at HF ⊢
          go_enter Tryd.func45, Tryd.ntmps45
          go_wp2_with fail
          refine (HN.out _).mono ?_
          rintro e w1 ⟨rfl, hK⟩
          go_wp2_with fail
          refine (HF.out _).mono ?_
          rintro e w2 ⟨rfl, rfl⟩
          go_wp2
          go_ret2
          exact ⟨rfl, hK⟩
end Go.Proofs.YtkdojdcfakjjfaaDoor
