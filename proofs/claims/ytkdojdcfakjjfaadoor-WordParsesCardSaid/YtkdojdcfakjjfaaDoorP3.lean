/- What a text says: the program's 'quoted' and 'Parse', for every text. -/
import Derived.Test.YtkdojdcfakjjfaaDoorP2
namespace Go.Proofs.YtkdojdcfakjjfaaDoor
open Go.RowKit
set_option maxRecDepth 100000

/-- A text's last byte. -/
def bL (s : ByteArray) : Int := (s.data.toList.getD (s.size - 1) 0).toNat
theorem indexL (w : World) (s : ByteArray) (h : 0 < s.size) : (Instr.index 9 (.string s) (.int .i64 ((s.size : Int) - 1))).run Tryd.prog w = .ok (.int .u8 (bL s)) w := by
  rw [run_index_string (P := Tryd.prog) w 9 s .i64 _ Tryd.underlying9, dif_pos (by omega)]
  unfold bL
  have h' : s.size - 1 < s.data.toList.length := by show s.size - 1 < s.size; omega
  have e : ((s.size : Int) - 1).toNat = s.size - 1 := by omega
  rw [List.getD, List.getElem?_eq_getElem h']
  simp only [e]
  rfl
def inner (s : ByteArray) : ByteArray := s.extract 1 (s.size - 1)
theorem sliceI (w : World) (s : ByteArray) (h : 2 ≤ s.size) : (Instr.slice 9 (.string s) (some (.int .i64 1)) (some (.int .i64 ((s.size : Int) - 1))) none).run Tryd.prog w = .ok (.string (inner s)) w := by
  rw [run_slice_string (P := Tryd.prog) w 9 s .i64 .i64 1 ((s.size : Int) - 1) Tryd.underlying9 (by omega) (by omega) (by omega)]
  rw [show ((s.size : Int) - 1).toNat = s.size - 1 by omega]
  rfl
def chr (r : Int) : Option Int := if r < 32 ∨ 65535 < r ∨ r = 39 then none else some r
def quoP (s : ByteArray) : Option Int := if s.size < 3 ∨ bL s ≠ 39 ∨ Lib.validD (inner s).data.toList = false ∨ Lib.runeCount (inner s) ≠ 1 then none else chr (Utf8.decode (inner s) 0).1
set_option maxHeartbeats 2000000 in
theorem quoted_any (w : World) (s : ByteArray) (hs : s.size ≤ 1000) (hT : Tabs w) : Calls Tryd.prog 44 #[.string s] w fun e w' => e = .returned (okW (quoP s)) ∧ Kept NoBlk w w' := by
  unfold quoP
  by_cases h3 : s.size < 3
  · rw [if_pos (.inl h3)]
    unfold okW
    go_enter Tryd.func44, Tryd.ntmps44
    go_wp2
    go_ret2
    exact ⟨rfl, Kept.refl _ _⟩
  have hi := fun w => indexL w s (by omega)
  by_cases hL : bL s = 39
  case neg =>
    rw [if_pos (.inr (.inl hL))]
    have hne : (bL s != 39) = true := bne_iff_ne.2 hL
    unfold okW
    go_enter Tryd.func44, Tryd.ntmps44
    go_wp2
    go_ret2
    exact ⟨rfl, Kept.refl _ _⟩
  rw [hL] at hi
  have hsl := fun w => sliceI w s (by omega)
  have hin : (inner s).size < 1000 := by unfold inner; rw [ByteArray.size_extract]; omega
  have hin1 : 0 < (inner s).size := by unfold inner; rw [ByteArray.size_extract]; omega
  generalize inner s = i at *
  have cV : Calls Tryd.prog 52 #[.string i] w _ := Any.utf8_ValidString Tryd.laysValid i w (by omega) hT
  have cV := Lib.hid cV
  by_cases hv : Lib.validD i.data.toList = false
  · rw [if_pos (.inr (.inr (.inl hv)))]
    rw [hv] at cV
    unfold okW
    clear hv
    go_enter Tryd.func44, Tryd.ntmps44
    go_wp2_with fail
    refine cV.out.mono ?_
    rintro e w1 ⟨rfl, hb⟩
    go_wp2
    go_ret2
    exact ⟨rfl, Kept.of_below hb⟩
  have hv' : Lib.validD i.data.toList = true := by simpa using hv
  rw [hv'] at cV
  have cR := Lib.hid (fun w => Tryd.utf8_RuneCountInString i w (by omega))
  have hcl := Lib.runeCount_le i
  by_cases hc : Lib.runeCount i = 1
  case neg =>
    rw [if_pos (.inr (.inr (.inr hc)))]
    unfold okW
    clear hv hv'
    generalize Lib.runeCount i = c at *
    go_enter Tryd.func44, Tryd.ntmps44
    go_wp2_with fail
    refine cV.out.mono ?_
    rintro e w1 ⟨rfl, hb⟩
    go_wp2_with fail
    refine (cR.out _).mono ?_
    rintro e w2 ⟨rfl, pos, rfl⟩
    go_wp2
    go_ret2
    exact ⟨rfl, (Kept.of_below hb).alloc _⟩
  rw [if_neg (by rintro (h | h | h | h); exact h3 h; exact h hL; exact hv h; exact h hc)]
  rw [hc] at cR
  have hn0 := fun (w : World) ty => run_next_any (P := Tryd.prog) w i 0 ty hin1
  have hle := decode_le i 0
  generalize (Utf8.decode i 0).1 = r at *
  generalize 0 + (Utf8.decode i 0).2 = z at *
  clear hv hv' hc hcl
  unfold chr
  by_cases h32 : (r : Int) < 32
  · rw [if_pos (.inl h32)]
    unfold okW
    go_enter Tryd.func44, Tryd.ntmps44
    go_wp2_with fail
    refine cV.out.mono ?_
    rintro e w1 ⟨rfl, hb⟩
    go_wp2_with fail
    refine (cR.out _).mono ?_
    rintro e w2 ⟨rfl, pos, rfl⟩
    have hn := hn0 (w1.iter i pos)
    clear hn0
    go_wp2
    refine wp_loop_rounds 1 ?_
    rw [rounds_succ]
    go_wp2
    go_ret2
    exact ⟨rfl, ((Kept.of_below hb).alloc _).alloc _⟩
  by_cases h6 : 65535 < (r : Int)
  · rw [if_pos (.inr (.inl h6))]
    unfold okW
    go_enter Tryd.func44, Tryd.ntmps44
    go_wp2_with fail
    refine cV.out.mono ?_
    rintro e w1 ⟨rfl, hb⟩
    go_wp2_with fail
    refine (cR.out _).mono ?_
    rintro e w2 ⟨rfl, pos, rfl⟩
    have hn := hn0 (w1.iter i pos)
    clear hn0
    go_wp2
    refine wp_loop_rounds 1 ?_
    rw [rounds_succ]
    go_wp2
    go_ret2
    exact ⟨rfl, ((Kept.of_below hb).alloc _).alloc _⟩
  by_cases h39 : (r : Int) = 39
  · rw [if_pos (.inr (.inr h39))]
    unfold okW
    go_enter Tryd.func44, Tryd.ntmps44
    go_wp2_with fail
    refine cV.out.mono ?_
    rintro e w1 ⟨rfl, hb⟩
    go_wp2_with fail
    refine (cR.out _).mono ?_
    rintro e w2 ⟨rfl, pos, rfl⟩
    have hn := hn0 (w1.iter i pos)
    clear hn0
    go_wp2
    refine wp_loop_rounds 1 ?_
    rw [rounds_succ]
    go_wp2
    go_ret2
    exact ⟨rfl, ((Kept.of_below hb).alloc _).alloc _⟩
  · rw [if_neg (by rintro (h | h | h); exact h32 h; exact h6 h; exact h39 h)]
    unfold okW
    have hw : IntKind.u16.wrap (r : Int) = r := u16_in _ (by omega) (by omega)
    have h39' : ((r : Int) == 39) = false := beq_eq_false_iff_ne.2 h39
    go_enter Tryd.func44, Tryd.ntmps44
    go_wp2_with fail
    refine cV.out.mono ?_
    rintro e w1 ⟨rfl, hb⟩
    go_wp2_with fail
    refine (cR.out _).mono ?_
    rintro e w2 ⟨rfl, pos, rfl⟩
    have hn := hn0 (w1.iter i pos)
    clear hn0
    go_wp2
    refine wp_loop_rounds 1 ?_
    rw [rounds_succ]
    go_wp2
    go_ret2
    exact ⟨rfl, ((Kept.of_below hb).alloc _).alloc _⟩

/-- What a text says, by its first byte. -/
def sayO (quo : ByteArray → Option Int) (s : ByteArray) : Option Int :=
  if s.size = 0 then none else if b0 s = 120 then numG 16 (s.extract 1 s.size) 4 else if b0 s = 39 then quo s else if b0 s = 45 then minO s else plusO s
def okE : Option Int → Value
  | none => .tuple #[.int .u16 0, .int .i64 3]
  | some n => .tuple #[.int .u16 n, .int .i64 0]
set_option maxHeartbeats 2000000 in
theorem parse_any (w : World) (s : ByteArray) (hs : s.size ≤ 1000) (hT : Tabs w) : Calls Tryd.prog 12 #[.string s] w fun e w' => e = .returned (okE (sayO quoP s)) ∧ Kept NoBlk w w' := by
  unfold sayO
  by_cases hz : s.size = 0
  · rw [if_pos hz]
    have he : s.toList.isEmpty = true := by rw [emp]; exact decide_eq_true hz
    unfold okE
    go_enter Tryd.func12, Tryd.ntmps12
    go_wp2
    go_ret2
    exact ⟨rfl, Kept.refl _ _⟩
  rw [if_neg hz]
  have he : s.toList.isEmpty = false := by rw [emp]; exact decide_eq_false hz
  have hi := fun w => index0 w s (by omega)
  by_cases h1 : b0 s = 120
  · rw [if_pos h1]
    rw [h1] at hi
    have hsl := fun w => slice1 w s (by omega)
    have HN := Lib.hid (fun w => number_any w (s.extract 1 s.size) 16 4 (by decide) (by decide) (by decide))
    generalize s.extract 1 s.size = t at *
    cases hn : numG 16 t 4 with
    | none =>
      rw [hn] at HN
      unfold okN at HN
      unfold okE
      clear hn
      go_enter Tryd.func12, Tryd.ntmps12
      go_wp2_with fail
      refine (HN.out _).mono ?_
      rintro e w1 ⟨rfl, hK⟩
      go_wp2
      go_ret2
      exact ⟨rfl, hK⟩
    | some n =>
      rw [hn] at HN
      obtain ⟨n0, -, -, -⟩ := numG_bound 16 t 4 n (by decide) (by decide) (by decide) hn
      have n1 := numG_four t n hn
      have hw : IntKind.u16.wrap n = n := u16_in _ (by omega) (by omega)
      unfold okN at HN
      unfold okE
      clear hn
      go_enter Tryd.func12, Tryd.ntmps12
      go_wp2_with fail
      refine (HN.out _).mono ?_
      rintro e w1 ⟨rfl, hK⟩
      go_wp2
      go_ret2
      exact ⟨rfl, hK⟩
  rw [if_neg h1]
  have H0 : ∃ (f : Nat) (R : Option Int), ((b0 s = 39 ∧ f = 44) ∨ (b0 s ≠ 39 ∧ f = 45)) ∧ (Calls Tryd.prog f #[.string s] w fun e w' => e = .returned (okW R) ∧ Kept NoBlk w w') ∧ (if b0 s = 39 then quoP s else if b0 s = 45 then minO s else plusO s) = R := by
    by_cases h2 : b0 s = 39
    · exact ⟨44, quoP s, .inl ⟨h2, rfl⟩, quoted_any w s hs hT, by rw [if_pos h2]⟩
    · by_cases h4 : b0 s = 45
      · exact ⟨45, minO s, .inr ⟨h2, rfl⟩, decimal_min w s (by omega) h4, by rw [if_neg h2, if_pos h4]⟩
      · exact ⟨45, plusO s, .inr ⟨h2, rfl⟩, decimal_plus w s (by omega) h4, by rw [if_neg h2, if_neg h4]⟩
  obtain ⟨f, R, hf, hC, hR⟩ := H0
  rw [hR]
  clear hR
  have HC := Lib.hid hC
  clear hC
  rcases hf with ⟨h2, rfl⟩ | ⟨h2, rfl⟩
  · rw [h2] at hi
    cases R with
    | none =>
      unfold okW at HC
      unfold okE
      go_enter Tryd.func12, Tryd.ntmps12
      go_wp2_with fail
      refine HC.out.mono ?_
      rintro e w1 ⟨rfl, hK⟩
      go_wp2
      go_ret2
      exact ⟨rfl, hK⟩
    | some n =>
      unfold okW at HC
      unfold okE
      go_enter Tryd.func12, Tryd.ntmps12
      go_wp2_with fail
      refine HC.out.mono ?_
      rintro e w1 ⟨rfl, hK⟩
      go_wp2
      go_ret2
      exact ⟨rfl, hK⟩
  · cases R with
    | none =>
      unfold okW at HC
      unfold okE
      go_enter Tryd.func12, Tryd.ntmps12
      go_wp2_with fail
      refine HC.out.mono ?_
      rintro e w1 ⟨rfl, hK⟩
      go_wp2
      go_ret2
      exact ⟨rfl, hK⟩
    | some n =>
      unfold okW at HC
      unfold okE
      go_enter Tryd.func12, Tryd.ntmps12
      go_wp2_with fail
      refine HC.out.mono ?_
      rintro e w1 ⟨rfl, hK⟩
      go_wp2
      go_ret2
      exact ⟨rfl, hK⟩
end Go.Proofs.YtkdojdcfakjjfaaDoor
