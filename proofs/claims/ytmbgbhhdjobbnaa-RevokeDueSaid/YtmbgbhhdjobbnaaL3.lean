/- The books' laws: live, same, play. -/
import Derived.Test.YtmbgbhhdjobbnaaL2
import Derived.Laws.IdiomStrings
namespace Go.Proofs.Ytmbgbhhdjobbnaa
open Go.RowKit Go.Maps

def strOf (l : List Int) : ByteArray := l.foldl (fun r n => r.push (UInt8.ofNat n.toNat)) ByteArray.empty
theorem conv_row (w : World) (A : Option Addr) (n c : Nat) (l : List Int) (hr : Row w 5 1 (.slice A n c) n (u8s l)) : (convert 28 9 (.slice A n c)).run Try.prog w = .ok (.string (strOf l)) w := by
  rw [run_convert_bytes_string w 28 9 5 A n c Try.underlying28 Try.underlying5 Try.underlying9]
  obtain ⟨A', c', hv, _, _, hA, _, hc⟩ := hr.form
  injection hv with q1 q2 q3
  subst q1
  have hlen : l.length = n := by simpa [u8s] using hr.1
  cases A with
  | none =>
    obtain ⟨rfl, rfl⟩ := hA rfl
    obtain rfl : l = [] := List.eq_nil_of_length_eq_zero hlen
    simp [Conv.bytesToString]
    rfl
  | some a =>
    have hl := run_loadCells_list (P := Try.prog) w a (u8s l) (hc a rfl)
    rw [u8s_length, hlen] at hl
    exact run_bytesToString w a n c l hl

def S1 : St := askSt newB 0 5 13
def S2 : St := dueSt S1 12
def S3 : St := dueSt S2 13
theorem inv1 : Inv S1 1 := Inv.new.ask (by omega) (by omega) rfl (by decide)
theorem inv2 : Inv S2 1 := inv1.due 12
theorem inv3 : Inv S3 1 := inv2.due 13

set_option maxHeartbeats 4000000 in
theorem live_any (w : World) : Calls Try.prog 11 #[] w fun x w' => x = .returned (.bool true) ∧ Kept NoBlk w w' := by
  go_enter Try.func11, Try.ntmps11
  go_wp2_with fail
  refine (new_any _).mono ?_
  rintro e w1 ⟨g, m, v, r, rfl, hg, hm, hB, hK⟩
  have hg' : w.heap.size ≤ g := by simpa using hg
  have hm' : w.heap.size ≤ m := by simpa using hm
  have HB := Lib.hid hB
  have HK := Lib.hid hK
  clear hB hK hg hm
  go_wp2_with fail
  refine (ask_ok w1 g m newB v r HB.out 0 5 10 3 (by unfold askOk; omega) rfl (by decide) (by decide)).mono ?_
  rintro e w2 ⟨rfl, v2, hB2, hK2⟩
  have hP2 : PB w2 g m S1 := ⟨v2, r, hB2⟩
  have HP2 := Lib.hid hP2
  have HK2 := Lib.hid hK2
  clear hB2 hP2 hK2
  go_wp2_with fail
  refine (due_B S1 1 inv1 (by omega) 12 w2 g m HP2.out).mono ?_
  rintro e w3 ⟨A3, c3, rfl, _, hB3, hK3⟩
  rw [show (S1.op.filter (qDue 12)).length = 0 by decide]
  have HB3 := Lib.hid hB3
  have HK3 := Lib.hid hK3
  clear hB3 hK3
  go_wp2_with fail
  refine (due_B S2 1 inv2 (by omega) 13 w3 g m HB3.out).mono ?_
  rintro e w4 ⟨A4, c4, rfl, _, hB4, hK4⟩
  rw [show (S2.op.filter (qDue 13)).length = 1 by decide]
  obtain ⟨v4, r4, hB4⟩ := hB4
  have HB4 := Lib.hid hB4
  have HK4 := Lib.hid hK4
  clear hB4 hK4
  go_wp2_with fail
  refine (next_some w4 g m S3 v4 r4 HB4.out 0 (by omega) 5 [] (by decide) (by decide)).mono ?_
  rintro e w5 ⟨rfl, r5, hB5, hK5⟩
  have HB5 := Lib.hid hB5
  have HK5 := Lib.hid hK5
  clear hB5 hK5
  go_wp2_with fail
  refine (open_any w5 g m (popB S3 0) v4 r5 HB5.out (by decide)).mono ?_
  rintro e w6 ⟨A6, c6, rfl, _, hK6⟩
  rw [show (popB S3 0).op.length = 0 by decide]
  go_wp2
  go_ret
  have hG : ∀ b, TwoBlk g m b → w.heap.size ≤ b := fun b e => by rcases e with e | e <;> omega
  exact ⟨rfl, ((((Kept.fresh HK.out HK2.out hG).fresh HK3.out hG).fresh HK4.out hG).fresh HK5.out (fun b e => hG b (.inl e))).trans hK6⟩

theorem lost_B (w : World) (g m : Nat) (S : St) (n : Nat) (hI : Inv S n) (hn : n ≤ 1000) (h : PB w g m S) (e : Nat) :
   Calls Try.prog 12 #[.pointer (some ⟨g, 0, none⟩), .int .u8 e] w fun x w' => ∃ A c, x = .returned (.slice A (if e < 6 then S.lost e else []).length c) ∧ Row w' 5 1 (.slice A (if e < 6 then S.lost e else []).length c) (if e < 6 then S.lost e else []).length (u8s (if e < 6 then S.lost e else [])) ∧ Kept NoBlk w w' := by
  obtain ⟨v, r, h⟩ := h
  by_cases he : e < 6
  · rw [if_pos he]
    exact lost_any w g m S v r h e he (by have := hI.many e he; omega)
  · rw [if_neg he]
    exact (lost_range w _ e rfl (by omega)).mono (fun x w' ⟨h1, h2⟩ => ⟨none, 0, h1, Row.nil _ _ _, h2 ▸ Kept.refl _ _⟩)
theorem lost_R (w : World) (h : Nat) (S : St) (n : Nat) (hI : Inv S n) (hn : n ≤ 1000) (hR : PR w h S) (e : Nat) :
   Calls Try.prog 31 #[.pointer (some ⟨h, 0, none⟩), .int .u8 e] w fun x w' => ∃ A c, x = .returned (.slice A (if e < 6 then S.lost e else []).length c) ∧ Row w' 5 1 (.slice A (if e < 6 then S.lost e else []).length c) (if e < 6 then S.lost e else []).length (u8s (if e < 6 then S.lost e else [])) ∧ Kept NoBlk w w' := by
  obtain ⟨v, r, hR⟩ := hR
  by_cases he : e < 6
  · rw [if_pos he]
    exact rlost_any w h S v r hR e he (by have := hI.many e he; omega)
  · rw [if_neg he]
    exact (rlost_range w _ e rfl (by omega)).mono (fun x w' ⟨h1, h2⟩ => ⟨none, 0, h1, Row.nil _ _ _, h2 ▸ Kept.refl _ _⟩)

def TrueKept (w : World) (e : Ending) (w' : World) : Prop := e = .returned (.bool true) ∧ Kept NoBlk w w'

set_option maxHeartbeats 4000000 in
theorem same_any (w : World) (g m h n : Nat) (S : St) (hI : Inv S n) (hn : n ≤ 1000) (hB : PB w g m S) (hR : PR w h S) :
   Calls Try.prog 17 #[.pointer (some ⟨g, 0, none⟩), .pointer (some ⟨h, 0, none⟩)] w (TrueKept w) := by
  have hl8 := hI.len
  have hLB := fun (wr : World) (hK : Kept NoBlk w wr) => lost_B wr g m S n hI hn (hB.kept hK)
  have hLR := fun (wr : World) (hK : Kept NoBlk w wr) => lost_R wr h S n hI hn (hR.kept hK)
  have hAB : ∀ (wr : World) (e f : Int), Kept NoBlk w wr → okK (e, f) → Calls Try.prog 16 #[.pointer (some ⟨g, 0, none⟩), .int .u8 e, .int .u8 f] wr fun x w' => x = .returned (.tuple #[.int .i64 ((lookOp S.op (e, f)).getD 0), .bool (lookOp S.op (e, f)).isSome]) ∧ Kept NoBlk wr w' := fun wr e f hK he => by
    obtain ⟨v, r, h⟩ := hB.kept hK
    exact asked_any wr g m S v r h e f he
  have hAR : ∀ (wr : World) (e f : Int), Kept NoBlk w wr → Calls Try.prog 32 #[.pointer (some ⟨h, 0, none⟩), .int .u8 e, .int .u8 f] wr fun x w' => x = .returned (.tuple #[.int .i64 ((lookOp S.op (e, f)).getD 0), .bool (lookOp S.op (e, f)).isSome]) ∧ wr = w' := fun wr e f hK => by
    obtain ⟨v, r, hR⟩ := hR.kept hK
    exact rasked_any wr h S v r hR (by omega) e f
  have hOB : ∀ (wr : World), Kept NoBlk w wr → Calls Try.prog 14 #[.pointer (some ⟨g, 0, none⟩)] wr fun x w' => ∃ A c, x = .returned (.slice A S.op.length c) ∧ Row w' 37 3 (.slice A S.op.length c) S.op.length (asks S.op) ∧ Kept NoBlk wr w' := fun wr hK => by
    obtain ⟨v, r, h⟩ := hB.kept hK
    exact open_any wr g m S v r h (by omega)
  have hOR : ∀ (wr : World), Kept NoBlk w wr → Calls Try.prog 34 #[.pointer (some ⟨h, 0, none⟩)] wr fun x w' => ∃ A c, x = .returned (.slice A S.op.length c) ∧ Row w' 37 3 (.slice A S.op.length c) S.op.length (asks S.op) ∧ Kept NoBlk wr w' := fun wr hK => by
    obtain ⟨v, r, hR⟩ := hR.kept hK
    exact ropen_any wr h S v r hR (by omega)
  have HLB := Lib.hid hLB
  have HLR := Lib.hid hLR
  have HAB := Lib.hid hAB
  have HAR := Lib.hid hAR
  have HOB := Lib.hid hOB
  have HOR := Lib.hid hOR
  clear hLB hLR hAB hAR hOB hOR hB hR hI
  go_enter Try.func17, Try.ntmps17
  go_wp2
  go_loopw [5, 6, 7, 8, 9, 10] (fun i _ _ _ _ _ wr => ∃ j : Nat, j ≤ 7 ∧ i = .int .u8 j ∧ Kept NoBlk w wr) (fun i _ _ _ _ _ _ => 7 - (intOf i).toNat)
  case atStart => exact ⟨0, by omega, rfl, Kept.refl _ _⟩
  case round =>
    obtain ⟨j, hj, rfl, hK⟩ := hrel
    have HK := Lib.hid hK
    clear hK
    by_cases hj7 : j < 7
    · have HB1 := Lib.hid (fun wr hK => HLB.out wr hK j)
      have HR1 := Lib.hid (fun wr hK => HLR.out wr hK j)
      generalize (if j < 6 then S.lost j else []) = l at HB1 HR1
      go_wp2
      refine wp_region_plan (by kernel_rfl) (.q 0 <| .q 1 <| .q 4 <| .q 5 <| .e 2 [4, 5] <| .q 3 <| .e 6 [3] <| .q 7 <| .q 8 <| .nil) (by kernel_rfl) (by kernel_rfl) ?_
      repeat (refine plan_q rfl (fun K hK => ?_); go_simp; refine hK _ ?_; clear hK K)
      refine plan_e rfl (fun K hK => ?_)
      go_simp
      refine (HB1.out _ HK.out.drew).mono ?_
      rintro x w1 ⟨A1, c1, rfl, hr1, hK1⟩
      have hcv1 := conv_row w1 A1 _ c1 l hr1
      have hk1 : Kept NoBlk w w1 := HK.out.drew.trans hK1
      refine hK _ _ (by (repeat (refine stab_cons rfl ?_ ?_; focus (go_simp; done))); exact stab_nil) ?_
      clear hK K
      repeat (refine plan_q rfl (fun K hK => ?_); go_simp; refine hK _ ?_; clear hK K)
      refine plan_e rfl (fun K hK => ?_)
      go_simp
      refine (HR1.out _ hk1).mono ?_
      rintro x w2 ⟨A2, c2, rfl, hr2, hK2⟩
      have hcv2 := conv_row w2 A1 _ c1 l (hr1.kept hK2 (fun _ _ _ e => e))
      have hcv3 := conv_row w2 A2 _ c2 l hr2
      have hk2 : Kept NoBlk w w2 := hk1.trans hK2
      refine hK _ _ (by (repeat (refine stab_cons rfl ?_ ?_; focus (go_simp; done))); exact stab_nil) ?_
      clear hK K
      repeat (refine plan_q rfl (fun K hK => ?_); go_simp; refine hK _ ?_; clear hK K)
      refine plan_nil ?_
      have HK2 := Lib.hid hk2
      clear hk2 hK2 hcv1 hcv2 hcv3 hr1 hr2 hK1 hk1 HK
      go_wp2
      go_loopw [6, 7, 8, 9, 10] (fun i _ _ _ _ wr => ∃ f : Nat, f ≤ 8 ∧ i = .int .u8 f ∧ Kept NoBlk w wr) (fun i _ _ _ _ _ => 8 - (intOf i).toNat)
      case atStart => exact ⟨0, by omega, rfl, HK2.out⟩
      case round =>
        obtain ⟨f, hf, rfl, hK3⟩ := hrel
        clear HK2
        have HK := Lib.hid hK3
        clear hK3
        by_cases hf8 : f < 8
        · have hkey : okK ((j : Int), (f : Int)) := by unfold okK; simp only; omega
          have HA1 := Lib.hid (HAB.out _ j f HK.out hkey)
          have HA2 := Lib.hid (fun wr hK => HAR.out wr j f hK)
          generalize (lookOp S.op ((j : Int), (f : Int))).getD 0 = n0 at HA1 HA2
          generalize (lookOp S.op ((j : Int), (f : Int))).isSome = b0 at HA1 HA2
          go_wp2_with fail
          refine (HA1.out).mono ?_
          rintro x w3 ⟨rfl, hK3⟩
          have hk3 : Kept NoBlk w w3 := HK.out.trans hK3
          go_wp2_with fail
          refine (HA2.out _ hk3).mono ?_
          rintro x w4 ⟨rfl, rfl⟩
          go_wp2
          go_roundw
          case rel => exact ⟨f + 1, by omega, by go_num, hk3⟩
          case measure => simp [intOf]; omega
        · obtain rfl : f = 8 := by omega
          go_wp2
          go_roundw
          case rel => exact ⟨j + 1, by omega, by go_num, HK.out⟩
          case measure => simp [intOf]; omega
    · obtain rfl : j = 7 := by omega
      have HO1 := Lib.hid (HOB.out _ HK.out)
      go_wp2_with fail
      refine (HO1.out).mono ?_
      rintro x w1 ⟨A1, c1, rfl, hr1, hK1⟩
      have hk1 := HK.out.trans hK1
      have HO2 := Lib.hid (HOR.out _ hk1)
      go_wp2_with fail
      refine (HO2.out).mono ?_
      rintro x w2 ⟨A2, c2, rfl, hr2, hK2⟩
      have hS := Lib.hid (rsame_any w2 S.op A1 A2 _ c1 c2 rfl (hr1.kept hK2 (fun _ _ _ e => e)) hr2 (by omega))
      go_wp2_with fail
      refine (hS.out).mono ?_
      rintro x w3 ⟨rfl, hK3⟩
      go_wp2
      go_ret
      exact ⟨rfl, (hk1.trans hK2).trans hK3⟩

/-- A deed lies at off in block b. -/
def DeedAt (w : World) (b off : Nat) : Prop := ∃ (k now within e f : Int), 0 ≤ e ∧ 0 ≤ f ∧ w.cell? ⟨b, off, none⟩ = some (.int .i64 k) ∧ w.cell? ⟨b, off + 1, none⟩ = some (.int .i64 now) ∧ w.cell? ⟨b, off + 2, none⟩ = some (.int .i64 within) ∧ w.cell? ⟨b, off + 3, none⟩ = some (.int .u8 e) ∧ w.cell? ⟨b, off + 4, none⟩ = some (.int .u8 f)
def IsDeeds (w : World) (A : Option Addr) (n : Nat) : Prop := 0 < n → ∃ b off, A = some ⟨b, off, none⟩ ∧ b < w.heap.size ∧ ∀ i, i < n → DeedAt w b (off + i * 5)
theorem DeedAt.kept {w w' : World} {b off : Nat} {G : Nat → Prop} (h : DeedAt w b off) (hb : b < w.heap.size) (hk : Kept G w w') (hg : ¬ G b) : DeedAt w' b off := by
  obtain ⟨k, now, within, e, f, h0, h1, c1, c2, c3, c4, c5⟩ := h
  refine ⟨k, now, within, e, f, h0, h1, ?_, ?_, ?_, ?_, ?_⟩
  all_goals
    rw [hk.cell (by simpa using hb) (by simpa using hg)]
    assumption
theorem IsDeeds.kept {w w' : World} {A : Option Addr} {n : Nat} (h : IsDeeds w A n) (hk : Kept NoBlk w w') : IsDeeds w' A n := by
  intro hn
  obtain ⟨b, off, hA, hb, hd⟩ := h hn
  exact ⟨b, off, hA, Nat.lt_of_lt_of_le hb hk.size, fun i hi => (hd i hi).kept hb hk (fun e => e)⟩

def PlayPost (w : World) (e : Ending) (w' : World) : Prop := ∃ g m h, e = .returned (.tuple #[.pointer (some ⟨g, 0, none⟩), .pointer (some ⟨h, 0, none⟩), .bool true]) ∧ w.heap.size ≤ g ∧ w.heap.size ≤ m ∧ w.heap.size ≤ h ∧ ∃ S, Inv S 50 ∧ PB w' g m S ∧ PR w' h S ∧ Kept NoBlk w w'

set_option maxHeartbeats 4000000 in
theorem play_any (w : World) (A : Option Addr) (n cap : Nat) (hD : IsDeeds w A n) :
   Calls Try.prog 10 #[.slice A n cap] w (PlayPost w) := by
  have HD := Lib.hid hD
  clear hD
  go_enter Try.func10, Try.ntmps10
  go_wp2_with fail
  refine (new_any _).mono ?_
  rintro e w1 ⟨g, m, v, r, rfl, hg, hm, hB, hK1⟩
  have hgw : w.heap.size ≤ g := by simpa using hg
  have hmw : w.heap.size ≤ m := by simpa using hm
  have hs1 := hK1.size
  go_wp2_with fail
  refine (rnew_any _).mono ?_
  rintro e w2 ⟨h, v', r', rfl, hh, _, hR, hK2⟩
  have hhw : w.heap.size ≤ h := by omega
  have HB := Lib.hid (show PB w2 g m newB from ⟨v, r, hB.kept hK2⟩)
  have HR := Lib.hid (show PR w2 h newB from ⟨v', r', hR⟩)
  have HK := Lib.hid (hK1.trans hK2)
  clear hB hR hK1 hK2 hg hm hh hs1
  go_wp2
  go_loopw [7] (fun i wr => ∃ (j : Nat) (S : St), j ≤ n ∧ j ≤ 50 ∧ i = .int .i64 j ∧ Inv S j ∧ PB wr g m S ∧ PR wr h S ∧ Kept NoBlk w wr) (fun i _ => 50 - (intOf i).toNat)
  case atStart => exact ⟨0, newB, by omega, by omega, rfl, Inv.new, HB.out, HR.out, HK.out⟩
  case round =>
    obtain ⟨j, S, hj, hj50, rfl, hI, hB, hR, hK⟩ := hrel
    clear HB HR HK
    have HB := Lib.hid hB
    have HR := Lib.hid hR
    have HI := Lib.hid hI
    have HK := Lib.hid hK
    clear hB hR hI hK
    by_cases hlt : j < n
    · by_cases hlt50 : j < 50
      · obtain ⟨b, off, rfl, hb, hd⟩ := (HD.out.kept HK.out) (by omega)
        obtain ⟨k, now, within, e, f, h0, h1, c1, c2, c3, c4, c5⟩ := hd j hlt
        clear hd
        have hdo := Lib.hid (do_any wr g m h j S HI.out (by omega) HB.out HR.out k now within e f h0 h1)
        unfold deedV at hdo
        go_wp2_with fail
        refine (hdo.out).mono ?_
        rintro e' w3 ⟨rfl, S', hI', hB', hR', hK'⟩
        have hk' : Kept NoBlk w w3 := HK.out.fresh hK' (fun b e => by rcases e with e | e | e <;> omega)
        go_wp2
        go_roundw
        case rel => exact ⟨j + 1, S', by omega, by omega, by go_num, hI', hB', hR', hk'⟩
        case measure => simp [intOf]; omega
      · obtain rfl : j = 50 := by omega
        go_wp2
        exact bodyPost_ret (v := .tuple #[.pointer (some ⟨g, 0, none⟩), .pointer (some ⟨h, 0, none⟩), .bool true]) (by simp [results, Try.results10, go_sem]) rfl ⟨g, m, h, rfl, hgw, hmw, hhw, S, HI.out, HB.out, HR.out, HK.out⟩
    · go_wp2
      exact bodyPost_ret (v := .tuple #[.pointer (some ⟨g, 0, none⟩), .pointer (some ⟨h, 0, none⟩), .bool true]) (by simp [results, Try.results10, go_sem]) rfl ⟨g, m, h, rfl, hgw, hmw, hhw, S, HI.out.mono hj50, HB.out, HR.out, HK.out⟩
end Go.Proofs.Ytmbgbhhdjobbnaa
