/- The laws of revoke, walked: Due. -/
import Derived.Test.YtmbgbhhdjobbnaaM3
namespace Go.Proofs.Ytmbgbhhdjobbnaa
open Go.RowKit Go.Maps

theorem filter_comm (l : List (Int × Int × Int)) (p q : Int × Int × Int → Bool) : (l.filter p).filter q = (l.filter q).filter p := by
  rw [List.filter_filter, List.filter_filter]
  congr 1
  funext a
  exact Bool.and_comm _ _

/-- Of the environment i just one is asked back: f, until u; its vector is empty. -/
structure Armed (S : St) (i f : Nat) (u : Int) : Prop where
  inv : Inv S 60
  one : S.op.filter (qOut i) = [((i : Int), (f : Int), u)]
  lost : S.lost i = []
/-- Of the environment i nothing is asked back. -/
structure Bare (S : St) (i : Nat) (l : List Int) : Prop where
  inv : Inv S 60
  no : S.op.filter (qOut i) = []
  lost : S.lost i = l

theorem Bare.look {S : St} {i : Nat} {l : List Int} (h : Bare S i l) (f : Int) : lookOp S.op ((i : Int), f) = none := by
  refine look_none _ _ ?_
  simp only [inK, List.any_eq_false]
  intro x hx hh
  simp only [Bool.and_eq_true, beq_iff_eq] at hh
  have : x ∈ S.op.filter (qOut i) := List.mem_filter.2 ⟨hx, by simp [qOut, hh.1]⟩
  rw [h.no] at this
  cases this
theorem Bare.out {S : St} {n : Nat} (h : Inv S n) (hn : n ≤ 60) (i : Nat) : Bare (outSt S i) i [] := by
  refine ⟨(h.out i).mono hn, ?_, by simp [outSt]⟩
  show (S.op.filter (fun a => !qOut i a)).filter (qOut i) = []
  rw [List.filter_filter, List.filter_eq_nil_iff]
  intro x _
  cases qOut i x <;> simp
theorem Armed.ask {S : St} {i f : Nat} {u : Int} (h : Bare S i []) (hc : Inv (askSt S i f u) 60) : Armed (askSt S i f u) i f u := by
  refine ⟨hc, ?_, h.lost⟩
  show (S.op ++ [((i : Int), (f : Int), u)]).filter (qOut i) = _
  rw [List.filter_append, h.no]
  simp [qOut]
theorem Armed.early {S : St} {i f : Nat} {u t : Int} (h : Armed S i f u) (ht : t < u) : Armed (dueSt S t) i f u := by
  refine ⟨h.inv.due t, ?_, ?_⟩
  · show (S.op.filter (fun a => !qDue t a)).filter (qOut i) = _
    rw [filter_comm, h.one]
    have : ¬ u ≤ t := by omega
    simp [qDue, this]
  · show S.lost i ++ ((S.op.filter (qDue t)).filter (qOut i)).map (·.2.1) = []
    rw [filter_comm, h.one, h.lost]
    have : ¬ u ≤ t := by omega
    simp [qDue, this]
theorem Armed.none_early {S : St} {i f : Nat} {u t : Int} (h : Armed S i f u) (ht : t < u) : ∀ x ∈ S.op.filter (qDue t), ¬ x.1 = (i : Int) := by
  intro x hx he
  have : x ∈ (S.op.filter (qDue t)).filter (qOut i) := List.mem_filter.2 ⟨hx, by simp [qOut, he]⟩
  rw [filter_comm, h.one] at this
  have h2 : ¬ u ≤ t := by omega
  simp [qDue, h2] at this
theorem Armed.mem {S : St} {i f : Nat} {u : Int} (h : Armed S i f u) : ((i : Int), (f : Int), u) ∈ S.op := by
  have : ((i : Int), (f : Int), u) ∈ S.op.filter (qOut i) := by rw [h.one]; simp
  exact (List.mem_filter.1 this).1
theorem Armed.done {S : St} {i f : Nat} {u : Int} (h : Armed S i f u) : Bare (leave S (qDone i f)) i [] ∧ (S.op.filter (qDone i f)).length ≠ 0 := by
  refine ⟨⟨h.inv.leave _, ?_, h.lost⟩, fun e => ?_⟩
  · show (S.op.filter (fun a => !qDone i f a)).filter (qOut i) = []
    rw [filter_comm, h.one]
    simp [qDone]
  · have : ((i : Int), (f : Int), u) ∈ S.op.filter (qDone i f) := List.mem_filter.2 ⟨h.mem, by simp [qDone]⟩
    rw [List.eq_nil_of_length_eq_zero e] at this
    cases this
theorem Armed.due {S : St} {i f : Nat} {u : Int} (h : Armed S i f u) : Bare (dueSt S u) i [(f : Int)] := by
  refine ⟨h.inv.due u, ?_, ?_⟩
  · show (S.op.filter (fun a => !qDue u a)).filter (qOut i) = _
    rw [filter_comm, h.one]
    simp [qDue]
  · show S.lost i ++ ((S.op.filter (qDue u)).filter (qOut i)).map (·.2.1) = _
    rw [filter_comm, h.one, h.lost]
    simp [qDue]
theorem Bare.due {S : St} {i : Nat} {l : List Int} {u : Int} (h : Bare S i l) : Bare (dueSt S u) i l := by
  refine ⟨h.inv.due u, ?_, ?_⟩
  · show (S.op.filter (fun a => !qDue u a)).filter (qOut i) = _
    rw [filter_comm, h.no]
    rfl
  · show S.lost i ++ ((S.op.filter (qDue u)).filter (qOut i)).map (·.2.1) = _
    rw [filter_comm, h.no, h.lost]
    simp

/-- Ask, where of the environment nothing is asked back: it is asked, or there is no place. -/
theorem ask_bare (S : St) (i f : Nat) (hi : i < 6) (hf : f < 64) (h : Bare S i []) (h51 : Inv S 51) (now within : Int) (h0 : 0 ≤ now) (h1 : now ≤ 1000000) (h2 : 0 ≤ within) (h3 : within ≤ 1000) :
    (S.op.length = 8 ∧ ∀ w g m, PB w g m S → Calls Try.prog 18 #[.pointer (some ⟨g, 0, none⟩), .int .u8 i, .int .u8 f, .int .i64 now, .int .i64 within] w (PostB (.int .i64 4) S g m w)) ∨
    (Armed (askSt S i f (now + within)) i f (now + within) ∧ ∀ w g m, PB w g m S → Calls Try.prog 18 #[.pointer (some ⟨g, 0, none⟩), .int .u8 i, .int .u8 f, .int .i64 now, .int .i64 within] w (PostB (.int .i64 0) (askSt S i f (now + within)) g m w)) := by
  have hok : askOk i f now within := by unfold askOk; omega
  have hex : (lookOp S.op ((i : Int), (f : Int))).isSome = false := by rw [h.look]; rfl
  have hl := h.inv.len
  by_cases h8 : S.op.length = 8
  · exact .inl ⟨h8, fun w g m ⟨v, r, hB⟩ => (ask_space w g m S v r hB i f now within hok hex h8).mono (postB_new ⟨v, r, hB⟩)⟩
  · exact .inr ⟨Armed.ask h ((h51.ask hok.1 hok.2.1 hex (by omega)).mono (by omega)), fun w g m ⟨v, r, hB⟩ => (ask_ok w g m S v r hB i f now within hok hex (by omega) (by have := h51.cnt; omega)).mono (fun e w' ⟨q1, v', q2, q3⟩ => ⟨q1, ⟨v', r, q2⟩, q3⟩)⟩

theorem asked_B (w : World) (g m : Nat) (S : St) (i f : Nat) (hi : i < 6) (hf : f < 64) {l : List Int} (h : Bare S i l) (hB : PB w g m S) : Calls Try.prog 16 #[.pointer (some ⟨g, 0, none⟩), .int .u8 i, .int .u8 f] w fun x w' => x = .returned (.tuple #[.int .i64 0, .bool false]) ∧ Kept NoBlk w w' := by
  obtain ⟨v, r, hB⟩ := hB
  have := asked_any w g m S v r hB i f (by unfold okK; simp only; omega)
  rw [h.look] at this
  exact this
theorem done_B (w : World) (g m : Nat) (S : St) (i f : Nat) {u : Int} (h : Armed S i f u) (hB : PB w g m S) : Calls Try.prog 20 #[.pointer (some ⟨g, 0, none⟩), .int .u8 i, .int .u8 f] w (PostB (.int .i64 0) (leave S (qDone i f)) g m w) := by
  obtain ⟨v, r, hB⟩ := hB
  have := done_any w g m S v r hB h.inv.dis h.inv.ok (by have := h.inv.len; omega) i f
  rw [if_neg h.done.2] at this
  exact this.mono (fun e w' ⟨q1, v', q2, q3⟩ => ⟨q1, ⟨v', r, q2⟩, q3⟩)
theorem lost_bare (w : World) (g m : Nat) (S : St) (i : Nat) (hi : i < 6) {l : List Int} (h : Bare S i l) (hB : PB w g m S) : Calls Try.prog 12 #[.pointer (some ⟨g, 0, none⟩), .int .u8 i] w fun x w' => ∃ A c, x = .returned (.slice A l.length c) ∧ Row w' 5 1 (.slice A l.length c) l.length (u8s l) ∧ Kept NoBlk w w' := by
  have := lost_in w g m 60 S h.inv (by omega) hB i hi
  rw [h.lost] at this
  exact this

set_option maxRecDepth 100000 in
set_option maxHeartbeats 8000000 in
theorem dues_any (w : World) (A : Option Addr) (n cap : Nat) (hD : IsDeeds w A n) (k now within e f : Int) (he : 0 ≤ e ∧ e ≤ 255) (hf : 0 ≤ f ∧ f ≤ 255) (up : Bool) :
   Calls Try.prog 7 #[.slice A n cap, deedV k now within e f, .bool up] w (TrueKept w) := by
  have HP := Lib.hid (fun w1 (hK : Kept NoBlk w w1) => play_any w1 A n cap (hD.kept hK))
  have HBX := Lib.hid (Blk.new w 43 #[.int .i64 k, .int .i64 now, .int .i64 within, .int .u8 e, .int .u8 f])
  clear hD
  obtain ⟨i, hi⟩ : ∃ i : Nat, e.tmod 6 = (i : Int) := ⟨(e % 6).toNat, by rw [Int.tmod_eq_emod_of_nonneg he.1]; omega⟩
  obtain ⟨fr, hfr⟩ : ∃ i : Nat, f.tmod 64 = (i : Int) := ⟨(f % 64).toNat, by rw [Int.tmod_eq_emod_of_nonneg hf.1]; omega⟩
  have hi6 : i < 6 := by rw [Int.tmod_eq_emod_of_nonneg he.1] at hi; omega
  have hfr6 : fr < 64 := by rw [Int.tmod_eq_emod_of_nonneg hf.1] at hfr; omega
  unfold deedV
  go_enter Try.func7, Try.ntmps7
  go_wp2_with fail
  refine (HP.out (w.alloc (.cells #[.int .i64 k, .int .i64 now, .int .i64 within, .int .u8 e, .int .u8 f] 43)) (by repeat (with_reducible first | exact Kept.refl _ _ | apply Kept.drew | apply Kept.drewN | apply Kept.alloc | exact oneHit | apply Kept.setCell))).mono ?_
  rintro e' w1 ⟨g, m, h, rfl, hg, hm, hh, S, hI, hB, hR, hK⟩
  go_wp2_with fail
  refine (live_any w1).mono ?_
  rintro e' w2 ⟨rfl, hK2⟩
  have hB2 := hB.kept hK2
  have hk02 := hK.trans hK2
  have hb2 := (HBX.out.kept hk02 (fun e => e)).cell
  have hl2 := (HBX.out.kept hk02 (fun e => e)).lt
  clear hB hR hK hK2 hh
  go_wp2
  refine wp_region_plan (by kernel_rfl) (.q 0 <| .q 1 <| .q 2 <| .q 3 <| .q 4 <| .q 5 <| .q 6 <| .q 7 <| .q 8 <| .q 9 <| .q 10 <| .q 11 <| .q 12 <| .q 13 <| .nil) (by kernel_rfl) (by kernel_rfl) ?_
  repeat (refine plan_q rfl (fun K hK => ?_); go_simp; refine hK _ ?_; clear hK K)
  refine plan_nil ?_
  -- REST
  have HK2 := Lib.hid (show Kept NoBlk w w2.drew from Kept.trans (w' := w.alloc (.cells #[.int .i64 k, .int .i64 now, .int .i64 within, .int .u8 e, .int .u8 f] 43)) (by repeat (with_reducible first | exact Kept.refl _ _ | apply Kept.drew | apply Kept.drewN | apply Kept.alloc | exact oneHit | apply Kept.setCell)) hk02.drew)
  have HB2 := Lib.hid (hB2.kept ((Kept.refl NoBlk w2).drew))
  have HI := Lib.hid hI
  have hge : ∀ b, TwoBlk g m b → w.heap.size ≤ b := fun b e => by simp at hg hm; rcases e with e | e <;> omega
  clear hk02 hB2 hI hg hm hb2 hl2 hi hfr
  by_cases n1 : now < 0
  · go_wp2
    go_ret
    exact trueKept_mk rfl HK2.out
  by_cases n2 : 1000000 < now
  · go_wp2
    go_ret
    exact trueKept_mk rfl HK2.out
  by_cases n3 : within < 0
  · go_wp2
    go_ret
    exact trueKept_mk rfl HK2.out
  by_cases n4 : 1000 < within
  · go_wp2
    go_ret
    exact trueKept_mk rfl HK2.out
  go_wp2_with fail
  refine (out_B w2.drew g m 50 S HI.out HB2.out i hi6).mono ?_
  rintro e' w3 ⟨rfl, hB3, hK3⟩
  have HB3 := Lib.hid hB3
  have HK3 := Lib.hid (Kept.fresh HK2.out hK3 hge)
  have hS3 := Bare.out HI.out (by omega) i
  have hask := ask_bare (outSt S i) i fr hi6 hfr6 hS3 ((HI.out.out i).mono (by omega)) now within (by omega) (by omega) (by omega) (by omega)
  clear hB3 hK3
  rcases hask with ⟨h8, hq⟩ | ⟨harm, hq⟩
  · have HQ := Lib.hid (hq w3 g m HB3.out)
    have HS3 := Lib.hid hS3
    have H8 := Lib.hid h8
    clear hq hS3 h8
    go_wp2_with fail
    refine (HQ.out).mono ?_
    rintro e' w4 ⟨rfl, hB4, hK4⟩
    have hk4 := Kept.fresh HK3.out hK4 hge
    have hO := open_B w4 g m 60 _ HS3.out.inv hB4
    rw [H8.out] at hO
    have HO := Lib.hid hO
    clear hO hB4 hK4
    go_wp2_with fail
    refine (HO.out).mono ?_
    rintro e' w5 ⟨A5, c5, rfl, _, hK5⟩
    go_wp2
    go_ret
    exact trueKept_mk rfl (hk4.trans hK5)
  · have HQ := Lib.hid (hq w3 g m HB3.out)
    have HA := Lib.hid harm
    clear hq harm hS3
    go_wp2_with fail
    refine (HQ.out).mono ?_
    rintro e' w4 ⟨rfl, hB4, hK4⟩
    have HB4 := Lib.hid hB4
    have HK4 := Lib.hid (Kept.fresh HK3.out hK4 hge)
    clear hB4 hK4
    by_cases hw0 : 0 < within
    · go_wp2_with fail
      refine (due_B _ 60 HA.out.inv (by omega) (now + within - 1) w4 g m HB4.out).mono ?_
      rintro e' w5 ⟨A5, c5, rfl, hr5, hB5, hK5⟩
      have hno := HA.out.none_early (t := now + within - 1) (by omega)
      have hfl : ((askSt (outSt S i) i fr (now + within)).op.filter (qDue (now + within - 1))).length ≤ 1000 := Nat.le_trans (List.length_filter_le _ _) (by have := HA.out.inv.len; omega)
      have HA5 := Lib.hid (HA.out.early (t := now + within - 1) (by omega))
      generalize dueSt (askSt (outSt S i) i fr (now + within)) (now + within - 1) = S5 at HA5 hB5
      generalize (askSt (outSt S i) i fr (now + within)).op.filter (qDue (now + within - 1)) = l5 at *
      have HB5 := Lib.hid hB5
      have HR5 := Lib.hid hr5
      have HN5 := Lib.hid hno
      have HK5 := Lib.hid (Kept.fresh HK4.out hK5 hge)
      clear hB5 hr5 hno hK5
      go_wp2_with fail
      go_loopw [16] (fun iv wr => ∃ (j : Nat), j ≤ l5.length ∧ iv = .int .i64 j ∧ wr = w5) (fun iv _ => l5.length - (intOf iv).toNat)
      case atStart => exact ⟨0, by omega, rfl, rfl⟩
      case round =>
        obtain ⟨j, hj, rfl, rfl⟩ := hrel
        by_cases hlt : j < l5.length
        · obtain ⟨⟨e1, f1, u1⟩, hx⟩ : ∃ x, l5[j]? = some x := ⟨_, List.getElem?_eq_getElem hlt⟩
          have hne : ¬ e1 = (i : Int) := HN5.out _ (List.mem_of_getElem? hx)
          obtain ⟨b, off, cap', hv', h1, h2, hb, hcs, hcc⟩ := HR5.out.place (by omega)
          injection hv' with q1 q2 q3
          subst q1 q3
          obtain ⟨x1, x2, x3⟩ := asks_at _ j _ _ u1 hx
          have c1 := hcc _ _ x1
          clear hcc x1 x2 x3 hx
          go_wp2
          go_roundw
          case rel => exact ⟨j + 1, by omega, by go_num, trivial⟩
          case measure => simp [intOf]; omega
        · obtain rfl : j = l5.length := by omega
          cases up with
          | true =>
            go_wp2_with fail
            refine (done_B wr g m _ i fr HA5.out HB5.out).mono ?_
            rintro e' w6 ⟨rfl, hB6, hK6⟩
            have HB6 := Lib.hid hB6
            have hk6 := Kept.fresh HK5.out hK6 hge
            have HS6 := Lib.hid HA5.out.done.1
            clear hB6 hK6
            go_wp2_with fail
            refine (due_B _ 60 HS6.out.inv (by omega) (now + within) w6 g m HB6.out).mono ?_
            rintro e' w7 ⟨A7, c7, rfl, _, hB7, hK7⟩
            have HB7 := Lib.hid hB7
            have hk7 := Kept.fresh hk6 hK7 hge
            have HS7 := Lib.hid (HS6.out.due (u := now + within))
            clear hB7 hK7
            go_wp2_with fail
            refine (asked_B w7 g m _ i fr hi6 hfr6 HS7.out HB7.out).mono ?_
            rintro e' w8 ⟨rfl, hK8⟩
            have HB8 := Lib.hid (HB7.out.kept hK8)
            have hk8 := hk7.trans hK8
            go_wp2_with fail
            refine (lost_bare w8 g m _ i hi6 HS7.out HB8.out).mono ?_
            rintro e' w9 ⟨A9, c9, rfl, _, hK9⟩
            rw [show ([] : List Int).length = 0 from rfl]
            go_wp2
            go_ret
            exact trueKept_mk rfl (hk8.trans hK9)
          | false =>
            go_wp2_with fail
            refine (due_B _ 60 HA5.out.inv (by omega) (now + within) wr g m HB5.out).mono ?_
            rintro e' w7 ⟨A7, c7, rfl, _, hB7, hK7⟩
            have HB7 := Lib.hid hB7
            have hk7 := Kept.fresh HK5.out hK7 hge
            have HS7 := Lib.hid HA5.out.due
            clear hB7 hK7
            go_wp2_with fail
            refine (asked_B w7 g m _ i fr hi6 hfr6 HS7.out HB7.out).mono ?_
            rintro e' w8 ⟨rfl, hK8⟩
            have HB8 := Lib.hid (HB7.out.kept hK8)
            have hk8 := hk7.trans hK8
            go_wp2_with fail
            refine (lost_bare w8 g m _ i hi6 HS7.out HB8.out).mono ?_
            rw [show [(fr : Int)].length = 1 from rfl]
            rintro e' w9 ⟨A9, c9, rfl, hr9, hK9⟩
            obtain ⟨b, off, cap', hv', _, _, hb, _, hcc⟩ := hr9.place (by omega)
            injection hv' with q1 q2 q3
            subst q1 q3
            have hc0 : w9.cell? ⟨b, off, none⟩ = some (.int .u8 fr) := hcc 0 _ rfl
            clear hr9 hcc
            go_wp2
            go_ret
            exact trueKept_mk rfl (hk8.trans hK9)
    · obtain rfl : within = 0 := by omega
      have HA5 := HA
      have HB5 := HB4
      have HK5 := HK4
      simp only [Int.add_zero] at HA5 HB5 HK5
      cases up with
      | true =>
        go_wp2_with fail
        refine (done_B w4 g m _ i fr HA5.out HB5.out).mono ?_
        rintro e' w6 ⟨rfl, hB6, hK6⟩
        have HB6 := Lib.hid hB6
        have hk6 := Kept.fresh HK5.out hK6 hge
        have HS6 := Lib.hid HA5.out.done.1
        clear hB6 hK6
        go_wp2_with fail
        refine (due_B _ 60 HS6.out.inv (by omega) now w6 g m HB6.out).mono ?_
        rintro e' w7 ⟨A7, c7, rfl, _, hB7, hK7⟩
        have HB7 := Lib.hid hB7
        have hk7 := Kept.fresh hk6 hK7 hge
        have HS7 := Lib.hid (HS6.out.due (u := now))
        clear hB7 hK7
        go_wp2_with fail
        refine (asked_B w7 g m _ i fr hi6 hfr6 HS7.out HB7.out).mono ?_
        rintro e' w8 ⟨rfl, hK8⟩
        have HB8 := Lib.hid (HB7.out.kept hK8)
        have hk8 := hk7.trans hK8
        go_wp2_with fail
        refine (lost_bare w8 g m _ i hi6 HS7.out HB8.out).mono ?_
        rintro e' w9 ⟨A9, c9, rfl, _, hK9⟩
        rw [show ([] : List Int).length = 0 from rfl]
        go_wp2
        go_ret
        exact trueKept_mk rfl (hk8.trans hK9)
      | false =>
        go_wp2_with fail
        refine (due_B _ 60 HA5.out.inv (by omega) now w4 g m HB5.out).mono ?_
        rintro e' w7 ⟨A7, c7, rfl, _, hB7, hK7⟩
        have HB7 := Lib.hid hB7
        have hk7 := Kept.fresh HK5.out hK7 hge
        have HS7 := Lib.hid HA5.out.due
        clear hB7 hK7
        go_wp2_with fail
        refine (asked_B w7 g m _ i fr hi6 hfr6 HS7.out HB7.out).mono ?_
        rintro e' w8 ⟨rfl, hK8⟩
        have HB8 := Lib.hid (HB7.out.kept hK8)
        have hk8 := hk7.trans hK8
        go_wp2_with fail
        refine (lost_bare w8 g m _ i hi6 HS7.out HB8.out).mono ?_
        rw [show [(fr : Int)].length = 1 from rfl]
        rintro e' w9 ⟨A9, c9, rfl, hr9, hK9⟩
        obtain ⟨b, off, cap', hv', _, _, hb, _, hcc⟩ := hr9.place (by omega)
        injection hv' with q1 q2 q3
        subst q1 q3
        have hc0 : w9.cell? ⟨b, off, none⟩ = some (.int .u8 fr) := hcc 0 _ rfl
        clear hr9 hcc
        go_wp2
        go_ret
        exact trueKept_mk rfl (hk8.trans hK9)
end Go.Proofs.Ytmbgbhhdjobbnaa
