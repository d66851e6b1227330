/- The document's revoke: Next, Out, Same. -/
import Derived.Test.YtmbgbhhdjobbnaaR2
namespace Go.Proofs.Ytmbgbhhdjobbnaa
open Go.RowKit Go.Maps

theorem Row.tail {w : World} {b off cap n : Nat} {x : Int} {l : List Int} (hl : l.length = n) (hr : Row w 5 1 (.slice (some ⟨b, off, none⟩) (n + 1) cap) (n + 1) (u8s (x :: l))) :
    Row w 5 1 (.slice (if cap = 1 then some ⟨b, off, none⟩ else some ⟨b, off + 1, none⟩) n (cap - 1)) n (u8s l) := by
  have hdrop : Row w 5 1 (.slice (some ⟨b, off + 1, none⟩) n (cap - 1)) n (u8s l) := by
    have hr2 := hr
    rw [Nat.add_comm n 1] at hr2
    have := Row.drop (n := 1) (k := n) hr2
    simpa [u8s] using this
  split
  · obtain ⟨_, ⟨h, _⟩ | ⟨b', off', c', cur, hv', hb', h3, h4, h5, _⟩⟩ := hr
    · cases h
    · injection hv' with q1 q2 q3
      injection q1 with q1
      injection q1 with q4 q5 q6
      subst q4 q5 q3
      obtain rfl : n = 0 := by omega
      obtain rfl : l = [] := List.eq_nil_of_length_eq_zero hl
      exact ⟨rfl, .inr ⟨b, off, cap - 1, cur, rfl, hb', by omega, by omega, by omega, by simp [u8s]⟩⟩
  · exact hdrop

theorem rnext_range (w : World) (p : Option Addr) (e : Int) (hp : p.isSome = true) (he : 6 ≤ e) :
   Calls Try.prog 44 #[.pointer p, .int .u8 e] w fun x w' => x = .returned (.tuple #[.int .u8 0, .bool false]) ∧ w = w' := by
  have hL := Lib.hid (rlost_range w p e hp he)
  go_enter Try.func44, Try.ntmps44
  go_wp2_with fail
  refine (hL.out).mono ?_
  rintro x w1 ⟨rfl, rfl⟩
  go_wp2
  go_ret2
  exact ⟨rfl, rfl⟩

theorem rnext_none (w : World) (h : Nat) (S : St) (v : Value) (r : Nat → Value) (hR : IsR w h S v r) (i : Nat) (hi : i < 6) (hl : S.lost i = []) :
   Calls Try.prog 44 #[.pointer (some ⟨h, 0, none⟩), .int .u8 i] w fun x w' => x = .returned (.tuple #[.int .u8 0, .bool false]) ∧ Kept NoBlk w w' := by
  have hL := Lib.hid (rlost_any w h S v r hR i hi (by rw [hl]; simp))
  rw [hl] at hL
  clear hR hl
  go_enter Try.func44, Try.ntmps44
  go_wp2_with fail
  refine (hL.out).mono ?_
  rintro x w1 ⟨A, c, rfl, _, hK⟩
  go_wp2
  go_ret2
  exact ⟨rfl, hK⟩

set_option maxHeartbeats 1000000 in
theorem rnext_some (w : World) (h : Nat) (S : St) (v : Value) (r : Nat → Value) (hR : IsR w h S v r) (i : Nat) (hi : i < 6) (x : Int) (l : List Int) (hl : S.lost i = x :: l) (hn : l.length ≤ 999999) :
   Calls Try.prog 44 #[.pointer (some ⟨h, 0, none⟩), .int .u8 i] w fun y w' => y = .returned (.tuple #[.int .u8 x, .bool true]) ∧ ∃ r', IsR w' h (popB S i) v r' ∧ Kept (OneBlk h) w w' := by
  have hL := Lib.hid (rlost_any w h S v r hR i hi (by rw [hl]; simp; omega))
  rw [hl] at hL
  simp only [List.length_cons] at hL
  have HR := Lib.hid hR
  have HL := Lib.hid hl
  have hi6 : (i : Int) < 6 := by omega
  have hi2 : (i : Int).toNat = i := by omega
  clear hR hl
  go_enter Try.func44, Try.ntmps44
  go_wp2_with fail
  refine (hL.out).mono ?_
  rintro y w1 ⟨A, cap, rfl, hr, hK⟩
  obtain ⟨b, off, cap', hv, h1, h2, hb, hbc, hx⟩ := hr.place (by omega)
  injection hv with q1 q2 q3
  subst q1 q3
  have hx0 : w1.cell? ⟨b, off, none⟩ = some (.int .u8 x) := hx 0 _ rfl
  have hT := Row.tail rfl hr
  have hR1 := HR.out.kept hK
  have hc1 := hR1.blk.at_ (arrR_at v r i hi)
  have hf1 := hR1.blk.frozen (1 + i)
  have hlt1 := hR1.blk.lt
  have hbh : b ≠ h := by
    obtain ⟨cs, hcs⟩ := hbc
    exact hcs.ne_ hR1.blk (by decide)
  have hx1 : ∀ u, (w1.setCell ⟨h, 1 + i, none⟩ u).cell? ⟨b, off, none⟩ = some (.int .u8 x) := fun u => by
    obtain ⟨cs, hcs⟩ := hbc
    have e1 := hcs.cell off
    have e2 := (hcs.far (p := ⟨h, 1 + i, none⟩) hbh u).cell off
    rw [e2, ← e1]
    exact hx0
  have hle : (1 : Int) ≤ (l.length : Int) + 1 := by omega
  have hK1 := Lib.hid hK
  have HR1 := Lib.hid hR1
  clear hr hx hbc hR1 hK
  unfold maxLen at h2
  by_cases hc1 : cap = 1
  all_goals
    simp only [hc1, if_true, if_false] at hT
    try (subst hc1; obtain hl0 : l.length = 0 := (by omega); replace hT : Row w1 5 1 (.slice (some ⟨b, off, none⟩) 0 0) l.length (u8s l) := by simpa [hl0] using hT)
    have HT := Lib.hid hT
    clear hT
    go_wp2
    refine wp_region_plan (by kernel_rfl) (.q 0 <| .q 1 <| .q 2 <| .q 3 <| .q 4 <| .q 5 <| .q 6 <| .e 7 [] <| .nil) (by kernel_rfl) (by kernel_rfl) ?_
    repeat (refine plan_q rfl (fun K hK => ?_); go_simp; refine hK _ ?_; clear hK K)
    refine plan_e rfl (fun K hK => ?_)
    go_simp
    refine hK _ _ stab_nil ?_
    clear hK K
    refine plan_nil ?_
    go_wp2
    go_ret2
    refine ⟨rfl, _, HR1.out.lostSet (S' := popB S i) i hi _ l (HR1.out.blk.set_ _ _) (HT.out.kept (G := OneBlk h) (by repeat (with_reducible first | exact Kept.refl _ _ | apply Kept.drew | apply Kept.drewN | apply Kept.alloc | exact oneHit | apply Kept.setCell)) (fun b cs hb e => hb.ne_ HR1.out.blk (by decide) e)) (by repeat (with_reducible first | exact Kept.refl _ _ | apply Kept.drew | apply Kept.drewN | apply Kept.alloc | exact oneHit | apply Kept.setCell)) rfl (fun j hj => ?_), ?_⟩
    · by_cases e : j = i
      · subst e
        simp [popB, HL.out]
      · simp [popB, e]
    · exact (hK1.out.weaken (fun _ _ e => e.elim)).trans (by repeat (with_reducible first | exact Kept.refl _ _ | apply Kept.drew | apply Kept.drewN | apply Kept.alloc | exact oneHit | apply Kept.setCell))

/-- The loop of Out, as far as the reference goes: who is another's stays. -/
theorem qOut_step (l : List (Int × Int × Int)) (q : Int × Int × Int → Bool) (j : Nat) (x : Int × Int × Int) (hx : l[j]? = some x) :
    (l.take (j + 1)).filter q = (l.take j).filter q ++ (if q x = true then [x] else []) := by
  rw [List.take_add_one, hx, List.filter_append]
  congr 1
  cases h : q x <;> simp [h]

set_option maxHeartbeats 4000000 in
theorem rout_any (w : World) (h : Nat) (S : St) (v : Value) (r : Nat → Value) (hR : IsR w h S v r) (hn : S.op.length ≤ 1000000) (i : Nat) (hi : i < 6) :
   Calls Try.prog 45 #[.pointer (some ⟨h, 0, none⟩), .int .u8 i] w fun x w' => x = .returned (.int .i64 (S.op.filter (qOut i)).length) ∧ ∃ v' r', IsR w' h (outSt S i) v' r' ∧ Kept (OneBlk h) w w' := by
  have HR := Lib.hid hR
  obtain ⟨A, cap, hv⟩ := hR.row.sl
  have hi6 : (i : Int) < 6 := by omega
  have hi2 : (i : Int).toNat = i := by omega
  clear hR
  go_enter Try.func45, Try.ntmps45
  go_wp2_with fail
  go_loopw [5, 6, 7] (fun lv nv iv wr => ∃ (j : Nat), j ≤ S.op.length ∧ iv = .int .i64 j ∧ nv = .int .i64 ((S.op.take j).filter (qOut i)).length ∧ wr.ownsRow w.heap.size 37 3 lv ((S.op.take j).filter (fun a => !qOut i a)).length (asks ((S.op.take j).filter (fun a => !qOut i a))) ∧ Kept NoBlk w wr) (fun _ _ iv _ => S.op.length - (intOf iv).toNat)
  case atStart => exact ⟨0, by omega, rfl, rfl, own_none _ _ _ _, Kept.refl _ _⟩
  case round =>
    obtain ⟨j, hj, rfl, rfl, hown, hK⟩ := hrel
    have HO := Lib.hid hown
    have HK := Lib.hid hK
    have hRr := HR.out.kept hK
    have hc : wr.cell? ⟨h, 0, none⟩ = some v := hRr.blk.at_ rfl
    have hlt := hRr.blk.lt
    have hw := hK.size
    have hf1 : ((S.op.take j).filter (fun a => !qOut i a)).length ≤ j := Nat.le_trans (List.length_filter_le _ _) (by rw [List.length_take]; omega)
    have hf2 : ((S.op.take j).filter (qOut i)).length ≤ j := Nat.le_trans (List.length_filter_le _ _) (by rw [List.length_take]; omega)
    rw [hv] at hc
    clear hown hK
    by_cases hlt2 : j < S.op.length
    · obtain ⟨⟨e, f, u⟩, hx⟩ : ∃ x, S.op[j]? = some x := ⟨_, List.getElem?_eq_getElem (by omega)⟩
      have hs1 := qOut_step S.op (qOut i) j _ hx
      have hs2 := qOut_step S.op (fun a => !qOut i a) j _ hx
      obtain ⟨b, off, cap', hv', h1, h2, hb, _, hcc⟩ := hRr.row.place (by omega)
      rw [hv] at hv'
      injection hv' with q1 q2 q3
      subst q1 q3
      obtain ⟨x1, x2, x3⟩ := asks_at _ j _ _ u hx
      have c1 := hcc _ _ x1
      have c2 := hcc _ _ x2
      have c3 := hcc _ _ x3
      simp only [← Nat.add_assoc] at c2 c3
      clear hcc x1 x2 x3 hx hRr
      by_cases he : e = i
      · have hq : qOut i (e, f, u) = true := by simp [qOut, he]
        rw [if_pos hq] at hs1
        rw [if_neg (by simp [hq])] at hs2
        rw [List.append_nil] at hs2
        have HS1 := Lib.hid hs1
        have HS2 := Lib.hid hs2
        clear hs1 hs2 hq
        subst he
        go_wp2
        go_roundw
        case rel => exact ⟨j + 1, by omega, by go_num, by rw [HS1.out, List.length_append]; go_num, by rw [HS2.out]; exact HO.out, HK.out⟩
        case measure => simp [intOf]; omega
      · have hq : qOut i (e, f, u) = false := by simp [qOut, he]
        rw [if_neg (by simp [hq]), List.append_nil] at hs1
        rw [if_pos (by simp [hq])] at hs2
        have HS1 := Lib.hid hs1
        have HS2 := Lib.hid hs2
        clear hs1 hs2 hq
        go_wp2_with (refine wpList_append_mine rfl (.tmp 33) (.tmp 41) 33 rfl 37 3 16 Try.underlying33 Try.sz37 (by decide) w.heap.size u5 _ _ rfl (own_kept HO.out (G := NoBlk) ((Kept.refl _ _).alloc _) (fun _ _ e => e)) (some ⟨wr.heap.size, 0, none⟩) 1 1 [.int .u8 e, .int .u8 f, .int .i64 u] rfl (Row.new (Blk.new _ _ _) (by simp) (by simp [maxLen])) rfl (by simp only [maxLen]; omega) (by omega) (by simp; omega) ?_; intro A2 cap2 w2 hown2 hK2)
        go_roundw
        case rel =>
          refine ⟨j + 1, by omega, by go_num, by rw [HS1.out], ?_, Kept.fresh (HK.out.alloc _) hK2 (fun b e => e)⟩
          rw [HS2.out, List.length_append, asks_append]
          simpa [asks, askCells] using hown2
        case measure => simp [intOf]; omega
    · obtain rfl : j = S.op.length := by omega
      have ht : S.op.take S.op.length = S.op := List.take_of_length_le (Nat.le_refl _)
      rw [ht] at HO
      rw [ht] at hf1 hf2
      have hrow := Row.of_own HO.out
      obtain ⟨A5, c5, rfl⟩ := hrow.sl
      have hf := hRr.blk.frozen 0
      have hB2 : Blk (wr.setCell ⟨h, 0, none⟩ (.slice A5 (S.op.filter (fun a => !qOut i a)).length c5)) h 73 (arrR (.slice A5 (S.op.filter (fun a => !qOut i a)).length c5) r) := Blk.cast (hRr.blk.set_ 0 _) rfl
      have hR2 : IsR (wr.setCell ⟨h, 0, none⟩ (.slice A5 (S.op.filter (fun a => !qOut i a)).length c5)) h (leave S (qOut i)) (.slice A5 (S.op.filter (fun a => !qOut i a)).length c5) r :=
        hRr.opSet (hRr.blk.set_ 0 _) (hrow.kept (G := OneBlk h) (by repeat (with_reducible first | exact Kept.refl _ _ | apply Kept.drew | apply Kept.drewN | apply Kept.alloc | exact oneHit | apply Kept.setCell)) (fun b cs hb e => hb.ne_ hRr.blk (by decide) e)) (by repeat (with_reducible first | exact Kept.refl _ _ | apply Kept.drew | apply Kept.drewN | apply Kept.alloc | exact oneHit | apply Kept.setCell)) rfl
      have hc2 := hB2.at_ (arrR_at _ r i hi)
      have hf2 := hB2.frozen (1 + i)
      have hlt3 := hB2.lt
      have HR2 := Lib.hid hR2
      clear hRr hrow hB2 hR2
      go_wp2
      go_ret
      refine ⟨by rw [ht]; rfl, _, _, HR2.out.lostSet (S' := outSt S i) i hi (.slice none 0 0) [] (HR2.out.blk.set_ _ _) (Row.nil _ _ _) (by repeat (with_reducible first | exact Kept.refl _ _ | apply Kept.drew | apply Kept.drewN | apply Kept.alloc | exact oneHit | apply Kept.setCell)) rfl (fun j _ => rfl), ?_⟩
      exact (HK.out.weaken (fun _ _ e => e.elim)).trans (by repeat (with_reducible first | exact Kept.refl _ _ | apply Kept.drew | apply Kept.drewN | apply Kept.alloc | exact oneHit | apply Kept.setCell))
set_option maxHeartbeats 4000000 in
theorem rout_range (w : World) (h : Nat) (S : St) (v : Value) (r : Nat → Value) (hR : IsR w h S v r) (hn : S.op.length ≤ 1000000) (i : Int) (hi : 6 ≤ i) :
   Calls Try.prog 45 #[.pointer (some ⟨h, 0, none⟩), .int .u8 i] w fun x w' => x = .returned (.int .i64 (S.op.filter (qOut i)).length) ∧ ∃ v', IsR w' h (leave S (qOut i)) v' r ∧ Kept (OneBlk h) w w' := by
  have HR := Lib.hid hR
  obtain ⟨A, cap, hv⟩ := hR.row.sl
  clear hR
  go_enter Try.func45, Try.ntmps45
  go_wp2_with fail
  go_loopw [5, 6, 7] (fun lv nv iv wr => ∃ (j : Nat), j ≤ S.op.length ∧ iv = .int .i64 j ∧ nv = .int .i64 ((S.op.take j).filter (qOut i)).length ∧ wr.ownsRow w.heap.size 37 3 lv ((S.op.take j).filter (fun a => !qOut i a)).length (asks ((S.op.take j).filter (fun a => !qOut i a))) ∧ Kept NoBlk w wr) (fun _ _ iv _ => S.op.length - (intOf iv).toNat)
  case atStart => exact ⟨0, by omega, rfl, rfl, own_none _ _ _ _, Kept.refl _ _⟩
  case round =>
    obtain ⟨j, hj, rfl, rfl, hown, hK⟩ := hrel
    have HO := Lib.hid hown
    have HK := Lib.hid hK
    have hRr := HR.out.kept hK
    have hc : wr.cell? ⟨h, 0, none⟩ = some v := hRr.blk.at_ rfl
    have hlt := hRr.blk.lt
    have hw := hK.size
    have hf1 : ((S.op.take j).filter (fun a => !qOut i a)).length ≤ j := Nat.le_trans (List.length_filter_le _ _) (by rw [List.length_take]; omega)
    have hf2 : ((S.op.take j).filter (qOut i)).length ≤ j := Nat.le_trans (List.length_filter_le _ _) (by rw [List.length_take]; omega)
    rw [hv] at hc
    clear hown hK
    by_cases hlt2 : j < S.op.length
    · obtain ⟨⟨e, f, u⟩, hx⟩ : ∃ x, S.op[j]? = some x := ⟨_, List.getElem?_eq_getElem (by omega)⟩
      have hs1 := qOut_step S.op (qOut i) j _ hx
      have hs2 := qOut_step S.op (fun a => !qOut i a) j _ hx
      obtain ⟨b, off, cap', hv', h1, h2, hb, _, hcc⟩ := hRr.row.place (by omega)
      rw [hv] at hv'
      injection hv' with q1 q2 q3
      subst q1 q3
      obtain ⟨x1, x2, x3⟩ := asks_at _ j _ _ u hx
      have c1 := hcc _ _ x1
      have c2 := hcc _ _ x2
      have c3 := hcc _ _ x3
      simp only [← Nat.add_assoc] at c2 c3
      clear hcc x1 x2 x3 hx hRr
      by_cases he : e = i
      · have hq : qOut i (e, f, u) = true := by simp [qOut, he]
        rw [if_pos hq] at hs1
        rw [if_neg (by simp [hq])] at hs2
        rw [List.append_nil] at hs2
        have HS1 := Lib.hid hs1
        have HS2 := Lib.hid hs2
        clear hs1 hs2 hq
        subst he
        go_wp2
        go_roundw
        case rel => exact ⟨j + 1, by omega, by go_num, by rw [HS1.out, List.length_append]; go_num, by rw [HS2.out]; exact HO.out, HK.out⟩
        case measure => simp [intOf]; omega
      · have hq : qOut i (e, f, u) = false := by simp [qOut, he]
        rw [if_neg (by simp [hq]), List.append_nil] at hs1
        rw [if_pos (by simp [hq])] at hs2
        have HS1 := Lib.hid hs1
        have HS2 := Lib.hid hs2
        clear hs1 hs2 hq
        go_wp2_with (refine wpList_append_mine rfl (.tmp 33) (.tmp 41) 33 rfl 37 3 16 Try.underlying33 Try.sz37 (by decide) w.heap.size u5 _ _ rfl (own_kept HO.out (G := NoBlk) ((Kept.refl _ _).alloc _) (fun _ _ e => e)) (some ⟨wr.heap.size, 0, none⟩) 1 1 [.int .u8 e, .int .u8 f, .int .i64 u] rfl (Row.new (Blk.new _ _ _) (by simp) (by simp [maxLen])) rfl (by simp only [maxLen]; omega) (by omega) (by simp; omega) ?_; intro A2 cap2 w2 hown2 hK2)
        go_roundw
        case rel =>
          refine ⟨j + 1, by omega, by go_num, by rw [HS1.out], ?_, Kept.fresh (HK.out.alloc _) hK2 (fun b e => e)⟩
          rw [HS2.out, List.length_append, asks_append]
          simpa [asks, askCells] using hown2
        case measure => simp [intOf]; omega
    · obtain rfl : j = S.op.length := by omega
      have ht : S.op.take S.op.length = S.op := List.take_of_length_le (Nat.le_refl _)
      rw [ht] at HO
      rw [ht] at hf1 hf2
      have hrow := Row.of_own HO.out
      obtain ⟨A5, c5, rfl⟩ := hrow.sl
      have hf := hRr.blk.frozen 0
      have hB2 : Blk (wr.setCell ⟨h, 0, none⟩ (.slice A5 (S.op.filter (fun a => !qOut i a)).length c5)) h 73 (arrR (.slice A5 (S.op.filter (fun a => !qOut i a)).length c5) r) := Blk.cast (hRr.blk.set_ 0 _) rfl
      have hR2 : IsR (wr.setCell ⟨h, 0, none⟩ (.slice A5 (S.op.filter (fun a => !qOut i a)).length c5)) h (leave S (qOut i)) (.slice A5 (S.op.filter (fun a => !qOut i a)).length c5) r :=
        hRr.opSet (hRr.blk.set_ 0 _) (hrow.kept (G := OneBlk h) (by repeat (with_reducible first | exact Kept.refl _ _ | apply Kept.drew | apply Kept.drewN | apply Kept.alloc | exact oneHit | apply Kept.setCell)) (fun b cs hb e => hb.ne_ hRr.blk (by decide) e)) (by repeat (with_reducible first | exact Kept.refl _ _ | apply Kept.drew | apply Kept.drewN | apply Kept.alloc | exact oneHit | apply Kept.setCell)) rfl
      have HR2 := Lib.hid hR2
      clear hRr hrow hB2 hR2
      go_wp2
      go_ret
      exact ⟨by rw [ht]; rfl, _, HR2.out, (HK.out.weaken (fun _ _ e => e.elim)).trans (by repeat (with_reducible first | exact Kept.refl _ _ | apply Kept.drew | apply Kept.drewN | apply Kept.alloc | exact oneHit | apply Kept.setCell))⟩

end Go.Proofs.Ytmbgbhhdjobbnaa
