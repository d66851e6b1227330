/- The laws of revoke, walked: Forks, Few. -/
import Derived.Test.YtmbgbhhdjobbnaaM1
namespace Go.Proofs.Ytmbgbhhdjobbnaa
open Go.RowKit Go.Maps

theorem PB.away {w w' : World} {g m g1 m1 h1 : Nat} {S S1 S2 : St} (hB : PB w g m S) (hB1 : PB w g1 m1 S1) (hR1 : PR w h1 S2) (hg : g ≠ g1) (hm : m ≠ m1) (hk : Kept (ThreeBlk g1 m1 h1) w w') : PB w' g m S := by
  obtain ⟨v, r, hB⟩ := hB
  obtain ⟨v1, r1, hB1⟩ := hB1
  obtain ⟨v2, r2, hR1⟩ := hR1
  have h1 : ∀ (t : TypeId) b cs, Blk w b t cs → t ≠ 60 → t ≠ 73 → ¬ ThreeBlk g1 m1 h1 b := fun t b cs hb ht ht2 e => by
    rcases e with e | e | e
    · exact hb.ne_ hB1.blk ht e
    · exact hB1.map.ne hb e.symm
    · exact hb.ne_ hR1.blk ht2 e
  refine ⟨v, r, hB.blk.kept hk (fun e => ?_), hB.row.kept hk (fun b cs hb => h1 _ _ _ hb (by decide) (by decide)), fun i hi => (hB.lost i hi).kept hk (fun b cs hb => h1 _ _ _ hb (by decide) (by decide)), hB.map.kept hk (fun e => ?_)⟩
  · rcases e with e | e | e
    · exact hg e
    · exact hB1.map.ne hB.blk e.symm
    · exact hB.blk.ne_ hR1.blk (by decide) e
  · rcases e with e | e | e
    · exact hB.map.ne hB1.blk e
    · exact hm e
    · exact hB.map.ne hR1.blk e
theorem PR.away {w w' : World} {h g1 m1 h1 : Nat} {S S1 S2 : St} (hR : PR w h S) (hB1 : PB w g1 m1 S1) (hR1 : PR w h1 S2) (hh : h ≠ h1) (hk : Kept (ThreeBlk g1 m1 h1) w w') : PR w' h S := by
  obtain ⟨v, r, hR⟩ := hR
  obtain ⟨v1, r1, hB1⟩ := hB1
  obtain ⟨v2, r2, hR1⟩ := hR1
  have h2 : ∀ (t : TypeId) b cs, Blk w b t cs → t ≠ 60 → t ≠ 73 → ¬ ThreeBlk g1 m1 h1 b := fun t b cs hb ht ht2 e => by
    rcases e with e | e | e
    · exact hb.ne_ hB1.blk ht e
    · exact hB1.map.ne hb e.symm
    · exact hb.ne_ hR1.blk ht2 e
  refine ⟨v, r, hR.blk.kept hk (fun e => ?_), hR.row.kept hk (fun b cs hb => h2 _ _ _ hb (by decide) (by decide)), fun i hi => (hR.lost i hi).kept hk (fun b cs hb => h2 _ _ _ hb (by decide) (by decide))⟩
  rcases e with e | e | e
  · exact hR.blk.ne_ hB1.blk (by decide) e
  · exact hB1.map.ne hR.blk e.symm
  · exact hh e

theorem fork_B (w : World) (g m n : Nat) (S : St) (hI : Inv S n) (h : PB w g m S) :
   Calls Try.prog 21 #[.pointer (some ⟨g, 0, none⟩)] w fun x w' => ∃ g' m', x = .returned (.pointer (some ⟨g', 0, none⟩)) ∧ w.heap.size ≤ g' ∧ w.heap.size ≤ m' ∧ PB w' g' m' S ∧ Kept NoBlk w w' := by
  obtain ⟨v, r, h⟩ := h
  have hl := hI.len
  exact (fork_any w g m S v r h (by omega)).mono (fun e w' ⟨g', m', v', h1, h2, _, h4, h5, h6⟩ => ⟨g', m', h1, h2, h4, ⟨v', r, h5⟩, h6⟩)
theorem fork_R (w : World) (h : Nat) (S : St) (hR : PR w h S) :
   Calls Try.prog 22 #[.pointer (some ⟨h, 0, none⟩)] w fun x w' => ∃ h', x = .returned (.pointer (some ⟨h', 0, none⟩)) ∧ w.heap.size ≤ h' ∧ PR w' h' S ∧ Kept NoBlk w w' := by
  obtain ⟨v, r, hR⟩ := hR
  exact (rfork_any w h S v r hR).mono (fun e w' ⟨h', v', r', h1, h2, _, h4, h5⟩ => ⟨h', h1, h2, ⟨v', r', h4⟩, h5⟩)

set_option maxHeartbeats 4000000 in
theorem forks_any (w : World) (A : Option Addr) (n cap : Nat) (hD : IsDeeds w A n) (A2 : Option Addr) (n2 cap2 : Nat) (hD2 : IsDeeds w A2 n2) :
   Calls Try.prog 8 #[.slice A n cap, .slice A2 n2 cap2] w (TrueKept w) := by
  have HP := Lib.hid (play_any w A n cap hD)
  have HD := Lib.hid hD2
  clear hD hD2
  go_enter Try.func8, Try.ntmps8
  go_wp2_with fail
  refine (HP.out).mono ?_
  rintro e w1 ⟨g, m, h, rfl, hg, hm, hh, S, hI, hB, hR, hK⟩
  go_wp2_with fail
  refine (live_any w1).mono ?_
  rintro e w2 ⟨rfl, hK2⟩
  have hB2 := hB.kept hK2
  have hR2 := hR.kept hK2
  have hk2 := hK.trans hK2
  go_wp2_with fail
  refine (fork_B w2 g m 50 S hI hB2).mono ?_
  rintro e w3 ⟨g1, m1, rfl, hg1, hm1, hF, hK3⟩
  have hR3 := hR2.kept hK3
  have hB3 := hB2.kept hK3
  have hlB := hB2.lt
  have hlh := hR3.lt
  go_wp2_with fail
  refine (fork_R w3 h S hR3).mono ?_
  rintro e w4 ⟨h1, rfl, hh1, hG, hK4⟩
  have hgg : g ≠ g1 := by omega
  have hmm : m ≠ m1 := by omega
  have hhh : h ≠ h1 := by omega
  have hk4 : Kept NoBlk w w4 := (hk2.trans hK3).trans hK4
  have hwg1 : w.heap.size ≤ g1 := by have := hk2.size; omega
  have hwm1 : w.heap.size ≤ m1 := by have := hk2.size; omega
  have hwh1 : w.heap.size ≤ h1 := by have := (hk2.trans hK3).size; omega
  have HB := Lib.hid (hB3.kept hK4)
  have HR := Lib.hid (hR3.kept hK4)
  have HF := Lib.hid (hF.kept hK4)
  have HG := Lib.hid hG
  have HK := Lib.hid hk4
  have HI := Lib.hid hI
  clear hB hR hK hK2 hB2 hR2 hk2 hF hK3 hR3 hB3 hG hK4 hk4 hlB hlh hg1 hm1 hh1 hI
  go_wp2_with fail
  go_loopw [10] (fun i wr => ∃ (j : Nat) (S' : St), j ≤ n2 ∧ j ≤ 16 ∧ i = .int .i64 j ∧ Inv S' (50 + j) ∧ PB wr g1 m1 S' ∧ PR wr h1 S' ∧ PB wr g m S ∧ PR wr h S ∧ Kept NoBlk w wr) (fun i _ => 16 - (intOf i).toNat)
  case atStart => exact ⟨0, S, by omega, by omega, rfl, HI.out, HF.out, HG.out, HB.out, HR.out, HK.out⟩
  case round =>
    obtain ⟨j, S', hj, hj16, rfl, hI', hF', hG', hB', hR', hK'⟩ := hrel
    clear HF HG HB HR HK
    have HF := Lib.hid hF'
    have HG := Lib.hid hG'
    have HB := Lib.hid hB'
    have HR := Lib.hid hR'
    have HK := Lib.hid hK'
    have HI' := Lib.hid hI'
    clear hF' hG' hB' hR' hK' hI'
    have Hend : ∀ wr', Kept NoBlk wr wr' → Calls Try.prog 17 #[.pointer (some ⟨g, 0, none⟩), .pointer (some ⟨h, 0, none⟩)] wr' (TrueKept wr') := fun wr' hk => same_any wr' g m h 50 S HI.out (by omega) (HB.out.kept hk) (HR.out.kept hk)
    have Hend2 : ∀ wr', Kept NoBlk wr wr' → Calls Try.prog 17 #[.pointer (some ⟨g1, 0, none⟩), .pointer (some ⟨h1, 0, none⟩)] wr' (TrueKept wr') := fun wr' hk => same_any wr' g1 m1 h1 _ S' HI'.out (by omega) (HF.out.kept hk) (HG.out.kept hk)
    have HE1 := Lib.hid Hend
    have HE2 := Lib.hid Hend2
    clear Hend Hend2
    by_cases hlt : j < n2
    · by_cases hlt16 : j < 16
      · obtain ⟨b, off, rfl, hb, hd⟩ := (HD.out.kept HK.out) (by omega)
        obtain ⟨k, now, within, e, f, h0, h2, c1, c2, c3, c4, c5⟩ := hd j hlt
        clear hd
        have hdo := Lib.hid (do_any wr g1 m1 h1 (50 + j) S' HI'.out (by omega) HF.out HG.out k now within e f h0 h2)
        unfold deedV at hdo
        go_wp2_with fail
        refine (hdo.out).mono ?_
        rintro e' w5 ⟨rfl, S2, hI2, hF2, hG2, hK5⟩
        have hk5 : Kept NoBlk w w5 := HK.out.fresh hK5 (fun b e => by rcases e with e | e | e <;> omega)
        have hB5 := HB.out.away HF.out HG.out hgg hmm hK5
        have hR5 := HR.out.away HF.out HG.out hhh hK5
        go_wp2
        go_roundw
        case rel => exact ⟨j + 1, S2, by omega, by omega, by go_num, hI2, hF2, hG2, hB5, hR5, hk5⟩
        case measure => simp [intOf]; omega
      · obtain rfl : j = 16 := by omega
        go_wp2_with fail
        refine (HE1.out _ (Kept.refl _ _)).mono ?_
        rintro e w5 ⟨rfl, hK5⟩
        go_wp2_with fail
        refine (HE2.out _ hK5).mono ?_
        rintro e w6 ⟨rfl, hK6⟩
        go_wp2
        go_ret
        exact trueKept_mk rfl ((HK.out.trans hK5).trans hK6)
    · obtain rfl : j = n2 := by omega
      go_wp2_with fail
      refine (HE1.out _ (Kept.refl _ _)).mono ?_
      rintro e w5 ⟨rfl, hK5⟩
      go_wp2_with fail
      refine (HE2.out _ hK5).mono ?_
      rintro e w6 ⟨rfl, hK6⟩
      go_wp2
      go_ret
      exact trueKept_mk rfl ((HK.out.trans hK5).trans hK6)

theorem look_mem : ∀ (l : List (Int × Int × Int)) (j : Nat) (e f u : Int), Dis l → l[j]? = some (e, f, u) → lookOp l (e, f) = some u
  | [], j, e, f, u, _, h => by simp at h
  | x :: l, 0, e, f, u, _, h => by
    simp only [List.getElem?_cons_zero, Option.some.injEq] at h
    subst h
    rw [look_cons]
    simp
  | x :: l, j + 1, e, f, u, hd, h => by
    have h' : l[j]? = some (e, f, u) := by simpa using h
    rw [look_cons, look_mem l j e f u (List.nodup_cons.1 hd).2 h', if_neg]
    intro hh
    simp only [Bool.and_eq_true, beq_iff_eq] at hh
    exact (List.nodup_cons.1 hd).1 (List.mem_map.2 ⟨_, List.mem_of_getElem? h', Prod.ext hh.1.symm hh.2.symm⟩)
theorem dis_two (l : List (Int × Int × Int)) (hd : Dis l) (k j : Nat) (hkj : k < j) (e f u e' f' u' : Int) (hk : l[k]? = some (e, f, u)) (hj : l[j]? = some (e', f', u')) : ¬ (e = e' ∧ f = f') := by
  rintro ⟨rfl, rfl⟩
  obtain ⟨h1, h2⟩ := List.getElem?_eq_some_iff.1 hk
  obtain ⟨h3, h4⟩ := List.getElem?_eq_some_iff.1 hj
  have := List.pairwise_iff_getElem.1 hd k j (by simpa using h1) (by simpa using h3) hkj
  simp [h2, h4] at this

set_option maxHeartbeats 4000000 in
theorem few_any (w : World) (A : Option Addr) (n cap : Nat) (hD : IsDeeds w A n) :
   Calls Try.prog 5 #[.slice A n cap] w (TrueKept w) := by
  have HP := Lib.hid (play_any w A n cap hD)
  clear hD
  go_enter Try.func5, Try.ntmps5
  go_wp2_with fail
  refine (HP.out).mono ?_
  rintro e w1 ⟨g, m, h, rfl, hg, hm, hh, S, hI, hB, hR, hK⟩
  go_wp2_with fail
  refine (live_any w1).mono ?_
  rintro e w2 ⟨rfl, hK2⟩
  have hB2 := hB.kept hK2
  have hk2 := hK.trans hK2
  have hl8 := hI.len
  have hO : Calls Try.prog 14 #[.pointer (some ⟨g, 0, none⟩)] w2 fun x w' => ∃ A c, x = .returned (.slice A S.op.length c) ∧ Row w' 37 3 (.slice A S.op.length c) S.op.length (asks S.op) ∧ Kept NoBlk w2 w' := by
    obtain ⟨v, r, h⟩ := hB2
    exact open_any w2 g m S v r h (by omega)
  have HO := Lib.hid hO
  clear hO
  go_wp2_with fail
  refine (HO.out).mono ?_
  rintro e w3 ⟨A3, c3, rfl, hr, hK3⟩
  have HR := Lib.hid hr
  have HB := Lib.hid (hB2.kept hK3)
  have HK := Lib.hid (hk2.trans hK3)
  have HI := Lib.hid hI
  clear hI hB hR hK hK2 hk2 hB2 hr hK3 HO HP
  have hl8' : (S.op.length : Int) ≤ 8 := by omega
  go_wp2
  go_loopw [7, 8, 9, 10] (fun i _ _ _ wr => ∃ (j : Nat), j ≤ S.op.length ∧ i = .int .i64 j ∧ Row wr 37 3 (.slice A3 S.op.length c3) S.op.length (asks S.op) ∧ PB wr g m S ∧ Kept NoBlk w wr) (fun i _ _ _ _ => S.op.length - (intOf i).toNat)
  case atStart => exact ⟨0, by omega, rfl, HR.out, HB.out, HK.out⟩
  case round =>
    obtain ⟨j, hj, rfl, hr, hB, hK⟩ := hrel
    clear HR HB HK
    have HR := Lib.hid hr
    have HB := Lib.hid hB
    have HK := Lib.hid hK
    clear hr hB hK
    by_cases hlt : j < S.op.length
    · obtain ⟨⟨e, f, u⟩, hx⟩ : ∃ x, S.op[j]? = some x := ⟨_, List.getElem?_eq_getElem hlt⟩
      have hlook := look_mem S.op j e f u HI.out.dis hx
      have hkey : okK (e, f) := HI.out.ok _ (List.mem_of_getElem? hx)
      have hAs : ∀ wr', Kept NoBlk wr wr' → Calls Try.prog 16 #[.pointer (some ⟨g, 0, none⟩), .int .u8 e, .int .u8 f] wr' fun x w' => x = .returned (.tuple #[.int .i64 u, .bool true]) ∧ Kept NoBlk wr' w' := fun wr' hk => by
        obtain ⟨v, r, hB⟩ := HB.out.kept hk
        have := asked_any wr' g m S v r hB e f hkey
        rw [hlook] at this
        exact this
      have HA := Lib.hid hAs
      have HX := Lib.hid hx
      obtain ⟨b, off, cap', hv', h1, h2, hb, hcs, hcc⟩ := HR.out.place (by omega)
      injection hv' with q1 q2 q3
      subst q1 q3
      obtain ⟨x1, x2, x3⟩ := asks_at _ j _ _ u hx
      have c1 := hcc _ _ x1
      have c2 := hcc _ _ x2
      simp only [← Nat.add_assoc] at c2
      clear hcc hAs hlook
      go_wp2
      refine wp_region_plan (by kernel_rfl) (.q 0 <| .q 1 <| .q 2 <| .q 3 <| .q 4 <| .q 5 <| .q 6 <| .q 7 <| .q 8 <| .q 9 <| .q 10 <| .e 11 [] <| .q 12 <| .q 13 <| .q 14 <| .q 15 <| .q 16 <| .nil) (by kernel_rfl) (by kernel_rfl) ?_
      repeat (refine plan_q rfl (fun K hK => ?_); go_simp; refine hK _ ?_; clear hK K)
      refine plan_e rfl (fun K hK => ?_)
      go_simp
      refine (HA.out _ (by repeat (with_reducible first | exact Kept.refl _ _ | apply Kept.drew | apply Kept.drewN | apply Kept.alloc | exact oneHit | apply Kept.setCell))).mono ?_
      rintro e' w5 ⟨rfl, hK5⟩
      have hk5 : Kept NoBlk wr w5 := Kept.trans (by repeat (with_reducible first | exact Kept.refl _ _ | apply Kept.drew | apply Kept.drewN | apply Kept.alloc | exact oneHit | apply Kept.setCell)) hK5
      have hR5 := HR.out.kept hk5 (fun _ _ _ e => e)
      have hc5 : ∀ k v, (asks S.op)[k]? = some v → w5.cell? ⟨b, off + k, none⟩ = some v := by
        obtain ⟨b', off', cap'', hv'', _, _, _, _, hcc⟩ := hR5.place (by omega)
        injection hv'' with q1 q2 q3
        injection q1 with q1
        injection q1 with q4 q5 q6
        subst q4 q5
        exact hcc
      have d1 := hc5 _ _ x1
      have d2 := hc5 _ _ x2
      have d3 := hc5 _ _ x3
      simp only [← Nat.add_assoc] at d2 d3
      have HC5 := Lib.hid hc5
      have HB5 := Lib.hid (HB.out.kept hk5)
      have HK5 := Lib.hid (HK.out.trans hk5)
      have hb5 : b < w5.heap.size := Nat.lt_of_lt_of_le hb hk5.size
      clear hc5 hR5
      refine hK _ _ stab_nil ?_
      clear hK K
      repeat (refine plan_q rfl (fun K hK => ?_); go_simp; refine hK _ ?_; clear hK K)
      refine plan_nil ?_
      go_wp2
      go_loopw [10] (fun i wq => ∃ (k : Nat), k ≤ j ∧ i = .int .i64 k ∧ Kept NoBlk w5 wq) (fun i _ => j - (intOf i).toNat)
      case atStart => exact ⟨0, by omega, rfl, Kept.refl _ _⟩
      case round =>
        obtain ⟨k, hk, rfl, hKq⟩ := hrel
        by_cases hkj : k < j
        · obtain ⟨⟨e2, f2, u2⟩, hx2⟩ : ∃ x, S.op[k]? = some x := ⟨_, List.getElem?_eq_getElem (by omega)⟩
          have hne := dis_two S.op HI.out.dis k j hkj _ _ _ _ _ _ hx2 HX.out
          obtain ⟨y1, y2, y3⟩ := asks_at _ k _ _ u2 hx2
          have hcq : ∀ k v, (asks S.op)[k]? = some v → wr.cell? ⟨b, off + k, none⟩ = some v := fun k v hv => (hKq.cell (p := ⟨b, off + k, none⟩) (by simpa using hb5) (fun e => e)).trans (HC5.out _ _ hv)
          have z1 := hcq _ _ y1
          have z2 := hcq _ _ y2
          have z3 := hcq _ _ x1
          have z4 := hcq _ _ x2
          simp only [← Nat.add_assoc] at z2 z4
          have hko : k < S.op.length := by omega
          have HKq := Lib.hid hKq
          have HNE := Lib.hid hne
          clear hcq y1 y2 y3 hKq hne
          by_cases he : e2 = e
          · have hf : ¬ f2 = f := fun hf => HNE.out ⟨he, hf⟩
            subst he
            go_wp2
            refine wp_region_plan (by kernel_rfl) (.q 0 <| .q 1 <| .q 2 <| .q 3 <| .q 4 <| .q 5 <| .q 6 <| .q 7 <| .q 8 <| .q 9 <| .q 10 <| .q 11 <| .q 12 <| .q 13 <| .q 14 <| .q 15 <| .q 16 <| .q 17 <| .q 18 <| .q 19 <| .q 20 <| .q 21 <| .q 22 <| .q 23 <| .nil) (by kernel_rfl) (by kernel_rfl) ?_
            repeat (refine plan_q rfl (fun K hK => ?_); go_simp; refine hK _ ?_; clear hK K)
            refine plan_nil ?_
            go_wp2
            go_roundw
            case rel => exact ⟨k + 1, by omega, by go_num, HKq.out.drew⟩
            case measure => simp [intOf]; omega
          · go_wp2
            refine wp_region_plan (by kernel_rfl) (.q 0 <| .q 1 <| .q 2 <| .q 3 <| .q 4 <| .q 5 <| .q 6 <| .q 7 <| .q 8 <| .q 9 <| .q 10 <| .q 11 <| .q 12 <| .q 13 <| .q 14 <| .q 15 <| .q 16 <| .q 17 <| .q 18 <| .q 19 <| .q 20 <| .q 21 <| .q 22 <| .q 23 <| .nil) (by kernel_rfl) (by kernel_rfl) ?_
            repeat (refine plan_q rfl (fun K hK => ?_); go_simp; refine hK _ ?_; clear hK K)
            refine plan_nil ?_
            go_wp2
            go_roundw
            case rel => exact ⟨k + 1, by omega, by go_num, HKq.out.drew⟩
            case measure => simp [intOf]; omega
        · obtain rfl : k = j := by omega
          have hR6 := HR.out.kept (hk5.trans hKq) (fun _ _ _ e => e)
          have HR6 := Lib.hid hR6
          clear hR6
          go_wp2
          go_roundw
          case rel => exact ⟨k + 1, by omega, by go_num, HR6.out, HB5.out.kept hKq, HK5.out.trans hKq⟩
          case measure => simp [intOf]; omega
    · obtain rfl : j = S.op.length := by omega
      go_wp2
      go_ret
      exact trueKept_mk rfl HK.out
end Go.Proofs.Ytmbgbhhdjobbnaa
