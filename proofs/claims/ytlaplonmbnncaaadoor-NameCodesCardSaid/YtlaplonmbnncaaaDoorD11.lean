/- The reference's Right, Opens, Restrict, Derive. -/
import Derived.Test.YtlaplonmbnncaaaDoorD10
namespace Go.Proofs.YtlaplonmbnncaaaDoor
open Go.RowKit Go.Shelf
set_option maxRecDepth 100000

set_option maxHeartbeats 1000000 in
theorem rright_any (w : World) (n : ByteArray) (r : Int) (hn : n.size ≤ 1000) (hT : Tabs w) : Calls Tryd.prog 20 #[capV n r] w fun e w' => e = .returned (.bool (rightB n r)) ∧ Kept NoBlk w w' := by
  unfold capV rightB
  have HS := Lib.hid (fun w hT => rsplit_any w n hn hT)
  have HT := Lib.hid (hT.kept ((Kept.refl NoBlk w).alloc (.cells #[.string n, .int .u8 r] 34)))
  clear hT
  go_enter Tryd.func20, Tryd.ntmps20
  go_wp2_with fail
  refine (HS.out _ HT.out).mono ?_
  rintro x w1 ⟨hk, ⟨l, v, hsp, rfl, -⟩ | ⟨hsp, rfl⟩⟩
  · have c1 : w1.cell? ⟨w.heap.size, 1, none⟩ = some (.int .u8 r) := (Blk.kept (Blk.new w 34 #[.string n, .int .u8 r]) hk (fun e => e)).cell 1
    have HK := Lib.hid hk
    clear hk HS
    go_wp2
    go_ret
    exact ⟨by rw [hsp]; rfl, Kept.trans ((Kept.refl _ _).alloc _) HK.out⟩
  · have HK := Lib.hid hk
    clear hk HS
    unfold nilS
    go_wp2
    go_ret
    exact ⟨by rw [hsp]; rfl, Kept.trans ((Kept.refl _ _).alloc _) HK.out⟩
theorem and_andNot : ∀ a b : Fin 32, (bits .and .u8 ((a.val : Nat) : Int) ((b.val : Nat) : Int) == ((b.val : Nat) : Int)) = (bits .andNot .u8 ((b.val : Nat) : Int) ((a.val : Nat) : Int) == 0) := by decide +kernel
theorem and_int (a b : Int) (a0 : 0 ≤ a) (a1 : a ≤ 31) (b0 : 0 ≤ b) (b1 : b ≤ 31) : (bits .and .u8 a b == b) = (bits .andNot .u8 b a == 0) := by
  obtain ⟨a, rfl⟩ := Int.eq_ofNat_of_zero_le a0
  obtain ⟨b, rfl⟩ := Int.eq_ofNat_of_zero_le b0
  exact and_andNot ⟨a, by omega⟩ ⟨b, by omega⟩
set_option maxHeartbeats 2000000 in
theorem ropens_any (w : World) (n : ByteArray) (r : Int) (n' : ByteArray) (r' : Int) (hn : n.size ≤ 1000) (hn' : n'.size ≤ 1000) (p0 : 0 ≤ r) (p0' : 0 ≤ r') (hT : Tabs w) : Calls Tryd.prog 22 #[capV n r, capV n' r'] w fun e w' => e = .returned (.bool (opensB n r n' r')) ∧ Kept NoBlk w w' := by
  have H1 := Lib.hid (fun w hT => rright_any w n r hn hT)
  have H2 := Lib.hid (fun w hT => rright_any w n' r' hn' hT)
  have H3 := Lib.hid (fun w hT => rabove_any w n n' hn hn' hT)
  have HT := Lib.hid hT
  obtain ⟨V, hV⟩ : ∃ V, opensB n r n' r' = V := ⟨_, rfl⟩
  rw [hV]
  have HEQ : Hid (rightB n r = true → rightB n' r' = true → (bits .and .u8 r r' == r') = (bits .andNot .u8 r' r == 0)) := Lib.hid fun a b => and_int r r' p0 (rightB_parts a).2 p0' (rightB_parts b).2
  have HV : Hid (V = (rightB n r && rightB n' r' && (bits .andNot .u8 r' r == 0) && aboveB n n')) := Lib.hid hV.symm
  clear hV hT
  generalize rightB n r = b1 at *
  generalize rightB n' r' = b2 at *
  generalize aboveB n n' = b3 at *
  unfold capV at H1 H2 ⊢
  have hb0 : Blk ((w.alloc (.cells (capC n r) 34)).alloc (.cells (capC n' r') 34)) w.heap.size 34 (capC n r) := (Blk.new _ _ _).alloc _
  have hb1 : Blk ((w.alloc (.cells (capC n r) 34)).alloc (.cells (capC n' r') 34)) (w.heap.size + 1) 34 (capC n' r') := Blk.new_at _ _ _ (by simp)
  have hk0 : Kept NoBlk w ((w.alloc (.cells (capC n r) 34)).alloc (.cells (capC n' r') 34)) := ((Kept.refl _ _).alloc _).alloc _
  have HB0 := Lib.hid hb0
  have HB1 := Lib.hid hb1
  have HK0 := Lib.hid hk0
  clear hb0 hb1 hk0
  unfold capC at HB0 HB1 HK0
  go_enter Tryd.func22, Tryd.ntmps22
  go_wp2_with fail
  refine (H1.out _ (HT.out.kept HK0.out)).mono ?_
  rintro e w1 ⟨rfl, hk1⟩
  have HK1 := Lib.hid (HK0.out.trans hk1)
  have q0 := HB0.out.kept hk1 (fun e => e)
  have q1 := HB1.out.kept hk1 (fun e => e)
  obtain ⟨a0, a1⟩ := cap_cells q0
  obtain ⟨c0, c1⟩ := cap_cells q1
  have Q0 := Lib.hid q0
  have Q1 := Lib.hid q1
  clear hk1 q0 q1 HB0 HB1 HK0
  cases b1 with
  | false =>
    have HV2 : Hid (V = false) := Lib.hid (by rw [HV.out]; rfl)
    go_wp2
    go_ret
    exact ⟨by rw [HV2.out]; rfl, HK1.out⟩
  | true =>
    go_wp2_with fail
    refine (H2.out _ (HT.out.kept HK1.out)).mono ?_
    rintro e w2 ⟨rfl, hk2⟩
    have HK2 := Lib.hid (HK1.out.trans hk2)
    have q0 := Q0.out.kept hk2 (fun e => e)
    have q1 := Q1.out.kept hk2 (fun e => e)
    obtain ⟨d0, d1⟩ := cap_cells q0
    obtain ⟨f0, f1⟩ := cap_cells q1
    have P0 := Lib.hid q0
    have P1 := Lib.hid q1
    clear hk2 Q0 Q1 HK1 a0 a1 c0 c1 q0 q1
    cases b2 with
    | false =>
      have HV2 : Hid (V = false) := Lib.hid (by rw [HV.out]; rfl)
      go_wp2
      go_ret
      exact ⟨by rw [HV2.out]; rfl, HK2.out⟩
    | true =>
      have heq : (bits .and .u8 r r' == r') = (bits .andNot .u8 r' r == 0) := HEQ.out (by simp) (by simp)
      go_wp2_with fail
      refine (H3.out _ (HT.out.kept HK2.out)).mono ?_
      rintro e w3 ⟨rfl, hk3⟩
      have HK3 := Lib.hid (HK2.out.trans hk3)
      obtain ⟨g0, g1⟩ := cap_cells (P0.out.kept hk3 (fun e => e))
      obtain ⟨i0, i1⟩ := cap_cells (P1.out.kept hk3 (fun e => e))
      clear hk3 P0 P1 d0 d1 f0 f1
      cases b3 with
      | false =>
        have HV2 : Hid (V = false) := Lib.hid (by rw [HV.out, Bool.and_false])
        go_wp2
        go_ret
        exact ⟨by rw [HV2.out]; rfl, HK3.out⟩
      | true =>
        have HV2 : Hid (V = (bits .and .u8 r r' == r')) := Lib.hid (by rw [HV.out, heq]; simp)
        clear heq
        go_wp2
        go_ret
        exact ⟨by rw [HV2.out]; rfl, HK3.out⟩
/-- The box itself is turned first, then handed back. -/
theorem turn_far {w1 : World} {b c i : Nat} {u : Value} {n' : ByteArray} {r' : Int} (h : Blk w1 b 34 (capC n' r')) (hne : b ≠ c) : Blk (w1.setCell ⟨c, i, none⟩ u) b 34 (capC n' r') := h.far hne u
set_option maxHeartbeats 2000000 in
theorem rrestrict_any (w : World) (n : ByteArray) (r q : Int) (hn : n.size ≤ 1000) (hT : Tabs w) : Calls Tryd.prog 16 #[capV n r, .int .u8 q] w fun e w' => e = .returned (restrV n r q) ∧ Kept NoBlk w w' := by
  have H1 := Lib.hid (fun w hT => rright_any w n r hn hT)
  have HT := Lib.hid hT
  obtain ⟨V, hV⟩ : ∃ V, restrV n r q = V := ⟨_, rfl⟩
  rw [hV]
  unfold restrV at hV
  generalize rightB n r = b1 at *
  have HV := Lib.hid hV.symm
  clear hV hT
  unfold capV at H1 ⊢
  have hb0 : Blk ((w.alloc (.cells (capC n r) 34)).alloc (.cells (capC ⟨#[]⟩ 0) 34)) w.heap.size 34 (capC n r) := (Blk.new _ _ _).alloc _
  have hb1 : Blk ((w.alloc (.cells (capC n r) 34)).alloc (.cells (capC ⟨#[]⟩ 0) 34)) (w.heap.size + 1) 34 (capC ⟨#[]⟩ 0) := Blk.new_at _ _ _ (by simp)
  have hk0 : Kept NoBlk w ((w.alloc (.cells (capC n r) 34)).alloc (.cells (capC ⟨#[]⟩ 0) 34)) := ((Kept.refl _ _).alloc _).alloc _
  have HB0 := Lib.hid hb0
  have HB1 := Lib.hid hb1
  have HK0 := Lib.hid hk0
  clear hb0 hb1 hk0
  unfold capC at HB0 HB1 HK0
  have hlo : w.heap.size ≤ w.heap.size + 1 := by omega
  have FIN : Hid (∀ (w1 : World) (n' : ByteArray) (r' : Int), Blk w1 (w.heap.size + 1) 34 (capC ⟨#[]⟩ 0) → Kept NoBlk w w1 →
      Hid (((w1.setCell ⟨w.heap.size + 1, 0, none⟩ (.string n')).setCell ⟨w.heap.size + 1, 1, none⟩ (.int .u8 r')).cell? ⟨w.heap.size + 1, 0, none⟩ = some (.string n')) ∧
      Hid (((w1.setCell ⟨w.heap.size + 1, 0, none⟩ (.string n')).setCell ⟨w.heap.size + 1, 1, none⟩ (.int .u8 r')).cell? ⟨w.heap.size + 1, 1, none⟩ = some (.int .u8 r')) ∧
      Hid (Kept NoBlk w ((w1.setCell ⟨w.heap.size + 1, 0, none⟩ (.string n')).setCell ⟨w.heap.size + 1, 1, none⟩ (.int .u8 r')))) :=
    Lib.hid fun w1 n' r' h1 h2 => by
      obtain ⟨z0, z1⟩ := cap_cells (cap_stored (n' := n') (r' := r') h1)
      exact ⟨Lib.hid z0, Lib.hid z1, Lib.hid ((h2.setCell (newHit hlo) _).setCell (newHit hlo) _)⟩
  go_enter Tryd.func16, Tryd.ntmps16
  go_wp2_with fail
  refine (H1.out _ (HT.out.kept HK0.out)).mono ?_
  rintro e w1 ⟨rfl, hk1⟩
  have HK1 := Lib.hid (HK0.out.trans hk1)
  have q0 := HB0.out.kept hk1 (fun e => e)
  have q1 := HB1.out.kept hk1 (fun e => e)
  obtain ⟨a0, a1⟩ := cap_cells q0
  obtain ⟨c0, c1⟩ := cap_cells q1
  have fr := q1.frozen
  have fr0 := q0.frozen
  have Q1 := Lib.hid q1
  clear hk1 q0 q1 HB0 HB1 HK0
  cases b1 with
  | false =>
    obtain ⟨Z0, Z1, ZK⟩ := FIN.out w1 ⟨#[]⟩ 0 Q1.out HK1.out
    go_wp2
    refine bodyPost_ret (v := .tuple #[.agg #[.string ⟨#[]⟩, .int .u8 0], .int .i64 3]) (by simp [results, Tryd.f16, go_sem, Z0.out, Z1.out]) rfl ⟨by rw [HV.out, if_neg (by simp)]; rfl, ZK.out⟩
  | true =>
    by_cases hq : q ≤ 31
    · obtain ⟨Z0, Z1, ZK⟩ := FIN.out (w1.setCell ⟨w.heap.size, 1, none⟩ (.int .u8 (bits .and .u8 r q))) n (bits .and .u8 r q) (turn_far Q1.out (by omega)) (HK1.out.setCell (newHit (Nat.le_refl _)) _)
      go_wp2
      refine bodyPost_ret (v := .tuple #[.agg #[.string n, .int .u8 (bits .and .u8 r q)], .int .i64 0]) (by simp [results, Tryd.f16, go_sem, Z0.out, Z1.out]) rfl ⟨by rw [HV.out, if_pos ⟨trivial, hq⟩]; rfl, ZK.out⟩
    · have hq' : 31 < q := by omega
      obtain ⟨Z0, Z1, ZK⟩ := FIN.out w1 ⟨#[]⟩ 0 Q1.out HK1.out
      go_wp2
      refine bodyPost_ret (v := .tuple #[.agg #[.string ⟨#[]⟩, .int .u8 0], .int .i64 3]) (by simp [results, Tryd.f16, go_sem, Z0.out, Z1.out]) rfl ⟨by rw [HV.out, if_neg (fun h => absurd h.2 (by omega))]; rfl, ZK.out⟩
set_option maxHeartbeats 2000000 in
theorem rderive_any (w : World) (n : ByteArray) (r : Int) (s : ByteArray) (hn : n.size ≤ 1000) (hs : s.size ≤ 1000) (hT : Tabs w) : Calls Tryd.prog 18 #[capV n r, .string s] w fun e w' => e = .returned (outV (deriveP n r s)) ∧ Kept NoBlk w w' := by
  have H1 := Lib.hid (fun w hT => rright_any w n r hn hT)
  have H2 := Lib.hid (fun w hT => rlabel_any w s hs hT)
  have H3 := Lib.hid (fun w hT => rchild_any w n s hn hs hT)
  have HT := Lib.hid hT
  obtain ⟨V, hV⟩ : ∃ V, deriveP n r s = V := ⟨_, rfl⟩
  rw [hV]
  unfold deriveP at hV
  generalize rightB n r = b1 at *
  generalize label s = b2 at *
  generalize (childP n s).1 = t at *
  generalize (childP n s).2 = c at *
  have HV := Lib.hid hV.symm
  clear hV hT
  unfold capV at H1 ⊢
  have hb0 : Blk ((w.alloc (.cells (capC n r) 34)).alloc (.cells (capC ⟨#[]⟩ 0) 34)) w.heap.size 34 (capC n r) := (Blk.new _ _ _).alloc _
  have hb1 : Blk ((w.alloc (.cells (capC n r) 34)).alloc (.cells (capC ⟨#[]⟩ 0) 34)) (w.heap.size + 1) 34 (capC ⟨#[]⟩ 0) := Blk.new_at _ _ _ (by simp)
  have hk0 : Kept NoBlk w ((w.alloc (.cells (capC n r) 34)).alloc (.cells (capC ⟨#[]⟩ 0) 34)) := ((Kept.refl _ _).alloc _).alloc _
  have HB0 := Lib.hid hb0
  have HB1 := Lib.hid hb1
  have HK0 := Lib.hid hk0
  clear hb0 hb1 hk0
  unfold capC at HB0 HB1 HK0
  have hlo : w.heap.size ≤ w.heap.size + 1 := by omega
  have FIN : Hid (∀ (w1 : World) (n' : ByteArray) (r' : Int), Blk w1 (w.heap.size + 1) 34 (capC ⟨#[]⟩ 0) → Kept NoBlk w w1 →
      Hid (((w1.setCell ⟨w.heap.size + 1, 0, none⟩ (.string n')).setCell ⟨w.heap.size + 1, 1, none⟩ (.int .u8 r')).cell? ⟨w.heap.size + 1, 0, none⟩ = some (.string n')) ∧
      Hid (((w1.setCell ⟨w.heap.size + 1, 0, none⟩ (.string n')).setCell ⟨w.heap.size + 1, 1, none⟩ (.int .u8 r')).cell? ⟨w.heap.size + 1, 1, none⟩ = some (.int .u8 r')) ∧
      Hid (Kept NoBlk w ((w1.setCell ⟨w.heap.size + 1, 0, none⟩ (.string n')).setCell ⟨w.heap.size + 1, 1, none⟩ (.int .u8 r')))) :=
    Lib.hid fun w1 n' r' h1 h2 => by
      obtain ⟨z0, z1⟩ := cap_cells (cap_stored (n' := n') (r' := r') h1)
      exact ⟨Lib.hid z0, Lib.hid z1, Lib.hid ((h2.setCell (newHit hlo) _).setCell (newHit hlo) _)⟩
  go_enter Tryd.func18, Tryd.ntmps18
  go_wp2_with fail
  refine (H1.out _ (HT.out.kept HK0.out)).mono ?_
  rintro e w1 ⟨rfl, hk1⟩
  have HK1 := Lib.hid (HK0.out.trans hk1)
  have q0 := HB0.out.kept hk1 (fun e => e)
  have q1 := HB1.out.kept hk1 (fun e => e)
  obtain ⟨a0, a1⟩ := cap_cells q0
  obtain ⟨c0, c1⟩ := cap_cells q1
  have fr := q1.frozen
  have Q0 := Lib.hid q0
  have Q1 := Lib.hid q1
  clear hk1 q0 q1 HB0 HB1 HK0
  cases b1 with
  | false =>
    obtain ⟨Z0, Z1, ZK⟩ := FIN.out w1 ⟨#[]⟩ 0 Q1.out HK1.out
    have HV2 : Hid (V = (⟨#[]⟩, 0, 3)) := Lib.hid (by rw [HV.out, if_pos (.inl rfl)])
    go_wp2
    refine bodyPost_ret (v := .tuple #[.agg #[.string ⟨#[]⟩, .int .u8 0], .int .i64 3]) (by simp [results, Tryd.f18, go_sem, Z0.out, Z1.out]) rfl ⟨by rw [HV2.out]; rfl, ZK.out⟩
  | true =>
    clear c0 c1 fr a0 a1
    go_wp2_with fail
    refine (H2.out _ (HT.out.kept HK1.out)).mono ?_
    rintro e w2 ⟨rfl, hk2⟩
    have HK2 := Lib.hid (HK1.out.trans hk2)
    have q0 := Q0.out.kept hk2 (fun e => e)
    have q1 := Q1.out.kept hk2 (fun e => e)
    obtain ⟨a0, a1⟩ := cap_cells q0
    obtain ⟨c0, c1⟩ := cap_cells q1
    have fr := q1.frozen
    have P0 := Lib.hid q0
    have P1 := Lib.hid q1
    clear hk2 q0 q1 Q0 Q1 HK1
    cases b2 with
    | false =>
      obtain ⟨Z0, Z1, ZK⟩ := FIN.out w2 ⟨#[]⟩ 0 P1.out HK2.out
      have HV2 : Hid (V = (⟨#[]⟩, 0, 3)) := Lib.hid (by rw [HV.out, if_pos (.inr rfl)])
      go_wp2
      refine bodyPost_ret (v := .tuple #[.agg #[.string ⟨#[]⟩, .int .u8 0], .int .i64 3]) (by simp [results, Tryd.f18, go_sem, Z0.out, Z1.out]) rfl ⟨by rw [HV2.out]; rfl, ZK.out⟩
    | true =>
      generalize hd : bits .and .u8 r 8 = d at *
      by_cases h0 : d = 0
      · have HV2 : Hid (V = (⟨#[]⟩, 0, 7)) := Lib.hid (by rw [HV.out, if_neg (by simp), if_pos h0])
        subst h0
        obtain ⟨Z0, Z1, ZK⟩ := FIN.out w2 ⟨#[]⟩ 0 P1.out HK2.out
        go_wp2
        refine bodyPost_ret (v := .tuple #[.agg #[.string ⟨#[]⟩, .int .u8 0], .int .i64 7]) (by simp [results, Tryd.f18, go_sem, Z0.out, Z1.out]) rfl ⟨by rw [HV2.out]; rfl, ZK.out⟩
      · have h0' : (d == 0) = false := beq_eq_false_iff_ne.2 h0
        have HV2 : Hid (V = if c = 0 then (t, r, 0) else (⟨#[]⟩, 0, c)) := Lib.hid (by rw [HV.out, if_neg (by simp), if_neg h0])
        clear h0 c0 c1 fr
        go_wp2_with fail
        refine (H3.out _ (HT.out.kept HK2.out)).mono ?_
        rintro e w3 ⟨rfl, hk3⟩
        have HK3 := Lib.hid (HK2.out.trans hk3)
        have q0 := P0.out.kept hk3 (fun e => e)
        have q1 := P1.out.kept hk3 (fun e => e)
        obtain ⟨d0, d1⟩ := cap_cells q0
        obtain ⟨c0, c1⟩ := cap_cells q1
        have fr := q1.frozen
        have fr0 := q0.frozen
        have P1 := Lib.hid q1
        clear hk3 q0 q1 P0 a0 a1 HK2
        by_cases hc : c = 0
        · have HV3 : Hid (V = (t, r, 0)) := Lib.hid (by rw [HV2.out, if_pos hc])
          subst hc
          obtain ⟨Z0, Z1, ZK⟩ := FIN.out (w3.setCell ⟨w.heap.size, 0, none⟩ (.string t)) t r (turn_far P1.out (by omega)) (HK3.out.setCell (newHit (Nat.le_refl _)) _)
          go_wp2
          refine bodyPost_ret (v := .tuple #[.agg #[.string t, .int .u8 r], .int .i64 0]) (by simp [results, Tryd.f18, go_sem, Z0.out, Z1.out]) rfl ⟨by rw [HV3.out]; rfl, ZK.out⟩
        · have HV3 : Hid (V = (⟨#[]⟩, 0, c)) := Lib.hid (by rw [HV2.out, if_neg hc])
          have hc' : (c != 0) = true := bne_iff_ne.2 hc
          clear hc
          obtain ⟨Z0, Z1, ZK⟩ := FIN.out w3 ⟨#[]⟩ 0 P1.out HK3.out
          go_wp2
          refine bodyPost_ret (v := .tuple #[.agg #[.string ⟨#[]⟩, .int .u8 0], .int .i64 c]) (by simp [results, Tryd.f18, go_sem, Z0.out, Z1.out]) rfl ⟨by rw [HV3.out]; rfl, ZK.out⟩
end Go.Proofs.YtlaplonmbnncaaaDoor
