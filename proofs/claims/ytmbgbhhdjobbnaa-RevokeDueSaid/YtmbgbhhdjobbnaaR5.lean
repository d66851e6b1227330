/- The document's revoke: Due. -/
import Derived.Test.YtmbgbhhdjobbnaaR4
namespace Go.Proofs.Ytmbgbhhdjobbnaa
open Go.RowKit Go.Maps

theorem Two.keptOne {w w' : World} {base h : Nat} {v v' : Value} {l l' : List (Int × Int × Int)} (hT : Two w base v l v' l') (hk : Kept (OneBlk h) w w') (hh : h < base) : Two w' base v l v' l' :=
  ⟨own_kept hT.one hk (fun b hb e => by have e' : b = h := e; omega), own_kept hT.two hk (fun b hb e => by have e' : b = h := e; omega), hT.apart⟩

theorem Kept.freshG {w w' w'' : World} {G H : Nat → Prop} (h : Kept G w w') (k : Kept H w' w'') (hH : ∀ b, H b → w.heap.size ≤ b) : Kept G w w'' :=
  ⟨k.os.trans h.os, k.tape.trans h.tape, k.output.trans h.output, Nat.le_trans h.size k.size,
   fun i hi hg => (k.block i (Nat.lt_of_lt_of_le hi h.size) (fun e => by have := hH i e; omega)).trans (h.block i hi hg)⟩
theorem own_blk {w : World} {base : Nat} {t : TypeId} {m n : Nat} {v : Value} {xs : List Value} (h : w.ownsRow base t m v n xs) {b : Nat} (hb : v.ownBlock = some b) : ∃ cs, Blk w b t cs := by
  obtain ⟨hl, ⟨e, _⟩ | ⟨g, cap, cur, hv, _, hg, _⟩⟩ := h
  · rw [e] at hb; cases hb
  · rw [hv] at hb
    injection hb with hb
    subst hb
    exact ⟨cur, hg⟩
/-- A row of the call's own has turned: the document's book stands. -/
theorem IsR.beside {w wr w' : World} {h base nl : Nat} {S : St} {v u : Value} {r : Nat → Value} {G : Nat → Prop} {xs : List Value} (hR : IsR wr h S v r) (hrow : Row w 37 3 v S.op.length (asks S.op)) {cs : Array Value} (hB : Blk w h 73 cs) (hkw : Kept (OneBlk h) w w') (hk : Kept G wr w') (hown : wr.ownsRow base 37 3 u nl xs) (hG : ∀ b, G b → u.ownBlock = some b) : IsR w' h S v r := by
  refine ⟨hR.blk.kept hk (fun e => ?_), hrow.kept hkw (fun b cs hb e => hb.ne_ hB (by decide) e), fun i hi => (hR.lost i hi).kept hk (fun b cs hb e => ?_)⟩
  · obtain ⟨cs', h1⟩ := own_blk hown (hG _ e)
    exact h1.ne_ hR.blk (by decide) rfl
  · obtain ⟨cs', h1⟩ := own_blk hown (hG _ e)
    exact h1.ne_ hb (by decide) rfl

theorem take_filter_step (l : List (Int × Int × Int)) (q : Int × Int × Int → Bool) (j : Nat) (x : Int × Int × Int) (hx : l[j]? = some x) :
    (q x = true → (l.take (j + 1)).filter q = (l.take j).filter q ++ [x]) ∧ (q x = false → (l.take (j + 1)).filter q = (l.take j).filter q) := by
  have := qOut_step l q j x hx
  constructor
  · intro h
    rw [this, if_pos h]
  · intro h
    rw [this, if_neg (by simp [h]), List.append_nil]

set_option maxHeartbeats 8000000 in
theorem rdue_any (w : World) (h : Nat) (S : St) (v : Value) (r : Nat → Value) (hR : IsR w h S v r) (henv : ∀ x ∈ S.op, ∃ k : Nat, k < 6 ∧ x.1 = (k : Int)) (hn : S.op.length ≤ 1000) (hlost : ∀ i, i < 6 → (S.lost i).length ≤ 1000) (n : Int) :
   Calls Try.prog 43 #[.pointer (some ⟨h, 0, none⟩), .int .i64 n] w fun x w' => ∃ A c v' r', x = .returned (.slice A (S.op.filter (qDue n)).length c) ∧ Row w' 37 3 (.slice A (S.op.filter (qDue n)).length c) (S.op.filter (qDue n)).length (asks (S.op.filter (qDue n))) ∧ IsR w' h (dueSt S n) v' r' ∧ Kept (OneBlk h) w w' := by
  have HR := Lib.hid hR
  obtain ⟨A, cap, hv⟩ := hR.row.sl
  have hlt0 := hR.blk.lt
  have hlayl : ∀ (j i : Nat), i < 6 → ((lay S ((S.op.take j).filter (qDue n))).lost i).length ≤ 2000 := by
    intro j i hi
    have h1 := hlost i hi
    have h2 : (((S.op.take j).filter (qDue n)).filter (fun x => decide (x.1 = (i : Int)))).length ≤ S.op.length := Nat.le_trans (List.length_filter_le _ _) (Nat.le_trans (List.length_filter_le _ _) (by rw [List.length_take]; omega))
    simp only [lay, List.length_append, List.length_map]
    omega
  have HL := Lib.hid hlayl
  clear hR hlayl hlost
  go_enter Try.func43, Try.ntmps43
  go_wp2_with fail
  go_loopw [5, 6, 7] (fun ov lv iv wr => ∃ (j : Nat) (r' : Nat → Value), j ≤ S.op.length ∧ iv = .int .i64 j ∧ Two wr w.heap.size ov ((S.op.take j).filter (qDue n)) lv ((S.op.take j).filter (fun a => !qDue n a)) ∧ IsR wr h (lay S ((S.op.take j).filter (qDue n))) v r' ∧ Kept (OneBlk h) w wr) (fun _ _ iv _ => S.op.length - (intOf iv).toNat)
  case atStart => exact ⟨0, r, by omega, rfl, ⟨own_none _ _ _ _, own_none _ _ _ _, fun b e => by cases e⟩, by rw [List.take_zero, List.filter_nil, lay_nil]; exact HR.out, Kept.refl _ _⟩
  case round =>
    obtain ⟨j, r', hj, rfl, hT, hRr, hK⟩ := hrel
    have HT := Lib.hid hT
    have HK := Lib.hid hK
    have hc : wr.cell? ⟨h, 0, none⟩ = some v := hRr.blk.at_ rfl
    have hlt := hRr.blk.lt
    have hw := hK.size
    have hf1 : ((S.op.take j).filter (fun a => !qDue n a)).length ≤ j := Nat.le_trans (List.length_filter_le _ _) (by rw [List.length_take]; omega)
    have hf2 : ((S.op.take j).filter (qDue n)).length ≤ j := Nat.le_trans (List.length_filter_le _ _) (by rw [List.length_take]; omega)
    have HRr := Lib.hid hRr
    rw [hv] at hc
    clear hT hK
    by_cases hlt2 : j < S.op.length
    · obtain ⟨⟨e, f, u⟩, hx⟩ : ∃ x, S.op[j]? = some x := ⟨_, List.getElem?_eq_getElem (by omega)⟩
      obtain ⟨k, hk6, he⟩ := henv (e, f, u) (List.mem_of_getElem? hx)
      obtain rfl : e = (k : Int) := he
      have hs1 := Lib.hid (take_filter_step S.op (qDue n) j _ hx)
      have hs2 := Lib.hid (take_filter_step S.op (fun a => !qDue n a) j _ hx)
      obtain ⟨b, off, cap', hv', h1, h2, hb, _, hcc⟩ := (show Row wr 37 3 v S.op.length (asks S.op) from hRr.row).place (by omega)
      rw [hv] at hv'
      injection hv' with q1 q2 q3
      subst q1 q3
      obtain ⟨x1, x2, x3⟩ := asks_at _ j _ _ u hx
      have c1 := hcc _ _ x1
      have c2 := hcc _ _ x2
      have c3 := hcc _ _ x3
      simp only [← Nat.add_assoc] at c2 c3
      clear hcc x1 x2 x3 hx hRr
      have hTb := HT.out.kept (w' := wr.alloc (.cells #[.int .u8 k, .int .u8 f, .int .i64 u] 37)) (by repeat (with_reducible first | exact Kept.refl _ _ | apply Kept.drew | apply Kept.drewN | apply Kept.alloc | exact oneHit | apply Kept.setCell))
      by_cases hu : n < u
      · have hq : qDue n ((k : Int), f, u) = false := by simp [qDue]; omega
        have e1 := hs1.out.2 hq
        have e2 := hs2.out.1 (by simp [hq])
        have E1 := Lib.hid e1
        have E2 := Lib.hid e2
        clear e1 e2 hq
        go_wp2_with (refine wpList_append_at rfl (.tmp 33) (.tmp 35) 33 rfl 37 3 16 Try.underlying33 Try.sz37 (by decide) w.heap.size u6 _ _ rfl (own_kept hTb.two (G := NoBlk) ((Kept.refl _ _).alloc _) (fun _ _ e => e)) (some ⟨wr.heap.size + 1, 0, none⟩) 1 1 [.int .u8 k, .int .u8 f, .int .i64 u] rfl (Row.new (Blk.new_at _ _ _ (by simp)) (by simp) (by simp [maxLen])) (by decide) rfl (by simp only [maxLen]; omega) (by omega) (by simp; omega) ?_; intro v3 w3 r1 r2 r3)
        go_roundw
        case rel =>
          have hTa := hTb.kept (w' := (wr.alloc (.cells #[.int .u8 k, .int .u8 f, .int .i64 u] 37)).alloc (.cells #[.int .u8 k, .int .u8 f, .int .i64 u] 37)) (by repeat (with_reducible first | exact Kept.refl _ _ | apply Kept.drew | apply Kept.drewN | apply Kept.alloc | exact oneHit | apply Kept.setCell))
          have hkw : Kept (OneBlk h) w w3 := Kept.freshG (w' := (wr.alloc (.cells #[.int .u8 k, .int .u8 f, .int .i64 u] 37)).alloc (.cells #[.int .u8 k, .int .u8 f, .int .i64 u] 37)) (HK.out.trans (by repeat (with_reducible first | exact Kept.refl _ _ | apply Kept.drew | apply Kept.drewN | apply Kept.alloc | exact oneHit | apply Kept.setCell))) r2 (fun b e => (own_lt hTa.two e).1)
          have hRa := HRr.out.kept (w' := (wr.alloc (.cells #[.int .u8 k, .int .u8 f, .int .i64 u] 37)).alloc (.cells #[.int .u8 k, .int .u8 f, .int .i64 u] 37)) (by repeat (with_reducible first | exact Kept.refl _ _ | apply Kept.drew | apply Kept.drewN | apply Kept.alloc | exact oneHit | apply Kept.setCell))
          refine ⟨j + 1, r', by omega, by go_num, ?_, ?_, hkw⟩
          · rw [E1.out, E2.out]
            exact (hTa.swap.push (x := ((k : Int), f, u)) r1 r2 r3).swap
          · rw [E1.out]
            exact hRa.beside HR.out.row HR.out.blk hkw r2 hTa.two (fun b e => e)
        case measure => simp [intOf]; omega
      · have hq : qDue n ((k : Int), f, u) = true := by simp [qDue]; omega
        have e1 := hs1.out.1 hq
        have e2 := hs2.out.2 (by simp [hq])
        have E1 := Lib.hid e1
        have E2 := Lib.hid e2
        clear e1 e2 hq
        have hkl : (k : Int) < 6 := by omega
        have hk2 : (k : Int).toNat = k := by omega
        go_wp2_with (refine wpList_append_at rfl (.tmp 37) (.tmp 39) 33 rfl 37 3 16 Try.underlying33 Try.sz37 (by decide) w.heap.size u5 _ _ rfl (own_kept hTb.one (G := NoBlk) ((Kept.refl _ _).alloc _) (fun _ _ e => e)) (some ⟨wr.heap.size + 1, 0, none⟩) 1 1 [.int .u8 k, .int .u8 f, .int .i64 u] rfl (Row.new (Blk.new_at _ _ _ (by simp)) (by simp) (by simp [maxLen])) (by decide) rfl (by simp only [maxLen]; omega) (by omega) (by simp; omega) ?_; intro v2 w2 r1 r2 r3)
        have hTa := hTb.kept (w' := (wr.alloc (.cells #[.int .u8 k, .int .u8 f, .int .i64 u] 37)).alloc (.cells #[.int .u8 k, .int .u8 f, .int .i64 u] 37)) (by repeat (with_reducible first | exact Kept.refl _ _ | apply Kept.drew | apply Kept.drewN | apply Kept.alloc | exact oneHit | apply Kept.setCell))
        have hkw : Kept (OneBlk h) w w2 := Kept.freshG (w' := (wr.alloc (.cells #[.int .u8 k, .int .u8 f, .int .i64 u] 37)).alloc (.cells #[.int .u8 k, .int .u8 f, .int .i64 u] 37)) (HK.out.trans (by repeat (with_reducible first | exact Kept.refl _ _ | apply Kept.drew | apply Kept.drewN | apply Kept.alloc | exact oneHit | apply Kept.setCell))) r2 (fun b e => (own_lt hTa.one e).1)
        have hR2 := (HRr.out.kept (w' := (wr.alloc (.cells #[.int .u8 k, .int .u8 f, .int .i64 u] 37)).alloc (.cells #[.int .u8 k, .int .u8 f, .int .i64 u] 37)) (by repeat (with_reducible first | exact Kept.refl _ _ | apply Kept.drew | apply Kept.drewN | apply Kept.alloc | exact oneHit | apply Kept.setCell))).beside HR.out.row HR.out.blk hkw r2 hTa.one (fun b e => e)
        have hBX : Blk w2 wr.heap.size 37 #[.int .u8 k, .int .u8 f, .int .i64 u] := Blk.kept (Blk.alloc (Blk.new _ _ _) _) r2 (fun e => by have := (own_lt HT.out.one e).2; omega)
        have hT2 := hTa.push (x := ((k : Int), f, u)) r1 r2 r3
        obtain ⟨A5, c5, e5⟩ := (hR2.lost k hk6).sl
        have hrow5 := hR2.lost k hk6
        have hlen5 := HL.out j k hk6
        have hcr := hR2.blk.at_ (arrR_at v r' k hk6)
        rw [e5] at hrow5 hcr
        have FIN : ∀ (w4 : World) (A4 : Option Addr) (c4 : Nat), Kept NoBlk w2 w4 → w4.ownsRow w2.heap.size 5 1 (.slice A4 (((lay S ((S.op.take j).filter (qDue n))).lost k).length + 1) c4) (((lay S ((S.op.take j).filter (qDue n))).lost k).length + 1) (u8s ((lay S ((S.op.take j).filter (qDue n))).lost k) ++ [.int .u8 f]) →
            Two (w4.setCell ⟨h, 1 + k, none⟩ (.slice A4 (((lay S ((S.op.take j).filter (qDue n))).lost k).length + 1) c4)) w.heap.size v2 ((S.op.take (j + 1)).filter (qDue n)) u6 ((S.op.take (j + 1)).filter (fun a => !qDue n a)) ∧ (∃ r1, IsR (w4.setCell ⟨h, 1 + k, none⟩ (.slice A4 (((lay S ((S.op.take j).filter (qDue n))).lost k).length + 1) c4)) h (lay S ((S.op.take (j + 1)).filter (qDue n))) v r1) ∧ Kept (OneBlk h) w (w4.setCell ⟨h, 1 + k, none⟩ (.slice A4 (((lay S ((S.op.take j).filter (qDue n))).lost k).length + 1) c4)) := by
          intro w4 A4 c4 hk4 hown4
          have hks : Kept (OneBlk h) w4 (w4.setCell ⟨h, 1 + k, none⟩ (.slice A4 (((lay S ((S.op.take j).filter (qDue n))).lost k).length + 1) c4)) := by repeat (with_reducible first | exact Kept.refl _ _ | apply Kept.drew | apply Kept.drewN | apply Kept.alloc | exact oneHit | apply Kept.setCell)
          refine ⟨?_, ⟨_, (hR2.kept hk4).lostSet (S' := lay S ((S.op.take (j + 1)).filter (qDue n))) k hk6 _ ((lay S ((S.op.take j).filter (qDue n))).lost k ++ [f]) ((hR2.kept hk4).blk.set_ _ _) ?_ hks rfl (fun i hi => by rw [E1.out, lay_snoc])⟩, (hkw.trans (hk4.weaken (fun _ _ e => e.elim))).trans hks⟩
          · rw [E1.out, E2.out]
            exact (hT2.kept hk4).keptOne hks hlt0
          · have := (Row.of_own hown4).kept hks (fun b cs hb e => hb.ne_ (hR2.kept hk4).blk (by decide) e)
            rw [List.length_append, u8s_append]
            exact this
        have HF := Lib.hid FIN
        clear FIN
        generalize (lay S ((S.op.take j).filter (qDue n))).lost k = l5 at *
        have hbx := hBX.cell
        have hbl := hBX.lt
        have hltw := hR2.blk.lt
        have HR2 := Lib.hid hR2.blk
        have HBX := Lib.hid hBX
        have H5 := Lib.hid hrow5
        have hcrr := hcr
        clear hR2 hBX hrow5 hT2 hkw r1 r2 r3 hTa hTb
        go_wp2
        refine wp_region_plan (by kernel_rfl) (.q 0 <| .q 1 <| .q 2 <| .q 4 <| .q 5 <| .q 6 <| .q 7 <| .q 8 <| .q 9 <| .q 10 <| .q 12 <| .q 13 <| .q 16 <| .q 17 <| .alt (.e 3 [0, 1, 2, 4, 5, 6, 7, 8, 9, 10, 12, 13, 16, 17] <| .alt (.e 11 [0, 1, 2, 12, 13, 16, 17] <| .e 14 [0, 1, 2, 4, 5, 6, 7, 8, 9, 10, 16, 17] <| .e 15 [0, 1, 2, 16, 17] <| .q 18 <| .e 19 [] <| .nil) (.e 14 [0, 1, 2, 4, 5, 6, 7, 8, 9, 10, 16, 17] <| .e 11 [0, 1, 2, 12, 13, 16, 17] <| .e 15 [0, 1, 2, 16, 17] <| .q 18 <| .e 19 [] <| .nil)) (.e 14 [0, 1, 2, 4, 5, 6, 7, 8, 9, 10, 16, 17] <| .e 3 [0, 1, 2, 4, 5, 6, 7, 8, 9, 10, 12, 13, 16, 17] <| .e 11 [0, 1, 2, 12, 13, 16, 17] <| .e 15 [0, 1, 2, 16, 17] <| .q 18 <| .e 19 [] <| .nil)) (by kernel_rfl) (by kernel_rfl) ?_
        repeat (refine plan_q rfl (fun K hK => ?_); go_simp; refine hK _ ?_; clear hK K)
        refine plan_alt ?_ ?_
        · refine plan_e rfl (fun K hK => ?_)
          go_simp
          refine hK _ _ (by (repeat (refine stab_cons rfl ?_ ?_; focus (go_simp; done))); exact stab_nil) ?_
          clear hK K
          refine plan_alt ?_ ?_
          · -- ORDER 3 11 14 15
            refine plan_e rfl (fun K hK => ?_)
            refine step_append_own1 rfl (.tmp 44) (.tmp 51) 28 rfl 5 1 1 Try.underlying28 Try.sz5 (by decide) w2.heap.size (.slice (some ⟨w2.heap.size, 0, none⟩) 0 0) 0 [] rfl (own_new (Blk.new _ _ _) (by simp)) A5 l5.length c5 (u8s l5) rfl (H5.out.kept (G := NoBlk) (by repeat (with_reducible first | exact Kept.refl _ _ | apply Kept.drew | apply Kept.drewN | apply Kept.alloc | exact oneHit | apply Kept.setCell)) (fun _ _ _ e => e)) (u8s_one _) (by simp only [maxLen]; omega) (by omega) (by first | (simp; done) | (simp; omega)) ?_
            intro A3 cap3 w3 hown3 hK3
            simp only [Nat.zero_add, List.nil_append] at hown3
            simp only [Nat.zero_add]
            have hk3 : Kept NoBlk w2 w3 := Kept.fresh (w' := (w2.drew.alloc (.cells #[] 5))) (by repeat (with_reducible first | exact Kept.refl _ _ | apply Kept.drew | apply Kept.drewN | apply Kept.alloc | exact oneHit | apply Kept.setCell)) hK3 (fun b e => by simp [Value.ownBlock] at e; omega)
            have hbx3 := (HBX.out.kept hk3 (fun e => e)).cell
            have hbl3 := (HBX.out.kept hk3 (fun e => e)).lt
            have hcr3 := (HR2.out.kept hk3 (fun e => e)).at_ (arrR_at v r' k hk6)
            have hlt3 := (HR2.out.kept hk3 (fun e => e)).lt
            have hs3 := hk3.size
            rw [e5] at hcr3
            refine hK _ _ (by (repeat (refine stab_cons rfl ?_ ?_; focus (go_simp; done))); exact stab_nil) ?_
            clear hK K
            refine plan_e rfl (fun K hK => ?_)
            go_simp
            refine hK _ _ (by (repeat (refine stab_cons rfl ?_ ?_; focus (go_simp; done))); exact stab_nil) ?_
            clear hK K
            refine plan_e rfl (fun K hK => ?_)
            refine step_append_mine rfl (.tmp 52) (.tmp 55) 28 rfl 5 1 1 Try.underlying28 Try.sz5 (by decide) w2.heap.size (.slice A3 l5.length cap3) l5.length (u8s l5) rfl (own_kept hown3 (G := NoBlk) ((Kept.refl _ _).alloc _) (fun _ _ e => e)) (some ⟨w3.heap.size, 0, none⟩) 1 1 [.int .u8 f] rfl (Row.new (Blk.new _ _ _) (by simp) (by simp [maxLen])) rfl (by simp only [maxLen]; omega) (by omega) (by first | omega | (simp; omega)) ?_
            intro A4 cap4 w4 hown4 hK4
            have hk4 : Kept NoBlk w2 w4 := Kept.fresh (hk3.alloc (.cells #[.int .u8 f] 5)) hK4 (fun b e => e)
            have hbx4 := (HBX.out.kept hk4 (fun e => e)).cell
            have hbl4 := (HBX.out.kept hk4 (fun e => e)).lt
            have hcr4 := (HR2.out.kept hk4 (fun e => e)).at_ (arrR_at v r' k hk6)
            have hf4 := (HR2.out.kept hk4 (fun e => e)).frozen (1 + k)
            have hlt4 := (HR2.out.kept hk4 (fun e => e)).lt
            rw [e5] at hcr4
            refine hK _ _ (by (repeat (refine stab_cons rfl ?_ ?_; focus (go_simp; done))); exact stab_nil) ?_
            clear hK K
            repeat (refine plan_q rfl (fun K hK => ?_); go_simp; refine hK _ ?_; clear hK K)
            refine plan_e rfl (fun K hK => ?_)
            go_simp
            refine hK _ _ stab_nil ?_
            clear hK K
            refine plan_nil ?_
            go_wp2
            go_roundw
            case rel =>
              obtain ⟨f1, ⟨r1, f2⟩, f3⟩ := HF.out w4 A4 cap4 hk4 hown4
              exact ⟨j + 1, r1, by omega, by go_num, f1, f2, f3⟩
            case measure => simp [intOf]; omega
          · -- ORDER 3 14 11 15
            refine plan_e rfl (fun K hK => ?_)
            go_simp
            refine hK _ _ (by (repeat (refine stab_cons rfl ?_ ?_; focus (go_simp; done))); exact stab_nil) ?_
            clear hK K
            refine plan_e rfl (fun K hK => ?_)
            refine step_append_own1 rfl (.tmp 44) (.tmp 51) 28 rfl 5 1 1 Try.underlying28 Try.sz5 (by decide) w2.heap.size (.slice (some ⟨w2.heap.size, 0, none⟩) 0 0) 0 [] rfl (own_new (Blk.alloc (Blk.new _ _ _) _) (by simp)) A5 l5.length c5 (u8s l5) rfl (H5.out.kept (G := NoBlk) (by repeat (with_reducible first | exact Kept.refl _ _ | apply Kept.drew | apply Kept.drewN | apply Kept.alloc | exact oneHit | apply Kept.setCell)) (fun _ _ _ e => e)) (u8s_one _) (by simp only [maxLen]; omega) (by omega) (by first | (simp; done) | (simp; omega)) ?_
            intro A3 cap3 w3 hown3 hK3
            simp only [Nat.zero_add, List.nil_append] at hown3
            simp only [Nat.zero_add]
            have hk3 : Kept NoBlk w2 w3 := Kept.fresh (w' := ((w2.drew.alloc (.cells #[] 5)).alloc (.cells #[.int .u8 f] 5))) (by repeat (with_reducible first | exact Kept.refl _ _ | apply Kept.drew | apply Kept.drewN | apply Kept.alloc | exact oneHit | apply Kept.setCell)) hK3 (fun b e => by simp [Value.ownBlock] at e; omega)
            have hbx3 := (HBX.out.kept hk3 (fun e => e)).cell
            have hbl3 := (HBX.out.kept hk3 (fun e => e)).lt
            have hcr3 := (HR2.out.kept hk3 (fun e => e)).at_ (arrR_at v r' k hk6)
            have hlt3 := (HR2.out.kept hk3 (fun e => e)).lt
            have hs3 := hk3.size
            rw [e5] at hcr3
            have hB55 : Blk w3 (w2.heap.size + 1) 5 #[.int .u8 f] := Blk.kept (Blk.new_at (w2.drew.alloc (.cells #[] 5)) _ _ (by simp)) hK3 (fun e => by simp [Value.ownBlock] at e)
            refine hK _ _ (by (repeat (refine stab_cons rfl ?_ ?_; focus (go_simp; done))); exact stab_nil) ?_
            clear hK K
            refine plan_e rfl (fun K hK => ?_)
            refine step_append_mine rfl (.tmp 52) (.tmp 55) 28 rfl 5 1 1 Try.underlying28 Try.sz5 (by decide) w2.heap.size (.slice A3 l5.length cap3) l5.length (u8s l5) rfl hown3 (some ⟨w2.heap.size + 1, 0, none⟩) 1 1 [.int .u8 f] rfl (Row.new hB55 (by simp) (by simp [maxLen])) rfl (by simp only [maxLen]; omega) (by omega) (by first | omega | (simp; omega)) ?_
            intro A4 cap4 w4 hown4 hK4
            have hk4 : Kept NoBlk w2 w4 := Kept.fresh hk3 hK4 (fun b e => e)
            have hbx4 := (HBX.out.kept hk4 (fun e => e)).cell
            have hbl4 := (HBX.out.kept hk4 (fun e => e)).lt
            have hcr4 := (HR2.out.kept hk4 (fun e => e)).at_ (arrR_at v r' k hk6)
            have hf4 := (HR2.out.kept hk4 (fun e => e)).frozen (1 + k)
            have hlt4 := (HR2.out.kept hk4 (fun e => e)).lt
            rw [e5] at hcr4
            refine hK _ _ (by (repeat (refine stab_cons rfl ?_ ?_; focus (go_simp; done))); exact stab_nil) ?_
            clear hK K
            repeat (refine plan_q rfl (fun K hK => ?_); go_simp; refine hK _ ?_; clear hK K)
            refine plan_e rfl (fun K hK => ?_)
            go_simp
            refine hK _ _ stab_nil ?_
            clear hK K
            refine plan_nil ?_
            go_wp2
            go_roundw
            case rel =>
              obtain ⟨f1, ⟨r1, f2⟩, f3⟩ := HF.out w4 A4 cap4 hk4 hown4
              exact ⟨j + 1, r1, by omega, by go_num, f1, f2, f3⟩
            case measure => simp [intOf]; omega
        · -- ORDER 14 3 11 15
          refine plan_e rfl (fun K hK => ?_)
          go_simp
          refine hK _ _ (by (repeat (refine stab_cons rfl ?_ ?_; focus (go_simp; done))); exact stab_nil) ?_
          clear hK K
          refine plan_e rfl (fun K hK => ?_)
          go_simp
          refine hK _ _ (by (repeat (refine stab_cons rfl ?_ ?_; focus (go_simp; done))); exact stab_nil) ?_
          clear hK K
          refine plan_e rfl (fun K hK => ?_)
          refine step_append_own1 rfl (.tmp 44) (.tmp 51) 28 rfl 5 1 1 Try.underlying28 Try.sz5 (by decide) w2.heap.size (.slice (some ⟨w2.heap.size + 1, 0, none⟩) 0 0) 0 [] rfl (own_new (Blk.new_at _ _ _ (by simp)) (by simp)) A5 l5.length c5 (u8s l5) rfl (H5.out.kept (G := NoBlk) (by repeat (with_reducible first | exact Kept.refl _ _ | apply Kept.drew | apply Kept.drewN | apply Kept.alloc | exact oneHit | apply Kept.setCell)) (fun _ _ _ e => e)) (u8s_one _) (by simp only [maxLen]; omega) (by omega) (by first | (simp; done) | (simp; omega)) ?_
          intro A3 cap3 w3 hown3 hK3
          simp only [Nat.zero_add, List.nil_append] at hown3
          simp only [Nat.zero_add]
          have hk3 : Kept NoBlk w2 w3 := Kept.fresh (w' := ((w2.drew.alloc (.cells #[.int .u8 f] 5)).alloc (.cells #[] 5))) (by repeat (with_reducible first | exact Kept.refl _ _ | apply Kept.drew | apply Kept.drewN | apply Kept.alloc | exact oneHit | apply Kept.setCell)) hK3 (fun b e => by simp [Value.ownBlock] at e; omega)
          have hbx3 := (HBX.out.kept hk3 (fun e => e)).cell
          have hbl3 := (HBX.out.kept hk3 (fun e => e)).lt
          have hcr3 := (HR2.out.kept hk3 (fun e => e)).at_ (arrR_at v r' k hk6)
          have hlt3 := (HR2.out.kept hk3 (fun e => e)).lt
          have hs3 := hk3.size
          rw [e5] at hcr3
          have hB55 : Blk w3 w2.heap.size 5 #[.int .u8 f] := Blk.kept (Blk.alloc (Blk.new w2.drew _ _) (.cells #[] 5)) hK3 (fun e => by simp [Value.ownBlock] at e)
          refine hK _ _ (by (repeat (refine stab_cons rfl ?_ ?_; focus (go_simp; done))); exact stab_nil) ?_
          clear hK K
          refine plan_e rfl (fun K hK => ?_)
          refine step_append_mine rfl (.tmp 52) (.tmp 55) 28 rfl 5 1 1 Try.underlying28 Try.sz5 (by decide) w2.heap.size (.slice A3 l5.length cap3) l5.length (u8s l5) rfl hown3 (some ⟨w2.heap.size, 0, none⟩) 1 1 [.int .u8 f] rfl (Row.new hB55 (by simp) (by simp [maxLen])) rfl (by simp only [maxLen]; omega) (by omega) (by first | omega | (simp; omega)) ?_
          intro A4 cap4 w4 hown4 hK4
          have hk4 : Kept NoBlk w2 w4 := Kept.fresh hk3 hK4 (fun b e => e)
          have hbx4 := (HBX.out.kept hk4 (fun e => e)).cell
          have hbl4 := (HBX.out.kept hk4 (fun e => e)).lt
          have hcr4 := (HR2.out.kept hk4 (fun e => e)).at_ (arrR_at v r' k hk6)
          have hf4 := (HR2.out.kept hk4 (fun e => e)).frozen (1 + k)
          have hlt4 := (HR2.out.kept hk4 (fun e => e)).lt
          rw [e5] at hcr4
          refine hK _ _ (by (repeat (refine stab_cons rfl ?_ ?_; focus (go_simp; done))); exact stab_nil) ?_
          clear hK K
          repeat (refine plan_q rfl (fun K hK => ?_); go_simp; refine hK _ ?_; clear hK K)
          refine plan_e rfl (fun K hK => ?_)
          go_simp
          refine hK _ _ stab_nil ?_
          clear hK K
          refine plan_nil ?_
          go_wp2
          go_roundw
          case rel =>
            obtain ⟨f1, ⟨r1, f2⟩, f3⟩ := HF.out w4 A4 cap4 hk4 hown4
            exact ⟨j + 1, r1, by omega, by go_num, f1, f2, f3⟩
          case measure => simp [intOf]; omega
    · obtain rfl : j = S.op.length := by omega
      have ht : S.op.take S.op.length = S.op := List.take_of_length_le (Nat.le_refl _)
      rw [ht] at HT hf1 hf2 HRr
      have hRq := HRr.out
      rw [ht] at hRr
      have hrow := Row.of_own HT.out.one
      have hrow2 := Row.of_own HT.out.two
      obtain ⟨A5, c5, rfl⟩ := hrow.sl
      obtain ⟨A6, c6, rfl⟩ := hrow2.sl
      have hf := hRr.blk.frozen 0
      have hks : Kept (OneBlk h) wr (wr.setCell ⟨h, 0, none⟩ (.slice A6 (S.op.filter (fun a => !qDue n a)).length c6)) := by repeat (with_reducible first | exact Kept.refl _ _ | apply Kept.drew | apply Kept.drewN | apply Kept.alloc | exact oneHit | apply Kept.setCell)
      have hR2 : IsR (wr.setCell ⟨h, 0, none⟩ (.slice A6 (S.op.filter (fun a => !qDue n a)).length c6)) h (dueSt S n) (.slice A6 (S.op.filter (fun a => !qDue n a)).length c6) r' :=
        hRr.opSet (hRr.blk.set_ 0 _) (hrow2.kept hks (fun b cs hb e => hb.ne_ hRr.blk (by decide) e)) hks rfl
      have hrow3 := hrow.kept hks (fun b cs hb e => hb.ne_ hRr.blk (by decide) e)
      have HR2 := Lib.hid hR2
      have HR3 := Lib.hid hrow3
      have HKS := Lib.hid hks
      clear hRr hRq hrow hrow2 hR2 hrow3 hks
      go_wp2
      go_ret
      exact ⟨A5, c5, _, r', rfl, HR3.out, HR2.out, HK.out.trans HKS.out⟩
end Go.Proofs.Ytmbgbhhdjobbnaa
