/- The program's revoke: Done, Due and Out. -/
import Derived.Test.YtmbgbhhdjobbnaaB6
namespace Go.Proofs.Ytmbgbhhdjobbnaa
open Go.RowKit Go.Maps

def qDone (e f : Int) : Int × Int × Int → Bool := fun x => decide (x.1 = e) && decide (x.2.1 = f)
def qDue (n : Int) : Int × Int × Int → Bool := fun x => decide (x.2.2 ≤ n)
def qOut (e : Int) : Int × Int × Int → Bool := fun x => decide (x.1 = e)
def leave (S : St) (q : Int × Int × Int → Bool) : St := { S with op := S.op.filter (fun a => !q a) }
def lay (S : St) (l : List (Int × Int × Int)) : St := { S with lost := fun i => S.lost i ++ (l.filter (fun x => decide (x.1 = (i : Int)))).map (·.2.1) }
def dueSt (S : St) (n : Int) : St := lay (leave S (qDue n)) (S.op.filter (qDue n))
def outSt (S : St) (i : Nat) : St := { leave S (qOut i) with lost := fun j => if j = i then [] else S.lost j }

theorem take_nil (w : World) (F : Value) :
   Calls Try.prog 29 #[.pointer none, F] w fun x w' => x = .returned (.slice none 0 0) ∧ w = w' := by
  go_enter Try.func29, Try.ntmps29
  go_wp2
  go_ret
  exact ⟨rfl, rfl⟩
theorem done_nil (w : World) (e f : Int) :
   Calls Try.prog 20 #[.pointer none, .int .u8 e, .int .u8 f] w fun x w' => x = .returned (.int .i64 1) ∧ Kept NoBlk w w' := by
  go_enter Try.func20, Try.ntmps20
  go_wp2
  go_ret
  exact ⟨rfl, by repeat (with_reducible first | exact Kept.refl _ _ | apply Kept.drew | apply Kept.drewN | apply Kept.alloc | exact oneHit | apply Kept.setCell)⟩
theorem due_nil (w : World) (n : Int) :
   Calls Try.prog 19 #[.pointer none, .int .i64 n] w fun x w' => x = .returned (.slice none 0 0) ∧ Kept NoBlk w w' := by
  have hmf : ∀ (fn : Fn) (first cap : Array Value) (w : World), (Instr.makeFunc fn first cap).run Try.prog w = .ok (.func fn first cap) w := fun _ _ _ _ => rfl
  go_enter Try.func19, Try.ntmps19
  go_wp2_with fail
  refine (take_nil _ _).mono ?_
  rintro e w1 ⟨rfl, rfl⟩
  go_wp2
  refine wp_loop_rounds 1 ?_
  rw [rounds_succ]
  go_wp2
  go_ret
  exact ⟨rfl, by repeat (with_reducible first | exact Kept.refl _ _ | apply Kept.drew | apply Kept.drewN | apply Kept.alloc | exact oneHit | apply Kept.setCell)⟩
theorem out_nil (w : World) (e : Int) :
   Calls Try.prog 15 #[.pointer none, .int .u8 e] w fun x w' => x = .returned (.int .i64 0) ∧ Kept NoBlk w w' := by
  have hmf : ∀ (fn : Fn) (first cap : Array Value) (w : World), (Instr.makeFunc fn first cap).run Try.prog w = .ok (.func fn first cap) w := fun _ _ _ _ => rfl
  go_enter Try.func15, Try.ntmps15
  go_wp2_with fail
  refine (take_nil _ _).mono ?_
  rintro e w1 ⟨rfl, rfl⟩
  go_wp2
  go_ret
  exact ⟨rfl, by repeat (with_reducible first | exact Kept.refl _ _ | apply Kept.drew | apply Kept.drewN | apply Kept.alloc | exact oneHit | apply Kept.setCell)⟩

set_option maxHeartbeats 1000000 in
theorem done_any (w : World) (g m : Nat) (S : St) (v : Value) (r : Nat → Value) (h : IsB w g m S v r) (hd : Dis S.op) (hok : ∀ x ∈ S.op, okK (x.1, x.2.1)) (hn : S.op.length ≤ 1000000) (e f : Int) :
   Calls Try.prog 20 #[.pointer (some ⟨g, 0, none⟩), .int .u8 e, .int .u8 f] w fun x w' => x = .returned (.int .i64 (if (S.op.filter (qDone e f)).length = 0 then 5 else 0)) ∧ ∃ v', IsB w' g m (leave S (qDone e f)) v' r ∧ Kept (TwoBlk g m) w w' := by
  have hmf : ∀ (fn : Fn) (first cap : Array Value) (w : World), (Instr.makeFunc fn first cap).run Try.prog w = .ok (.func fn first cap) w := fun _ _ _ _ => rfl
  have hT := tests_done ((w.alloc (.cells #[.int .u8 e] 5)).alloc (.cells #[.int .u8 f] 5)) w.heap.size (w.heap.size + 1) e f (Blk.alloc (Blk.new _ _ _) _) (Blk.new_at _ _ _ (by simp))
  have hC := Lib.hid (take_any _ g m S v r (h.kept (w' := (w.alloc (.cells #[.int .u8 e] 5)).alloc (.cells #[.int .u8 f] 5)) (by repeat (with_reducible first | exact Kept.refl _ _ | apply Kept.drew | apply Kept.drewN | apply Kept.alloc | exact oneHit | apply Kept.setCell))) hd hok hn 39 _ _ hT)
  have hfl : (S.op.filter (qDone e f)).length ≤ 1000000 := Nat.le_trans (List.length_filter_le _ _) hn
  clear h hT
  go_enter Try.func20, Try.ntmps20
  go_wp2_with fail
  refine (hC.out).mono ?_
  rintro x w1 ⟨A, c, v', rfl, _, hB, hK⟩
  have HB := Lib.hid hB
  have hk : Kept (TwoBlk g m) w w1 := Kept.trans (by repeat (with_reducible first | exact Kept.refl _ _ | apply Kept.drew | apply Kept.drewN | apply Kept.alloc | exact oneHit | apply Kept.setCell)) hK
  change (S.op.filter (qDone e f)).length ≤ 1000000 at hfl
  clear hB hK hC
  by_cases h0 : (S.op.filter (qDone e f)).length = 0
  · have h0' : (S.op.filter (fun x => decide (x.1 = e) && decide (x.2.1 = f))).length = 0 := h0
    rw [h0']
    go_wp2
    go_ret
    exact ⟨rfl, ⟨v', HB.out⟩, hk⟩
  · have h0' : ¬ ((S.op.filter (fun x => decide (x.1 = e) && decide (x.2.1 = f))).length : Int) = 0 := by
      intro e1
      exact h0 (Int.ofNat.inj e1)
    go_wp2
    go_ret
    exact ⟨rfl, ⟨v', HB.out⟩, hk⟩

theorem lay_nil (S : St) : lay S [] = S := by simp [lay]
theorem lay_snoc (S : St) (l : List (Int × Int × Int)) (k : Nat) (f u : Int) : lay S (l ++ [((k : Int), f, u)]) = { lay S l with lost := fun j => if j = k then (lay S l).lost k ++ [f] else (lay S l).lost j } := by
  simp only [lay]
  congr 1
  funext j
  by_cases e : j = k
  · subst e
    simp
  · have : ¬ (k : Int) = (j : Int) := by omega
    simp [e, this]

set_option maxHeartbeats 4000000 in
theorem due_any (w : World) (g m : Nat) (S : St) (v : Value) (r : Nat → Value) (h : IsB w g m S v r) (hd : Dis S.op) (hok : ∀ x ∈ S.op, okK (x.1, x.2.1)) (henv : ∀ x ∈ S.op, ∃ k : Nat, k < 6 ∧ x.1 = (k : Int)) (hn : S.op.length ≤ 1000) (hlost : ∀ i, i < 6 → (S.lost i).length ≤ 1000) (n : Int) :
   Calls Try.prog 19 #[.pointer (some ⟨g, 0, none⟩), .int .i64 n] w fun x w' => ∃ A c v' r', x = .returned (.slice A (S.op.filter (qDue n)).length c) ∧ Row w' 37 3 (.slice A (S.op.filter (qDue n)).length c) (S.op.filter (qDue n)).length (asks (S.op.filter (qDue n))) ∧ IsB w' g m (dueSt S n) v' r' ∧ Kept (TwoBlk g m) w w' := by
  have hmf : ∀ (fn : Fn) (first cap : Array Value) (w : World), (Instr.makeFunc fn first cap).run Try.prog w = .ok (.func fn first cap) w := fun _ _ _ _ => rfl
  have hT := tests_due (w.alloc (.cells #[.int .i64 n] 3)) w.heap.size n (Blk.new _ _ _)
  have hC := Lib.hid (take_any _ g m S v r (h.kept (w' := w.alloc (.cells #[.int .i64 n] 3)) (by repeat (with_reducible first | exact Kept.refl _ _ | apply Kept.drew | apply Kept.drewN | apply Kept.alloc | exact oneHit | apply Kept.setCell))) hd hok (by omega) 37 _ _ hT)
  have hfl : (S.op.filter (qDue n)).length ≤ 1000 := Nat.le_trans (List.length_filter_le _ _) hn
  clear h hT
  go_enter Try.func19, Try.ntmps19
  go_wp2_with fail
  refine (hC.out).mono ?_
  rintro x w1 ⟨A, c, v', rfl, hY, hB, hK⟩
  change Row w1 37 3 (.slice A (S.op.filter (qDue n)).length c) (S.op.filter (qDue n)).length (asks (S.op.filter (qDue n))) at hY
  change IsB w1 g m (leave S (qDue n)) v' r at hB
  change (S.op.filter (qDue n)).length ≤ 1000 at hfl
  have hk : Kept (TwoBlk g m) w w1 := Kept.trans (by repeat (with_reducible first | exact Kept.refl _ _ | apply Kept.drew | apply Kept.drewN | apply Kept.alloc | exact oneHit | apply Kept.setCell)) hK
  have hmem : ∀ x ∈ S.op.filter (qDue n), ∃ k : Nat, k < 6 ∧ x.1 = (k : Int) := fun x hx => henv x (List.mem_filter.1 hx).1
  have hlayl : ∀ (j i : Nat), i < 6 → ((lay (leave S (qDue n)) ((S.op.filter (qDue n)).take j)).lost i).length ≤ 2000 := by
    intro j i hi
    have h1 := hlost i hi
    have h2 : (((S.op.filter (qDue n)).take j).filter (fun x => decide (x.1 = (i : Int)))).length ≤ (S.op.filter (qDue n)).length := Nat.le_trans (List.length_filter_le _ _) (by rw [List.length_take]; omega)
    simp only [lay, leave, List.length_append, List.length_map]
    omega
  obtain ⟨out, hout⟩ : ∃ out, out = S.op.filter (qDue n) := ⟨_, rfl⟩
  have hq : S.op.filter (fun x => decide (x.2.2 ≤ n)) = out := hout.symm
  have hd2 : dueSt S n = lay (leave S (qDue n)) out := by rw [hout]; rfl
  rw [← hout] at hY hfl hmem hlayl
  rw [hq]
  have HY := Lib.hid hY
  have HB := Lib.hid (show IsB w1 g m (lay (leave S (qDue n)) (out.take 0)) v' r by rw [List.take_zero, lay_nil]; exact hB)
  have HK := Lib.hid hk
  have HD := Lib.hid hd2
  have HO := Lib.hid hout
  clear hY hB hk hK hC hq hd2 hout
  go_wp2_with fail
  go_loopw [13] (fun i wr => ∃ (j : Nat) (r' : Nat → Value), j ≤ out.length ∧ i = .int .i64 j ∧ Row wr 37 3 (.slice A out.length c) out.length (asks out) ∧ IsB wr g m (lay (leave S (qDue n)) (out.take j)) v' r' ∧ Kept (TwoBlk g m) w wr) (fun i _ => out.length - (intOf i).toNat)
  case atStart => exact ⟨0, r, by omega, rfl, HY.out, HB.out, HK.out⟩
  case round =>
    obtain ⟨j, r', hj, rfl, hY', hB', hK'⟩ := hrel
    clear HY HB HK
    have HY := Lib.hid hY'
    have HB := Lib.hid hB'
    have HK := Lib.hid hK'
    clear hY' hB' hK'
    by_cases hlt2 : j < out.length
    · obtain ⟨⟨e, f, u⟩, hx⟩ : ∃ x, out[j]? = some x := ⟨_, List.getElem?_eq_getElem (by omega)⟩
      obtain ⟨k, hk6, he⟩ := hmem (e, f, u) (List.mem_of_getElem? hx)
      obtain rfl : e = (k : Int) := he
      obtain ⟨b, off, cap', hv', h1, h2, hb, _, hcc⟩ := HY.out.place (by omega)
      injection hv' with q1 q2 q3
      subst q1 q3
      obtain ⟨x1, x2, x3⟩ := asks_at _ j _ f u hx
      have c1 := hcc _ _ x1
      have c2 := hcc _ _ x2
      have c3 := hcc _ _ x3
      simp only [← Nat.add_assoc] at c2 c3
      have hltr := HB.out.blk.lt
      have ht1 : out.take (j + 1) = out.take j ++ [((k : Int), f, u)] := by rw [List.take_add_one, hx]; rfl
      have hkl : (k : Int) < 6 := by omega
      have hk2 : (k : Int).toNat = k := by omega
      have hP := Lib.hid (fun w2 (hK : Kept NoBlk wr w2) => push_any w2 g (2 + k) _ (HB.out.kept hK).blk (r' k) (arrB_at v' m r' k hk6) _ _ rfl ((HB.out.kept hK).lost k hk6) (Nat.le_trans (hlayl j k hk6) (by omega)) f)
      clear hcc x1 x2 x3
      go_wp2
      refine wp_region_plan (by kernel_rfl) (.q 0 <| .q 1 <| .q 2 <| .q 3 <| .q 4 <| .q 5 <| .q 6 <| .q 7 <| .e 8 [] <| .nil) (by kernel_rfl) (by kernel_rfl) ?_
      repeat (refine plan_q rfl (fun K hK => ?_); go_simp; refine hK _ ?_; clear hK K)
      refine plan_e rfl (fun K hK => ?_)
      go_simp
      refine (hP.out _ (by repeat (with_reducible first | exact Kept.refl _ _ | apply Kept.drew | apply Kept.drewN | apply Kept.alloc | exact oneHit | apply Kept.setCell))).mono ?_
      rintro x w3 ⟨rfl, v3, hB3, hr3, hK3⟩
      have hk3 : Kept (OneBlk g) wr w3 := Kept.trans (by repeat (with_reducible first | exact Kept.refl _ _ | apply Kept.drew | apply Kept.drewN | apply Kept.alloc | exact oneHit | apply Kept.setCell)) hK3
      have hB4 := HB.out.lostSet (S' := lay (leave S (qDue n)) (out.take (j + 1))) k hk6 v3 _ hB3 (by rw [List.length_append]; exact hr3) hk3 rfl rfl (fun i hi => by rw [ht1, lay_snoc])
      have HB4 := Lib.hid hB4
      have HY3 := Lib.hid (HY.out.kept hk3 (fun _ _ hb e => hb.ne_ HB.out.blk (by decide) e))
      clear hB4 hr3 hB3
      refine hK _ _ stab_nil ?_
      clear hK K
      refine plan_nil ?_
      go_wp2
      go_roundw
      case rel => exact ⟨j + 1, _, by omega, by go_num, HY3.out, HB4.out, HK.out.trans (hk3.weaken (fun _ _ e => .inl e))⟩
      case measure => simp [intOf]; omega
    · obtain rfl : j = out.length := by omega
      have ht : out.take out.length = out := List.take_of_length_le (Nat.le_refl _)
      rw [ht, ← HD.out] at HB
      go_wp2
      go_ret
      rw [← HO.out]
      exact ⟨_, _, v', r', rfl, HY.out, HB.out, HK.out⟩

set_option maxHeartbeats 2000000 in
theorem out_any (w : World) (g m : Nat) (S : St) (v : Value) (r : Nat → Value) (h : IsB w g m S v r) (hd : Dis S.op) (hok : ∀ x ∈ S.op, okK (x.1, x.2.1)) (hn : S.op.length ≤ 1000) (i : Nat) (hi : i < 6) :
   Calls Try.prog 15 #[.pointer (some ⟨g, 0, none⟩), .int .u8 i] w fun x w' => x = .returned (.int .i64 (S.op.filter (qOut i)).length) ∧ ∃ v' r', IsB w' g m (outSt S i) v' r' ∧ Kept (TwoBlk g m) w w' := by
  have hmf : ∀ (fn : Fn) (first cap : Array Value) (w : World), (Instr.makeFunc fn first cap).run Try.prog w = .ok (.func fn first cap) w := fun _ _ _ _ => rfl
  have hT := tests_out (w.alloc (.cells #[.int .u8 i] 5)) w.heap.size i (Blk.new _ _ _)
  have hC := Lib.hid (take_any _ g m S v r (h.kept (w' := w.alloc (.cells #[.int .u8 i] 5)) (by repeat (with_reducible first | exact Kept.refl _ _ | apply Kept.drew | apply Kept.drewN | apply Kept.alloc | exact oneHit | apply Kept.setCell))) hd hok (by omega) 30 _ _ hT)
  have hbox : Blk (w.alloc (.cells #[.int .u8 (i : Int)] 5)) w.heap.size 5 #[.int .u8 i] := Blk.new _ _ _
  have hmg := h.map.lt
  have hgl := h.blk.lt
  have hi6 : (i : Int) < 6 := by omega
  have hi2 : (i : Int).toNat = i := by omega
  have HBox := Lib.hid hbox
  clear h hT hbox
  go_enter Try.func15, Try.ntmps15
  go_wp2_with fail
  refine (hC.out).mono ?_
  rintro x w1 ⟨A, c, v', rfl, _, hB, hK⟩
  have hbx : w1.cell? ⟨w.heap.size, 0, none⟩ = some (.int .u8 i) := (HBox.out.kept hK (fun e => by rcases e with e | e <;> omega)).at_ rfl
  have hbl := (HBox.out.kept hK (fun e => by rcases e with e | e <;> omega)).lt
  have hc1 := hB.blk.at_ (arrB_at v' m r i hi)
  have hf1 := hB.blk.frozen (2 + i)
  have hl1 := hB.blk.lt
  have HB := Lib.hid hB
  have hk : Kept (TwoBlk g m) w w1 := Kept.trans (by repeat (with_reducible first | exact Kept.refl _ _ | apply Kept.drew | apply Kept.drewN | apply Kept.alloc | exact oneHit | apply Kept.setCell)) hK
  have HK := Lib.hid hk
  clear hB hK hC hk
  go_wp2
  refine wp_region_plan (by kernel_rfl) (.q 0 <| .q 1 <| .q 2 <| .q 3 <| .q 4 <| .q 5 <| .e 6 [] <| .nil) (by kernel_rfl) (by kernel_rfl) ?_
  repeat (refine plan_q rfl (fun K hK => ?_); go_simp; refine hK _ ?_; clear hK K)
  refine plan_e rfl (fun K hK => ?_)
  go_simp
  refine hK _ _ stab_nil ?_
  clear hK K
  refine plan_nil ?_
  go_wp2
  go_ret
  refine ⟨rfl, v', _, HB.out.lostSet (S' := outSt S i) i hi (.slice none 0 0) [] (HB.out.blk.set_ _ _) (Row.nil _ _ _) (by repeat (with_reducible first | exact Kept.refl _ _ | apply Kept.drew | apply Kept.drewN | apply Kept.alloc | exact oneHit | apply Kept.setCell)) rfl rfl (fun j _ => rfl), HK.out.trans (Kept.drew (Kept.setCell (Kept.refl _ _) (p := ⟨g, 2 + i, none⟩) (Or.inl (Or.inl rfl)) _))⟩

set_option maxHeartbeats 2000000 in
theorem out_range (w : World) (g m : Nat) (S : St) (v : Value) (r : Nat → Value) (h : IsB w g m S v r) (hd : Dis S.op) (hok : ∀ x ∈ S.op, okK (x.1, x.2.1)) (hn : S.op.length ≤ 1000) (e : Int) (he : 6 ≤ e) :
   Calls Try.prog 15 #[.pointer (some ⟨g, 0, none⟩), .int .u8 e] w fun x w' => x = .returned (.int .i64 (S.op.filter (qOut e)).length) ∧ ∃ v', IsB w' g m (leave S (qOut e)) v' r ∧ Kept (TwoBlk g m) w w' := by
  have hmf : ∀ (fn : Fn) (first cap : Array Value) (w : World), (Instr.makeFunc fn first cap).run Try.prog w = .ok (.func fn first cap) w := fun _ _ _ _ => rfl
  have hT := tests_out (w.alloc (.cells #[.int .u8 e] 5)) w.heap.size e (Blk.new _ _ _)
  have hC := Lib.hid (take_any _ g m S v r (h.kept (w' := w.alloc (.cells #[.int .u8 e] 5)) (by repeat (with_reducible first | exact Kept.refl _ _ | apply Kept.drew | apply Kept.drewN | apply Kept.alloc | exact oneHit | apply Kept.setCell))) hd hok (by omega) 30 _ _ hT)
  have hbox : Blk (w.alloc (.cells #[.int .u8 e] 5)) w.heap.size 5 #[.int .u8 e] := Blk.new _ _ _
  have hmg := h.map.lt
  have hgl := h.blk.lt
  have HBox := Lib.hid hbox
  clear h hT hbox
  go_enter Try.func15, Try.ntmps15
  go_wp2_with fail
  refine (hC.out).mono ?_
  rintro x w1 ⟨A, c, v', rfl, _, hB, hK⟩
  have hbx : w1.cell? ⟨w.heap.size, 0, none⟩ = some (.int .u8 e) := (HBox.out.kept hK (fun e => by rcases e with e | e <;> omega)).at_ rfl
  have hbl := (HBox.out.kept hK (fun e => by rcases e with e | e <;> omega)).lt
  have HB := Lib.hid hB
  have hk : Kept (TwoBlk g m) w w1 := Kept.trans (by repeat (with_reducible first | exact Kept.refl _ _ | apply Kept.drew | apply Kept.drewN | apply Kept.alloc | exact oneHit | apply Kept.setCell)) hK
  have HK := Lib.hid hk
  clear hB hK hC hk
  go_wp2
  go_ret
  exact ⟨rfl, v', HB.out, HK.out⟩
end Go.Proofs.Ytmbgbhhdjobbnaa
