/- The document's revoke: Same, Done, Due. -/
import Derived.Test.YtmbgbhhdjobbnaaR3
namespace Go.Proofs.Ytmbgbhhdjobbnaa
open Go.RowKit Go.Maps

theorem run_neq_asked (w : World) (a b c : Int) : (binOp .neq 37 (.agg #[.int .u8 a, .int .u8 b, .int .i64 c]) (.agg #[.int .u8 a, .int .u8 b, .int .i64 c])).run Try.prog w = .ok (.bool false) w := by
  simp [go_sem]
theorem run_neqGuard_asked (w : World) (x y : Operand) (a b : Array Value) : (eqGuard .neq 37 x y (.agg a) (.agg b)).run Try.prog w = .ok () w := run_eqGuard_agg w .neq 37 x y _ _ (by kernel_rfl)

set_option maxHeartbeats 2000000 in
theorem rsame_any (w : World) (l : List (Int × Int × Int)) (A A' : Option Addr) (n c c' : Nat) (hl : l.length = n) (hr : Row w 37 3 (.slice A n c) n (asks l)) (hr' : Row w 37 3 (.slice A' n c') n (asks l)) (hn : n ≤ 1000000) :
   Calls Try.prog 33 #[.slice A n c, .slice A' n c'] w fun x w' => x = .returned (.bool true) ∧ Kept NoBlk w w' := by
  have HR := Lib.hid hr
  have HR' := Lib.hid hr'
  have hq := run_neq_asked
  have hqg := run_neqGuard_asked
  clear hr hr'
  go_enter Try.func33, Try.ntmps33
  go_wp2_with fail
  go_loopw [5] (fun iv wr => ∃ (j : Nat), j ≤ n ∧ iv = .int .i64 j ∧ Kept NoBlk w wr) (fun iv _ => n - (intOf iv).toNat)
  case atStart => exact ⟨0, by omega, rfl, Kept.refl _ _⟩
  case round =>
    obtain ⟨j, hj, rfl, hK⟩ := hrel
    have HK := Lib.hid hK
    clear hK
    by_cases hlt2 : j < n
    · obtain ⟨⟨e, f, u⟩, hx⟩ : ∃ x, l[j]? = some x := ⟨_, List.getElem?_eq_getElem (by omega)⟩
      obtain ⟨b, off, cap', hv', h1, h2, hb, _, hcc⟩ := (HR.out.kept HK.out (fun _ _ _ e => e)).place (by omega)
      injection hv' with q1 q2 q3
      subst q1 q3
      obtain ⟨b', off', cap'', hv'', h1', h2', hb', _, hcc'⟩ := (HR'.out.kept HK.out (fun _ _ _ e => e)).place (by omega)
      injection hv'' with q1 q2 q3
      subst q1 q3
      obtain ⟨x1, x2, x3⟩ := asks_at _ j _ _ u hx
      have c1 := hcc _ _ x1
      have c2 := hcc _ _ x2
      have c3 := hcc _ _ x3
      have d1 := hcc' _ _ x1
      have d2 := hcc' _ _ x2
      have d3 := hcc' _ _ x3
      simp only [← Nat.add_assoc] at c2 c3 d2 d3
      clear hcc hcc' x1 x2 x3 hx
      go_wp2
      refine wp_region_plan (by kernel_rfl) (.q 0 <| .q 1 <| .q 2 <| .q 3 <| .q 4 <| .q 5 <| .q 6 <| .q 7 <| .q 8 <| .nil) (by kernel_rfl) (by kernel_rfl) ?_
      repeat (refine plan_q rfl (fun K hK => ?_); go_simp; refine hK _ ?_; clear hK K)
      refine plan_nil ?_
      go_wp2
      go_roundw
      case rel => exact ⟨j + 1, by omega, by go_num, by exact HK.out.drew⟩
      case measure => simp [intOf]; omega
    · obtain rfl : j = n := by omega
      go_wp2
      go_ret
      exact ⟨rfl, HK.out⟩

theorem Row.upto {w : World} {t : TypeId} {m n : Nat} {b off cap : Nat} {xs : List Value} (h : Row w t m (.slice (some ⟨b, off, none⟩) n cap) n xs) (k : Nat) (hk : k ≤ n) :
    Row w t m (.slice (some ⟨b, off, none⟩) k cap) k (xs.take (k * m)) := by
  obtain ⟨hl, ⟨hv, hn⟩ | ⟨b', off', c, cur, hv, hb, hn, hm, hs, ht⟩⟩ := h
  · cases hv
  · injection hv with h1 h2 h3
    injection h1 with h1
    injection h1 with h4 h5 h6
    subst h4 h5 h3
    have hkm := Nat.mul_le_mul_right m hk
    refine ⟨by rw [List.length_take]; omega, .inr ⟨b, off, cap, cur, rfl, hb, by omega, hm, by omega, ?_⟩⟩
    rw [← ht, List.take_take, Nat.min_eq_left hkm]
theorem Row.from {w : World} {t : TypeId} {m n k : Nat} {b off cap : Nat} {xs : List Value} (h : Row w t m (.slice (some ⟨b, off, none⟩) (n + k) cap) (n + k) xs) :
    Row w t m (.slice (if cap = n then some ⟨b, off, none⟩ else some ⟨b, off + n * m, none⟩) k (cap - n)) k (xs.drop (n * m)) := by
  by_cases hc : cap = n
  · rw [if_pos hc]
    obtain ⟨hl, ⟨hv, hn⟩ | ⟨b', off', c, cur, hv, hb, hn, hm, hs, ht⟩⟩ := h
    · cases hv
    · injection hv with h1 h2 h3
      injection h1 with h1
      injection h1 with h4 h5 h6
      subst h4 h5 h3
      obtain rfl : k = 0 := by omega
      refine ⟨by simp [hl], .inr ⟨b, off, cap - n, cur, rfl, hb, by omega, by omega, by omega, ?_⟩⟩
      have e0 : xs.drop (n * m) = [] := List.drop_eq_nil_of_le (by rw [hl]; simp)
      rw [e0]
      simp
  · rw [if_neg hc]
    exact h.drop
theorem asks_take (l : List (Int × Int × Int)) (j : Nat) : (asks l).take (j * 3) = asks (l.take j) := by
  rcases Nat.le_total j l.length with h | h
  · have e := asks_append (l.take j) (l.drop j)
    rw [List.take_append_drop] at e
    rw [e, List.take_left' (by rw [asks_length, List.length_take]; congr 1; omega)]
  · rw [List.take_of_length_le h, List.take_of_length_le]
    rw [asks_length]
    exact Nat.mul_le_mul_right 3 h
theorem asks_drop (l : List (Int × Int × Int)) (j : Nat) (h : j ≤ l.length) : (asks l).drop (j * 3) = asks (l.drop j) := by
  have e := asks_append (l.take j) (l.drop j)
  rw [List.take_append_drop] at e
  rw [e, List.drop_left' (by rw [asks_length, List.length_take]; congr 1; omega)]

theorem done_no (S : St) (e f : Int) (h : lookOp S.op (e, f) = none) : leave S (qDone e f) = S ∧ (S.op.filter (qDone e f)).length = 0 := by
  have h1 : ∀ x ∈ S.op, qDone e f x = false := by
    have hh : S.op.find? (fun x => x.1 == e && x.2.1 == f) = none := by simpa [lookOp] using h
    rw [List.find?_eq_none] at hh
    intro x hx
    have := hh x hx
    simp only [Bool.and_eq_true, beq_iff_eq] at this
    simp only [qDone, Bool.and_eq_false_iff, decide_eq_false_iff_not]
    by_cases hx1 : x.1 = e
    · exact .inr (fun hx2 => this ⟨hx1, hx2⟩)
    · exact .inl hx1
  constructor
  · unfold leave
    rw [List.filter_eq_self.2 (fun x hx => by simp [h1 x hx])]
  · rw [List.filter_eq_nil_iff.2 (fun x hx => by simp [h1 x hx])]
    rfl
theorem done_yes : ∀ (l : List (Int × Int × Int)) (e f u : Int) (j : Nat), Dis l → l[j]? = some (e, f, u) → l.filter (fun a => !qDone e f a) = l.take j ++ l.drop (j + 1) ∧ (l.filter (qDone e f)).length ≠ 0
  | [], e, f, u, j, _, h => by simp at h
  | x :: l, e, f, u, 0, hd, h => by
    simp only [List.getElem?_cons_zero, Option.some.injEq] at h
    subst h
    have hno : ∀ y ∈ l, qDone e f y = false := by
      intro y hy
      cases hq : qDone e f y with
      | false => rfl
      | true =>
        simp only [qDone, Bool.and_eq_true, decide_eq_true_eq] at hq
        exact ((List.nodup_cons.1 hd).1 (List.mem_map.2 ⟨y, hy, Prod.ext hq.1 hq.2⟩)).elim
    have hq : qDone e f (e, f, u) = true := by simp [qDone]
    rw [List.filter_cons_of_neg (by simp [hq]), List.filter_cons_of_pos hq, List.filter_eq_self.2 (fun y hy => by simp [hno y hy])]
    simp
  | x :: l, e, f, u, j + 1, hd, h => by
    have h' : l[j]? = some (e, f, u) := by simpa using h
    obtain ⟨h1, h2⟩ := done_yes l e f u j (List.nodup_cons.1 hd).2 h'
    have hq : qDone e f x = false := by
      cases hq : qDone e f x with
      | false => rfl
      | true =>
        simp only [qDone, Bool.and_eq_true, decide_eq_true_eq] at hq
        exact ((List.nodup_cons.1 hd).1 (List.mem_map.2 ⟨_, List.mem_of_getElem? h', Prod.ext hq.1.symm hq.2.symm⟩)).elim
    rw [List.filter_cons_of_pos (by simp [hq]), List.filter_cons_of_neg (by simp [hq]), h1]
    exact ⟨by simp, h2⟩

set_option maxHeartbeats 4000000 in
theorem rdone_any (w : World) (h : Nat) (S : St) (v : Value) (r : Nat → Value) (hR : IsR w h S v r) (hd : Dis S.op) (hn : S.op.length ≤ 1000000) (e f : Int) :
   Calls Try.prog 42 #[.pointer (some ⟨h, 0, none⟩), .int .u8 e, .int .u8 f] w fun x w' => x = .returned (.int .i64 (if (S.op.filter (qDone e f)).length = 0 then 5 else 0)) ∧ ∃ v', IsR w' h (leave S (qDone e f)) v' r ∧ Kept (OneBlk h) w w' := by
  have hA := Lib.hid (at_any w h S v r hR hn e f)
  have HR := Lib.hid hR
  rcases look_at S.op e f with ⟨h1, h2⟩ | ⟨j, u, h1, hj, h2, _⟩
  · obtain ⟨e1, e2⟩ := done_no S e f h2
    rw [e1, e2]
    generalize atI S.op e f = n at *
    clear hR h2 e1 e2
    go_enter Try.func42, Try.ntmps42
    go_wp2_with fail
    refine (hA.out).mono ?_
    rintro x w1 ⟨rfl, rfl⟩
    go_wp2
    go_ret
    exact ⟨rfl, ⟨v, HR.out⟩, Kept.refl _ _⟩
  · obtain ⟨e1, e2⟩ := done_yes S.op e f u j hd h2
    rw [if_neg e2]
    rw [h1] at hA
    obtain ⟨b, off, cap, hv, hc1, hc2, hb, _, _⟩ := hR.row.place (by omega)
    have hc : w.cell? ⟨h, 0, none⟩ = some v := hR.blk.at_ rfl
    have hlt := hR.blk.lt
    have hf := hR.blk.frozen 0
    have hr := hR.row
    obtain ⟨k, hk⟩ : ∃ k, S.op.length = (j + 1) + k := ⟨S.op.length - (j + 1), by omega⟩
    rw [hv] at hr hc
    have hr1 := hr.upto j (by omega)
    rw [asks_take] at hr1
    have hr2 : Row w 37 3 (.slice (if cap = j + 1 then some ⟨b, off, none⟩ else some ⟨b, off + (j + 1) * 3, none⟩) k (cap - (j + 1))) k (asks (S.op.drop (j + 1))) := by
      rw [hk] at hr
      have := hr.from
      rw [asks_drop _ _ (by omega)] at this
      exact this
    have Hr1 := Lib.hid hr1
    have HE := Lib.hid e1
    have HK := Lib.hid hk
    clear hR hr hr1 e1 h1 h2 e2
    unfold maxLen at hc2
    have hn2 : j + 1 + k ≤ 1000000 := by omega
    have hj0 : j ≤ cap := by omega
    have hj1 : (j : Int) ≤ (j : Int) + 1 := by omega
    have hj2 : (j : Int) + 1 ≤ (j : Int) + 1 + (k : Int) := by omega
    have hj3 : j + 1 ≤ j + 1 + k := by omega
    have hj4 : IntKind.i64.wrap ((j : Int) + 1) = (j : Int) + 1 := by rw [IntKind.wrap_i64]; omega
    have hj5 : ((j : Int) + 1).toNat = j + 1 := by omega
    have hj6 : 0 ≤ (j : Int) + 1 := by omega
    have hj7 : j + 1 + k - (j + 1) = k := by omega
    by_cases hcj : cap = j + 1
    all_goals
      simp only [hcj, if_true, if_false, Nat.sub_self] at hr2
      try rw [hcj] at Hr1
      have Hr2 := Lib.hid hr2
      clear hr2
      go_enter Try.func42, Try.ntmps42
      go_wp2_with fail
      refine (hA.out).mono ?_
      rintro x w1 ⟨rfl, rfl⟩
      go_wp2
      refine wp_region_plan (by kernel_rfl) (.q 0 <| .q 2 <| .q 3 <| .q 4 <| .q 5 <| .q 6 <| .q 7 <| .q 9 <| .q 10 <| .q 11 <| .q 12 <| .q 13 <| .q 14 <| .q 15 <| .e 1 [0, 2, 3, 4, 5, 6, 7, 9, 10, 11, 12, 13, 14, 15] <| .e 8 [0, 9, 10, 11, 12, 13, 14, 15] <| .e 16 [0] <| .q 17 <| .q 18 <| .e 19 [] <| .nil) (by kernel_rfl) (by kernel_rfl) ?_
      repeat (refine plan_q rfl (fun K hK => ?_); go_simp; refine hK _ ?_; clear hK K)
      refine plan_e rfl (fun K hK => ?_)
      go_simp
      refine hK _ _ (by (repeat (refine stab_cons rfl ?_ ?_; focus (go_simp; done))); exact stab_nil) ?_
      clear hK K
      refine plan_e rfl (fun K hK => ?_)
      refine step_append_mine rfl (.tmp 19) (.tmp 25) 33 rfl 37 3 16 Try.underlying33 Try.sz37 (by decide) w.heap.size (.slice (some ⟨w.heap.size, 0, none⟩) 0 0) 0 [] rfl (own_new (Blk.drew (Blk.new _ _ _)) (Nat.le_refl _)) (some ⟨b, off, none⟩) j _ (asks (S.op.take j)) rfl (Hr1.out.kept (G := NoBlk) (by repeat (with_reducible first | exact Kept.refl _ _ | apply Kept.drew | apply Kept.drewN | apply Kept.alloc | exact oneHit | apply Kept.setCell)) (fun _ _ _ e => e)) (asks_one _) (by simp only [maxLen]; omega) (by omega) (by simp) ?_
      intro A1 cap1 w1 hown1 hK1
      simp only [Nat.zero_add, List.nil_append] at hown1
      have hk1 : Kept NoBlk w w1 := Kept.fresh (w' := (w.alloc (.cells #[] 37)).drew) (by repeat (with_reducible first | exact Kept.refl _ _ | apply Kept.drew | apply Kept.drewN | apply Kept.alloc | exact oneHit | apply Kept.setCell)) hK1 (fun b e => e)
      have hR1 := HR.out.kept hk1
      have hcw1 : w1.cell? ⟨h, 0, none⟩ = some v := hR1.blk.at_ rfl
      have hlt1 := hR1.blk.lt
      have hs1 := hk1.size
      rw [hv, HK.out] at hcw1
      try rw [hcj] at hcw1
      have hR2 := Hr2.out.kept hk1 (fun _ _ _ e => e)
      simp only [Nat.zero_add]
      refine hK _ _ (by (repeat (refine stab_cons rfl ?_ ?_; focus (go_simp; done))); exact stab_nil) ?_
      clear hK K
      refine plan_e rfl (fun K hK => ?_)
      first | refine step_append_mine rfl (.tmp 26) (.tmp 33) 33 rfl 37 3 16 Try.underlying33 Try.sz37 (by decide) w.heap.size (.slice A1 j cap1) j (asks (S.op.take j)) rfl hown1 (some ⟨b, off, none⟩) k 0 (asks (S.op.drop (j + 1))) rfl hR2 (asks_one _) (by simp only [maxLen]; omega) (by omega) (by omega) ?_ | refine step_append_mine rfl (.tmp 26) (.tmp 33) 33 rfl 37 3 16 Try.underlying33 Try.sz37 (by decide) w.heap.size (.slice A1 j cap1) j (asks (S.op.take j)) rfl hown1 (some ⟨b, off + (j + 1) * 3, none⟩) k (cap - (j + 1)) (asks (S.op.drop (j + 1))) rfl hR2 (asks_one _) (by simp only [maxLen]; omega) (by omega) (by omega) ?_
      intro A2 cap2 w2 hown2 hK2
      have hk2 : Kept NoBlk w w2 := Kept.fresh hk1 hK2 (fun b e => e)
      have hRR := HR.out.kept hk2
      have hcw2 : w2.cell? ⟨h, 0, none⟩ = some v := hRR.blk.at_ rfl
      have hf2 := hRR.blk.frozen 0
      have hlt2 := hRR.blk.lt
      have HRR := Lib.hid hRR
      clear hRR
      refine hK _ _ (by (repeat (refine stab_cons rfl ?_ ?_; focus (go_simp; done))); exact stab_nil) ?_
      clear hK K
      repeat (refine plan_q rfl (fun K hK => ?_); go_simp; refine hK _ ?_; clear hK K)
      refine plan_e rfl (fun K hK => ?_)
      go_simp
      refine hK _ _ stab_nil ?_
      clear hK K
      refine plan_nil ?_
      go_wp2
      go_ret
      have hrow := Row.of_own hown2
      refine ⟨rfl, .slice A2 (j + k) cap2, HRR.out.opSet (HRR.out.blk.set_ 0 _) ?_ (by repeat (with_reducible first | exact Kept.refl _ _ | apply Kept.drew | apply Kept.drewN | apply Kept.alloc | exact oneHit | apply Kept.setCell)) rfl, (hk2.weaken (fun _ _ e => e.elim)).trans (by repeat (with_reducible first | exact Kept.refl _ _ | apply Kept.drew | apply Kept.drewN | apply Kept.alloc | exact oneHit | apply Kept.setCell))⟩
      have e3 : (leave S (qDone e f)).op = S.op.take j ++ S.op.drop (j + 1) := HE.out
      have e4 : (leave S (qDone e f)).op.length = j + k := by rw [e3, List.length_append, List.length_take, List.length_drop]; omega
      rw [e4, e3, asks_append]
      exact hrow.kept (G := OneBlk h) (by repeat (with_reducible first | exact Kept.refl _ _ | apply Kept.drew | apply Kept.drewN | apply Kept.alloc | exact oneHit | apply Kept.setCell)) (fun b cs hb e => hb.ne_ HRR.out.blk (by decide) e)
end Go.Proofs.Ytmbgbhhdjobbnaa
