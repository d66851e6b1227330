/- The program's revoke: a list cut in two by a test. -/
import Derived.Test.YtmbgbhhdjobbnaaB4
import Derived.Maps.AppendAt
namespace Go.Proofs.Ytmbgbhhdjobbnaa
open Go.RowKit Go.Maps

section
variable {P : Program}
/-- append to a row of the call's own: the row stays in its block, or moves to a new one. -/
theorem wp_append_at {o : Oper} {a : Act} {w : World} {K : Act → World → Prop} {Q : Exit → Act → World → Prop} (s x : Operand) (t : TypeId) (ho : o.op = .call { callee := .builtin .append, args := #[s, x], argTypes := #[t, t] })
    (e : TypeId) (size bytes : Nat) (h1 : P.underlying t = some (.slice e)) (hI : (P.info? e).map (fun i => (i.zero.map (·.cells.size), i.size, i.bytes)) = some (some size, size, bytes)) (hsz : 0 < size)
    (base : Nat) (v : Value) (n : Nat) (xs : List Value) (hs : a.eval s = v) (hown : w.ownsRow base e size v n xs)
    (B : Option Addr) (k c : Nat) (news : List Value) (hx : a.eval x = .slice B k c) (hr2 : Row w e size (.slice B k c) k news) (hk : 0 < k) (hone : news.all (·.oneCell') = true)
    (b1 : n + k ≤ maxLen) (b2 : (n + k) * bytes ≤ 140737488355328) (hbase : base ≤ w.heap.size)
    (h : ∀ v' w', w'.ownsRow base e size v' (n + k) (xs ++ news) → Kept (fun b => v.ownBlock = some b) w w' → (v'.ownBlock = v.ownBlock ∨ v'.ownBlock = some w.heap.size) → K (a.put o.dst v') w') : o.wp P a w K Q := by
  obtain ⟨i, z, hi, hz, hz1, hz2, hz3⟩ := infoParts hI
  obtain ⟨ad, rfl, hnl, hnews⟩ := hr2.src hk
  obtain ⟨v', w', hrun, r1, r2, _, r3⟩ := run_append_own_at (P := P) w base t o.type e i z size bytes h1 hi hz hz1 hz2 hz3 hsz v n xs hown ad k c news hnl hnews (fun u hu => List.all_eq_true.1 hone u hu) b1 b2 hbase
  unfold Oper.wp
  simp [execOp, ho, resolve, invoke, builtin, hs, hx, hrun, Result.andThen]
  exact h _ _ r1 ((Kept.refl _ _).grown r2 (fun b e => .inl e)) r3

theorem wpList_append_at {ops : Array Oper} {rest : List Oper} {o : Oper} {a : Act} {w : World} {Q : Exit → Act → World → Prop} (hgd : o.guard = none) (s x : Operand) (t : TypeId) (ho : o.op = .call { callee := .builtin .append, args := #[s, x], argTypes := #[t, t] })
    (e : TypeId) (size bytes : Nat) (h1 : P.underlying t = some (.slice e)) (hI : (P.info? e).map (fun i => (i.zero.map (·.cells.size), i.size, i.bytes)) = some (some size, size, bytes)) (hsz : 0 < size)
    (base : Nat) (v : Value) (n : Nat) (xs : List Value) (hs : a.eval s = v) (hown : w.ownsRow base e size v n xs)
    (B : Option Addr) (k c : Nat) (news : List Value) (hx : a.eval x = .slice B k c) (hr2 : Row w e size (.slice B k c) k news) (hk : 0 < k) (hone : news.all (·.oneCell') = true)
    (b1 : n + k ≤ maxLen) (b2 : (n + k) * bytes ≤ 140737488355328) (hbase : base ≤ w.heap.size)
    (h : ∀ v' w', w'.ownsRow base e size v' (n + k) (xs ++ news) → Kept (fun b => v.ownBlock = some b) w w' → (v'.ownBlock = v.ownBlock ∨ v'.ownBlock = some w.heap.size) → wpList P ops Q rest (a.put o.dst v') w') : wpList P ops Q (o :: rest) a w :=
  wpList_plain hgd fun _ hK => wp_append_at s x t ho e size bytes h1 hI hsz base v n xs hs hown B k c news hx hr2 hk hone b1 b2 hbase fun v' w' r1 r2 r3 => hK _ _ (h v' w' r1 r2 r3)
theorem step_append_at {ops : Array Oper} {o : Oper} {a : Act} {w : World} {K : Act → World → Prop} {Q : Exit → Act → World → Prop} {E : Prop} (hgd : o.guard = none) (s x : Operand) (t : TypeId) (ho : o.op = .call { callee := .builtin .append, args := #[s, x], argTypes := #[t, t] })
    (e : TypeId) (size bytes : Nat) (h1 : P.underlying t = some (.slice e)) (hI : (P.info? e).map (fun i => (i.zero.map (·.cells.size), i.size, i.bytes)) = some (some size, size, bytes)) (hsz : 0 < size)
    (base : Nat) (v : Value) (n : Nat) (xs : List Value) (hs : a.eval s = v) (hown : w.ownsRow base e size v n xs)
    (B : Option Addr) (k c : Nat) (news : List Value) (hx : a.eval x = .slice B k c) (hr2 : Row w e size (.slice B k c) k news) (hk : 0 < k) (hone : news.all (·.oneCell') = true)
    (b1 : n + k ≤ maxLen) (b2 : (n + k) * bytes ≤ 140737488355328) (hbase : base ≤ w.heap.size)
    (h : ∀ v' w', w'.ownsRow base e size v' (n + k) (xs ++ news) → Kept (fun b => v.ownBlock = some b) w w' → (v'.ownBlock = v.ownBlock ∨ v'.ownBlock = some w.heap.size) → K (a.put o.dst v') w') :
    if Region.wanted o (yielded ops a.tmps) = true then Oper.wp P o a w K Q else E := by
  have hw : Region.wanted o (yielded ops a.tmps) = true := by simp [Region.wanted, hgd]
  rw [if_pos hw]
  exact wp_append_at s x t ho e size bytes h1 hI hsz base v n xs hs hown B k c news hx hr2 hk hone b1 b2 hbase h
end

/-- Two rows of the call's own, in different blocks. -/
structure Two (w : World) (base : Nat) (v : Value) (l : List (Int × Int × Int)) (v' : Value) (l' : List (Int × Int × Int)) : Prop where
  one : w.ownsRow base 37 3 v l.length (asks l)
  two : w.ownsRow base 37 3 v' l'.length (asks l')
  apart : ∀ b, v.ownBlock = some b → v'.ownBlock ≠ some b

theorem own_lt {w : World} {base : Nat} {t : TypeId} {m n : Nat} {v : Value} {xs : List Value} (h : w.ownsRow base t m v n xs) {b : Nat} (hb : v.ownBlock = some b) : base ≤ b ∧ b < w.heap.size := h.lt b hb
theorem own_kept' {w w' : World} {base : Nat} {t : TypeId} {m n : Nat} {v : Value} {xs : List Value} {G : Nat → Prop} (h : w.ownsRow base t m v n xs) (hk : Kept G w w') (hg : ∀ b, v.ownBlock = some b → ¬ G b) : w'.ownsRow base t m v n xs := by
  obtain ⟨hl, h | ⟨g, cap, cur, hv, hb, hgg, r⟩⟩ := h
  · exact ⟨hl, .inl h⟩
  · exact ⟨hl, .inr ⟨g, cap, cur, hv, hb, Blk.kept hgg hk (hg g (by rw [hv]; rfl)), r⟩⟩
theorem Two.kept {w w' : World} {base : Nat} {v v' : Value} {l l' : List (Int × Int × Int)} (h : Two w base v l v' l') (hk : Kept NoBlk w w') : Two w' base v l v' l' :=
  ⟨own_kept h.one hk (fun _ _ e => e), own_kept h.two hk (fun _ _ e => e), h.apart⟩
theorem Two.swap {w : World} {base : Nat} {v v' : Value} {l l' : List (Int × Int × Int)} (h : Two w base v l v' l') : Two w base v' l' v l :=
  ⟨h.two, h.one, fun b h1 h2 => h.apart b h2 h1⟩
theorem Two.push {w w' : World} {base : Nat} {v v' v1 : Value} {l l' : List (Int × Int × Int)} {x : Int × Int × Int} (h : Two w base v l v' l') (h1 : w'.ownsRow base 37 3 v1 (l.length + 1) (asks l ++ askCells x)) (hk : Kept (fun b => v.ownBlock = some b) w w') (hb : v1.ownBlock = v.ownBlock ∨ v1.ownBlock = some w.heap.size) : Two w' base v1 (l ++ [x]) v' l' := by
  refine ⟨by simpa [asks] using h1, own_kept' h.two hk (fun b hb e => h.apart b e hb), fun b e1 e2 => ?_⟩
  rcases hb with hb | hb
  · exact h.apart b (hb ▸ e1) e2
  · rw [hb] at e1
    injection e1 with e1
    have := (own_lt h.two e2).2
    omega

theorem asks_at : ∀ (l : List (Int × Int × Int)) (i : Nat) (e f u : Int), l[i]? = some (e, f, u) → (asks l)[i * 3]? = some (.int .u8 e) ∧ (asks l)[i * 3 + 1]? = some (.int .u8 f) ∧ (asks l)[i * 3 + 2]? = some (.int .i64 u)
  | [], i, e, f, u, h => by simp at h
  | x :: l, 0, e, f, u, h => by
    simp only [List.getElem?_cons_zero, Option.some.injEq] at h
    subst h
    simp [asks, askCells]
  | x :: l, i + 1, e, f, u, h => by
    have := asks_at l i e f u (by simpa using h)
    have h3 : asks (x :: l) = askCells x ++ asks l := by simp [asks]
    rw [h3, show (i + 1) * 3 = 3 + i * 3 by omega]
    simp only [askCells, Nat.add_assoc]
    refine ⟨?_, ?_, ?_⟩
    · rw [List.getElem?_append_right (by simp)]; simpa using this.1
    · rw [List.getElem?_append_right (by simp)]; simpa using this.2.1
    · rw [List.getElem?_append_right (by simp)]; simpa using this.2.2

/-- The test of a split: it answers by p and turns nothing that was there. -/
structure Tests (w : World) (F : FuncId) (cap : Array Value) (p : Int × Int × Int → Bool) : Prop where
  enters : ∀ (args : Array Value) (w : World), Sem.run Try.prog (callFunc F args) w = .ok (.enter F args) w
  calls : ∀ w1 e f u, Kept NoBlk w w1 → Calls Try.prog F (#[.agg #[.int .u8 e, .int .u8 f, .int .i64 u]] ++ cap) w1 fun x w2 => x = .returned (.bool (p (e, f, u))) ∧ Kept NoBlk w1 w2

set_option maxHeartbeats 2000000 in
theorem split_any (w : World) (A : Option Addr) (n cap : Nat) (l : List (Int × Int × Int)) (hl : l.length = n) (hr : Row w 37 3 (.slice A n cap) n (asks l)) (hn : n ≤ 1000000) (F : FuncId) (cp : Array Value) (p : Int × Int × Int → Bool) (hT : Tests w F cp p) :
   Calls Try.prog 46 #[.slice A n cap, .func (.func F) #[] cp] w fun x w' => ∃ vy vn, x = .returned (.tuple #[vy, vn]) ∧ Row w' 37 3 vy (l.filter p).length (asks (l.filter p)) ∧ Row w' 37 3 vn (l.filter (fun a => !p a)).length (asks (l.filter (fun a => !p a))) ∧ Kept NoBlk w w' := by
  have HR := Lib.hid hr
  have HT := Lib.hid hT
  clear hr hT
  go_enter Try.func46, Try.ntmps46
  go_wp2_with fail
  go_loopw [4, 5, 10] (fun vy vn i wr => ∃ (j : Nat), j ≤ n ∧ i = .int .i64 j ∧ Two wr w.heap.size vy ((l.take j).filter p) vn ((l.take j).filter (fun a => !p a)) ∧ Kept NoBlk w wr) (fun _ _ i _ => n - (intOf i).toNat)
  case atStart => exact ⟨0, by omega, rfl, ⟨own_none _ _ _ _, own_none _ _ _ _, fun b e => by cases e⟩, Kept.refl _ _⟩
  case round =>
    obtain ⟨j, hj, rfl, hT2, hK⟩ := hrel
    have HT2 := Lib.hid hT2
    have HK := Lib.hid hK
    clear hT2 hK
    by_cases hlt : j < n
    · obtain ⟨⟨e, f, u⟩, hx⟩ : ∃ x, l[j]? = some x := ⟨_, List.getElem?_eq_getElem (by omega)⟩
      obtain ⟨b, off, cap', hv, h1, h2, hb, _, hc⟩ := (HR.out.kept HK.out (fun _ _ _ e => e)).place (by omega)
      injection hv with q1 q2 q3
      subst q1 q3
      obtain ⟨x1, x2, x3⟩ := asks_at l j e f u hx
      have c1 := hc _ _ x1
      have c2 := hc _ _ x2
      have c3 := hc _ _ x3
      simp only [← Nat.add_assoc] at c2 c3
      clear hc x1 x2 x3
      go_wp2_with fail
      rw [HT.out.enters, Oper.upon_enter]
      refine (HT.out.calls _ e f u (Kept.trans HK.out (by repeat (with_reducible first | exact Kept.refl _ _ | apply Kept.drew | apply Kept.drewN | apply Kept.alloc | exact oneHit | apply Kept.setCell)))).mono ?_
      rintro x w2 ⟨rfl, hK2⟩
      have hk2 : Kept NoBlk wr w2 := Kept.trans (by repeat (with_reducible first | exact Kept.refl _ _ | apply Kept.drew | apply Kept.drewN | apply Kept.alloc | exact oneHit | apply Kept.setCell)) hK2
      have hB2 := (Blk.kept (Blk.new wr 37 _) hK2 (fun e => e)).cell
      have hTw := HT2.out.kept hk2
      have hkw := HK.out.trans hk2
      have ht1 : l.take (j + 1) = l.take j ++ [(e, f, u)] := by rw [List.take_add_one, hx]; rfl
      have hf1 : ((l.take j).filter p).length ≤ j := Nat.le_trans (List.length_filter_le _ _) (by rw [List.length_take]; omega)
      have hf2 : ((l.take j).filter (fun a => !p a)).length ≤ j := Nat.le_trans (List.length_filter_le _ _) (by rw [List.length_take]; omega)
      have hsz2 : w.heap.size ≤ w2.heap.size := hkw.size
      cases hp : p (e, f, u) with
      | true =>
        go_wp2_with (refine wpList_append_at rfl (.tmp 17) (.tmp 19) 33 rfl 37 3 16 Try.underlying33 Try.sz37 (by decide) w.heap.size u4 _ _ rfl (own_kept hTw.one (G := NoBlk) (by repeat (with_reducible first | exact Kept.refl _ _ | apply Kept.drew | apply Kept.drewN | apply Kept.alloc | exact oneHit | apply Kept.setCell)) (fun _ _ e => e)) (some ⟨w2.heap.size, 0, none⟩) 1 1 [.int .u8 e, .int .u8 f, .int .i64 u] rfl (Row.new (Blk.new _ _ _) (by simp) (by simp [maxLen])) (by decide) rfl (by simp only [maxLen]; omega) (by omega) (by simp; omega) ?_; intro v3 w3 r1 r2 r3)
        have hTa := hTw.kept (w' := w2.alloc (.cells #[.int .u8 e, .int .u8 f, .int .i64 u] 37)) (by repeat (with_reducible first | exact Kept.refl _ _ | apply Kept.drew | apply Kept.drewN | apply Kept.alloc | exact oneHit | apply Kept.setCell))
        go_roundw
        case rel =>
          refine ⟨j + 1, by omega, by go_num, ?_, Kept.fresh (hkw.trans (by repeat (with_reducible first | exact Kept.refl _ _ | apply Kept.drew | apply Kept.drewN | apply Kept.alloc | exact oneHit | apply Kept.setCell))) r2 (fun b e => (own_lt hTa.one e).1)⟩
          rw [ht1, List.filter_append, List.filter_append]
          rw [show [(e, f, u)].filter p = [(e, f, u)] by simp [hp], show [(e, f, u)].filter (fun a => !p a) = [] by simp [hp], List.append_nil]
          exact hTa.push (x := (e, f, u)) r1 r2 r3
        case measure => simp [intOf]; omega
      | false =>
        go_wp2_with (refine wpList_append_at rfl (.tmp 21) (.tmp 23) 33 rfl 37 3 16 Try.underlying33 Try.sz37 (by decide) w.heap.size u5 _ _ rfl (own_kept hTw.two (G := NoBlk) (by repeat (with_reducible first | exact Kept.refl _ _ | apply Kept.drew | apply Kept.drewN | apply Kept.alloc | exact oneHit | apply Kept.setCell)) (fun _ _ e => e)) (some ⟨w2.heap.size, 0, none⟩) 1 1 [.int .u8 e, .int .u8 f, .int .i64 u] rfl (Row.new (Blk.new _ _ _) (by simp) (by simp [maxLen])) (by decide) rfl (by simp only [maxLen]; omega) (by omega) (by simp; omega) ?_; intro v3 w3 r1 r2 r3)
        have hTa := hTw.kept (w' := w2.alloc (.cells #[.int .u8 e, .int .u8 f, .int .i64 u] 37)) (by repeat (with_reducible first | exact Kept.refl _ _ | apply Kept.drew | apply Kept.drewN | apply Kept.alloc | exact oneHit | apply Kept.setCell))
        go_roundw
        case rel =>
          refine ⟨j + 1, by omega, by go_num, ?_, Kept.fresh (hkw.trans (by repeat (with_reducible first | exact Kept.refl _ _ | apply Kept.drew | apply Kept.drewN | apply Kept.alloc | exact oneHit | apply Kept.setCell))) r2 (fun b e => (own_lt hTa.two e).1)⟩
          rw [ht1, List.filter_append, List.filter_append]
          rw [show [(e, f, u)].filter p = [] by simp [hp], show [(e, f, u)].filter (fun a => !p a) = [(e, f, u)] by simp [hp], List.append_nil]
          exact (hTa.swap.push (x := (e, f, u)) r1 r2 r3).swap
        case measure => simp [intOf]; omega
    · obtain rfl : j = n := by omega
      have ht : l.take j = l := List.take_of_length_le (by omega)
      rw [ht] at HT2
      go_wp2
      go_ret2
      exact ⟨_, _, rfl, Row.of_own HT2.out.one, Row.of_own HT2.out.two, HK.out⟩
end Go.Proofs.Ytmbgbhhdjobbnaa
