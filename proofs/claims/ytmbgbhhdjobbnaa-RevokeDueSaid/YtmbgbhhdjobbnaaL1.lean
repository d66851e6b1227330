/- A deed on both books: they answer alike, and are alike behind it. -/
import Derived.Test.YtmbgbhhdjobbnaaR5
namespace Go.Proofs.Ytmbgbhhdjobbnaa
open Go.RowKit Go.Maps

structure Inv (S : St) (n : Nat) : Prop where
  dis : Dis S.op
  env : ∀ x ∈ S.op, ∃ k : Nat, k < 6 ∧ x.1 = (k : Int)
  frm : ∀ x ∈ S.op, 0 ≤ x.2.1 ∧ x.2.1 < 256
  len : S.op.length ≤ 8
  cnt : S.cnt ≤ n
  many : ∀ i, i < 6 → (S.lost i).length + S.op.length ≤ n
  byte : ∀ i, i < 6 → ∀ x ∈ S.lost i, 0 ≤ x ∧ x < 256

theorem Inv.ok {S : St} {n : Nat} (h : Inv S n) : ∀ x ∈ S.op, okK (x.1, x.2.1) := fun x hx => by
  obtain ⟨k, hk, e⟩ := h.env x hx
  have := h.frm x hx
  unfold okK
  simp only
  omega
theorem Inv.mono {S : St} {n n' : Nat} (h : Inv S n) (hn : n ≤ n') : Inv S n' := ⟨h.dis, h.env, h.frm, h.len, Nat.le_trans h.cnt hn, fun i hi => Nat.le_trans (h.many i hi) hn, h.byte⟩
theorem Inv.new : Inv newB 0 := ⟨List.nodup_nil, fun x hx => (by cases hx), fun x hx => (by cases hx), (by simp [newB]), Nat.le_refl _, fun i _ => Nat.le_refl _, fun i _ x hx => (by cases hx)⟩

theorem dis_filter {l : List (Int × Int × Int)} (h : Dis l) (q : Int × Int × Int → Bool) : Dis (l.filter q) :=
  List.Nodup.sublist (List.Sublist.map _ List.filter_sublist) h
theorem Inv.leave {S : St} {n : Nat} (h : Inv S n) (q : Int × Int × Int → Bool) : Inv (leave S q) n := by
  have hl : (S.op.filter (fun a => !q a)).length ≤ S.op.length := List.length_filter_le _ _
  exact ⟨dis_filter h.dis _, fun x hx => h.env x (List.mem_filter.1 hx).1, fun x hx => h.frm x (List.mem_filter.1 hx).1, Nat.le_trans hl h.len, h.cnt, fun i hi => by have := h.many i hi; simp only [Go.Proofs.Ytmbgbhhdjobbnaa.leave]; omega, h.byte⟩
theorem filter_split (l : List (Int × Int × Int)) (q : Int × Int × Int → Bool) : (l.filter q).length + (l.filter (fun a => !q a)).length = l.length := by
  induction l with
  | nil => rfl
  | cons x l ih =>
    cases h : q x
    · rw [List.filter_cons_of_neg (by simp [h]), List.filter_cons_of_pos (by simp [h])]
      simp only [List.length_cons]
      omega
    · rw [List.filter_cons_of_pos h, List.filter_cons_of_neg (by simp [h])]
      simp only [List.length_cons]
      omega
theorem Inv.due {S : St} {n : Nat} (h : Inv S n) (t : Int) : Inv (dueSt S t) n := by
  have h1 := h.leave (qDue t)
  refine ⟨h1.dis, h1.env, h1.frm, h1.len, h1.cnt, fun i hi => ?_, fun i hi x hx => ?_⟩
  · have h2 := h.many i hi
    have h3 := filter_split S.op (qDue t)
    have h4 : ((S.op.filter (qDue t)).filter (fun x => decide (x.1 = (i : Int)))).length ≤ (S.op.filter (qDue t)).length := List.length_filter_le _ _
    simp only [dueSt, lay, Go.Proofs.Ytmbgbhhdjobbnaa.leave, List.length_append, List.length_map]
    omega
  · simp only [dueSt, lay, Go.Proofs.Ytmbgbhhdjobbnaa.leave, List.mem_append, List.mem_map] at hx
    rcases hx with hx | ⟨y, hy, rfl⟩
    · exact h.byte i hi x hx
    · exact h.frm y (List.mem_filter.1 (List.mem_filter.1 hy).1).1
theorem Inv.out {S : St} {n : Nat} (h : Inv S n) (i : Nat) : Inv (outSt S i) n := by
  have h1 := h.leave (qOut i)
  refine ⟨h1.dis, h1.env, h1.frm, h1.len, h1.cnt, fun j hj => ?_, fun j hj x hx => ?_⟩
  · have h2 := h1.many j hj
    simp only [outSt]
    split
    · simp only [List.length_nil]
      have : (Go.Proofs.Ytmbgbhhdjobbnaa.leave S (qOut i)).op.length ≤ n := by omega
      omega
    · exact h2
  · simp only [outSt] at hx
    split at hx
    · cases hx
    · exact h1.byte j hj x hx
theorem Inv.pop {S : St} {n : Nat} (h : Inv S n) (i : Nat) : Inv (popB S i) n := by
  refine ⟨h.dis, h.env, h.frm, h.len, h.cnt, fun j hj => ?_, fun j hj x hx => ?_⟩
  · have h2 := h.many j hj
    simp only [popB]
    split
    · simp only [List.length_tail]
      omega
    · exact h2
  · simp only [popB] at hx
    split at hx
    · exact h.byte j hj x (List.mem_of_mem_tail hx)
    · exact h.byte j hj x hx
theorem Inv.ask {S : St} {n : Nat} (h : Inv S n) {e f u : Int} (he : 0 ≤ e ∧ e < 6) (hf : 0 ≤ f ∧ f < 64) (hex : (lookOp S.op (e, f)).isSome = false) (hl : S.op.length < 8) : Inv (askSt S e f u) (n + 1) := by
  have hno : ∀ x ∈ S.op, (x.1, x.2.1) ≠ (e, f) := by
    intro x hx hh
    have hn : S.op.find? (fun x => x.1 == e && x.2.1 == f) = none := by simpa [lookOp, Option.isSome_map] using hex
    rw [List.find?_eq_none] at hn
    have := hn x hx
    injection hh with q1 q2
    simp [q1, q2] at this
  refine ⟨?_, fun x hx => ?_, fun x hx => ?_, by simp [askSt]; omega, Nat.succ_le_succ h.cnt, fun i hi => by have := h.many i hi; simp only [askSt, List.length_append, List.length_cons, List.length_nil]; omega, h.byte⟩
  · simp only [askSt, Dis, List.map_append, List.map_cons, List.map_nil]
    refine List.nodup_append.2 ⟨h.dis, by simp, ?_⟩
    rintro a ha b hb rfl
    obtain ⟨x, hx, rfl⟩ := List.mem_map.1 ha
    simp only [List.mem_cons, List.not_mem_nil, or_false] at hb
    exact hno x hx hb
  · rcases List.mem_append.1 hx with hx | hx
    · exact h.env x hx
    · simp only [List.mem_cons, List.not_mem_nil, or_false] at hx
      rw [hx]
      exact ⟨e.toNat, by omega, by simp only; omega⟩
  · rcases List.mem_append.1 hx with hx | hx
    · exact h.frm x hx
    · simp only [List.mem_cons, List.not_mem_nil, or_false] at hx
      rw [hx]
      simp only
      omega

def PB (w : World) (g m : Nat) (S : St) : Prop := ∃ v r, IsB w g m S v r
def PR (w : World) (h : Nat) (S : St) : Prop := ∃ v r, IsR w h S v r
theorem PB.kept {w w' : World} {g m : Nat} {S : St} (h : PB w g m S) (hk : Kept NoBlk w w') : PB w' g m S := by obtain ⟨v, r, h⟩ := h; exact ⟨v, r, h.kept hk⟩
theorem PR.kept {w w' : World} {h : Nat} {S : St} (hR : PR w h S) (hk : Kept NoBlk w w') : PR w' h S := by obtain ⟨v, r, hR⟩ := hR; exact ⟨v, r, hR.kept hk⟩
theorem PR.afterB {w w' : World} {g m h : Nat} {S T : St} (hR : PR w h T) (hB : PB w g m S) (hk : Kept (TwoBlk g m) w w') : PR w' h T := by
  obtain ⟨v, r, hR⟩ := hR
  obtain ⟨v', r', hB⟩ := hB
  have h1 : ∀ (t : TypeId) b cs, Blk w b t cs → t ≠ 60 → ¬ TwoBlk g m b := fun t b cs hb ht e => by
    rcases e with e | e
    · exact hb.ne_ hB.blk ht e
    · exact hB.map.ne hb e.symm
  exact ⟨v, r, hR.blk.kept hk (h1 _ _ _ hR.blk (by decide)), hR.row.kept hk (fun b cs hb => h1 _ _ _ hb (by decide)), fun i hi => (hR.lost i hi).kept hk (fun b cs hb => h1 _ _ _ hb (by decide))⟩
theorem PB.afterR {w w' : World} {g m h : Nat} {S T : St} (hB : PB w g m S) (hR : PR w h T) (hk : Kept (OneBlk h) w w') : PB w' g m S := by
  obtain ⟨v, r, hR⟩ := hR
  obtain ⟨v', r', hB⟩ := hB
  exact ⟨v', r', hB.blk.kept hk (fun e => hB.blk.ne_ hR.blk (by decide) e), hB.row.kept hk (fun b cs hb e => hb.ne_ hR.blk (by decide) e), fun i hi => (hB.lost i hi).kept hk (fun b cs hb e => hb.ne_ hR.blk (by decide) e), hB.map.kept hk (hB.map.ne hR.blk)⟩
theorem PB.lt {w : World} {g m : Nat} {S : St} (h : PB w g m S) : g < w.heap.size ∧ m < w.heap.size := by obtain ⟨v, r, h⟩ := h; exact ⟨h.blk.lt, h.map.lt⟩
theorem PR.lt {w : World} {h : Nat} {S : St} (hR : PR w h S) : h < w.heap.size := by obtain ⟨v, r, hR⟩ := hR; exact hR.blk.lt

def PostB (err : Value) (S' : St) (g m : Nat) (w : World) (e : Ending) (w' : World) : Prop := e = .returned err ∧ PB w' g m S' ∧ Kept (TwoBlk g m) w w'
def PostR (err : Value) (S' : St) (h : Nat) (w : World) (e : Ending) (w' : World) : Prop := e = .returned err ∧ PR w' h S' ∧ Kept (OneBlk h) w w'
theorem postB_same {w : World} {S : St} {g m : Nat} {err : Value} (h : PB w g m S) : ∀ e w', e = .returned err ∧ w = w' → PostB err S g m w e w' := fun _ _ ⟨h1, h2⟩ => ⟨h1, h2 ▸ h, h2 ▸ Kept.refl _ _⟩
theorem postB_new {w : World} {S : St} {g m : Nat} {err : Value} (h : PB w g m S) : ∀ e w', e = .returned err ∧ Kept NoBlk w w' → PostB err S g m w e w' := fun _ _ ⟨h1, h2⟩ => ⟨h1, h.kept h2, h2.weaken (fun _ _ e => e.elim)⟩
theorem postR_same {w : World} {S : St} {h : Nat} {err : Value} (hR : PR w h S) : ∀ e w', e = .returned err ∧ w = w' → PostR err S h w e w' := fun _ _ ⟨h1, h2⟩ => ⟨h1, h2 ▸ hR, h2 ▸ Kept.refl _ _⟩
theorem postR_new {w : World} {S : St} {h : Nat} {err : Value} (hR : PR w h S) : ∀ e w', e = .returned err ∧ Kept NoBlk w w' → PostR err S h w e w' := fun _ _ ⟨h1, h2⟩ => ⟨h1, hR.kept h2, h2.weaken (fun _ _ e => e.elim)⟩

theorem ask_both (S : St) (n : Nat) (hI : Inv S n) (hn : n ≤ 1000) (e f now within : Int) (h0 : 0 ≤ e) (h1 : 0 ≤ f) : ∃ err S', Inv S' (n + 1) ∧ (∀ w g m, PB w g m S → Calls Try.prog 18 #[.pointer (some ⟨g, 0, none⟩), .int .u8 e, .int .u8 f, .int .i64 now, .int .i64 within] w (PostB (.int .i64 err) S' g m w)) ∧
    (∀ w h, PR w h S → Calls Try.prog 41 #[.pointer (some ⟨h, 0, none⟩), .int .u8 e, .int .u8 f, .int .i64 now, .int .i64 within] w (PostR (.int .i64 err) S' h w)) := by
  have hl := hI.len
  by_cases ha : askOk e f now within
  · cases hex : (lookOp S.op (e, f)).isSome with
    | true => exact ⟨6, S, hI.mono (by omega), fun w g m ⟨v, r, h⟩ => (ask_exist w g m S v r h e f now within ha hex).mono (postB_new ⟨v, r, h⟩), fun w h ⟨v, r, hR⟩ => (rask_exist w h S v r hR (by omega) e f now within ha hex).mono (postR_same ⟨v, r, hR⟩)⟩
    | false =>
      by_cases h8 : S.op.length = 8
      · exact ⟨4, S, hI.mono (by omega), fun w g m ⟨v, r, h⟩ => (ask_space w g m S v r h e f now within ha hex h8).mono (postB_new ⟨v, r, h⟩), fun w h ⟨v, r, hR⟩ => (rask_space w h S v r hR h8 e f now within ha hex).mono (postR_same ⟨v, r, hR⟩)⟩
      · exact ⟨0, askSt S e f (now + within), hI.ask ha.1 ha.2.1 hex (by omega), fun w g m ⟨v, r, h⟩ => (ask_ok w g m S v r h e f now within ha hex (by omega) (by have := hI.cnt; omega)).mono (fun e w' ⟨q1, v', q2, q3⟩ => ⟨q1, ⟨v', r, q2⟩, q3⟩), fun w h ⟨v, r, hR⟩ => (rask_ok w h S v r hR (by omega) e f now within ha hex).mono (fun e w' ⟨q1, v', q2, q3⟩ => ⟨q1, ⟨v', r, q2⟩, q3⟩)⟩
  · exact ⟨2, S, hI.mono (by omega), fun w g m h => (ask_range w _ e f now within rfl h0 h1 ha).mono (postB_same h), fun w h hR => (rask_range w _ e f now within rfl h0 h1 ha).mono (postR_same hR)⟩

theorem done_both (S : St) (n : Nat) (hI : Inv S n) (e f : Int) : ∃ err S', Inv S' (n + 1) ∧ (∀ w g m, PB w g m S → Calls Try.prog 20 #[.pointer (some ⟨g, 0, none⟩), .int .u8 e, .int .u8 f] w (PostB (.int .i64 err) S' g m w)) ∧
    (∀ w h, PR w h S → Calls Try.prog 42 #[.pointer (some ⟨h, 0, none⟩), .int .u8 e, .int .u8 f] w (PostR (.int .i64 err) S' h w)) := by
  have hl := hI.len
  exact ⟨_, leave S (qDone e f), (hI.leave _).mono (by omega), fun w g m ⟨v, r, h⟩ => (done_any w g m S v r h hI.dis hI.ok (by omega) e f).mono (fun e w' ⟨q1, v', q2, q3⟩ => ⟨q1, ⟨v', r, q2⟩, q3⟩), fun w h ⟨v, r, hR⟩ => (rdone_any w h S v r hR hI.dis (by omega) e f).mono (fun e w' ⟨q1, v', q2, q3⟩ => ⟨q1, ⟨v', r, q2⟩, q3⟩)⟩

theorem next_both (S : St) (n : Nat) (hI : Inv S n) (hn : n ≤ 1000) (e : Int) (h0 : 0 ≤ e) : ∃ (x : Int) (b : Bool) (S' : St), Inv S' (n + 1) ∧ (∀ w g m, PB w g m S → Calls Try.prog 13 #[.pointer (some ⟨g, 0, none⟩), .int .u8 e] w (PostB (.tuple #[.int .u8 x, .bool b]) S' g m w)) ∧
    (∀ w h, PR w h S → Calls Try.prog 44 #[.pointer (some ⟨h, 0, none⟩), .int .u8 e] w (PostR (.tuple #[.int .u8 x, .bool b]) S' h w)) := by
  by_cases h6 : e < 6
  · obtain ⟨i, rfl⟩ : ∃ i : Nat, e = (i : Int) := ⟨e.toNat, by omega⟩
    have hi : i < 6 := by omega
    have hm := hI.many i hi
    cases hl : S.lost i with
    | nil => exact ⟨0, false, S, hI.mono (by omega), fun w g m ⟨v, r, h⟩ => (next_none w g m S v r h i hi hl).mono (postB_same ⟨v, r, h⟩), fun w h ⟨v, r, hR⟩ => (rnext_none w h S v r hR i hi hl).mono (postR_new ⟨v, r, hR⟩)⟩
    | cons x l =>
      rw [hl] at hm
      simp only [List.length_cons] at hm
      exact ⟨x, true, popB S i, (hI.pop i).mono (by omega), fun w g m ⟨v, r, h⟩ => (next_some w g m S v r h i hi x l hl (by omega)).mono (fun e w' ⟨q1, r', q2, q3⟩ => ⟨q1, ⟨v, r', q2⟩, q3.weaken (fun _ _ e => .inl e)⟩), fun w h ⟨v, r, hR⟩ => (rnext_some w h S v r hR i hi x l hl (by omega)).mono (fun e w' ⟨q1, r', q2, q3⟩ => ⟨q1, ⟨v, r', q2⟩, q3⟩)⟩
  · exact ⟨0, false, S, hI.mono (by omega), fun w g m h => (next_range w _ e rfl (by omega)).mono (postB_same h), fun w h hR => (rnext_range w _ e rfl (by omega)).mono (postR_same hR)⟩

theorem out_both (S : St) (n : Nat) (hI : Inv S n) (e : Int) (h0 : 0 ≤ e) : ∃ err S', Inv S' (n + 1) ∧ (∀ w g m, PB w g m S → Calls Try.prog 15 #[.pointer (some ⟨g, 0, none⟩), .int .u8 e] w (PostB (.int .i64 err) S' g m w)) ∧
    (∀ w h, PR w h S → Calls Try.prog 45 #[.pointer (some ⟨h, 0, none⟩), .int .u8 e] w (PostR (.int .i64 err) S' h w)) := by
  have hl := hI.len
  by_cases h6 : e < 6
  · obtain ⟨i, rfl⟩ : ∃ i : Nat, e = (i : Int) := ⟨e.toNat, by omega⟩
    have hi : i < 6 := by omega
    exact ⟨_, outSt S i, (hI.out i).mono (by omega), fun w g m ⟨v, r, h⟩ => (out_any w g m S v r h hI.dis hI.ok (by omega) i hi).mono (fun e w' ⟨q1, v', r', q2, q3⟩ => ⟨q1, ⟨v', r', q2⟩, q3⟩), fun w h ⟨v, r, hR⟩ => (rout_any w h S v r hR (by omega) i hi).mono (fun e w' ⟨q1, v', r', q2, q3⟩ => ⟨q1, ⟨v', r', q2⟩, q3⟩)⟩
  · exact ⟨_, leave S (qOut e), (hI.leave _).mono (by omega), fun w g m ⟨v, r, h⟩ => (out_range w g m S v r h hI.dis hI.ok (by omega) e (by omega)).mono (fun e w' ⟨q1, v', q2, q3⟩ => ⟨q1, ⟨v', r, q2⟩, q3⟩), fun w h ⟨v, r, hR⟩ => (rout_range w h S v r hR (by omega) e (by omega)).mono (fun e w' ⟨q1, v', q2, q3⟩ => ⟨q1, ⟨v', r, q2⟩, q3⟩)⟩

theorem due_B (S : St) (n : Nat) (hI : Inv S n) (hn : n ≤ 1000) (t : Int) (w : World) (g m : Nat) (h : PB w g m S) : Calls Try.prog 19 #[.pointer (some ⟨g, 0, none⟩), .int .i64 t] w fun x w' => ∃ A c, x = .returned (.slice A (S.op.filter (qDue t)).length c) ∧ Row w' 37 3 (.slice A (S.op.filter (qDue t)).length c) (S.op.filter (qDue t)).length (asks (S.op.filter (qDue t))) ∧ PB w' g m (dueSt S t) ∧ Kept (TwoBlk g m) w w' := by
  obtain ⟨v, r, h⟩ := h
  have hl := hI.len
  exact (due_any w g m S v r h hI.dis hI.ok hI.env (by omega) (fun i hi => by have := hI.many i hi; omega) t).mono (fun e w' ⟨A, c, v', r', q1, q2, q3, q4⟩ => ⟨A, c, q1, q2, ⟨v', r', q3⟩, q4⟩)
theorem due_R (S : St) (n : Nat) (hI : Inv S n) (hn : n ≤ 1000) (t : Int) (w : World) (h : Nat) (hR : PR w h S) : Calls Try.prog 43 #[.pointer (some ⟨h, 0, none⟩), .int .i64 t] w fun x w' => ∃ A c, x = .returned (.slice A (S.op.filter (qDue t)).length c) ∧ Row w' 37 3 (.slice A (S.op.filter (qDue t)).length c) (S.op.filter (qDue t)).length (asks (S.op.filter (qDue t))) ∧ PR w' h (dueSt S t) ∧ Kept (OneBlk h) w w' := by
  obtain ⟨v, r, hR⟩ := hR
  have hl := hI.len
  exact (rdue_any w h S v r hR hI.env (by omega) (fun i hi => by have := hI.many i hi; omega) t).mono (fun e w' ⟨A, c, v', r', q1, q2, q3, q4⟩ => ⟨A, c, q1, q2, ⟨v', r', q3⟩, q4⟩)
end Go.Proofs.Ytmbgbhhdjobbnaa
