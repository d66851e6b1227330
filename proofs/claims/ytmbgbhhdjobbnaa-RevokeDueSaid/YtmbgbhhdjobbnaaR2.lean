/- The document's revoke: Ask, Next, Out. -/
import Derived.Test.YtmbgbhhdjobbnaaR1
namespace Go.Proofs.Ytmbgbhhdjobbnaa
open Go.RowKit Go.Maps

set_option maxHeartbeats 1000000 in
theorem rask_range (w : World) (p : Option Addr) (e f now within : Int) (hp : p.isSome = true) (h0 : 0 ≤ e) (h1 : 0 ≤ f) (hno : ¬ askOk e f now within) :
   Calls Try.prog 41 #[.pointer p, .int .u8 e, .int .u8 f, .int .i64 now, .int .i64 within] w fun x w' => x = .returned (.int .i64 2) ∧ w = w' := by
  obtain ⟨a, rfl⟩ := Option.isSome_iff_exists.1 hp
  have hcase : 6 ≤ e ∨ (e < 6 ∧ 64 ≤ f) ∨ (e < 6 ∧ f < 64 ∧ now < 0) ∨ (e < 6 ∧ f < 64 ∧ 0 ≤ now ∧ 1073741824 < now) ∨ (e < 6 ∧ f < 64 ∧ 0 ≤ now ∧ now ≤ 1073741824 ∧ within < 0) ∨ (e < 6 ∧ f < 64 ∧ 0 ≤ now ∧ now ≤ 1073741824 ∧ 0 ≤ within ∧ 1000 < within) := by
    unfold askOk at hno
    omega
  clear hp hno
  rcases hcase with h | ⟨h2, h⟩ | ⟨h2, h3, h⟩ | ⟨h2, h3, h4, h⟩ | ⟨h2, h3, h4, h5, h⟩ | ⟨h2, h3, h4, h5, h6, h⟩
  all_goals
    go_enter Try.func41, Try.ntmps41
    go_wp2
    go_ret
    exact ⟨rfl, rfl⟩

theorem at_neg (l : List (Int × Int × Int)) (e f : Int) : (atI l e f < 0) ↔ (lookOp l (e, f)).isSome = false := by
  rcases look_at l e f with ⟨h1, h2⟩ | ⟨j, u, h1, _, _, h3⟩
  · simp [h1, h2]
  · rw [h1, h3]
    simp
theorem at_pos (l : List (Int × Int × Int)) (e f : Int) : (0 ≤ atI l e f) ↔ (lookOp l (e, f)).isSome = true := by
  rcases look_at l e f with ⟨h1, h2⟩ | ⟨j, u, h1, _, _, h3⟩
  · rw [h2]
    simp
    omega
  · rw [h1, h3]
    simp

set_option maxHeartbeats 2000000 in
theorem rask_exist (w : World) (h : Nat) (S : St) (v : Value) (r : Nat → Value) (hR : IsR w h S v r) (hn : S.op.length ≤ 1000000) (e f now within : Int) (ha : askOk e f now within) (hex : (lookOp S.op (e, f)).isSome = true) :
   Calls Try.prog 41 #[.pointer (some ⟨h, 0, none⟩), .int .u8 e, .int .u8 f, .int .i64 now, .int .i64 within] w fun x w' => x = .returned (.int .i64 6) ∧ w = w' := by
  have hA := Lib.hid (at_any w h S v r hR hn e f)
  have h0 := (at_pos _ _ _).2 hex
  obtain ⟨⟨a1, a2⟩, ⟨a3, a4⟩, ⟨a5, a6⟩, a7, a8⟩ := ha
  clear hR hex
  go_enter Try.func41, Try.ntmps41
  go_wp2_with fail
  refine (hA.out).mono ?_
  rintro x w1 ⟨rfl, rfl⟩
  generalize atI S.op e f = n at *
  go_wp2
  go_ret
  exact ⟨rfl, rfl⟩

set_option maxHeartbeats 2000000 in
theorem rask_space (w : World) (h : Nat) (S : St) (v : Value) (r : Nat → Value) (hR : IsR w h S v r) (hlen : S.op.length = 8) (e f now within : Int) (ha : askOk e f now within) (hex : (lookOp S.op (e, f)).isSome = false) :
   Calls Try.prog 41 #[.pointer (some ⟨h, 0, none⟩), .int .u8 e, .int .u8 f, .int .i64 now, .int .i64 within] w fun x w' => x = .returned (.int .i64 4) ∧ w = w' := by
  have hA := Lib.hid (at_any w h S v r hR (by omega) e f)
  have h0 := (at_neg _ _ _).2 hex
  have hc : w.cell? ⟨h, 0, none⟩ = some v := hR.blk.at_ rfl
  obtain ⟨A, cap, hv⟩ := hR.row.sl
  rw [hv, hlen] at hc
  obtain ⟨⟨a1, a2⟩, ⟨a3, a4⟩, ⟨a5, a6⟩, a7, a8⟩ := ha
  clear hR hex hv
  go_enter Try.func41, Try.ntmps41
  go_wp2_with fail
  refine (hA.out).mono ?_
  rintro x w1 ⟨rfl, rfl⟩
  generalize atI S.op e f = n at *
  go_wp2
  go_ret
  exact ⟨rfl, rfl⟩

set_option maxHeartbeats 4000000 in
theorem rask_ok (w : World) (h : Nat) (S : St) (v : Value) (r : Nat → Value) (hR : IsR w h S v r) (hlen : S.op.length < 8) (e f now within : Int) (ha : askOk e f now within) (hex : (lookOp S.op (e, f)).isSome = false) :
   Calls Try.prog 41 #[.pointer (some ⟨h, 0, none⟩), .int .u8 e, .int .u8 f, .int .i64 now, .int .i64 within] w fun x w' => x = .returned (.int .i64 0) ∧ ∃ v', IsR w' h (askSt S e f (now + within)) v' r ∧ Kept (OneBlk h) w w' := by
  have hA := Lib.hid (at_any w h S v r hR (by omega) e f)
  have h0 := (at_neg _ _ _).2 hex
  have hc : w.cell? ⟨h, 0, none⟩ = some v := hR.blk.at_ rfl
  obtain ⟨A, cap, hv⟩ := hR.row.sl
  have HR := Lib.hid hR
  have hr := hR.row
  have hlt := hR.blk.lt
  have hl8 : (S.op.length : Int) < 8 := by omega
  rw [hv] at hc hr
  have Hr := Lib.hid hr
  obtain ⟨⟨a1, a2⟩, ⟨a3, a4⟩, ⟨a5, a6⟩, a7, a8⟩ := ha
  clear hR hex hv hr
  go_enter Try.func41, Try.ntmps41
  go_wp2_with fail
  refine (hA.out).mono ?_
  rintro x w1 ⟨rfl, rfl⟩
  generalize atI S.op e f = n at *
  go_wp2_with (first | (refine wpList_append_mine rfl (.tmp 51) (.tmp 55) 33 rfl 37 3 16 Try.underlying33 Try.sz37 (by decide) w.heap.size (.slice (some ⟨w.heap.size, 0, none⟩) 0 0) 0 [] rfl (own_new (Blk.new _ _ _) (Nat.le_refl _)) A S.op.length cap (asks S.op) rfl (Hr.out.kept (G := NoBlk) ((Kept.refl _ _).alloc _) (fun _ _ _ e => e)) (asks_one _) (by simp only [maxLen]; omega) (by omega) (by simp) ?_; intro A1 cap1 w1 hown1 hK1; simp only [Nat.zero_add, List.nil_append] at hown1; have hk1 : Kept NoBlk w w1 := Kept.fresh ((Kept.refl _ _).alloc _) hK1 (fun b e => e); have hlt1 := (HR.out.kept hk1).blk.lt; have hf1 := (HR.out.kept hk1).blk.frozen 0; have hs1 := hk1.size) | (refine wpList_append_mine rfl (.tmp 56) (.tmp 63) 33 rfl 37 3 16 Try.underlying33 Try.sz37 (by decide) w.heap.size _ _ _ rfl (own_kept hown1 (G := NoBlk) ((Kept.refl _ _).alloc _) (fun _ _ e => e)) (some ⟨w1.heap.size, 0, none⟩) 1 1 [.int .u8 e, .int .u8 f, .int .i64 (now + within)] rfl (Row.new (Blk.new _ _ _) (by simp) (by simp [maxLen])) rfl (by simp only [maxLen]; omega) (by omega) (by simp; omega) ?_; intro A2 cap2 w2 hown2 hK2; have hk2 : Kept NoBlk w w2 := Kept.fresh (hk1.alloc _) hK2 (fun b e => e); have hlt2 := (HR.out.kept hk2).blk.lt; have hf2 := (HR.out.kept hk2).blk.frozen 0; have hc2 : w2.cell? ⟨h, 0, none⟩ = some v := (HR.out.kept hk2).blk.at_ rfl))
  go_ret
  have hrow := Row.of_own hown2
  refine ⟨rfl, .slice A2 (S.op.length + 1) cap2, ?_, ?_⟩
  rotate_left
  · exact (hk2.weaken (fun _ _ e => e.elim)).setCell oneHit _
  · refine (HR.out.kept hk2).opSet ((HR.out.kept hk2).blk.set_ 0 _) ?_ ((Kept.refl _ _).setCell oneHit _) rfl
    have e1 : (askSt S e f (now + within)).op.length = S.op.length + 1 := by simp [askSt]
    have e2 : asks (askSt S e f (now + within)).op = asks S.op ++ [.int .u8 e, .int .u8 f, .int .i64 (now + within)] := by simp [askSt, asks, askCells]
    rw [e1, e2]
    exact hrow.kept ((Kept.refl _ _).setCell oneHit _) (fun b cs hb e => hb.ne_ (HR.out.kept hk2).blk (by decide) e)
end Go.Proofs.Ytmbgbhhdjobbnaa
