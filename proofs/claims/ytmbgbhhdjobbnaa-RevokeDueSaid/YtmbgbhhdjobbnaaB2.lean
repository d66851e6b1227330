/- The program's revoke: the book's plain questions. -/
import Derived.Test.YtmbgbhhdjobbnaaB1
import Derived.Shelf.SlMaps.Clone
namespace Go.Proofs.Ytmbgbhhdjobbnaa
open Go.RowKit Go.Maps

def arrB (v : Value) (m : Nat) (r : Nat → Value) : Array Value := #[v, .map (some m), r 0, r 1, r 2, r 3, r 4, r 5]
structure IsB (w : World) (g m : Nat) (S : St) (v : Value) (r : Nat → Value) : Prop where
  blk : Blk w g 60 (arrB v m r)
  row : Row w 37 3 v S.op.length (asks S.op)
  lost : ∀ i, i < 6 → Row w 5 1 (r i) (S.lost i).length (u8s (S.lost i))
  map : MapS w m S.cnt (lookOp S.op)

theorem arrB_at (v : Value) (m : Nat) (r : Nat → Value) (i : Nat) (hi : i < 6) : (arrB v m r)[2 + i]? = some (r i) := by
  obtain rfl | rfl | rfl | rfl | rfl | rfl : i = 0 ∨ i = 1 ∨ i = 2 ∨ i = 3 ∨ i = 4 ∨ i = 5 := by omega
  all_goals rfl

/-- Two blocks. -/
def TwoBlk (g h : Nat) : Nat → Prop := fun b => b = g ∨ b = h

theorem IsB.kept {w w' : World} {g m : Nat} {S : St} {v : Value} {r : Nat → Value} (h : IsB w g m S v r) (hk : Kept NoBlk w w') : IsB w' g m S v r :=
  ⟨h.blk.kept hk (fun e => e), h.row.kept hk (fun _ _ _ e => e), fun i hi => (h.lost i hi).kept hk (fun _ _ _ e => e), h.map.kept hk (fun e => e)⟩

theorem lost_range (w : World) (p : Option Addr) (e : Int) (hp : p.isSome = true) (he : 6 ≤ e) :
   Calls Try.prog 12 #[.pointer p, .int .u8 e] w fun x w' => x = .returned (.slice none 0 0) ∧ w = w' := by
  obtain ⟨a, rfl⟩ := Option.isSome_iff_exists.1 hp
  clear hp
  go_enter Try.func12, Try.ntmps12
  go_wp2
  go_ret
  exact ⟨rfl, rfl⟩
theorem lost_nil (w : World) (e : Int) :
   Calls Try.prog 12 #[.pointer none, .int .u8 e] w fun x w' => x = .returned (.slice none 0 0) ∧ w = w' := by
  go_enter Try.func12, Try.ntmps12
  go_wp2
  go_ret
  exact ⟨rfl, rfl⟩

set_option maxHeartbeats 1000000 in
theorem lost_any (w : World) (g m : Nat) (S : St) (v : Value) (r : Nat → Value) (h : IsB w g m S v r) (i : Nat) (hi : i < 6) (hn : (S.lost i).length ≤ 1000000) :
   Calls Try.prog 12 #[.pointer (some ⟨g, 0, none⟩), .int .u8 i] w fun x w' => ∃ A c, x = .returned (.slice A (S.lost i).length c) ∧ Row w' 5 1 (.slice A (S.lost i).length c) (S.lost i).length (u8s (S.lost i)) ∧ Kept NoBlk w w' := by
  obtain ⟨A, cap, hv, _, _, _, _, _⟩ := (h.lost i hi).form
  have hr := h.lost i hi
  rw [hv] at hr
  have hC := Lib.hid (fun w1 (hK : Kept NoBlk w w1) => clone28 w1 A _ cap _ (hr.kept hK (fun _ _ _ e => e)) (u8s_one _) hn)
  have hc := h.blk.at_ (arrB_at v m r i hi)
  rw [hv] at hc
  have hlt : (i : Int) < 6 := by omega
  have hi2 : (i : Int).toNat = i := by omega
  clear hr h hv hn
  go_enter Try.func12, Try.ntmps12
  go_wp2_with fail
  refine (hC.out _ (Kept.refl _ _)).mono ?_
  rintro e w1 ⟨A', c', rfl, hr1, hK1⟩
  go_wp2
  go_ret
  exact ⟨A', c', rfl, hr1, hK1⟩

theorem next_range (w : World) (p : Option Addr) (e : Int) (hp : p.isSome = true) (he : 6 ≤ e) :
   Calls Try.prog 13 #[.pointer p, .int .u8 e] w fun x w' => x = .returned (.tuple #[.int .u8 0, .bool false]) ∧ w = w' := by
  obtain ⟨a, rfl⟩ := Option.isSome_iff_exists.1 hp
  clear hp
  go_enter Try.func13, Try.ntmps13
  go_wp2
  go_ret2
  exact ⟨rfl, rfl⟩
theorem next_nil (w : World) (e : Int) :
   Calls Try.prog 13 #[.pointer none, .int .u8 e] w fun x w' => x = .returned (.tuple #[.int .u8 0, .bool false]) ∧ w = w' := by
  go_enter Try.func13, Try.ntmps13
  go_wp2
  go_ret2
  exact ⟨rfl, rfl⟩

theorem next_none (w : World) (g m : Nat) (S : St) (v : Value) (r : Nat → Value) (h : IsB w g m S v r) (i : Nat) (hi : i < 6) (hl : S.lost i = []) :
   Calls Try.prog 13 #[.pointer (some ⟨g, 0, none⟩), .int .u8 i] w fun x w' => x = .returned (.tuple #[.int .u8 0, .bool false]) ∧ w = w' := by
  have hr := h.lost i hi
  rw [hl] at hr
  have hC := Lib.hid (pop_none w g (2 + i) _ h.blk (r i) (arrB_at v m r i hi) hr)
  have hlt : (i : Int) < 6 := by omega
  have hi2 : (i : Int).toNat = i := by omega
  clear hr h hl
  go_enter Try.func13, Try.ntmps13
  go_wp2_with fail
  refine (hC.out).mono ?_
  rintro e w1 ⟨rfl, rfl⟩
  go_wp2
  go_ret2
  exact ⟨rfl, rfl⟩

def popB (S : St) (i : Nat) : St := { S with lost := fun j => if j = i then (S.lost j).tail else S.lost j }
def updR (r : Nat → Value) (i : Nat) (x : Value) : Nat → Value := fun j => if j = i then x else r j

theorem arrB_set (v : Value) (m : Nat) (r : Nat → Value) (i : Nat) (hi : i < 6) (x : Value) : (arrB v m r).setIfInBounds (2 + i) x = arrB v m (updR r i x) := by
  obtain rfl | rfl | rfl | rfl | rfl | rfl : i = 0 ∨ i = 1 ∨ i = 2 ∨ i = 3 ∨ i = 4 ∨ i = 5 := by omega
  all_goals rfl

/-- One vector is another now. -/
theorem IsB.lostSet {w w' : World} {g m : Nat} {S S' : St} {v : Value} {r : Nat → Value} (h : IsB w g m S v r) (i : Nat) (hi : i < 6) (x : Value) (l : List Int) (hB : Blk w' g 60 ((arrB v m r).setIfInBounds (2 + i) x)) (hr : Row w' 5 1 x l.length (u8s l)) (hk : Kept (OneBlk g) w w')
    (hop : S'.op = S.op) (hcnt : S'.cnt = S.cnt) (hl : ∀ j, j < 6 → S'.lost j = if j = i then l else S.lost j) : IsB w' g m S' v (updR r i x) := by
  rw [arrB_set v m r i hi x] at hB
  refine ⟨hB, ?_, fun j hj => ?_, ?_⟩
  · rw [hop]
    exact h.row.kept hk (fun b cs hb e => hb.ne_ h.blk (by decide) e)
  · rw [hl j hj]
    unfold updR
    by_cases e : j = i
    · rw [if_pos e, if_pos e]
      exact hr
    · rw [if_neg e, if_neg e]
      exact (h.lost j hj).kept hk (fun b cs hb e => hb.ne_ h.blk (by decide) e)
  · rw [hop, hcnt]
    exact h.map.kept hk (h.map.ne h.blk)

theorem next_some (w : World) (g m : Nat) (S : St) (v : Value) (r : Nat → Value) (h : IsB w g m S v r) (i : Nat) (hi : i < 6) (x : Int) (l : List Int) (hl : S.lost i = x :: l) (hn : l.length ≤ 1000000) :
   Calls Try.prog 13 #[.pointer (some ⟨g, 0, none⟩), .int .u8 i] w fun y w' => y = .returned (.tuple #[.int .u8 x, .bool true]) ∧ ∃ r', IsB w' g m (popB S i) v r' ∧ Kept (OneBlk g) w w' := by
  have hr := h.lost i hi
  rw [hl] at hr
  have hC := Lib.hid (pop_some w g (2 + i) _ h.blk (r i) (arrB_at v m r i hi) l.length x l rfl hr hn)
  have H := Lib.hid h
  have hlt : (i : Int) < 6 := by omega
  have hi2 : (i : Int).toNat = i := by omega
  clear hr h
  go_enter Try.func13, Try.ntmps13
  go_wp2_with fail
  refine (hC.out).mono ?_
  rintro e w1 ⟨rfl, v', hB', hr', hK'⟩
  go_wp2
  go_ret2
  refine ⟨rfl, _, H.out.lostSet i hi v' l hB' hr' hK' rfl rfl (fun j hj => ?_), hK'⟩
  by_cases e : j = i
  · subst e
    simp [popB, hl]
  · simp [popB, e]

theorem open_nil (w : World) :
   Calls Try.prog 14 #[.pointer none] w fun x w' => x = .returned (.slice none 0 0) ∧ w = w' := by
  go_enter Try.func14, Try.ntmps14
  go_wp2
  go_ret
  exact ⟨rfl, rfl⟩

set_option maxHeartbeats 1000000 in
theorem open_any (w : World) (g m : Nat) (S : St) (v : Value) (r : Nat → Value) (h : IsB w g m S v r) (hn : S.op.length ≤ 1000000) :
   Calls Try.prog 14 #[.pointer (some ⟨g, 0, none⟩)] w fun x w' => ∃ A c, x = .returned (.slice A S.op.length c) ∧ Row w' 37 3 (.slice A S.op.length c) S.op.length (asks S.op) ∧ Kept NoBlk w w' := by
  obtain ⟨A, cap, hv, _, _, _, _, _⟩ := h.row.form
  have hr := h.row
  rw [hv] at hr
  have hC := Lib.hid (clone33 w A _ cap _ hr (asks_one _) hn)
  have hc : w.cell? ⟨g, 0, none⟩ = some v := h.blk.at_ rfl
  rw [hv] at hc
  clear hr h hv hn
  go_enter Try.func14, Try.ntmps14
  go_wp2_with fail
  refine (hC.out).mono ?_
  rintro e w1 ⟨A', c', rfl, hr1, hK1⟩
  go_wp2
  go_ret
  exact ⟨A', c', rfl, hr1, hK1⟩

theorem asked_nil (w : World) (e f : Int) :
   Calls Try.prog 16 #[.pointer none, .int .u8 e, .int .u8 f] w fun x w' => x = .returned (.tuple #[.int .i64 0, .bool false]) ∧ w = w' := by
  go_enter Try.func16, Try.ntmps16
  go_wp2
  go_ret2
  exact ⟨rfl, rfl⟩

set_option maxHeartbeats 1000000 in
theorem asked_any (w : World) (g m : Nat) (S : St) (v : Value) (r : Nat → Value) (h : IsB w g m S v r) (e f : Int) (he : okK (e, f)) :
   Calls Try.prog 16 #[.pointer (some ⟨g, 0, none⟩), .int .u8 e, .int .u8 f] w fun x w' => x = .returned (.tuple #[.int .i64 ((lookOp S.op (e, f)).getD 0), .bool (lookOp S.op (e, f)).isSome]) ∧ Kept NoBlk w w' := by
  have hc : w.cell? ⟨g, 1, none⟩ = some (.map (some m)) := h.blk.at_ rfl
  have hL := h.map.look mapTy he
  unfold keyK at hL
  clear h he
  generalize (lookOp S.op (e, f)).getD 0 = n0 at *
  generalize (lookOp S.op (e, f)).isSome = b0 at *
  go_enter Try.func16, Try.ntmps16
  go_wp2
  go_ret2
  exact ⟨rfl, Kept.refl _ _⟩

def newB : St := { op := [], lost := fun _ => [], cnt := 0 }

theorem new_any (w : World) : Calls Try.prog 24 #[] w fun x w' => ∃ g m v r, x = .returned (.pointer (some ⟨g, 0, none⟩)) ∧ w.heap.size ≤ g ∧ w.heap.size ≤ m ∧ IsB w' g m newB v r ∧ Kept NoBlk w w' := by
  have hmm := @run_makeMap Try.prog
  go_enter Try.func24, Try.ntmps24
  go_wp2
  go_ret
  refine ⟨w.heap.size + 1, w.heap.size, .slice none 0 0, fun _ => .slice none 0 0, rfl, by omega, Nat.le_refl _, ⟨Blk.cast (Blk.new_at _ _ _ (by simp)) rfl, Row.nil _ _ _, fun i _ => Row.nil _ _ _, ?_⟩, by repeat (with_reducible first | exact Kept.refl _ _ | apply Kept.drew | apply Kept.drewN | apply Kept.alloc | exact oneHit | apply Kept.setCell)⟩
  exact (MapOf.made w (lookOp []) (fun _ _ => rfl)).kept (G := NoBlk) ((Kept.refl _ _).alloc _) (fun e => e)

theorem fork_nil (w : World) : Calls Try.prog 21 #[.pointer none] w fun x w' => x = .returned (.pointer none) ∧ w = w' := by
  go_enter Try.func21, Try.ntmps21
  go_wp2
  go_ret
  exact ⟨rfl, rfl⟩

set_option maxHeartbeats 2000000 in
theorem mapclone (w : World) (m n : Nat) (M : Int × Int → Option Int) (h : MapS w m n M) :
    Calls Try.prog 40 #[.map (some m)] w fun x w' => x = .returned (.map (some w.heap.size)) ∧ w.heap.size < w'.heap.size ∧ MapS w' w.heap.size n M ∧ Kept NoBlk w w' := by
  obtain ⟨es, clock, hb, hM⟩ := h.copy
  have hq := fun w => run_eql_map_nil_sl (P := Try.prog) w 57 _ _ (some m) Try.underlying57
  have HM := Lib.hid hM
  clear h hM
  go_enter Try.func40, Try.ntmps40
  go_wp2
  rw [run_callFunc_extern Try.func49 (by kernel_rfl) (by kernel_rfl) (by kernel_rfl) (e := Extern.MapsClone.clone) (by kernel_rfl), run_maps_clone_sl w 57 hb]
  simp only [Result.andThen]
  rw [Oper.upon_value]
  go_wp2
  rw [run_typeAssert_map_sl _ 57 20 _ _ _ Try.underlying57]
  simp only [Result.andThen]
  rw [Oper.upon_value]
  go_wp2
  go_ret
  exact ⟨rfl, by simp, HM.out, by repeat (with_reducible first | exact Kept.refl _ _ | apply Kept.drew | apply Kept.drewN | apply Kept.alloc | exact oneHit | apply Kept.setCell)⟩
end Go.Proofs.Ytmbgbhhdjobbnaa
