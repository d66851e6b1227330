/- The document's revoke: what its book is; at, Lost, Open, Asked, New, Fork. -/
import Derived.Test.YtmbgbhhdjobbnaaB7
namespace Go.Proofs.Ytmbgbhhdjobbnaa
open Go.RowKit Go.Maps

def arrR (v : Value) (r : Nat → Value) : Array Value := #[v, r 0, r 1, r 2, r 3, r 4, r 5]
structure IsR (w : World) (h : Nat) (S : St) (v : Value) (r : Nat → Value) : Prop where
  blk : Blk w h 73 (arrR v r)
  row : Row w 37 3 v S.op.length (asks S.op)
  lost : ∀ i, i < 6 → Row w 5 1 (r i) (S.lost i).length (u8s (S.lost i))
theorem arrR_at (v : Value) (r : Nat → Value) (i : Nat) (hi : i < 6) : (arrR v r)[1 + i]? = some (r i) := by
  obtain rfl | rfl | rfl | rfl | rfl | rfl : i = 0 ∨ i = 1 ∨ i = 2 ∨ i = 3 ∨ i = 4 ∨ i = 5 := by omega
  all_goals rfl
theorem arrR_set (v : Value) (r : Nat → Value) (i : Nat) (hi : i < 6) (x : Value) : (arrR v r).setIfInBounds (1 + i) x = arrR v (updR r i x) := by
  obtain rfl | rfl | rfl | rfl | rfl | rfl : i = 0 ∨ i = 1 ∨ i = 2 ∨ i = 3 ∨ i = 4 ∨ i = 5 := by omega
  all_goals rfl
theorem IsR.kept {w w' : World} {h : Nat} {S : St} {v : Value} {r : Nat → Value} (hR : IsR w h S v r) (hk : Kept NoBlk w w') : IsR w' h S v r :=
  ⟨hR.blk.kept hk (fun e => e), hR.row.kept hk (fun _ _ _ e => e), fun i hi => (hR.lost i hi).kept hk (fun _ _ _ e => e)⟩
theorem IsR.lostSet {w w' : World} {h : Nat} {S S' : St} {v : Value} {r : Nat → Value} (hR : IsR w h S v r) (i : Nat) (hi : i < 6) (x : Value) (l : List Int) (hB : Blk w' h 73 ((arrR v r).setIfInBounds (1 + i) x)) (hr : Row w' 5 1 x l.length (u8s l)) (hk : Kept (OneBlk h) w w')
    (hop : S'.op = S.op) (hl : ∀ j, j < 6 → S'.lost j = if j = i then l else S.lost j) : IsR w' h S' v (updR r i x) := by
  rw [arrR_set v r i hi x] at hB
  refine ⟨hB, ?_, fun j hj => ?_⟩
  · rw [hop]
    exact hR.row.kept hk (fun b cs hb e => hb.ne_ hR.blk (by decide) e)
  · rw [hl j hj]
    unfold updR
    by_cases e : j = i
    · rw [if_pos e, if_pos e]
      exact hr
    · rw [if_neg e, if_neg e]
      exact (hR.lost j hj).kept hk (fun b cs hb e => hb.ne_ hR.blk (by decide) e)
theorem IsR.opSet {w w' : World} {h : Nat} {S S' : St} {v x : Value} {r : Nat → Value} (hR : IsR w h S v r) (hB : Blk w' h 73 ((arrR v r).setIfInBounds 0 x)) (hr : Row w' 37 3 x S'.op.length (asks S'.op)) (hk : Kept (OneBlk h) w w') (hl : S'.lost = S.lost) : IsR w' h S' x r :=
  ⟨Blk.cast hB rfl, hr, fun i hi => by rw [hl]; exact (hR.lost i hi).kept hk (fun b cs hb e => hb.ne_ hR.blk (by decide) e)⟩

def atI (l : List (Int × Int × Int)) (e f : Int) : Int := match l.findIdx? (qDone e f) with | some i => i | none => -1
theorem atI_some (l : List (Int × Int × Int)) (e f : Int) (j : Nat) (x : Int × Int × Int) (hx : l[j]? = some x) (h1 : qDone e f x = true) (h2 : ∀ y ∈ l.take j, qDone e f y = false) : atI l e f = j := by
  unfold atI
  obtain ⟨hj, hxe⟩ := List.getElem?_eq_some_iff.1 hx
  have : l.findIdx? (qDone e f) = some j := by
    rw [List.findIdx?_eq_some_iff_getElem]
    refine ⟨hj, by rw [hxe]; exact h1, fun k hk => ?_⟩
    have := h2 l[k] (List.mem_take_iff_getElem.2 ⟨k, by omega, rfl⟩)
    simp [this]
  rw [this]
theorem atI_none (l : List (Int × Int × Int)) (e f : Int) (h2 : ∀ y ∈ l, qDone e f y = false) : atI l e f = -1 := by
  unfold atI
  have : l.findIdx? (qDone e f) = none := List.findIdx?_eq_none_iff.2 h2
  rw [this]

set_option maxHeartbeats 2000000 in
theorem at_any (w : World) (h : Nat) (S : St) (v : Value) (r : Nat → Value) (hR : IsR w h S v r) (hn : S.op.length ≤ 1000000) (e f : Int) :
   Calls Try.prog 47 #[.pointer (some ⟨h, 0, none⟩), .int .u8 e, .int .u8 f] w fun x w' => x = .returned (.int .i64 (atI S.op e f)) ∧ w = w' := by
  obtain ⟨A, cap, hv, _, _, _, _, _⟩ := hR.row.form
  have HR := Lib.hid hR.row
  have hc : w.cell? ⟨h, 0, none⟩ = some v := hR.blk.at_ rfl
  have hlt := hR.blk.lt
  clear hR
  rw [hv] at hc HR
  clear hv
  go_enter Try.func47, Try.ntmps47
  go_wp2_with fail
  go_loopw [7] (fun i wr => ∃ (j : Nat), j ≤ S.op.length ∧ i = .int .i64 j ∧ (∀ y ∈ S.op.take j, qDone e f y = false) ∧ wr = w) (fun i _ => S.op.length - (intOf i).toNat)
  case atStart => exact ⟨0, by omega, rfl, by simp, rfl⟩
  case round =>
    obtain ⟨j, hj, rfl, hno, rfl⟩ := hrel
    have HN := Lib.hid hno
    clear hno
    by_cases hlt2 : j < S.op.length
    · obtain ⟨⟨e', f', u⟩, hx⟩ : ∃ x, S.op[j]? = some x := ⟨_, List.getElem?_eq_getElem (by omega)⟩
      obtain ⟨b, off, cap', hv', h1, h2, hb, _, hcc⟩ := HR.out.place (by omega)
      injection hv' with q1 q2 q3
      subst q1 q3
      obtain ⟨x1, x2, x3⟩ := asks_at _ j _ _ u hx
      have c1 := hcc _ _ x1
      have c2 := hcc _ _ x2
      simp only [← Nat.add_assoc] at c2
      have HX := Lib.hid hx
      clear hcc x1 x2 x3 hx
      have hstep : qDone e f (e', f', u) = false → ∀ y ∈ S.op.take (j + 1), qDone e f y = false := by
        intro hq y hy
        rw [List.take_add_one, HX.out] at hy
        rcases List.mem_append.1 hy with hy | hy
        · exact HN.out y hy
        · simp at hy
          rw [hy]
          exact hq
      have HS := Lib.hid hstep
      clear hstep
      by_cases he : e' = e
      · by_cases hf : f' = f
        · subst he hf
          go_wp2
          go_ret
          refine ⟨?_, rfl⟩
          rw [atI_some S.op e' f' j _ HX.out (by simp [qDone]) HN.out]
          rfl
        · subst he
          go_wp2
          go_roundw
          case rel => exact ⟨j + 1, by omega, by go_num, HS.out (by simp [qDone, hf]), trivial⟩
          case measure => simp [intOf]; omega
      · go_wp2
        go_roundw
        case rel => exact ⟨j + 1, by omega, by go_num, HS.out (by simp [qDone, he]), trivial⟩
        case measure => simp [intOf]; omega
    · obtain rfl : j = S.op.length := by omega
      go_wp2
      go_ret
      refine ⟨?_, rfl⟩
      have hh := HN.out
      rw [List.take_of_length_le (Nat.le_refl _)] at hh
      rw [atI_none S.op e f hh]
      rfl

theorem look_at (l : List (Int × Int × Int)) (e f : Int) : (atI l e f < 0 ∧ lookOp l (e, f) = none) ∨ ∃ (j : Nat) (u : Int), atI l e f = j ∧ j < l.length ∧ l[j]? = some (e, f, u) ∧ lookOp l (e, f) = some u := by
  cases hi : l.findIdx? (qDone e f) with
  | none =>
    left
    refine ⟨by simp [atI, hi], ?_⟩
    refine look_none _ _ ?_
    rw [List.findIdx?_eq_none_iff] at hi
    simp only [inK, List.any_eq_false]
    intro x hx
    have := hi x hx
    simp only [qDone, Bool.and_eq_false_iff, decide_eq_false_iff_not] at this
    simp only [Bool.and_eq_true, beq_iff_eq]
    rintro ⟨h1, h2⟩
    rcases this with h | h
    · exact h h1
    · exact h h2
  | some j =>
    right
    rw [List.findIdx?_eq_some_iff_getElem] at hi
    obtain ⟨hj, h1, h2⟩ := hi
    simp only [qDone, Bool.and_eq_true, decide_eq_true_eq] at h1
    have hl : l[j]? = some (e, f, l[j].2.2) := by
      rw [List.getElem?_eq_getElem hj]
      exact congrArg some (Prod.ext h1.1 (Prod.ext h1.2 rfl))
    refine ⟨j, l[j].2.2, ?_, hj, hl, ?_⟩
    · refine atI_some l e f j _ hl (by simp [qDone]) (fun y hy => ?_)
      obtain ⟨k, hk, rfl⟩ := List.mem_take_iff_getElem.1 hy
      have := h2 k (by omega)
      simpa using this
    · have : l.find? (fun x => x.1 == e && x.2.1 == f) = some l[j] := by
        rw [List.find?_eq_some_iff_getElem]
        refine ⟨by simp [h1.1, h1.2], j, hj, rfl, fun k hk => ?_⟩
        have := h2 k hk
        simp only [qDone, Bool.and_eq_true, decide_eq_true_eq, not_and] at this
        cases hh : (l[k].1 == e && l[k].2.1 == f) with
        | false => rfl
        | true =>
          simp only [Bool.and_eq_true, beq_iff_eq] at hh
          exact absurd hh.2 (this hh.1)
      simp [lookOp, this]

set_option maxHeartbeats 1000000 in
theorem rasked_any (w : World) (h : Nat) (S : St) (v : Value) (r : Nat → Value) (hR : IsR w h S v r) (hn : S.op.length ≤ 1000000) (e f : Int) :
   Calls Try.prog 32 #[.pointer (some ⟨h, 0, none⟩), .int .u8 e, .int .u8 f] w fun x w' => x = .returned (.tuple #[.int .i64 ((lookOp S.op (e, f)).getD 0), .bool (lookOp S.op (e, f)).isSome]) ∧ w = w' := by
  have hA := Lib.hid (at_any w h S v r hR hn e f)
  have hc : w.cell? ⟨h, 0, none⟩ = some v := hR.blk.at_ rfl
  have HR := Lib.hid hR.row
  rcases look_at S.op e f with ⟨h1, h2⟩ | ⟨j, u, h1, hj, h2, h3⟩
  · rw [h2]
    clear hR
    go_enter Try.func32, Try.ntmps32
    go_wp2_with fail
    refine (hA.out).mono ?_
    rintro x w1 ⟨rfl, rfl⟩
    go_wp2
    go_ret2
    exact ⟨rfl, rfl⟩
  · rw [h3]
    rw [h1] at hA
    obtain ⟨b, off, cap', hv', _, _, hb, _, hcc⟩ := hR.row.place (by omega)
    obtain ⟨x1, x2, x3⟩ := asks_at _ j _ _ u h2
    have c3 := hcc _ _ x3
    simp only [← Nat.add_assoc] at c3
    rw [hv'] at hc
    clear hR hcc x1 x2 x3 h1 h2 h3
    go_enter Try.func32, Try.ntmps32
    go_wp2_with fail
    refine (hA.out).mono ?_
    rintro x w1 ⟨rfl, rfl⟩
    go_wp2
    go_ret2
    exact ⟨rfl, rfl⟩

set_option maxHeartbeats 1000000 in
theorem ropen_any (w : World) (h : Nat) (S : St) (v : Value) (r : Nat → Value) (hR : IsR w h S v r) (hn : S.op.length ≤ 1000000) :
   Calls Try.prog 34 #[.pointer (some ⟨h, 0, none⟩)] w fun x w' => ∃ A c, x = .returned (.slice A S.op.length c) ∧ Row w' 37 3 (.slice A S.op.length c) S.op.length (asks S.op) ∧ Kept NoBlk w w' := by
  obtain ⟨A, cap, hv, _, _, _, _, _⟩ := hR.row.form
  have hc : w.cell? ⟨h, 0, none⟩ = some v := hR.blk.at_ rfl
  have hlt := hR.blk.lt
  have HR := Lib.hid hR.row
  rw [hv] at hc HR
  clear hR hv
  go_enter Try.func34, Try.ntmps34
  go_wp2_with (refine wpList_append_mine rfl (.tmp 5) (.tmp 9) 33 rfl 37 3 16 Try.underlying33 Try.sz37 (by decide) w.heap.size (.slice (some ⟨w.heap.size, 0, none⟩) 0 0) 0 [] rfl (own_new (Blk.new _ _ _) (Nat.le_refl _)) A S.op.length cap (asks S.op) rfl (HR.out.kept (G := NoBlk) ((Kept.refl _ _).alloc _) (fun _ _ _ e => e)) (asks_one _) (by simp only [maxLen]; omega) (by omega) (by simp) ?_; intro A' cap' w1 hown hK)
  go_ret
  refine ⟨A', cap', by simp, ?_, Kept.fresh ((Kept.refl _ _).alloc _) hK (fun b e => e)⟩
  have := Row.of_own hown
  simpa using this

set_option maxHeartbeats 1000000 in
theorem rlost_any (w : World) (h : Nat) (S : St) (v : Value) (r : Nat → Value) (hR : IsR w h S v r) (i : Nat) (hi : i < 6) (hn : (S.lost i).length ≤ 1000000) :
   Calls Try.prog 31 #[.pointer (some ⟨h, 0, none⟩), .int .u8 i] w fun x w' => ∃ A c, x = .returned (.slice A (S.lost i).length c) ∧ Row w' 5 1 (.slice A (S.lost i).length c) (S.lost i).length (u8s (S.lost i)) ∧ Kept NoBlk w w' := by
  obtain ⟨A, cap, hv, _, _, _, _, _⟩ := (hR.lost i hi).form
  have hc := hR.blk.at_ (arrR_at v r i hi)
  have hlt := hR.blk.lt
  have HR := Lib.hid (hR.lost i hi)
  rw [hv] at hc HR
  have hi6 : (i : Int) < 6 := by omega
  have hi2 : (i : Int).toNat = i := by omega
  have hc2 := (hR.blk.alloc (.cells #[] 5)).at_ (arrR_at v r i hi)
  rw [hv] at hc2
  clear hR hv
  go_enter Try.func31, Try.ntmps31
  go_wp2_with (refine wpList_append_mine rfl (.tmp 11) (.tmp 17) 28 rfl 5 1 1 Try.underlying28 Try.sz5 (by decide) w.heap.size (.slice (some ⟨w.heap.size, 0, none⟩) 0 0) 0 [] rfl (own_new (Blk.new _ _ _) (Nat.le_refl _)) A (S.lost i).length cap (u8s (S.lost i)) rfl (HR.out.kept (G := NoBlk) ((Kept.refl _ _).alloc _) (fun _ _ _ e => e)) (u8s_one _) (by simp only [maxLen]; omega) (by omega) (by simp) ?_; intro A' cap' w1 hown hK)
  go_ret
  refine ⟨A', cap', by simp, ?_, Kept.fresh ((Kept.refl _ _).alloc _) hK (fun b e => e)⟩
  have := Row.of_own hown
  simpa using this
theorem rlost_range (w : World) (p : Option Addr) (e : Int) (hp : p.isSome = true) (he : 6 ≤ e) :
   Calls Try.prog 31 #[.pointer p, .int .u8 e] w fun x w' => x = .returned (.slice none 0 0) ∧ w = w' := by
  obtain ⟨a, rfl⟩ := Option.isSome_iff_exists.1 hp
  clear hp
  go_enter Try.func31, Try.ntmps31
  go_wp2
  go_ret
  exact ⟨rfl, rfl⟩

theorem rnew_any (w : World) : Calls Try.prog 25 #[] w fun x w' => ∃ h v r, x = .returned (.pointer (some ⟨h, 0, none⟩)) ∧ w.heap.size ≤ h ∧ h < w'.heap.size ∧ IsR w' h newB v r ∧ Kept NoBlk w w' := by
  go_enter Try.func25, Try.ntmps25
  go_wp2
  go_ret
  exact ⟨w.heap.size, .slice none 0 0, fun _ => .slice none 0 0, rfl, Nat.le_refl _, by simp, ⟨Blk.cast (Blk.new _ _ _) rfl, Row.nil _ _ _, fun i _ => Row.nil _ _ _⟩, by repeat (with_reducible first | exact Kept.refl _ _ | apply Kept.drew | apply Kept.drewN | apply Kept.alloc | exact oneHit | apply Kept.setCell)⟩

theorem Row.sl {w : World} {t : TypeId} {m n : Nat} {v : Value} {xs : List Value} (h : Row w t m v n xs) : ∃ A c, v = .slice A n c := by
  obtain ⟨A, c, e, _⟩ := h.form
  exact ⟨A, c, e⟩

set_option maxHeartbeats 1000000 in
theorem rfork_any (w : World) (h : Nat) (S : St) (v : Value) (r : Nat → Value) (hR : IsR w h S v r) :
   Calls Try.prog 22 #[.pointer (some ⟨h, 0, none⟩)] w fun x w' => ∃ h' v' r', x = .returned (.pointer (some ⟨h', 0, none⟩)) ∧ w.heap.size ≤ h' ∧ h' < w'.heap.size ∧ IsR w' h' S v' r' ∧ Kept NoBlk w w' := by
  have hc := hR.blk.cell
  have hlt := hR.blk.lt
  obtain ⟨A, c, e⟩ := hR.row.sl
  obtain ⟨A0, c0, e0⟩ := (hR.lost 0 (by omega)).sl
  obtain ⟨A1, c1, e1⟩ := (hR.lost 1 (by omega)).sl
  obtain ⟨A2, c2, e2⟩ := (hR.lost 2 (by omega)).sl
  obtain ⟨A3, c3, e3⟩ := (hR.lost 3 (by omega)).sl
  obtain ⟨A4, c4, e4⟩ := (hR.lost 4 (by omega)).sl
  obtain ⟨A5, c5, e5⟩ := (hR.lost 5 (by omega)).sl
  have harr : arrR v r = #[.slice A S.op.length c, .slice A0 (S.lost 0).length c0, .slice A1 (S.lost 1).length c1, .slice A2 (S.lost 2).length c2, .slice A3 (S.lost 3).length c3, .slice A4 (S.lost 4).length c4, .slice A5 (S.lost 5).length c5] := by
    rw [arrR, e, e0, e1, e2, e3, e4, e5]
  rw [harr] at hc
  have HA := Lib.hid harr
  have HR := Lib.hid hR
  clear hR e e0 e1 e2 e3 e4 e5 harr
  go_enter Try.func22, Try.ntmps22
  go_wp2
  go_ret
  refine ⟨w.heap.size, v, r, rfl, Nat.le_refl _, by simp, ⟨?_, HR.out.row.kept (G := NoBlk) (by repeat (with_reducible first | exact Kept.refl _ _ | apply Kept.drew | apply Kept.drewN | apply Kept.alloc | exact oneHit | apply Kept.setCell)) (fun _ _ _ e => e), fun i hi => (HR.out.lost i hi).kept (G := NoBlk) (by repeat (with_reducible first | exact Kept.refl _ _ | apply Kept.drew | apply Kept.drewN | apply Kept.alloc | exact oneHit | apply Kept.setCell)) (fun _ _ _ e => e)⟩, by repeat (with_reducible first | exact Kept.refl _ _ | apply Kept.drew | apply Kept.drewN | apply Kept.alloc | exact oneHit | apply Kept.setCell)⟩
  rw [HA.out]
  exact Blk.cast (by repeat (with_reducible first | exact Blk.new _ _ _ | apply Blk.drew | apply Blk.drewN | apply Blk.alloc | apply Blk.set_)) rfl
end Go.Proofs.Ytmbgbhhdjobbnaa
