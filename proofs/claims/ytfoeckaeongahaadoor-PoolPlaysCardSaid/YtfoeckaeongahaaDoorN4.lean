/- The program's names: Split. -/
import Derived.Test.YtfoeckaeongahaaDoorN3
import Derived.Maps.AppendAt
namespace Go.Proofs.YtfoeckaeongahaaDoor
open Go.RowKit Go.Shelf
attribute [local go_sem] Oper.semAt_some
set_option maxRecDepth 100000

def nilS : Value := .slice none 0 0
theorem root_yes (s : ByteArray) (h : s.data.toList = [47]) : (s.toList == [47]) = true := by
  rw [ByteArray.toList_eq]
  exact beq_iff_eq.2 h
theorem root_no (s : ByteArray) (h : s.data.toList ≠ [47]) : (s.toList == [47]) = false := by
  rw [ByteArray.toList_eq]
  exact beq_eq_false_iff_ne.2 h
theorem split_root (w : World) (s : ByteArray) (h : s.data.toList = [47]) : Calls Tryd.prog 57 #[.string s] w fun e w' => e = .returned (.tuple #[nilS, .int .i64 0]) ∧ Kept NoBlk w w' := by
  have hq := root_yes s h
  unfold nilS
  go_enter Tryd.func57, Tryd.ntmps57
  go_wp2
  refine bodyPost_ret (v := .tuple #[.slice none 0 0, .int .i64 0]) (by simp [results, Tryd.f57, go_sem]) rfl ⟨rfl, ?_⟩
  repeat (with_reducible first | exact Kept.refl _ _ | apply Kept.drew | apply Kept.drewN | apply Kept.alloc | exact oneHit | apply Kept.setCell)
/-- A text that begins with no slash, or ends with one, is no name. -/
theorem split_form (w : World) (s : ByteArray) (hs : s.size ≤ 9223372036854775807) (h : s.data.toList ≠ [47]) (hf : Lib.hasPrefix s.data.toList [47] = false ∨ Lib.hasSuffix s.data.toList [47] = true) :
    Calls Tryd.prog 57 #[.string s] w fun e w' => e = .returned (.tuple #[nilS, .int .i64 3]) ∧ Kept NoBlk w w' := by
  have hq := root_no s h
  have HP := Lib.hid (fun w => Tryd.strings_HasPrefix s ⟨#[47]⟩ w)
  have HS := Lib.hid (fun w => Tryd.strings_HasSuffix s ⟨#[47]⟩ w (by omega))
  have hp47 : (⟨#[47]⟩ : ByteArray).data.toList = [47] := rfl
  rw [hp47] at HP HS
  unfold nilS
  clear h hp47
  by_cases h1 : Lib.hasPrefix s.data.toList [47] = false
  · rw [h1] at HP
    clear hf h1
    go_enter Tryd.func57, Tryd.ntmps57
    go_wp2_with fail
    refine (HP.out _).mono ?_
    rintro x w1 ⟨rfl, rfl⟩
    go_wp2
    refine bodyPost_ret (v := .tuple #[.slice none 0 0, .int .i64 3]) (by simp [results, Tryd.f57, go_sem]) rfl ⟨rfl, ?_⟩
    exact ((Kept.refl _ _).alloc _).alloc _
  · have h2 := hf.resolve_left h1
    have h1' : Lib.hasPrefix s.data.toList [47] = true := by simpa using h1
    rw [h1'] at HP
    rw [h2] at HS
    clear hf h1 h1' h2
    go_enter Tryd.func57, Tryd.ntmps57
    go_wp2_with fail
    refine (HP.out _).mono ?_
    rintro x w1 ⟨rfl, rfl⟩
    go_wp2_with fail
    refine (HS.out _).mono ?_
    rintro x w1 ⟨rfl, rfl⟩
    go_wp2
    refine bodyPost_ret (v := .tuple #[.slice none 0 0, .int .i64 3]) (by simp [results, Tryd.f57, go_sem]) rfl ⟨rfl, ?_⟩
    exact ((Kept.refl _ _).alloc _).alloc _
/-- The rows that Split lays. -/
def strV (l : List ByteArray) : List Value := l.map .string
structure MidS (w W : World) (pre : List ByteArray) : Prop where
  r0 : Blk W w.heap.size 93 #[nilS]
  r1 : Blk W (w.heap.size + 1) 39 #[.int .i64 0]
  out : ∃ v, Blk W (w.heap.size + 1 + 1) 93 #[v] ∧ W.ownsRow (w.heap.size + 3 + 1) 9 1 v pre.length (strV pre)
  kept : Kept NoBlk w W
  labels : pre.all label = true
  few : pre.length ≤ 6
  big : w.heap.size + 4 ≤ W.heap.size
structure OutS (w W : World) (pre : List ByteArray) : Prop where
  r0 : Blk W w.heap.size 93 #[nilS]
  r1 : Blk W (w.heap.size + 1) 39 #[.int .i64 3]
  kept : Kept NoBlk w W
  bad : ¬ (pre.all label = true ∧ pre.length ≤ 6)

theorem pre_yes (s : ByteArray) (h : s.data.toList.head? = some 47) : Lib.hasPrefix s.data.toList [47] = true := by
  unfold Lib.hasPrefix
  cases hs : s.data.toList with
  | nil => rw [hs] at h; cases h
  | cons c t =>
    rw [hs] at h
    obtain rfl : c = 47 := Option.some.inj h
    simp [List.isPrefixOf]
theorem pre_no (s : ByteArray) (h : s.data.toList.head? ≠ some 47) : Lib.hasPrefix s.data.toList [47] = false := by
  unfold Lib.hasPrefix
  cases hs : s.data.toList with
  | nil => rfl
  | cons c t =>
    rw [hs] at h
    have : ((47 : UInt8) == c) = false := beq_eq_false_iff_ne.2 (fun e => h (by rw [← e]; rfl))
    simp [List.isPrefixOf, this]
theorem pieces_last : ∀ t : List UInt8, (pieces t).getLastD [] = [] → (47 :: t).getLast? = some 47
  | [], _ => rfl
  | c :: t, h => by
    have ih := pieces_last t
    have hne := pieces_ne t
    unfold pieces at h
    cases hp : pieces t with
    | nil => exact absurd hp hne
    | cons a r =>
      rw [hp] at h ih
      split at h
      · rename_i hc
        subst hc
        have h1 : (a :: r).getLastD [] = [] := by
          rw [List.getLastD_cons] at h
          rw [List.getLastD_cons]
          rw [List.getLastD_cons] at h
          exact h
        exact ih h1
      · cases r with
        | nil => cases h
        | cons b r =>
          have h1 : (a :: b :: r).getLastD [] = [] := by
            simp only [List.headD_cons, List.tail_cons, List.getLastD_cons] at h ⊢
            exact h
          have := ih h1
          cases t with
          | nil => cases hp
          | cons d t => exact this
theorem ends_slash : ∀ t : List UInt8, t.getLast? = some 47 → (pieces t).getLastD [] = []
  | [], h => by cases h
  | c :: t, h => by
    have ih := ends_slash t
    unfold pieces
    cases hp : pieces t with
    | nil => exact absurd hp (pieces_ne t)
    | cons a r =>
      rw [hp] at ih
      cases t with
      | nil =>
        obtain rfl : c = 47 := by simpa using h
        cases hp
        rfl
      | cons d t =>
        have h1 := ih h
        rw [List.getLastD_cons] at h1
        split
        · rw [List.getLastD_cons, List.getLastD_cons]
          exact h1
        · rw [List.headD_cons, List.tail_cons, List.getLastD_cons]
          cases r with
          | nil =>
            exfalso
            have hns : (47 : UInt8) ∉ a := pieces_noslash (d :: t) a (by rw [hp]; exact List.mem_cons_self ..)
            have hj := joinS_pieces (d :: t)
            rw [hp] at hj
            have hj' : a = d :: t := hj
            rw [hj'] at hns
            exact hns (List.mem_of_getLast? h)
          | cons b r => exact h1
theorem suffix_of (l : List UInt8) (h : l.getLast? = some 47) : Lib.hasSuffix l [47] = true := by
  unfold Lib.hasSuffix
  rw [List.isSuffixOf_iff_suffix]
  obtain ⟨ys, hy⟩ := List.getLast?_eq_some_iff.1 h
  exact ⟨ys, hy.symm⟩
theorem noTail_pieces (t : List UInt8) (h : Lib.hasSuffix (47 :: t) [47] = false) : noTail (pieces t) :=
  ⟨pieces_noslash t, fun _ e => by rw [suffix_of _ (pieces_last t e)] at h; cases h⟩
theorem Tryd.infoS : (Tryd.prog.info? 9).map (fun i => (i.zero, i.size, i.bytes)) = some (some (.string ⟨#[]⟩), 1, 16) := by kernel_rfl
theorem grown_blk {W W' : World} {b : Nat} {t : TypeId} {cs : Array Value} {row : Option Nat} (hb : Blk W b t cs) (hg : W.grownBy W' row) (hr : ∀ r, row = some r → ∃ o : Obj, W.heap[r]? = some o ∧ o.isCells = false) : Blk W' b t cs :=
  (hg.block b hb.lt (fun e => by
    obtain ⟨o, ho, hc⟩ := hr b e.symm
    have := hb.symm.trans ho
    simp only [Option.some.injEq] at this
    subst this
    cases hc)).trans hb
theorem grown_own {W W' : World} {base n : Nat} {e : TypeId} {v : Value} {xs : List Value} {row : Option Nat} (h : W.ownsRow base e 1 v n xs) (hg : W.grownBy W' row) (hr : ∀ r, row = some r → ∃ o : Obj, W.heap[r]? = some o ∧ o.isCells = false) : W'.ownsRow base e 1 v n xs := by
  obtain ⟨hl, h0 | ⟨g, cap, cur, hv, hb, hgg, r⟩⟩ := h
  · exact ⟨hl, .inl h0⟩
  · exact ⟨hl, .inr ⟨g, cap, cur, hv, hb, grown_blk hgg hg hr, r⟩⟩
theorem own_base {W : World} {base base' n : Nat} {e : TypeId} {v : Value} {xs : List Value} (h : W.ownsRow base e 1 v n xs) (hb : base' ≤ base) : W.ownsRow base' e 1 v n xs := by
  obtain ⟨hl, h0 | ⟨g, cap, cur, hv, hb', r⟩⟩ := h
  · exact ⟨hl, .inl h0⟩
  · exact ⟨hl, .inr ⟨g, cap, cur, hv, Nat.le_trans hb hb', r⟩⟩
theorem MidS.grown {w W W' : World} {pre : List ByteArray} {row : Option Nat} (h : MidS w W pre) (hg : W.grownBy W' row) (hr : ∀ r, row = some r → w.heap.size ≤ r ∧ ∃ o : Obj, W.heap[r]? = some o ∧ o.isCells = false) : MidS w W' pre := by
  have far : ∀ {b : Nat} {t : TypeId} {cs : Array Value}, Blk W b t cs → Blk W' b t cs := fun {b t cs} hb => (hg.block b hb.lt (fun e => by
    obtain ⟨o, ho, hc⟩ := (hr b e.symm).2
    have := hb.symm.trans ho
    simp only [Option.some.injEq] at this
    subst this
    cases hc)).trans hb
  obtain ⟨v, h1, h2⟩ := h.out
  refine ⟨far h.r0, far h.r1, ⟨v, far h1, ?_⟩, h.kept.grown hg (fun k e => .inr (hr k e).1), h.labels, h.few, Nat.le_trans h.big hg.size⟩
  obtain ⟨hl, h0 | ⟨g, cap, cur, hv, hb, hgg, r⟩⟩ := h2
  · exact ⟨hl, .inl h0⟩
  · exact ⟨hl, .inr ⟨g, cap, cur, hv, hb, far hgg, r⟩⟩
theorem OutS.grown {w W W' : World} {pre : List ByteArray} {row : Option Nat} (h : OutS w W pre) (hg : W.grownBy W' row) (hr : ∀ r, row = some r → w.heap.size ≤ r ∧ ∃ o : Obj, W.heap[r]? = some o ∧ o.isCells = false) : OutS w W' pre := by
  have far : ∀ {b : Nat} {t : TypeId} {cs : Array Value}, Blk W b t cs → Blk W' b t cs := fun {b t cs} hb => (hg.block b hb.lt (fun e => by
    obtain ⟨o, ho, hc⟩ := (hr b e.symm).2
    have := hb.symm.trans ho
    simp only [Option.some.injEq] at this
    subst this
    cases hc)).trans hb
  exact ⟨far h.r0, far h.r1, h.kept.grown hg (fun k e => .inr (hr k e).1), h.bad⟩
theorem MidS.later {w W W' : World} {pre : List ByteArray} (h : MidS w W pre) (hk : Kept NoBlk W W') : MidS w W' pre := by
  obtain ⟨v, h1, h2⟩ := h.out
  exact ⟨h.r0.kept hk (fun e => e), h.r1.kept hk (fun e => e), ⟨v, h1.kept hk (fun e => e), own_kept h2 hk (fun _ _ e => e)⟩, h.kept.trans hk, h.labels, h.few, Nat.le_trans h.big hk.size⟩
theorem own_form {W : World} {base n : Nat} {e : TypeId} {v : Value} {xs : List Value} (h : W.ownsRow base e 1 v n xs) : ∃ A cap, v = .slice A n cap := by
  obtain ⟨-, ⟨rfl, h0⟩ | ⟨g, cap, cur, rfl, -⟩⟩ := h
  · exact ⟨none, 0, by rw [h0]⟩
  · exact ⟨_, cap, rfl⟩
theorem keepsOthers_of {W W' : World} (hk : Kept NoBlk W W') : KeepsOthers W W' := ⟨hk.size, fun k _ h _ => (hk.block k (Array.getElem?_eq_some_iff.1 h).1 (fun e => e)).trans h⟩
theorem heapAt_of {W W' : World} (hk : Kept NoBlk W W') {b : Nat} (hb : b < W.heap.size) : W'.heap[b]? = W.heap[b]? := hk.block b hb (fun e => e)
theorem own_far {W : World} {base n b : Nat} {v u : Value} {xs : List Value} (h : W.ownsRow base 9 1 v n xs) (hb : b < base) : (W.setCell ⟨b, 0, none⟩ u).ownsRow base 9 1 v n xs :=
  own_kept h ((Kept.refl (OneBlk b) W).setCell oneHit u) (fun k hk e => by have e' : k = b := e; omega)
theorem own_cells {W : World} {base n : Nat} {e : TypeId} {v : Value} {xs : List Value} (h : W.ownsRow base e 1 v n xs) : ∀ (j : Nat) (o : Obj), v.ownBlock = some j → W.heap[j]? = some o → o.isCells = true := by
  intro j o hj ho
  obtain ⟨-, ⟨rfl, -⟩ | ⟨g, cap, cur, rfl, -, hgg, -⟩⟩ := h
  · cases hj
  · injection hj with hj
    subst hj
    have := ho.symm.trans hgg
    simp only [Option.some.injEq] at this
    subst this
    rfl
theorem good_ends {w w1 w2 : World} {pre : List ByteArray} {A : Option Addr} {cap g' cap' : Nat} (h : MidS w w1 pre) (x : ByteArray) (hx : label x = true) (hp : pre.length ≤ 5)
    (ho : Blk w1 (w.heap.size + 1 + 1) 93 #[.slice A pre.length cap]) (hown : w1.ownsRow (w.heap.size + 3 + 1) 9 1 (.slice A pre.length cap) pre.length (strV pre))
    (hown2 : w2.ownsRow (w.heap.size + 3 + 1) 9 1 (.slice (some ⟨g', 0, none⟩) (pre.length + 1) cap') (pre.length + 1) (strV pre ++ [.string x]))
    (hg2 : (w1.alloc (.cells #[.string x] 9)).grownBy w2 (Value.slice A pre.length cap).ownBlock) :
    Kept (fun b => w.heap.size + 3 + 1 ≤ b) w1 w2 ∧ KeepsOthers w1 w2 ∧ MidS w (w2.setCell ⟨w.heap.size + 1 + 1, 0, none⟩ (.slice (some ⟨g', 0, none⟩) (pre.length + 1) cap')) (pre ++ [x]) ∧ (w2.setCell ⟨w.heap.size + 1 + 1, 0, none⟩ (.slice (some ⟨g', 0, none⟩) (pre.length + 1) cap')).heap[w.heap.size + 1 + 1 + 1]? = w1.heap[w.heap.size + 1 + 1 + 1]? := by
  have hk2 : Kept (fun b => w.heap.size + 3 + 1 ≤ b) w1 w2 := ((Kept.refl _ _).alloc _).grown hg2 (fun k e => .inl ((hown.lt k e).1))
  have hbig := h.big
  refine ⟨hk2, (KeepsOthers.alloc _ _).trans (KeepsOthers.of_grownBy hg2 (own_cells (own_kept (G := NoBlk) hown ((Kept.refl _ _).alloc _) (fun _ _ e => e)))), ⟨?_, ?_, ⟨.slice (some ⟨g', 0, none⟩) (pre.length + 1) cap', ?_, ?_⟩, ?_, ?_, ?_, ?_⟩, ?_⟩
  · exact (h.r0.kept hk2 (by omega)).far (by show w.heap.size ≠ w.heap.size + 1 + 1; omega) _
  · exact (h.r1.kept hk2 (by omega)).far (by show w.heap.size + 1 ≠ w.heap.size + 1 + 1; omega) _
  · exact Blk.cast ((ho.kept hk2 (by omega)).set_ 0 _) (by simp)
  · have := own_far (u := .slice (some ⟨g', 0, none⟩) (pre.length + 1) cap') (b := w.heap.size + 1 + 1) hown2 (by omega)
    unfold strV
    rw [List.length_append, List.length_singleton, List.map_append]
    exact this
  · exact (Kept.fresh h.kept hk2 (fun b e => by omega)).setCell (newHit (by omega)) _
  · rw [List.all_append, h.labels, List.all_cons, hx]
    rfl
  · rw [List.length_append, List.length_singleton]
    omega
  · have := hk2.size
    exact Nat.le_trans hbig (Nat.le_trans this (Nat.le_of_eq (World.size_setCell ..).symm))
  · exact (Below.heap_setCell w2 _ _ _ (by show w.heap.size + 1 + 1 + 1 ≠ w.heap.size + 1 + 1; omega)).trans (hk2.block _ (by omega) (by omega))
theorem bad_ends {w W : World} {pre : List ByteArray} (h : MidS w W pre) (x : ByteArray) (hb : label x = false ∨ pre.length = 6) : OutS w ((W.setCell ⟨w.heap.size, 0, none⟩ nilS).setCell ⟨w.heap.size + 1, 0, none⟩ (.int .i64 3)) (pre ++ [x]) := by
  refine ⟨?_, ?_, (h.kept.setCell (newHit (Nat.le_refl _)) _).setCell (newHit (by omega)) _, ?_⟩
  · exact Blk.cast ((h.r0.set_ 0 _).far (by show w.heap.size ≠ w.heap.size + 1; omega) _) (by simp)
  · exact Blk.cast ((h.r1.far (by show w.heap.size + 1 ≠ w.heap.size; omega) _).set_ 0 _) (by simp)
  · rintro ⟨h1, h2⟩
    rw [List.all_append] at h1
    rw [List.length_append, List.length_singleton] at h2
    rcases hb with hb | hb
    · rw [List.all_cons, hb] at h1
      simp at h1
    · omega


set_option maxHeartbeats 4000000 in
theorem split_walk (w : World) (s : ByteArray) (hs : s.size ≤ 9223372036854775807) (h : s.data.toList ≠ [47]) (hh : s.data.toList.head? = some 47) (hf : Lib.hasSuffix s.data.toList [47] = false) :
    Calls Tryd.prog 57 #[.string s] w fun e w' => Kept NoBlk w w' ∧ ((∃ l v, splitO s = some l ∧ e = .returned (.tuple #[v, .int .i64 0]) ∧ w'.ownsRow w.heap.size 9 1 v l.length (strV l)) ∨
      (splitO s = none ∧ e = .returned (.tuple #[nilS, .int .i64 3]))) := by
  have hq := root_no s h
  have HP := Lib.hid (fun w => Tryd.strings_HasPrefix s ⟨#[47]⟩ w)
  have HS := Lib.hid (fun w => Tryd.strings_HasSuffix s ⟨#[47]⟩ w (by omega))
  have hp47 : (⟨#[47]⟩ : ByteArray).data.toList = [47] := rfl
  rw [hp47, pre_yes s hh] at HP
  rw [hp47, hf] at HS
  refine (callsIn_wide (n := 3)).1 ?_
  refine callsIn_of_wp_marks Tryd.func57 rfl trivial ?_ rfl
  simp only [Tryd.ntmps57, List.size_toArray, List.length_cons, List.length_nil, Nat.reduceAdd, Nat.reduceSub, Array.replicate_succ, Array.replicate_zero, List.push_toArray, List.append_toArray, List.nil_append, List.cons_append]
  clear hp47
  gi_wp2_with fail
  refine ⟨trivial, (callsIn_wide.2 (HP.out _)).mono ?_⟩
  rintro x w1 ⟨rfl, rfl⟩
  gi_wp2_with fail
  refine ⟨trivial, (callsIn_wide.2 (HS.out _)).mono ?_⟩
  rintro x w1 ⟨rfl, rfl⟩
  gi_wp2_with fail
  refine ⟨trivial, (callsIn_wide.2 (labels_any _ s)).mono ?_⟩
  rintro x w1 ⟨rfl, rfl⟩
  gi_wp2_with fail
  obtain ⟨W0, hW0⟩ : ∃ W0, ((((w.alloc (.cells #[.slice none 0 0] 93)).alloc (.cells #[.int .i64 0] 39)).alloc (.cells #[.slice none 0 0] 93)).alloc (.cells #[.string s] 9)) = W0 := ⟨_, rfl⟩
  rw [hW0]
  have s0 : W0.heap.size = w.heap.size + 4 := by rw [← hW0]; simp
  have hM : MidS w W0 [] := by
    refine ⟨?_, ?_, ⟨nilS, ?_, own_none _ _ _ _⟩, ?_, rfl, by decide, by omega⟩
    all_goals rw [← hW0]
    · exact (((Blk.new w _ _).alloc _).alloc _).alloc _
    · exact ((Blk.new_at _ _ _ (by simp)).alloc _).alloc _
    · exact (Blk.new_at _ _ _ (by simp)).alloc _
    · repeat (with_reducible first | exact Kept.refl _ _ | apply Kept.drew | apply Kept.drewN | apply Kept.alloc | exact oneHit | apply Kept.setCell)
  have htl : s.data.toList = 47 :: s.data.toList.drop 1 := by
    cases hs' : s.data.toList with
    | nil => rw [hs'] at hh; cases hh
    | cons c t =>
      rw [hs'] at hh
      obtain rfl : c = 47 := Option.some.inj hh
      rfl
  have htx : s = mk (textOf (pieces (s.data.toList.drop 1))) := by
    unfold textOf
    rw [if_neg (pieces_ne _), joinS_pieces, ← htl, mk_of]
  have hBv : Blk W0 (w.heap.size + 1 + 1 + 1) 9 #[.string (mk (textOf (pieces (s.data.toList.drop 1))))] := by
    rw [← htx, ← hW0]
    exact Blk.new_at _ _ _ (by simp)
  have hnt : noTail (pieces (s.data.toList.drop 1)) := noTail_pieces _ (by rw [← htl]; exact hf)
  have h1000 : (textOf (pieces (s.data.toList.drop 1))).length ≤ 9223372036854775807 := by
    rw [← mk_size, ← htx]
    exact hs
  have HSP : Hid (splitO s = if ((pieces (s.data.toList.drop 1)).map mk).all label = true ∧ (pieces (s.data.toList.drop 1)).length ≤ 6 then some ((pieces (s.data.toList.drop 1)).map mk) else none) := by
    refine Lib.hid ?_
    unfold splitO
    rw [if_neg h]
    by_cases hc : ((pieces (s.data.toList.drop 1)).map mk).all label = true ∧ (pieces (s.data.toList.drop 1)).length ≤ 6
    · rw [if_pos ⟨hh, hc⟩, if_pos hc]
    · rw [if_neg (fun k => hc k.2), if_neg hc]
  clear hW0 htx htl hh hf h HP HS hq
  generalize pieces (s.data.toList.drop 1) = xs at *
  refine wpIn_yields (F := .wide) (n := 3) rfl (by omega) (gf := 72) (lb := #[.pointer (some ⟨w.heap.size + 1 + 1 + 1, 0, none⟩)]) rfl trivial (enters_of Tryd.func72 (by kernel_rfl) rfl)
    (Bs := w.heap.size + 1 + 1 + 1) (by omega) (labels_yields W0 _ xs hnt h1000 hBv) (fun _ => rfl)
    (fun pre W => MidS w W pre) (fun c pre W => c = .ret ∧ OutS w W pre)
    (fun s A B row hs hg hr => hs.grown hg (fun r e => ⟨by have := (hr r e).1; omega, (hr r e).2⟩))
    (fun c s A B row hs hg hr => ⟨hs.1, hs.2.grown hg (fun r e => ⟨by have := (hr r e).1; omega, (hr r e).2⟩)⟩)
    (fun s W v hs => by
      obtain ⟨u, u1, u2⟩ := hs.out
      exact ⟨hs.r0.far (by show w.heap.size ≠ w.heap.size + 1 + 1 + 1; omega) _, hs.r1.far (by show w.heap.size + 1 ≠ w.heap.size + 1 + 1 + 1; omega) _, ⟨u, u1.far (by show w.heap.size + 1 + 1 ≠ w.heap.size + 1 + 1 + 1; omega) _, own_far u2 (by omega)⟩, hs.kept.setCell (newHit (by omega)) _, hs.labels, hs.few, Nat.le_trans hs.big (Nat.le_of_eq (World.size_setCell ..).symm)⟩)
    hM
    (fun x => { tmps := #[.string s, undef, .pointer (some ⟨w.heap.size, 0, none⟩), .pointer (some ⟨w.heap.size + 1, 0, none⟩), .pointer (some ⟨w.heap.size + 1 + 1, 0, none⟩), .string x, .string s, .bool false, .string s, .bool true, .bool false, .bool false, .string s, .bool false, .bool false, .string s, .func (.func 72) #[] #[.pointer (some ⟨w.heap.size + 1 + 1 + 1, 0, none⟩)], .string x, undef, undef, undef, undef, undef, undef, undef, undef, undef, undef, undef, undef, undef], defers := [] }) ?assign ?body ?done ?stop
  case assign =>
    intro l x W K hK
    unfold encS
    gi_wp2
    exact hK
  case body =>
    rintro l pre x W hM'
    have hltB : w.heap.size + 4 ≤ W.heap.size := hM'.big
    gi_wp2_with fail
    refine ⟨trivial, (CallsIn.inRound l (callsIn_wide.2 (label_any _ x))).mono ?_⟩
    rintro e w1 ⟨rfl, hk⟩
    have hko := keepsOthers_of hk
    have hbs := heapAt_of hk (b := w.heap.size + 1 + 1 + 1) (by omega)
    have hM1 := hM'.later hk
    obtain ⟨v, ho, hown⟩ := hM1.out
    obtain ⟨A, cap, rfl⟩ := own_form hown
    have c2 := hM1.r0.cell 0
    have c3 := hM1.r1.cell 0
    have c4 := ho.cell 0
    simp only [nilS, List.getElem?_toArray, List.getElem?_cons_zero] at c2 c3 c4
    have f2 := hM1.r0.frozen 0
    have f3 := hM1.r1.frozen 0
    have f4 := ho.frozen 0
    have h6 := hM1.few
    have HM := Lib.hid hM1
    have HO := Lib.hid ho
    have HOWN := Lib.hid hown
    have HBS := Lib.hid hbs
    have HKO := Lib.hid hko
    clear hM' hM1 ho hown hbs hko hk
    by_cases hx : label x = true
    · rw [hx]
      by_cases hp : pre.length = 6
      · have hp' : ((pre.length : Int) == 6) = true := beq_iff_eq.2 (by omega)
        gi_wp2
        exact ⟨((HKO.out.trans (KeepsOthers.setCell _ _ _)).trans (KeepsOthers.setCell _ _ _)).from _, .inr ⟨_, rfl, rfl, bad_ends HM.out x (.inr hp)⟩⟩
      · have hp' : ((pre.length : Int) == 6) = false := beq_eq_false_iff_ne.2 (by omega)
        have hp5 : pre.length ≤ 5 := by omega
        obtain ⟨i0, hi, hz0, hz1, hz2⟩ := info_parts Tryd.infoS
        have hlt1 : w.heap.size + 4 ≤ w1.heap.size := HM.out.big
        gi_wp2_with (gi_at_builtin; refine wpListIn_append_own _ rfl _ _ 93 rfl (w.heap.size + 3 + 1) 9 i0 (.string ⟨#[]⟩) 1 16 Tryd.underlying93 hi hz0 hz1 hz2 rfl (by decide) _ _ _ rfl (own_kept (G := NoBlk) HOWN.out ((Kept.refl _ _).alloc _) (fun _ _ e => e)) ⟨w1.heap.size, 0, none⟩ 1 1 [.string x] rfl rfl (cell_one_new _ _ _) (by simp [Value.oneCell']) (by simp only [maxLen]; omega) (by omega) (by simp; omega) ?_; intro v' w2 hown2 hg2 _; obtain ⟨g', cap', rfl⟩ := ownsRow_succ hown2; have GE := Lib.hid (good_ends HM.out x hx hp5 HO.out HOWN.out hown2 hg2); have ho5 := HO.out.kept GE.out.1 (by show ¬ (w.heap.size + 3 + 1 ≤ w.heap.size + 1 + 1); omega); have c5 := ho5.cell 0; simp only [List.getElem?_toArray, List.getElem?_cons_zero] at c5; have f5 := ho5.frozen 0; clear ho5 hown2 hg2)
        obtain ⟨-, g1, g2, g3⟩ := GE.out
        exact ⟨((HKO.out.trans g1).trans (KeepsOthers.setCell _ _ _)).from _, .inl ⟨rfl, g3.trans HBS.out, g2⟩⟩
    · have hx' : label x = false := by simpa using hx
      rw [hx']
      gi_wp2
      exact ⟨((HKO.out.trans (KeepsOthers.setCell _ _ _)).trans (KeepsOthers.setCell _ _ _)).from _, .inr ⟨_, rfl, rfl, bad_ends HM.out x (.inl hx')⟩⟩
  case done =>
    rintro D ys W hD hys hM' hK
    have hsp : splitO s = some ys := by
      subst hys
      have hsp := HSP.out
      have hlab := hM'.labels
      have hfew := hM'.few
      rw [List.length_map] at hfew
      rw [if_pos ⟨hlab, hfew⟩] at hsp
      exact hsp
    clear hys
    obtain ⟨v, ho, hown⟩ := hM'.out
    obtain ⟨A, cap, rfl⟩ := own_form hown
    have c2 := hM'.r0.cell 0
    have c3 := hM'.r1.cell 0
    have c4 := ho.cell 0
    simp only [nilS, List.getElem?_toArray, List.getElem?_cons_zero] at c2 c3 c4
    have f2 := hM'.r0.frozen 0
    have f3 := hM'.r1.frozen 0
    have f4 := ho.frozen 0
    have hbig := hM'.big
    have HM := Lib.hid hM'
    have HO := Lib.hid ho
    have HOWN := Lib.hid hown
    have hKK := Lib.hid hK
    clear hM' ho hown hK
    gi_wp2
    have hK := hKK.out
    have hK2 : ((W.setCell ⟨w.heap.size, 0, none⟩ (.slice A ys.length cap)).setCell ⟨w.heap.size + 1, 0, none⟩ (.int .i64 0)).heap[D]? = some (.deferred (some [])) := ((KeepsOthers.setCell W ⟨w.heap.size, 0, none⟩ _).trans (KeepsOthers.setCell _ ⟨w.heap.size + 1, 0, none⟩ _)).same D _ hK rfl
    refine ⟨by simp, .inl ⟨_, _, rfl, run_takeDeferred hK2, ?_⟩⟩
    have q0 : Blk ((W.setCell ⟨w.heap.size, 0, none⟩ (.slice A ys.length cap)).setCell ⟨w.heap.size + 1, 0, none⟩ (.int .i64 0)) w.heap.size 93 #[.slice A ys.length cap] := Blk.cast ((HM.out.r0.set_ 0 _).far (by show w.heap.size ≠ w.heap.size + 1; omega) _) (by simp)
    have q1 : Blk ((W.setCell ⟨w.heap.size, 0, none⟩ (.slice A ys.length cap)).setCell ⟨w.heap.size + 1, 0, none⟩ (.int .i64 0)) (w.heap.size + 1) 39 #[.int .i64 0] := Blk.cast ((HM.out.r1.far (by show w.heap.size + 1 ≠ w.heap.size; omega) _).set_ 0 _) (by simp)
    have q2 := own_far (u := .int .i64 0) (b := w.heap.size + 1) (own_far (u := .slice A ys.length cap) (b := w.heap.size) HOWN.out (by omega)) (by omega)
    have q3 := (HM.out.kept.setCell (p := ⟨w.heap.size, 0, none⟩) (newHit (Nat.le_refl _)) (.slice A ys.length cap)).setCell (p := ⟨w.heap.size + 1, 0, none⟩) (newHit (by omega)) (.int .i64 0)
    generalize (W.setCell ⟨w.heap.size, 0, none⟩ (.slice A ys.length cap)).setCell ⟨w.heap.size + 1, 0, none⟩ (.int .i64 0) = V at *
    have hr : ∀ r, some D = some r → w.heap.size ≤ r ∧ ∃ o : Obj, V.heap[r]? = some o ∧ o.isCells = false := fun r e => by cases e; exact ⟨by omega, _, hK2, rfl⟩
    have c0 : (V.putObj D (.deferred none)).cell? ⟨w.heap.size, 0, none⟩ = some (.slice A ys.length cap) := by
      have := (grown_blk q0 (grownBy_putObj' V D (.deferred none)) (fun r e => (hr r e).2)).cell 0
      exact this
    have c1 : (V.putObj D (.deferred none)).cell? ⟨w.heap.size + 1, 0, none⟩ = some (.int .i64 0) := by
      have := (grown_blk q1 (grownBy_putObj' V D (.deferred none)) (fun r e => (hr r e).2)).cell 0
      exact this
    exact ⟨.tuple #[.slice A ys.length cap, .int .i64 0], by simp [results, Tryd.f57, go_sem, c0, c1], q3.grown (grownBy_putObj' V D (.deferred none)) (fun k e => .inr (hr k e).1), .inl ⟨ys, _, hsp, rfl, grown_own (own_base q2 (by omega)) (grownBy_putObj' V D (.deferred none)) (fun r e => (hr r e).2)⟩⟩
  case stop =>
    rintro D c pre W hD hpre ⟨rfl, hO⟩ hK
    gi_wp2
    refine ⟨by simp, .inl ⟨_, _, rfl, run_takeDeferred hK, ?_⟩⟩
    have hO' := hO.grown (grownBy_putObj' W D (.deferred none)) (fun r e => by cases e; exact ⟨by omega, _, hK, rfl⟩)
    have c0 : (W.putObj D (.deferred none)).cell? ⟨w.heap.size, 0, none⟩ = some (.slice none 0 0) := hO'.r0.cell 0
    have c1 : (W.putObj D (.deferred none)).cell? ⟨w.heap.size + 1, 0, none⟩ = some (.int .i64 3) := hO'.r1.cell 0
    refine ⟨.tuple #[.slice none 0 0, .int .i64 3], by simp [results, Tryd.f57, go_sem, c0, c1], hO'.kept, .inr ⟨?_, rfl⟩⟩
    have hsp := HSP.out
    rw [if_neg] at hsp
    · exact hsp
    · rintro ⟨h1, h2⟩
      obtain ⟨t, ht⟩ := hpre
      refine hO.bad ⟨?_, ?_⟩
      · rw [← ht, List.all_append, Bool.and_eq_true] at h1
        exact h1.1
      · have := congrArg List.length ht
        rw [List.length_append, List.length_map] at this
        omega

/-- What Split hands back: the labels in a row of its own, or nil and the error. -/
def SplitRes (w : World) (s : ByteArray) (e : Ending) (w' : World) : Prop :=
  Kept NoBlk w w' ∧ ((∃ l v, splitO s = some l ∧ e = .returned (.tuple #[v, .int .i64 0]) ∧ w'.ownsRow w.heap.size 9 1 v l.length (strV l)) ∨ (splitO s = none ∧ e = .returned (.tuple #[nilS, .int .i64 3])))
theorem splitO_none (s : ByteArray) (h : s.data.toList ≠ [47]) (hf : Lib.hasPrefix s.data.toList [47] = false ∨ Lib.hasSuffix s.data.toList [47] = true) : splitO s = none := by
  unfold splitO
  rw [if_neg h, if_neg]
  rintro ⟨h1, h2, -⟩
  rcases hf with hf | hf
  · rw [pre_yes s h1] at hf
    cases hf
  · obtain ⟨c, t, hs⟩ : ∃ c t, s.data.toList = c :: t := by
      cases hs : s.data.toList with
      | nil => rw [hs] at h1; cases h1
      | cons c t => exact ⟨c, t, rfl⟩
    rw [hs] at h h1 h2 hf
    obtain rfl : c = 47 := Option.some.inj h1
    rw [List.drop_one, List.tail_cons] at h2
    have hne : t ≠ [] := fun e => h (by rw [e])
    have : (pieces t).getLastD [] = [] := ends_slash t (by
      unfold Lib.hasSuffix at hf
      rw [List.isSuffixOf_iff_suffix] at hf
      obtain ⟨ys, hy⟩ := hf
      have h3 : (47 :: t).getLast? = some 47 := by rw [← hy]; simp
      cases t with
      | nil => exact absurd rfl hne
      | cons d t => exact h3)
    have hm : mk [] ∈ (pieces t).map mk := by
      refine List.mem_map.2 ⟨[], ?_, rfl⟩
      cases hp : pieces t with
      | nil => exact absurd hp (pieces_ne t)
      | cons a r =>
        rw [hp] at this
        have h4 := List.getLast_mem (l := a :: r) (by simp)
        rw [List.getLastD_cons] at this
        rw [List.getLast_eq_getLastD, this] at h4
        exact h4
    have := List.all_eq_true.1 h2 _ hm
    rw [label_nil] at this
    cases this
theorem split_any (w : World) (s : ByteArray) (hs : s.size ≤ 9223372036854775807) : Calls Tryd.prog 57 #[.string s] w (SplitRes w s) := by
  by_cases h : s.data.toList = [47]
  · refine (split_root w s h).mono fun e w' ⟨he, hk⟩ => ⟨hk, .inl ⟨[], nilS, ?_, he, own_none _ _ _ _⟩⟩
    unfold splitO
    rw [if_pos h]
  by_cases hf : Lib.hasPrefix s.data.toList [47] = false ∨ Lib.hasSuffix s.data.toList [47] = true
  · exact (split_form w s hs h hf).mono fun e w' ⟨he, hk⟩ => ⟨hk, .inr ⟨splitO_none s h hf, he⟩⟩
  · have h1 : s.data.toList.head? = some 47 := Classical.byContradiction fun k => hf (.inl (pre_no s k))
    have h2 : Lib.hasSuffix s.data.toList [47] = false := by
      cases h3 : Lib.hasSuffix s.data.toList [47]
      · rfl
      · exact absurd (.inr h3) hf
    exact split_walk w s hs h h1 h2
end Go.Proofs.YtfoeckaeongahaaDoor
