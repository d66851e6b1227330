/- The pool: Events, Fork, New. -/
import Derived.Test.YtfoeckaeongahaaDoorP7
namespace Go.Proofs.YtfoeckaeongahaaDoor
open Go.RowKit Go.Shelf
set_option maxRecDepth 100000

theorem Tryd.szFr : (Tryd.prog.info? 73).map (fun i => (i.zero.map (·.cells.size), i.size, i.bytes)) = some (some 3, 3, 32) := by kernel_rfl
theorem evV_one (l : List (Int × Int × Int)) : (evV l).all (·.oneCell') = true := by
  unfold evV
  induction l with
  | nil => rfl
  | cons x t ih => rw [List.flatMap_cons, List.all_append, ih]; rfl
set_option maxHeartbeats 1000000 in
theorem clone_ev (w : World) (v : Value) (n : Nat) (xs : List Value) (h : Row w 34 3 v n xs) (hn : n ≤ 1000000) (h1 : xs.all (·.oneCell') = true) : Calls Tryd.prog 29 #[v] w fun e w' => ∃ u, e = .returned u ∧ w'.ownsRow w.heap.size 34 3 u n xs ∧ Kept NoBlk w w' := by
  obtain ⟨A, cap, rfl, c1, c2, hA, -, -⟩ := h.form
  cases A with
  | none =>
    obtain ⟨rfl, rfl⟩ := hA rfl
    obtain rfl : xs = [] := List.eq_nil_of_length_eq_zero (by simpa using h.1)
    clear h hA
    have hq := fun w1 a l c => Lib.run_eql_slice_nil (P := Tryd.prog) w1 30 34 a l c 0 0 Tryd.underlying30
    go_enter Tryd.func29, Tryd.ntmps29
    go_wp2
    go_ret
    exact ⟨_, rfl, own_none _ _ _ _, Kept.refl _ _⟩
  | some a =>
    clear hA c1 c2
    have H := Lib.hid (h.kept ((Kept.refl NoBlk w).alloc (.cells #[] 34)) (fun _ _ _ e => e))
    clear h
    have hq := fun w1 a l c => Lib.run_eql_slice_nil (P := Tryd.prog) w1 30 34 a l c 0 0 Tryd.underlying30
    go_enter Tryd.func29, Tryd.ntmps29
    go_wp2_with (refine stopAt 7 rfl ?_)
    refine Held.mk ?_
    refine wpList_append_mine rfl (.tmp 5) (.tmp 6) 30 rfl 34 3 3 Tryd.underlying30 Tryd.szEv (by decide) w.heap.size (.slice (some ⟨w.heap.size, 0, none⟩) 0 0) 0 [] rfl (own_new (Blk.new w 34 #[]) (Nat.le_refl _)) (some a) n cap xs rfl H.out h1 (by simp only [maxLen]; omega) (by omega) (by simp) ?_
    intro A2 cap2 w3 hown3 hK3
    rw [List.nil_append, Nat.zero_add] at hown3
    have HO := Lib.hid hown3
    have HK := Lib.hid (Kept.fresh ((Kept.refl NoBlk w).alloc (.cells #[] 34)) hK3 (fun b e => e))
    clear hown3 hK3
    go_wp2
    go_ret
    exact ⟨_, rfl, HO.out, HK.out⟩
set_option maxHeartbeats 1000000 in
theorem clone_fr (w : World) (v : Value) (n : Nat) (xs : List Value) (h : Row w 73 3 v n xs) (hn : n ≤ 1000000) (h1 : xs.all (·.oneCell') = true) : Calls Tryd.prog 51 #[v] w fun e w' => ∃ u, e = .returned u ∧ w'.ownsRow w.heap.size 73 3 u n xs ∧ Kept NoBlk w w' := by
  obtain ⟨A, cap, rfl, c1, c2, hA, -, -⟩ := h.form
  cases A with
  | none =>
    obtain ⟨rfl, rfl⟩ := hA rfl
    obtain rfl : xs = [] := List.eq_nil_of_length_eq_zero (by simpa using h.1)
    clear h hA
    have hq := fun w1 a l c => Lib.run_eql_slice_nil (P := Tryd.prog) w1 64 73 a l c 0 0 Tryd.underlying64
    go_enter Tryd.func51, Tryd.ntmps51
    go_wp2
    go_ret
    exact ⟨_, rfl, own_none _ _ _ _, Kept.refl _ _⟩
  | some a =>
    clear hA c1 c2
    have H := Lib.hid (h.kept ((Kept.refl NoBlk w).alloc (.cells #[] 73)) (fun _ _ _ e => e))
    clear h
    have hq := fun w1 a l c => Lib.run_eql_slice_nil (P := Tryd.prog) w1 64 73 a l c 0 0 Tryd.underlying64
    go_enter Tryd.func51, Tryd.ntmps51
    go_wp2_with (refine stopAt 7 rfl ?_)
    refine Held.mk ?_
    refine wpList_append_mine rfl (.tmp 5) (.tmp 6) 64 rfl 73 3 32 Tryd.underlying64 Tryd.szFr (by decide) w.heap.size (.slice (some ⟨w.heap.size, 0, none⟩) 0 0) 0 [] rfl (own_new (Blk.new w 73 #[]) (Nat.le_refl _)) (some a) n cap xs rfl H.out h1 (by simp only [maxLen]; omega) (by omega) (by simp) ?_
    intro A2 cap2 w3 hown3 hK3
    rw [List.nil_append, Nat.zero_add] at hown3
    have HO := Lib.hid hown3
    have HK := Lib.hid (Kept.fresh ((Kept.refl NoBlk w).alloc (.cells #[] 73)) hK3 (fun b e => e))
    clear hown3 hK3
    go_wp2
    go_ret
    exact ⟨_, rfl, HO.out, HK.out⟩
theorem events_any (w : World) (pb fb : Nat) (S : PSt) (h : PI w pb fb S) (hl : S.ev.length ≤ 1000000) : Calls Tryd.prog 11 #[.pointer (some ⟨pb, 0, none⟩)] w fun e w' => ∃ v, e = .returned v ∧ w'.ownsRow w.heap.size 34 3 v S.ev.length (evV S.ev) ∧ Kept NoBlk w w' := by
  obtain ⟨u, hr, c13⟩ := h.cells.2.2.2
  have HC := Lib.hid (clone_ev w u S.ev.length (evV S.ev) hr hl (evV_one S.ev))
  clear h hr
  generalize S.ev.length = n at *
  generalize evV S.ev = xs at *
  go_enter Tryd.func11, Tryd.ntmps11
  go_wp2_with fail
  refine HC.out.mono ?_
  rintro x w1 ⟨v, rfl, ho, hk⟩
  have HO := Lib.hid ho
  have HK := Lib.hid hk
  clear ho hk
  go_wp2
  go_ret
  exact ⟨v, rfl, HO.out, HK.out⟩
theorem pool_lit (fv ev : Value) (S : PSt) : #[fv, .int .i64 (S.quota 0), .int .i64 (S.quota 1), .int .i64 (S.quota 2), .int .i64 (S.quota 3), .int .i64 (S.quota 4), .int .i64 (S.quota 5), .int .i64 (S.count 0), .int .i64 (S.count 1), .int .i64 (S.count 2), .int .i64 (S.count 3), .int .i64 (S.count 4), .int .i64 (S.count 5), ev] = AF (poolG fv ev S) 14 := by
  apply Array.ext_getElem?
  intro k
  by_cases hk : k < 14
  · rw [AF_get hk]
    have : k = 0 ∨ k = 1 ∨ k = 2 ∨ k = 3 ∨ k = 4 ∨ k = 5 ∨ k = 6 ∨ k = 7 ∨ k = 8 ∨ k = 9 ∨ k = 10 ∨ k = 11 ∨ k = 12 ∨ k = 13 := by omega
    rcases this with rfl | rfl | rfl | rfl | rfl | rfl | rfl | rfl | rfl | rfl | rfl | rfl | rfl | rfl <;> rfl
  · rw [Array.getElem?_eq_none (by simp; omega), Array.getElem?_eq_none (by rw [AF_size]; omega)]
def S0 : PSt := ⟨fun _ => 0, fun _ => ⟨#[]⟩, fun _ => 0, fun _ => 64, fun _ => 0, []⟩
theorem madeFr (n : Nat) : madeCells #[.int .u8 0, .string ⟨#[]⟩, .int .u8 0] (n * 3) = AF (frG S0) (n * 3) := by
  apply Array.ext
  · simp [madeCells, AF]
  · intro j h1 h2
    simp only [madeCells, AF, Array.getElem_map, Array.getElem_range, Array.getElem_ofFn]
    unfold frG S0
    dsimp only
    rcases (by omega : j % 3 = 0 ∨ j % 3 = 1 ∨ j % 3 = 2) with h | h | h
    · rw [if_pos h]; simp [h]
    · rw [if_neg (by omega), if_pos h]; simp [h]
    · rw [if_neg (by omega), if_neg (by omega)]; simp [h]
theorem makeFr (u : World) (n : Nat) (hn : n ≤ 64) : (Instr.makeSlice 64 (.int .i64 (n : Int)) (.int .i64 (n : Int))).run Tryd.prog u = .ok (.slice (some ⟨u.heap.size, 0, none⟩) n n) (u.alloc (.cells (AF (frG S0) (n * 3)) 73)) := by
  obtain ⟨i, z, hi, hz, hz1, hz2, hz3⟩ := infoParts Tryd.szFr
  have hzz : (Tryd.prog.info? 73).bind (fun i => i.zero.map (·.cells)) = some #[.int .u8 0, .string ⟨#[]⟩, .int .u8 0] := by kernel_rfl
  rw [hi] at hzz
  simp only [Option.bind_some, hz, Option.map_some, Option.some.injEq] at hzz
  have := run_makeSlice (P := Tryd.prog) u 64 73 i z Tryd.underlying64 hi hz .i64 .i64 (n : Int) (n : Int) (by omega) (by omega) (by rw [hz1]; omega) (by rw [hz2]; omega) (by omega)
  rw [this, hz1, hzz, Int.toNat_natCast, madeFr]
theorem idx_envI (w : World) (b off e : Nat) (h : e < 6) : (Instr.indexAt 65 (.pointer (some ⟨b, off, none⟩)) (.int .i64 (e : Int))).run Tryd.prog w = .ok (.pointer (some ⟨b, off + e, none⟩)) w := by
  have h1 : (0 : Int) ≤ (e : Int) ∧ (e : Int) < ((6 : Nat) : Int) := by omega
  rw [run_indexAt_array (P := Tryd.prog) w 65 _ .i64 (e : Int) (by kernel_rfl), show Tryd.prog.arrayLen 65 = 6 by kernel_rfl, if_pos h1, show Tryd.prog.elem 65 = 3 by kernel_rfl]
  simp [go_sem, Addr.add]
def qTo (j k : Nat) : Int := if k < j then 64 else 0
def SQ (j : Nat) : PSt := ⟨fun _ => 0, fun _ => ⟨#[]⟩, fun _ => 0, qTo j, fun _ => 0, []⟩
theorem qTo_six (k : Nat) (hk : k < 6) : qTo 6 k = 64 := if_pos hk
set_option maxHeartbeats 2000000 in
theorem new_some (w : World) (n : Nat) (h1 : 1 ≤ n) (h64 : n ≤ 64) : Calls Tryd.prog 27 #[.int .i64 (n : Int)] w fun e w' => e = .returned (.pointer (some ⟨w.heap.size + 1, 0, none⟩)) ∧ Blk w' (w.heap.size + 1) 67 (AF (poolG (.slice (some ⟨w.heap.size, 0, none⟩) n n) (.slice none 0 0) S0) 14) ∧ Blk w' w.heap.size 73 (AF (frG S0) (n * 3)) ∧ Kept NoBlk w w' := by
  have mk8 := fun u => makeFr u n h64
  have a1 : ¬ (n : Int) < 1 := by omega
  have a2 : ¬ (64 : Int) < (n : Int) := by omega
  have hx1 := fun w b e he => idx_envI w b 1 e he
  generalize AF (frG S0) (n * 3) = cs at *
  go_enter Tryd.func27, Tryd.ntmps27
  go_wp2
  go_loopw [15] (fun iv wr => ∃ j : Nat, j ≤ 6 ∧ iv = .int .i64 j ∧ Hid (Blk wr (w.heap.size + 1) 67 (AF (poolG (.slice (some ⟨w.heap.size, 0, none⟩) n n) (.slice none 0 0) (SQ j)) 14)) ∧ Hid (Blk wr w.heap.size 73 cs) ∧ Hid (Kept NoBlk w wr)) (fun iv _ => 6 - (intOf iv).toNat)
  case atStart =>
    refine ⟨0, by omega, rfl, Lib.hid ?_, Lib.hid ?_, Lib.hid ?_⟩
    · refine Blk.cast ?_ (pool_lit (.slice (some ⟨w.heap.size, 0, none⟩) n n) (.slice none 0 0) (SQ 0))
      exact Blk.new_at _ _ _ (by simp)
    · repeat (with_reducible first | exact Blk.new_at _ _ _ (by simp) | apply Blk.drew | apply Blk.drewN | apply Blk.alloc)
    · repeat (with_reducible first | exact Kept.refl _ _ | apply Kept.drew | apply Kept.drewN | apply Kept.alloc | exact oneHit | apply Kept.setCell)
  case round =>
    obtain ⟨j, hj, rfl, HB, HF, HK⟩ := hrel
    by_cases hlt : j < 6
    · have hlt' : (j : Int) < 6 := by omega
      have hxj := fun w b => hx1 w b j hlt
      have fz := HB.out.frozen
      have c1 : wr.cell? ⟨w.heap.size + 1, 1 + j, none⟩ = some (.int .i64 (qTo j j)) := by
        rw [HB.out.cell, AF_get (by omega)]
        unfold poolG
        rw [if_neg (by omega), if_pos (by omega), show 1 + j - 1 = j by omega]
        rfl
      have HB2 : Hid (Blk (wr.setCell ⟨w.heap.size + 1, 1 + j, none⟩ (.int .i64 64)) (w.heap.size + 1) 67 (AF (poolG (.slice (some ⟨w.heap.size, 0, none⟩) n n) (.slice none 0 0) (SQ (j + 1))) 14)) := Lib.hid (Blk.cast (HB.out.set_ (1 + j) (.int .i64 64)) (by
        rw [AF_set, poolG_quota _ _ _ _ hlt]
        refine congrArg (fun g => AF g 14) (poolG_same _ _ _ _ (funext fun k => ?_) rfl)
        show upd (qTo j) j 64 k = qTo (j + 1) k
        unfold upd qTo
        by_cases hk : k = j
        · rw [if_pos hk, if_pos (by omega)]
        · rw [if_neg hk]
          by_cases hk2 : k < j
          · rw [if_pos hk2, if_pos (by omega)]
          · rw [if_neg hk2, if_neg (by omega)]))
      have HF2 := Lib.hid (HF.out.far (p := ⟨w.heap.size + 1, 1 + j, none⟩) (by show w.heap.size ≠ w.heap.size + 1; omega) (.int .i64 64))
      have HK2 := Lib.hid (HK.out.setCell (p := ⟨w.heap.size + 1, 1 + j, none⟩) (newHit (by omega)) (.int .i64 64))
      clear HB HF HK hx1
      go_wp2
      go_roundw
      case rel => exact ⟨j + 1, by omega, by go_num, HB2, HF2, HK2⟩
      case measure => simp [intOf]; omega
    · obtain rfl : j = 6 := by omega
      go_wp2
      go_ret
      refine ⟨rfl, Blk.cast HB.out (AF_eq fun k hk => ?_), HF.out, HK.out⟩
      unfold poolG S0 SQ
      dsimp only
      by_cases h0 : k = 0
      · rw [if_pos h0, if_pos h0]
      · rw [if_neg h0, if_neg h0]
        by_cases h7 : k < 7
        · rw [if_pos h7, if_pos h7, qTo_six _ (by omega)]
        · rw [if_neg h7, if_neg h7]
theorem new_none (w : World) (n : Int) (h : n < 1 ∨ 64 < n) : Calls Tryd.prog 27 #[.int .i64 n] w fun e w' => e = .returned (.pointer none) ∧ w = w' := by
  by_cases h1 : n < 1
  · go_enter Tryd.func27, Tryd.ntmps27
    go_wp2
    go_ret
    exact ⟨rfl, rfl⟩
  · have h2 : 64 < n := by omega
    go_enter Tryd.func27, Tryd.ntmps27
    go_wp2
    go_ret
    exact ⟨rfl, rfl⟩
theorem new8 (w : World) : Calls Tryd.prog 27 #[.int .i64 8] w fun e w' => e = .returned (.pointer (some ⟨w.heap.size + 1, 0, none⟩)) ∧ PI w' (w.heap.size + 1) w.heap.size S0 ∧ Kept NoBlk w w' :=
  (new_some w 8 (by omega) (by omega)).mono fun e w' ⟨he, hb, hf, hk⟩ => ⟨he, ⟨8, ⟨⟨_, Row.nil _ _ _, hb⟩, ⟨_, hf, fun _ _ => rfl⟩, by omega, by simp [maxLen]⟩⟩, hk⟩
theorem S0_fit : Fit S0 := ⟨fun _ => by show 0 < 64; omega, fun _ => by show (0 : Int) ≤ 0 ∧ (0 : Int) ≤ 1000; omega, by show 0 ≤ 1000000; omega⟩
set_option maxHeartbeats 4000000 in
theorem fork_any (w : World) (pb fb : Nat) (S : PSt) (h : PI w pb fb S) : Calls Tryd.prog 24 #[.pointer (some ⟨pb, 0, none⟩)] w fun e w' => ∃ pb' fb', e = .returned (.pointer (some ⟨pb', 0, none⟩)) ∧ PI w' pb' fb' S ∧ w.heap.size ≤ pb' ∧ w.heap.size ≤ fb' ∧ Kept NoBlk w w' := by
  obtain ⟨cap, h⟩ := h
  obtain ⟨v, hr, hb⟩ := h.pool
  obtain ⟨g, hg, hge⟩ := h.fr
  obtain ⟨A, ec, rfl, e1, e2, -⟩ := hr.form
  have hall14 : ((AF (poolG (frV fb cap) (.slice A S.ev.length ec) S) 14).toList).all (·.oneCell') = true := by
    rw [List.all_eq_true]
    intro x hx
    obtain ⟨k, hk, rfl⟩ := List.getElem_of_mem hx
    have hk' : k < 14 := by simpa [AF] using hk
    have e : ((AF (poolG (frV fb cap) (.slice A S.ev.length ec) S) 14).toList)[k]? = some (poolG (frV fb cap) (.slice A S.ev.length ec) S k) := by rw [Array.getElem?_toList, AF_get hk']
    rw [List.getElem?_eq_getElem hk] at e
    rw [Option.some.inj e]
    unfold poolG frV
    split
    · rfl
    · split
      · rfl
      · split <;> rfl
  have hrow : Row w 73 3 (frV fb cap) 8 ((AF (frG S) 24).toList) := by
    refine ⟨by simp [AF], .inr ⟨fb, 0, cap, AF g (cap * 3), rfl, hg, h.big, h.few, by have := h.big; rw [AF_size]; omega, ?_⟩⟩
    apply List.ext_getElem?
    intro k
    rw [List.drop_zero, List.getElem?_take, Array.getElem?_toList, Array.getElem?_toList]
    have := h.big
    by_cases hk : k < 24
    · rw [if_pos (by omega), AF_get (by omega), AF_get hk, hge k hk]
    · rw [if_neg (by omega), Array.getElem?_eq_none (by rw [AF_size]; omega)]
  have hall : ((AF (frG S) 24).toList).all (·.oneCell') = true := by
    rw [List.all_eq_true]
    intro x hx
    obtain ⟨k, hk, rfl⟩ := List.getElem_of_mem hx
    have hk' : k < 24 := by simpa [AF] using hk
    have e : ((AF (frG S) 24).toList)[k]? = some (frG S k) := by rw [Array.getElem?_toList, AF_get hk']
    rw [List.getElem?_eq_getElem hk] at e
    rw [Option.some.inj e]
    unfold frG
    split
    · rfl
    · split <;> rfl
  have HBP := Lib.hid hb
  have HEV := Lib.hid hr
  have HROW := Lib.hid hrow
  have HC := Lib.hid (fun w h => clone_fr w (frV fb cap) 8 ((AF (frG S) 24).toList) h (by omega) hall)
  have hltp := hb.lt
  have HNB := Lib.hid (fun (cs : Array Value) (b : Nat) (w1 : World) (hB : Blk w1 b 67 (cs.toList.take 0 ++ (AF (poolG (frV fb cap) (.slice A S.ev.length ec) S) 14).toList ++ cs.toList.drop (0 + (AF (poolG (frV fb cap) (.slice A S.ev.length ec) S) 14).size)).toArray) (hcs : cs.size = 14) => (Blk.cast hB (by
    rw [AF_size, List.take_zero, List.nil_append, List.drop_eq_nil_of_le (by rw [Array.length_toList]; omega), List.append_nil]) : Blk w1 b 67 (AF (poolG (frV fb cap) (.slice A S.ev.length ec) S) 14)))
  clear h hb hg hge hrow hall hr e1 e2
  have hsz : (Tryd.prog.info? 67).map (·.size) = some (AF (poolG (frV fb cap) (.slice A S.ev.length ec) S) 14).size := by rw [AF_size]; kernel_rfl
  have hfv : poolG (frV fb cap) (.slice A S.ev.length ec) S 0 = frV fb cap := rfl
  obtain ⟨V, hV⟩ : ∃ V, AF (poolG (frV fb cap) (.slice A S.ev.length ec) S) 14 = V := ⟨_, rfl⟩
  rw [hV] at hsz hall14
  have HBP : Hid (Blk w pb 67 V) := Lib.hid (by rw [← hV]; exact HBP.out)
  have hVs : V.size = 14 := by rw [← hV, AF_size]
  rw [hV] at HNB
  have HV := Lib.hid hV
  clear hV
  go_enter Tryd.func24, Tryd.ntmps24
  go_wp2_with (first | (refine wpList_load_row rfl 67 (.tmp 7) rfl pb rfl 67 _ (0, 0) _ HBP.out Tryd.underlying67 rfl hsz ?_) | (refine wpList_store_blk rfl (.tmp 3) (.tmp 8) 67 rfl w.heap.size 0 67 _ (Blk.new _ _ _) rfl V rfl hsz (by rw [hVs]; decide) hall14 ?_; intro w1 hB1 hK1; have HB1 := Lib.hid (HNB.out _ _ _ hB1 rfl); have HK1 := Lib.hid (Kept.fresh ((Kept.refl NoBlk w).alloc _) hK1 (fun b e => Nat.le_of_eq e.symm)); clear hB1 hK1; have cA : w1.cell? ⟨w.heap.size, 0, none⟩ = some (.slice (some ⟨fb, 0, none⟩) 8 cap) := (by have e := HB1.out.cell 0; rw [← HV.out, AF_get (by omega)] at e; exact e); have cP : w1.cell? ⟨pb, 0, none⟩ = some (.slice (some ⟨fb, 0, none⟩) 8 cap) := (by have e := (HBP.out.kept HK1.out (fun e => e)).cell 0; rw [← HV.out, AF_get (by omega)] at e; exact e)))
  have hsw := HK1.out.size
  have hsw2 := HB1.out.lt
  refine (HC.out _ (HROW.out.kept HK1.out (fun _ _ _ e => e))).mono ?_
  rintro x w2 ⟨u, rfl, ho, hk⟩
  obtain ⟨-, ⟨rfl, h0⟩ | ⟨g', cap', cur, rfl, hg1, hcur, hn, hm, hsz, htk⟩⟩ := ho
  · cases h0
  have hB1 := Blk.cast (HB1.out.kept hk (fun e => e)) HV.out.symm
  have cB := hB1.cell 0
  rw [AF_get (by omega)] at cB
  have fB := hB1.frozen 0
  have HP : Hid (PI (w2.setCell ⟨w.heap.size, 0, none⟩ (.slice (some ⟨g', 0, none⟩) 8 cap')) w.heap.size g' S) := Lib.hid ⟨cap', by
    refine ⟨⟨.slice A S.ev.length ec, row_far (HEV.out.kept (HK1.out.trans hk) (fun _ _ _ e => e)) hB1 (by decide) _ _, ?_⟩, ⟨fun k => cur.getD k undef, ?_, fun k hk24 => ?_⟩, hn, hm⟩
    · refine Blk.cast (hB1.set_ 0 _) ?_
      rw [AF_set]
      refine AF_eq fun k _ => ?_
      unfold upd poolG
      by_cases h0 : k = 0
      · rw [if_pos h0, if_pos h0]; rfl
      · rw [if_neg h0, if_neg h0, if_neg h0]
    · refine Blk.cast (Blk.far (show Blk w2 g' 73 cur from hcur) (by show g' ≠ w.heap.size; omega) _) ?_
      apply Array.ext_getElem?
      intro k
      by_cases hk' : k < cap' * 3
      · rw [AF_get hk', Array.getElem?_eq_getElem (by omega)]
        simp [Array.getD, show k < cur.size by omega]
      · rw [Array.getElem?_eq_none (by omega), Array.getElem?_eq_none (by rw [AF_size]; omega)]
    · have e := congrArg (fun l : List Value => l[k]?) htk
      rw [List.getElem?_take, if_pos (by omega), Array.getElem?_toList, Array.getElem?_toList, AF_get hk24, Array.getElem?_eq_getElem (by omega)] at e
      rw [← Option.some.inj e]
      simp [Array.getD, show k < cur.size by omega]⟩
  have HK2 := Lib.hid ((HK1.out.trans hk).setCell (p := ⟨w.heap.size, 0, none⟩) (newHit (Nat.le_refl _)) (.slice (some ⟨g', 0, none⟩) 8 cap'))
  have hlt' : w.heap.size ≤ g' := by omega
  clear hB1 hcur htk hk HB1 HEV HROW cP cA
  go_wp2
  go_ret
  exact ⟨w.heap.size, g', rfl, HP.out, Nat.le_refl _, hlt', HK2.out⟩
end Go.Proofs.YtfoeckaeongahaaDoor
