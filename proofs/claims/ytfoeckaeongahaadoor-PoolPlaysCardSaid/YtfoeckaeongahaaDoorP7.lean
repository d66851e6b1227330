/- The pool: the frames that are such (Frames, Room). -/
import Derived.Test.YtfoeckaeongahaaDoorP6
namespace Go.Proofs.YtfoeckaeongahaaDoor
open Go.RowKit Go.Shelf
set_option maxRecDepth 100000

def frmV (m : Nat) (n : ByteArray) (r : Int) : Value := .agg #[.int .u8 (m : Int), .string n, .int .u8 r]
theorem isMine (w : World) (Be e m : Nat) (n : ByteArray) (r : Int) (hm : m < 64) (hB : Blk w Be 5 #[.int .u8 (e : Int)]) : Calls Tryd.prog 33 #[frmV m n r, .pointer (some ⟨Be, 0, none⟩)] w fun x w' => x = .returned (.bool (decide (e < 6) && m.testBit e)) ∧ Kept NoBlk w w' := by
  have c0 := hB.cell 0
  have lt0 := hB.lt
  simp only [List.getElem?_toArray, List.getElem?_cons_zero] at c0
  have hk : Kept NoBlk w (w.alloc (.cells #[.int .u8 (m : Int), .string n, .int .u8 r] 73)) := (Kept.refl _ _).alloc _
  have HK := Lib.hid hk
  unfold frmV
  clear hB hk
  by_cases he : e < 6
  · have HH := Lib.hid (fun w => has_any w m e hm he)
    have he' : (e : Int) < 6 := by omega
    rw [decide_eq_true he, Bool.true_and]
    generalize m.testBit e = tb at *
    clear he
    go_enter Tryd.func33, Tryd.ntmps33
    go_wp2_with fail
    refine (HH.out _).mono ?_
    rintro x w1 ⟨rfl, rfl⟩
    go_wp2
    go_ret
    exact ⟨rfl, HK.out⟩
  · have he' : ¬ (e : Int) < 6 := by omega
    rw [decide_eq_false he, Bool.false_and]
    clear he
    go_enter Tryd.func33, Tryd.ntmps33
    go_wp2
    go_ret
    exact ⟨rfl, HK.out⟩
theorem isFree (w : World) (m : Nat) (n : ByteArray) (r : Int) : Calls Tryd.prog 40 #[frmV m n r] w fun x w' => x = .returned (.bool (decide (m = 0))) ∧ Kept NoBlk w w' := by
  have hk : Kept NoBlk w (w.alloc (.cells #[.int .u8 (m : Int), .string n, .int .u8 r] 73)) := (Kept.refl _ _).alloc _
  have HK := Lib.hid hk
  unfold frmV
  clear hk
  by_cases h0 : m = 0
  · subst h0
    go_enter Tryd.func40, Tryd.ntmps40
    go_wp2
    go_ret
    exact ⟨rfl, HK.out⟩
  · have h0' : (((m : Nat) : Int) == 0) = false := beq_eq_false_iff_ne.2 (by omega)
    rw [decide_eq_false h0]
    clear h0
    go_enter Tryd.func40, Tryd.ntmps40
    go_wp2
    go_ret
    exact ⟨rfl, HK.out⟩
/-- The frames ahead of k that are such. -/
def suchTo (t : Nat → Bool) (k : Nat) : List Nat := (List.range k).filter t
theorem suchTo_succ (t : Nat → Bool) (k : Nat) : suchTo t (k + 1) = suchTo t k ++ if t k = true then [k] else [] := by
  unfold suchTo
  rw [List.range_succ, List.filter_append]
  congr 1
  rw [List.filter_cons]
  split <;> rfl
theorem suchTo_le (t : Nat → Bool) (k : Nat) : (suchTo t k).length ≤ k := by
  unfold suchTo
  exact Nat.le_trans (List.length_filter_le _ _) (by simp)
def framesL (S : PSt) (e : Nat) : List Nat := suchTo (fun f => decide (e < 6) && (S.own f).testBit e) 8
def roomL (S : PSt) : List Nat := suchTo (fun f => decide (S.own f = 0)) 8
theorem Tryd.szU : (Tryd.prog.info? 5).map (fun i => (i.zero.map (·.cells.size), i.size, i.bytes)) = some (some 1, 1, 1) := by kernel_rfl
set_option maxHeartbeats 8000000 in
theorem those_mine (w : World) (pb fb : Nat) (S : PSt) (Be e : Nat) (h : PI w pb fb S) (hS : Fit S) (hB : Blk w Be 5 #[.int .u8 (e : Int)]) : Calls Tryd.prog 32 #[.pointer (some ⟨pb, 0, none⟩), .func (.func 33) #[] #[.pointer (some ⟨Be, 0, none⟩)]] w fun x w' => Nums w w' (suchTo (fun f => decide (e < 6) && (S.own f).testBit e) 8) x := by
  obtain ⟨T, hT⟩ : ∃ T : Nat → Bool, (fun f => decide (e < 6) && (S.own f).testBit e) = T := ⟨_, rfl⟩
  have HC : Hid (∀ (w1 : World), Kept NoBlk w w1 → ∀ k, Calls Tryd.prog 33 #[frmV (S.own k) (S.gn k) (S.gr k), .pointer (some ⟨Be, 0, none⟩)] w1 fun x w' => x = .returned (.bool (T k)) ∧ Kept NoBlk w1 w') := Lib.hid fun w1 hk k => by
    rw [← hT]
    exact isMine w1 Be e (S.own k) _ _ (hS.own k) (hB.kept hk (fun e => e))
  rw [hT]
  have HTS := Lib.hid (suchTo_succ T)
  have HTL := Lib.hid (suchTo_le T)
  clear hT
  obtain ⟨cap, hcap, c0⟩ := h.cells.1
  have H := Lib.hid h
  have hx := fun w k hk => idx_frame w .i64 fb cap k hk
  unfold frV at c0
  clear h
  go_enter Tryd.func32, Tryd.ntmps32
  go_wp2
  go_loopw [15, 5] (fun iv ov wr => ∃ (k : Nat) (A : Option Addr) (cap : Nat), k ≤ 8 ∧ iv = .int .i64 k ∧ ov = .slice A (suchTo T k).length cap ∧ Hid (wr.ownsRow w.heap.size 5 1 (.slice A (suchTo T k).length cap) (suchTo T k).length (numV (suchTo T k))) ∧ Kept NoBlk w wr) (fun iv _ _ => 8 - (intOf iv).toNat)
  case atStart => exact ⟨0, none, 0, by omega, rfl, rfl, Lib.hid (own_none _ _ _ _), Kept.refl _ _⟩
  case round =>
    obtain ⟨k, A, cap2, hk8, rfl, rfl, HO, hK⟩ := hrel
    have hlw := hK.size
    have hle := HTL.out k
    have HK := Lib.hid hK
    by_cases hlt : k < 8
    · have hlt' : (k : Int) < 8 := by omega
      have hp := H.out.keptNo hK
      obtain ⟨c3, c4, c5⟩ := hp.frame k hlt
      have hxk := fun w => hx w k hlt
      have hs := HTS.out k
      have HCk := Lib.hid (fun w1 hk => HC.out w1 hk k)
      have ltf := hp.ltF
      clear hK hp hx
      unfold frmV at HCk
      generalize S.own k = m at *
      generalize S.gn k = n at *
      generalize S.gr k = r at *
      go_wp2_with fail
      refine (HCk.out _ (HK.out.alloc _)).mono ?_
      rintro x w1 ⟨rfl, hk1⟩
      have HK1 := Lib.hid ((HK.out.alloc (.cells #[.int .u8 (m : Int), .string n, .int .u8 r] 73)).trans hk1)
      have HO1 := Lib.hid (own_kept (own_kept (G := NoBlk) HO.out ((Kept.refl _ _).alloc (.cells #[.int .u8 (m : Int), .string n, .int .u8 r] 73)) (fun _ _ e => e)) hk1 (fun _ _ e => e))
      have hlw1 := HK1.out.size
      clear hk1 HCk c3 c4 c5
      cases ht : T k with
      | false =>
        rw [ht, if_neg (by decide), List.append_nil] at hs
        go_wp2
        go_roundw
        case rel => exact ⟨k + 1, A, cap2, by omega, by go_num, by rw [hs], by rw [hs]; exact HO1, HK1.out⟩
        case measure => simp [intOf]; omega
      | true =>
        rw [ht, if_pos rfl] at hs
        have hlen : (suchTo T (k + 1)).length = (suchTo T k).length + 1 := by rw [hs, List.length_append, List.length_singleton]
        have hsv : Hid (numV (suchTo T (k + 1)) = numV (suchTo T k) ++ [.int .u8 (k : Int)]) := Lib.hid (by rw [hs, numV_snoc])
        have hk8u : IntKind.u8.wrap (k : Int) = (k : Int) := by rw [IntKind.wrap_u8]; omega
        clear hs
        generalize (suchTo T k).length = q at *
        generalize numV (suchTo T k) = xs at *
        go_wp2_with (refine stopAt 27 rfl ?_)
        refine Held.mk ?_
        refine wpList_append_mine rfl (.tmp 23) (.tmp 26) 37 rfl 5 1 1 Tryd.underlying37 Tryd.szU (by decide) w.heap.size (.slice A q cap2) q xs rfl (own_kept (G := NoBlk) HO1.out ((Kept.refl _ _).alloc _) (fun _ _ e => e)) (some ⟨w1.heap.size, 0, none⟩) 1 1 [.int .u8 (k : Int)] rfl (Row.new (Blk.new _ _ _) rfl (by simp [maxLen])) rfl (by simp only [maxLen]; omega) (by omega) (by simp; omega) ?_
        intro A2 cap3 w3 hown3 hK3
        rw [← hsv.out] at hown3
        rw [← hlen] at hown3 ⊢
        have HO3 := Lib.hid hown3
        have HK3 := Lib.hid (Kept.fresh (HK1.out.alloc _) hK3 (fun b e => e))
        clear hown3 hK3
        go_wp2
        go_roundw
        case rel => exact ⟨k + 1, A2, cap3, by omega, by go_num, by rw [hlen], HO3, HK3.out⟩
        case measure => simp [intOf]; omega
    · obtain rfl : k = 8 := by omega
      clear hK
      go_wp2
      go_ret
      exact ⟨_, rfl, HO.out, HK.out⟩
set_option maxHeartbeats 8000000 in
theorem those_free (w : World) (pb fb : Nat) (S : PSt) (h : PI w pb fb S) : Calls Tryd.prog 32 #[.pointer (some ⟨pb, 0, none⟩), .func (.func 40) #[] #[]] w fun x w' => Nums w w' (suchTo (fun f => decide (S.own f = 0)) 8) x := by
  obtain ⟨T, hT⟩ : ∃ T : Nat → Bool, (fun f => decide (S.own f = 0)) = T := ⟨_, rfl⟩
  have HC : Hid (∀ (w1 : World), Kept NoBlk w w1 → ∀ k, Calls Tryd.prog 40 #[frmV (S.own k) (S.gn k) (S.gr k)] w1 fun x w' => x = .returned (.bool (T k)) ∧ Kept NoBlk w1 w') := Lib.hid fun w1 hk k => by
    rw [← hT]
    exact isFree w1 (S.own k) _ _
  rw [hT]
  have HTS := Lib.hid (suchTo_succ T)
  have HTL := Lib.hid (suchTo_le T)
  clear hT
  obtain ⟨cap, hcap, c0⟩ := h.cells.1
  have H := Lib.hid h
  have hx := fun w k hk => idx_frame w .i64 fb cap k hk
  unfold frV at c0
  clear h
  go_enter Tryd.func32, Tryd.ntmps32
  go_wp2
  go_loopw [15, 5] (fun iv ov wr => ∃ (k : Nat) (A : Option Addr) (cap : Nat), k ≤ 8 ∧ iv = .int .i64 k ∧ ov = .slice A (suchTo T k).length cap ∧ Hid (wr.ownsRow w.heap.size 5 1 (.slice A (suchTo T k).length cap) (suchTo T k).length (numV (suchTo T k))) ∧ Kept NoBlk w wr) (fun iv _ _ => 8 - (intOf iv).toNat)
  case atStart => exact ⟨0, none, 0, by omega, rfl, rfl, Lib.hid (own_none _ _ _ _), Kept.refl _ _⟩
  case round =>
    obtain ⟨k, A, cap2, hk8, rfl, rfl, HO, hK⟩ := hrel
    have hlw := hK.size
    have hle := HTL.out k
    have HK := Lib.hid hK
    by_cases hlt : k < 8
    · have hlt' : (k : Int) < 8 := by omega
      have hp := H.out.keptNo hK
      obtain ⟨c3, c4, c5⟩ := hp.frame k hlt
      have hxk := fun w => hx w k hlt
      have hs := HTS.out k
      have HCk := Lib.hid (fun w1 hk => HC.out w1 hk k)
      have ltf := hp.ltF
      clear hK hp hx
      unfold frmV at HCk
      generalize S.own k = m at *
      generalize S.gn k = n at *
      generalize S.gr k = r at *
      go_wp2_with fail
      refine (HCk.out _ (HK.out.alloc _)).mono ?_
      rintro x w1 ⟨rfl, hk1⟩
      have HK1 := Lib.hid ((HK.out.alloc (.cells #[.int .u8 (m : Int), .string n, .int .u8 r] 73)).trans hk1)
      have HO1 := Lib.hid (own_kept (own_kept (G := NoBlk) HO.out ((Kept.refl _ _).alloc (.cells #[.int .u8 (m : Int), .string n, .int .u8 r] 73)) (fun _ _ e => e)) hk1 (fun _ _ e => e))
      have hlw1 := HK1.out.size
      clear hk1 HCk c3 c4 c5
      cases ht : T k with
      | false =>
        rw [ht, if_neg (by decide), List.append_nil] at hs
        go_wp2
        go_roundw
        case rel => exact ⟨k + 1, A, cap2, by omega, by go_num, by rw [hs], by rw [hs]; exact HO1, HK1.out⟩
        case measure => simp [intOf]; omega
      | true =>
        rw [ht, if_pos rfl] at hs
        have hlen : (suchTo T (k + 1)).length = (suchTo T k).length + 1 := by rw [hs, List.length_append, List.length_singleton]
        have hsv : Hid (numV (suchTo T (k + 1)) = numV (suchTo T k) ++ [.int .u8 (k : Int)]) := Lib.hid (by rw [hs, numV_snoc])
        have hk8u : IntKind.u8.wrap (k : Int) = (k : Int) := by rw [IntKind.wrap_u8]; omega
        clear hs
        generalize (suchTo T k).length = q at *
        generalize numV (suchTo T k) = xs at *
        go_wp2_with (refine stopAt 27 rfl ?_)
        refine Held.mk ?_
        refine wpList_append_mine rfl (.tmp 23) (.tmp 26) 37 rfl 5 1 1 Tryd.underlying37 Tryd.szU (by decide) w.heap.size (.slice A q cap2) q xs rfl (own_kept (G := NoBlk) HO1.out ((Kept.refl _ _).alloc _) (fun _ _ e => e)) (some ⟨w1.heap.size, 0, none⟩) 1 1 [.int .u8 (k : Int)] rfl (Row.new (Blk.new _ _ _) rfl (by simp [maxLen])) rfl (by simp only [maxLen]; omega) (by omega) (by simp; omega) ?_
        intro A2 cap3 w3 hown3 hK3
        rw [← hsv.out] at hown3
        rw [← hlen] at hown3 ⊢
        have HO3 := Lib.hid hown3
        have HK3 := Lib.hid (Kept.fresh (HK1.out.alloc _) hK3 (fun b e => e))
        clear hown3 hK3
        go_wp2
        go_roundw
        case rel => exact ⟨k + 1, A2, cap3, by omega, by go_num, by rw [hlen], HO3, HK3.out⟩
        case measure => simp [intOf]; omega
    · obtain rfl : k = 8 := by omega
      clear hK
      go_wp2
      go_ret
      exact ⟨_, rfl, HO.out, HK.out⟩
theorem frames_any (w : World) (pb fb : Nat) (S : PSt) (e : Nat) (h : PI w pb fb S) (hS : Fit S) : Calls Tryd.prog 13 #[.pointer (some ⟨pb, 0, none⟩), .int .u8 (e : Int)] w fun x w' => Nums w w' (framesL S e) x := by
  have HT := Lib.hid (fun w (h : PI w pb fb S) Be hB => those_mine w pb fb S Be e h hS hB)
  have HB := Lib.hid (Blk.new w 5 #[.int .u8 (e : Int)])
  have HK : Hid (Kept NoBlk w (w.alloc (.cells #[.int .u8 (e : Int)] 5))) := Lib.hid ((Kept.refl _ _).alloc _)
  have H := Lib.hid (h.keptNo HK.out)
  unfold framesL
  clear h hS
  go_enter Tryd.func13, Tryd.ntmps13
  go_wp2_with fail
  refine (HT.out _ H.out _ HB.out).mono ?_
  rintro x w1 ⟨v, rfl, ho, hk⟩
  have HO := Lib.hid (own_base (base' := w.heap.size) ho (by simp))
  have HK2 := Lib.hid (HK.out.trans hk)
  clear ho hk
  go_wp2
  go_ret
  exact ⟨v, rfl, HO.out, HK2.out⟩
theorem room_any (w : World) (pb fb : Nat) (S : PSt) (h : PI w pb fb S) : Calls Tryd.prog 22 #[.pointer (some ⟨pb, 0, none⟩)] w fun x w' => Nums w w' (roomL S) x := by
  have HT := Lib.hid (those_free w pb fb S h)
  unfold roomL
  clear h
  go_enter Tryd.func22, Tryd.ntmps22
  go_wp2_with fail
  refine HT.out.mono ?_
  rintro x w1 ⟨v, rfl, ho, hk⟩
  have HO := Lib.hid ho
  have HK2 := Lib.hid hk
  clear ho hk
  go_wp2
  go_ret
  exact ⟨v, rfl, HO.out, HK2.out⟩
end Go.Proofs.YtfoeckaeongahaaDoor
