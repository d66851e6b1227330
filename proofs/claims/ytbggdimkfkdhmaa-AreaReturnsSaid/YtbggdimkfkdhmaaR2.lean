/- The contracts of the reference's area: Return, Upcall. -/
import Derived.Test.YtbggdimkfkdhmaaR1
namespace Go.Proofs.Ytbggdimkfkdhmaa
open Go.RowKit

theorem rreturn_dead (w : World) (g : Nat) (S : St) (h : IsR w g S) (hd : S.dead = true) :
   Calls Try.prog 39 #[.pointer (some ⟨g, 0, none⟩)] w fun e w' => e = .returned (.int .i64 9) ∧ w = w' := by
  obtain ⟨v, hB, hR, hl⟩ := h
  obtain ⟨rg, kept, to, has, dead⟩ := S
  obtain rfl : dead = true := hd
  have hc := hB.cell
  simp only [arrR] at hc
  clear hB hR
  go_enter Try.func39, Try.ntmps39
  go_wp2
  go_ret
  exact ⟨rfl, rfl⟩

theorem rreturn_none (w : World) (g : Nat) (S : St) (h : IsR w g S) (hd : S.dead = false) (hk : S.kept = []) :
   Calls Try.prog 39 #[.pointer (some ⟨g, 0, none⟩)] w fun e w' => e = .returned (.int .i64 9) ∧ w = w' := by
  obtain ⟨v, hB, hR, hl⟩ := h
  obtain ⟨A, cap, rfl, h1, h2, h3, h4, h5⟩ := hR.form
  obtain ⟨rg, kept, to, has, dead⟩ := S
  obtain rfl : dead = false := hd
  obtain rfl : kept = [] := hk
  have hc := hB.cell
  simp only [arrR] at hc
  clear hB hR h4 h5
  go_enter Try.func39, Try.ntmps39
  go_wp2
  go_ret
  exact ⟨rfl, rfl⟩

set_option maxHeartbeats 4000000 in
theorem rreturn_some (w : World) (g : Nat) (S : St) (h : IsR w g S) (hd : S.dead = false) (l : List (Nat → Int)) (a : Nat → Int) (hk : S.kept = l ++ [a]) :
   Calls Try.prog 39 #[.pointer (some ⟨g, 0, none⟩)] w fun e w' => e = .returned (.int .i64 0) ∧ IsR w' g { S with rg := a, kept := l } ∧ Kept (OneBlk g) w w' := by
  obtain ⟨v, hB, hR, hl⟩ := h
  obtain ⟨rg, kept, to, has, dead⟩ := S
  obtain rfl : dead = false := hd
  obtain rfl : kept = l ++ [a] := hk
  simp only [List.length_append, List.length_cons, List.length_nil, Nat.zero_add] at hR hl
  obtain ⟨hxl, ⟨_, hq⟩ | ⟨b, cap, cur, rfl, hb, hn, hm, hs, ht⟩⟩ := hR
  · omega
  have hc := hB.cell
  have hf := hB.frozen
  have hlt := hB.lt
  have hcb := hb.cell
  have hgb : g ≠ b := hB.ne_ hb (by decide)
  have hcur : ∀ j, j < 9 → cur[l.length * 9 + j]? = (regCells a)[j]? := by
    intro j hj
    rw [← rows_last l a j hj, ← ht, List.getElem?_take, if_pos (by omega), Array.getElem?_toList]
  have k0 : cur[l.length * 9]? = some (.int .u16 (a 0)) := by simpa [regCells] using hcur 0 (by omega)
  have k1 : cur[l.length * 9 + 1]? = some (.int .u16 (a 1)) := by simpa [regCells] using hcur 1 (by omega)
  have k2 : cur[l.length * 9 + 2]? = some (.int .u16 (a 2)) := by simpa [regCells] using hcur 2 (by omega)
  have k3 : cur[l.length * 9 + 3]? = some (.int .u16 (a 3)) := by simpa [regCells] using hcur 3 (by omega)
  have k4 : cur[l.length * 9 + 4]? = some (.int .u16 (a 4)) := by simpa [regCells] using hcur 4 (by omega)
  have k5 : cur[l.length * 9 + 5]? = some (.int .u16 (a 5)) := by simpa [regCells] using hcur 5 (by omega)
  have k6 : cur[l.length * 9 + 6]? = some (.int .u16 (a 6)) := by simpa [regCells] using hcur 6 (by omega)
  have k7 : cur[l.length * 9 + 7]? = some (.int .u16 (a 7)) := by simpa [regCells] using hcur 7 (by omega)
  have k8 : cur[l.length * 9 + 8]? = some (.int .u16 (a 8)) := by simpa [regCells] using hcur 8 (by omega)
  have hRow : Row w 31 9 (.slice (some ⟨b, 0, none⟩) l.length cap) l.length (rowsOf l) := by
    refine ⟨rowsOf_length l, .inr ⟨b, cap, cur, rfl, hb, by omega, hm, by omega, ?_⟩⟩
    have e : rowsOf (l ++ [a]) = rowsOf l ++ rowsOf [a] := by simp [rowsOf]
    rw [e] at ht
    have := congrArg (List.take (l.length * 9)) ht
    rw [List.take_take, Nat.min_eq_left (by omega), List.take_append_of_le_length (by rw [rowsOf_length]; omega), List.take_of_length_le (l := rowsOf l) (by rw [rowsOf_length]; omega)] at this
    exact this
  have HB := Lib.hid hB
  have HR := Lib.hid hRow
  have Hm := Lib.hid hm
  have Hone := Lib.hid (rowsOf_one l)
  have hl' : l.length ≤ 3 := by omega
  unfold maxLen at hm
  simp only [arrR] at hc
  generalize hN : l.length = n at *
  have HN := Lib.hid hN
  clear hB hb hRow hs ht hxl hcur hN
  go_enter Try.func39, Try.ntmps39
  go_wp2
  have hwn : IntKind.i64.wrap (n : Int) = n := IntWalk.i64_in _ (by omega)
  have hlt0 : (n : Int) < (n : Int) + 1 := by omega
  have hcap0 : (n : Int) ≤ (cap : Int) := by omega
  refine wp_region_plan (by kernel_rfl) (.q 0 <| .q 1 <| .q 2 <| .q 3 <| .q 4 <| .q 5 <| .q 6 <| .q 7 <| .q 8 <| .q 9 <| .q 10 <| .q 11 <| .q 12 <| .q 13 <| .q 14 <| .e 15 [] <| .nil) (by kernel_rfl) (by kernel_rfl) ?_
  repeat (refine plan_q rfl (fun K hK => ?_); go_simp; refine hK _ ?_; clear hK K)
  clear hwn hlt0 hcap0
  refine plan_e rfl (fun K hK => ?_)
  refine step_store_blk rfl (.tmp 33) (.tmp 31) 31 rfl g 0 68 _ (Blk.drew HB.out) rfl #[.int .u16 (a 0), .int .u16 (a 1), .int .u16 (a 2), .int .u16 (a 3), .int .u16 (a 4), .int .u16 (a 5), .int .u16 (a 6), .int .u16 (a 7), .int .u16 (a 8)] rfl Try.size31 (by simp [arrR]) (by rfl) ?_
  intro w1 hB1 hK1
  have hB1' : Blk w1 g 68 (arrR ⟨a, l ++ [a], to, has, false⟩ (.slice (some ⟨b, 0, none⟩) (n + 1) cap)) := Blk.cast hB1 (by simp [arrR])
  clear hB1
  have hc1 := hB1'.cell
  have hf1 := hB1'.frozen
  have hlt1 := hB1'.lt
  simp only [arrR] at hc1
  have HB1 := Lib.hid hB1'
  have HK1 := Lib.hid hK1
  have HR1 := Lib.hid (HR.out.kept (G := OneBlk g) (Kept.trans ((Kept.refl _ _).drew) hK1) (fun b' cs hb' e => (HB.out.ne_ hb' (by decide)) e.symm))
  clear hB1' hK1 hc hf hcb k0 k1 k2 k3 k4 k5 k6 k7 k8
  refine hK _ _ stab_nil ?_
  clear hK K
  refine plan_nil ?_
  go_wp2
  have hwn : IntKind.i64.wrap (n : Int) = n := IntWalk.i64_in _ (by omega)
  have hlt0 : (n : Int) < (n : Int) + 1 := by omega
  have hcap0 : (n : Int) ≤ (cap : Int) := by omega
  refine wp_region_plan (by kernel_rfl) (.q 0 <| .q 2 <| .q 3 <| .q 4 <| .q 5 <| .q 6 <| .q 7 <| .q 8 <| .q 9 <| .q 10 <| .q 11 <| .q 12 <| .e 1 [0, 2, 3, 4, 5, 6, 7, 8, 9, 10, 11, 12] <| .e 13 [0] <| .q 14 <| .q 15 <| .e 16 [] <| .nil) (by kernel_rfl) (by kernel_rfl) ?_
  repeat (refine plan_q rfl (fun K hK => ?_); go_simp; refine hK _ ?_; clear hK K)
  refine plan_e rfl (fun K hK => ?_)
  go_simp
  refine hK _ _ (by (repeat (refine stab_cons rfl ?_ ?_; focus (go_simp; done))); exact stab_nil) ?_
  clear hK K hwn hlt0 hcap0
  refine plan_e rfl (fun K hK => ?_)
  refine step_append_mine rfl (.tmp 35) (.tmp 46) 57 rfl 31 9 18 Try.underlying57 Try.sz31 (by decide) w1.heap.size (.slice (some ⟨w1.heap.size, 0, none⟩) 0 0) 0 [] rfl (own_new (Blk.drew (Blk.new _ _ _)) (Nat.le_refl _)) (some ⟨b, 0, none⟩) n cap (rowsOf l) rfl (HR1.out.kept (G := NoBlk) (by repeat (with_reducible first | exact Kept.refl _ _ | apply Kept.drew | apply Kept.drewN | apply Kept.alloc | exact oneHit | apply Kept.setCell)) (fun _ _ _ e => e)) Hone.out (by simp only [maxLen]; omega) (by omega) (by simp) ?_
  intro A' cap' w2 hown hK2
  have hB2 : Blk w2 g 68 (arrR ⟨a, l ++ [a], to, has, false⟩ (.slice (some ⟨b, 0, none⟩) (n + 1) cap)) := Blk.kept (by repeat (with_reducible first | exact HB1.out | apply Blk.drew | apply Blk.drewN | apply Blk.alloc | apply Blk.set_)) hK2 (by show ¬ w1.heap.size ≤ g; omega)
  have hc2 := hB2.cell
  have hf2 := hB2.frozen
  simp only [arrR] at hc2
  have HB2 := Lib.hid hB2
  clear hB2
  refine hK _ _ (by (repeat (refine stab_cons rfl ?_ ?_; focus (go_simp; done))); exact stab_nil) ?_
  clear hK K
  repeat (refine plan_q rfl (fun K hK => ?_); go_simp; refine hK _ ?_; clear hK K)
  refine plan_e rfl (fun K hK => ?_)
  go_simp
  refine hK _ _ stab_nil ?_
  clear hK K
  refine plan_nil ?_
  go_wp2
  go_ret
  refine ⟨rfl, ⟨.slice A' (0 + n) cap', Blk.cast (by repeat (with_reducible first | exact HB2.out | apply Blk.drew | apply Blk.drewN | apply Blk.alloc | apply Blk.set_)) (by simp [arrR]), ?_, ?_⟩, ?_⟩
  · rw [HN.out]
    have hr2 := Row.of_own hown
    simp only [Nat.zero_add, List.nil_append] at hr2 ⊢
    exact hr2.kept (G := OneBlk g) (by repeat (with_reducible first | exact Kept.refl _ _ | apply Kept.drew | apply Kept.drewN | apply Kept.alloc | exact oneHit | apply Kept.setCell)) (fun b' cs hb' e => (HB2.out.ne_ hb' (by decide)) e.symm)
  · rw [HN.out]; omega
  · refine Kept.setCell (Kept.trans (Kept.trans ((Kept.refl _ _).drew) HK1.out) ?_) oneHit _
    have k2 := Kept.fresh (w := w1) (w' := (w1.alloc (.cells #[] 31)).drew) (by repeat (with_reducible first | exact Kept.refl _ _ | apply Kept.drew | apply Kept.drewN | apply Kept.alloc | exact oneHit | apply Kept.setCell)) hK2 (fun b e => e)
    exact k2.weaken (fun _ _ e => e.elim)
end Go.Proofs.Ytbggdimkfkdhmaa
