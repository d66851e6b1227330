/- The contracts of the program's area: Set, New, Clip, Clone, Upcall. -/
import Derived.Test.YtjhngfbhppbcnaaA2
import Derived.Test.YtjhngfbhppbcnaaPlan
namespace Go.Proofs.Ytjhngfbhppbcnaa
open Go.RowKit
set_option maxRecDepth 100000

def newSt (q : Nat → Int) : St := { rg := q, kept := [], to := fun _ => 0, has := fun _ => false, dead := false }

theorem new_any (w : World) (q : Nat → Int) :
   Calls Try.prog 13 #[regV q] w fun e w' => ∃ g, e = .returned (.pointer (some ⟨g, 0, none⟩)) ∧ w.heap.size ≤ g ∧ g < w'.heap.size ∧ IsA w' g (newSt q) ∧ Kept NoBlk w w' := by
  unfold regV
  go_enter Try.func13, Try.ntmps13
  go_wp2
  go_ret
  refine ⟨w.heap.size + 1, rfl, by omega, by simp, ⟨.slice none 0 0, Blk.cast (Blk.new_at _ _ _ (by simp)) (by simp [arrA, newSt]), Row.nil _ _ _, by simp [newSt]⟩, ?_⟩
  repeat (with_reducible first | exact Kept.refl _ _ | apply Kept.drew | apply Kept.drewN | apply Kept.alloc)

theorem clip_any (w : World) (A : Option Addr) (n cap : Nat) (_hn : n ≤ cap) (_hm : cap ≤ maxLen) :
   Calls Try.prog 46 #[.slice A n cap] w fun e w' => e = .returned (.slice A n n) ∧ w = w' := by
  unfold maxLen at _hm
  go_enter Try.func46, Try.ntmps46
  go_wp2
  go_ret
  exact ⟨rfl, rfl⟩

theorem Try.sz35 : (Try.prog.info? 35).map (fun i => (i.zero.map (·.cells.size), i.size, i.bytes)) = some (some 9, 9, 18) := by kernel_rfl

set_option maxHeartbeats 4000000 in
theorem closure_ok (w : World) (E F R g : Nat) (A : Option Addr) (n cap : Nat) (q : Nat → Int) (cs : Array Value) (xs : List Value) (u : FrameMode)
    (hE : w.cell? ⟨E, 0, none⟩ = some (.int .i64 0)) (hF : w.cell? ⟨F, 0, none⟩ = some (.pointer (some ⟨g, 0, none⟩)))
    (hR : Blk w R 35 #[.int .u16 (q 0), .int .u16 (q 1), .int .u16 (q 2), .int .u16 (q 3), .int .u16 (q 4), .int .u16 (q 5), .int .u16 (q 6), .int .u16 (q 7), .int .u16 (q 8)])
    (hB : Blk w g 102 cs) (h9 : cs[9]? = some (.slice A n cap)) (hr : Row w 35 9 (.slice A n cap) n xs) (hn : n ≤ 4) (hnc : n ≤ cap) (hcm : cap ≤ maxLen) :
   CallsD Try.prog 45 #[.pointer (some ⟨E, 0, none⟩), .pointer (some ⟨F, 0, none⟩), .pointer (some ⟨R, 0, none⟩)] u w fun e u' w' => u' = u ∧ e = .returned (.tuple #[]) ∧
     ∃ g' cap', w.heap.size ≤ g' ∧ Row w' 35 9 (.slice (some ⟨g', 0, none⟩) (n + 1) cap') (n + 1) (xs ++ regCells q) ∧ Blk w' g 102 (cs.setIfInBounds 9 (.slice (some ⟨g', 0, none⟩) (n + 1) cap')) ∧ Kept (OneBlk g) w w' := by
  have hFlt : F < w.heap.size := World.block_lt_of_cell? w _ hF
  have hRlt := hR.lt
  have hRc := hR.cell
  have hBc : w.cell? ⟨g, 9, none⟩ = some (.slice A n cap) := (hB.cell 9).trans h9
  have hBf := hB.frozen
  have hlt := hB.lt
  have HR := Lib.hid hR
  have HB := Lib.hid hB
  have Hr := Lib.hid hr.clip
  have H9 := Lib.hid h9
  clear hR hB hr h9
  go_enter_d Try.func45, Try.ntmps45
  go_wp2
  refine wp_region_plan (by kernel_rfl) (.q 0 <| .q 1 <| .q 2 <| .q 3 <| .q 4 <| .q 5 <| .q 6 <| .e 7 [0, 1, 2, 3, 4, 5] <| .e 8 [0] <| .q 9 <| .q 10 <| .e 11 [] <| .nil) (by kernel_rfl) (by kernel_rfl) ?_
  repeat (refine plan_q rfl (fun K hK => ?_); go_simp; refine hK _ ?_; clear hK K)
  (refine plan_q rfl (fun K hK => ?_); go_simp; refine ⟨_, (clip_any _ _ _ _ hnc hcm).mono (fun _ _ h => ⟨h.1, h.2.symm⟩), hK _ ?_⟩; clear hK K)
  repeat (refine plan_q rfl (fun K hK => ?_); go_simp; refine hK _ ?_; clear hK K)
  refine plan_e rfl (fun K hK => ?_)
  go_simp
  refine hK _ _ ?_ ?_
  · repeat (refine stab_cons rfl ?_ ?_; focus (go_simp; done))
    (refine stab_cons rfl ?_ ?_; focus (go_simp; exact (clip_any _ _ _ _ hnc hcm).mono (fun _ _ h => ⟨h.1, h.2.symm⟩)))
    exact stab_nil
  clear hK K
  refine plan_e rfl (fun K hK => ?_)
  refine step_append_grow rfl (.tmp 10) (.tmp 12) 38 rfl 35 9 18 Try.underlying38 Try.sz35 (by decide) A n n xs rfl (by refine Hr.out.kept (G := NoBlk) ?_ (fun _ _ _ e => e); repeat (with_reducible first | exact Kept.refl _ _ | apply Kept.drew | apply Kept.drewN | apply Kept.alloc)) (some ⟨w.heap.size, 0, none⟩) 1 1 (regCells q) rfl (Row.new (Blk.drew (Blk.new _ _ _)) rfl (by simp [maxLen])) rfl (by omega) (by simp only [maxLen]; omega) (by omega) ?_
  intro g' cap' w1 hrow hge hlt1 hK1
  have hBb : Blk w1 g 102 cs := Blk.kept (by repeat (with_reducible first | exact HB.out | apply Blk.drew | apply Blk.alloc)) hK1 (fun e => e)
  have hfz := hBb.frozen
  have hcz := (hBb.cell 9).trans H9.out
  have hFz : w1.cell? ⟨F, 0, none⟩ = some (.pointer (some ⟨g, 0, none⟩)) := by rw [hK1.cell (by simp; omega) (fun e => e)]; go_simp
  have HBb := Lib.hid hBb
  clear hBb
  refine hK _ _ ?_ ?_
  · repeat (refine stab_cons rfl ?_ ?_; focus (go_simp; done))
    exact stab_nil
  clear hK K
  repeat (refine plan_q rfl (fun K hK => ?_); go_simp; refine hK _ ?_; clear hK K)
  refine plan_e rfl (fun K hK => ?_)
  go_simp
  refine hK _ _ stab_nil ?_
  clear hK K
  refine plan_nil ?_
  go_wp2
  go_end0
  refine ⟨rfl, g', cap', by simp at hge; omega, hrow.kept (G := OneBlk g) ?_ (fun b' cs hb' e => (HBb.out.ne_ hb' (by decide)) e.symm), Blk.set_ HBb.out _ _, ?_⟩
  · repeat (with_reducible first | exact Kept.refl _ _ | exact oneHit | apply Kept.setCell)
  · refine Kept.setCell (Kept.trans (w' := _) ?_ (hK1.weaken (fun _ _ e => e.elim))) oneHit _
    repeat (with_reducible first | exact Kept.refl _ _ | apply Kept.drew | apply Kept.drewN | apply Kept.alloc)
end Go.Proofs.Ytjhngfbhppbcnaa
