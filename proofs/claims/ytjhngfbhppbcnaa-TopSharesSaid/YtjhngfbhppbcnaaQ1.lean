/- Slices of a core's time: the vector, and what its functions do where every place is somebody's. -/
import Derived.Test.YtjhngfbhppbcnaaBase
import Derived.Test.YtjhngfbhppbcnaaPlan
import Derived.RangeFuncNested
import Derived.RangeFuncBound
import Derived.RangeFuncCalls
import Derived.RangeFuncLeaves
import Derived.RangeFuncBox
import Derived.RangeFuncFrom
import Derived.Shelf.Abstract
import Derived.Shelf.RegionOpen
import Derived.OwnWalkIn
import Derived.TacticsInMore
import Derived.LoopNIn
import Derived.LoopIn
namespace Go.Proofs.Ytjhngfbhppbcnaa
open Go.RowKit Go.Shelf
set_option maxRecDepth 100000

/-- k cells. -/
def arrF (k : Nat) (f : Nat → Value) : Array Value := ((List.range k).map f).toArray
theorem arrF_get (k : Nat) (f : Nat → Value) (i : Nat) (h : i < k) : (arrF k f)[i]? = some (f i) := by
  unfold arrF
  simp [h]
theorem arrF_set (k : Nat) (f : Nat → Value) (i : Nat) (v : Value) : (arrF k f).setIfInBounds i v = arrF k (fun j => if j = i then v else f j) := by
  unfold arrF
  apply Array.ext
  · simp
  · intro j h1 h2
    simp at h1 h2
    simp [List.getElem_set, eq_comm]
theorem arrF_ext (k : Nat) (f g : Nat → Value) (h : ∀ j, j < k → f j = g j) : arrF k f = arrF k g := by
  unfold arrF
  congr 1
  exact List.map_congr_left fun j hj => h j (List.mem_range.1 hj)
def u8F (P : Nat → Int) (j : Nat) : Value := .int .u8 (P j)
def i64F (P : Nat → Int) (j : Nat) : Value := .int .i64 (P j)

def vecA (gp gq : Nat) (now : Int) : Array Value := #[.slice (some ⟨gp, 0, none⟩) 8 8, .slice (some ⟨gq, 0, none⟩) 6 6, .int .i64 now]
/-- The vector: whose each place is, nobody owes a turn, whose turn it is. -/
structure IsV (w : World) (g gp gq : Nat) (P : Nat → Int) (now : Int) : Prop where
  v : Blk w g 94 (vecA gp gq now)
  p : Blk w gp 5 (arrF 8 (u8F P))
  q : Blk w gq 3 (arrF 6 (i64F fun _ => 0))
theorem IsV.kept {w w' : World} {g gp gq : Nat} {P : Nat → Int} {now : Int} {G : Nat → Prop} (h : IsV w g gp gq P now) (hk : Kept G w w') (h1 : ¬ G g) (h2 : ¬ G gp) (h3 : ¬ G gq) : IsV w' g gp gq P now :=
  ⟨h.v.kept hk h1, h.p.kept hk h2, h.q.kept hk h3⟩

theorem made8 : madeCells #[Value.int IntKind.u8 0] (Int.toNat 8 * 1) = arrF 8 (u8F fun _ => 0) := by
  apply Array.ext
  · simp [madeCells, arrF]
  · intro j h1 h2
    simp [madeCells, arrF, u8F, Nat.mod_one]
theorem made6 : madeCells #[Value.int IntKind.i64 0] (Int.toNat 6 * 1) = arrF 6 (i64F fun _ => 0) := by
  apply Array.ext
  · simp [madeCells, arrF]
  · intro j h1 h2
    simp [madeCells, arrF, i64F, Nat.mod_one]
theorem make8 (u : World) : (Instr.makeSlice 45 (.int .i64 8) (.int .i64 8)).run Try.prog u = .ok (.slice (some ⟨u.heap.size, 0, none⟩) 8 8) (u.alloc (.cells (arrF 8 (u8F fun _ => 0)) 5)) := by
  obtain ⟨i, z, hi, hz, hz1, hz2, hz3⟩ := infoParts (P := Try.prog) (e := 5) (size := 1) (bytes := 1) (by kernel_rfl)
  have hzz : (Try.prog.info? 5).bind (fun i => i.zero.map (·.cells)) = some #[.int .u8 0] := by kernel_rfl
  rw [hi] at hzz
  simp only [Option.bind_some, hz, Option.map_some, Option.some.injEq] at hzz
  have := run_makeSlice (P := Try.prog) u 45 5 i z Try.underlying45 hi hz .i64 .i64 8 8 (by decide) (by decide) (by rw [hz1]; decide) (by rw [hz2]; decide) (by decide)
  rw [this, hz1, hzz, made8]
  rfl
theorem make6 (u : World) : (Instr.makeSlice 84 (.int .i64 6) (.int .i64 6)).run Try.prog u = .ok (.slice (some ⟨u.heap.size, 0, none⟩) 6 6) (u.alloc (.cells (arrF 6 (i64F fun _ => 0)) 3)) := by
  obtain ⟨i, z, hi, hz, hz1, hz2, hz3⟩ := infoParts (P := Try.prog) (e := 3) (size := 1) (bytes := 8) (by kernel_rfl)
  have hzz : (Try.prog.info? 3).bind (fun i => i.zero.map (·.cells)) = some #[.int .i64 0] := by kernel_rfl
  rw [hi] at hzz
  simp only [Option.bind_some, hz, Option.map_some, Option.some.injEq] at hzz
  have := run_makeSlice (P := Try.prog) u 84 3 i z Try.underlying84 hi hz .i64 .i64 6 6 (by decide) (by decide) (by rw [hz1]; decide) (by rw [hz2]; decide) (by decide)
  rw [this, hz1, hzz, made6]
  rfl
set_option maxHeartbeats 2000000 in
theorem qnew_any (w : World) : Calls Try.prog 10 #[] w fun e w' => ∃ g gp gq, e = .returned (.pointer (some ⟨g, 0, none⟩)) ∧ IsV w' g gp gq (fun _ => 6) 7 ∧ w.heap.size ≤ g ∧ w.heap.size ≤ gp ∧ w.heap.size ≤ gq ∧ Kept NoBlk w w' := by
  have m8 := make8
  have m6 := make6
  go_enter Try.func10, Try.ntmps10
  go_wp2
  refine wp_region_plan (by kernel_rfl) (.alt (.e 0 [] <| .e 1 [] <| .q 2 <| .e 3 [] <| .q 4 <| .nil) (.e 1 [] <| .e 0 [] <| .q 2 <| .e 3 [] <| .q 4 <| .nil)) (by kernel_rfl) (by kernel_rfl) ?_
  refine plan_alt ?_ ?_
  · refine plan_e rfl (fun K hK => ?_)
    go_simp
    refine hK _ _ (by (repeat (refine stab_cons rfl ?_ ?_; focus (go_simp; done))); exact stab_nil) ?_
    clear hK K
    refine plan_e rfl (fun K hK => ?_)
    go_simp
    refine hK _ _ (by (repeat (refine stab_cons rfl ?_ ?_; focus (go_simp; done))); exact stab_nil) ?_
    clear hK K
    repeat (refine plan_q rfl (fun K hK => ?_); go_simp; refine hK _ ?_; clear hK K)
    refine plan_e rfl (fun K hK => ?_)
    go_simp
    refine hK _ _ (by (repeat (refine stab_cons rfl ?_ ?_; focus (go_simp; done))); exact stab_nil) ?_
    clear hK K
    repeat (refine plan_q rfl (fun K hK => ?_); go_simp; refine hK _ ?_; clear hK K)
    refine plan_nil ?_
    go_wp2
    go_loopw [12] (fun iv wr => ∃ j : Nat, j ≤ 8 ∧ iv = .int .i64 j ∧ IsV wr (w.heap.size + 1 + 1) (w.heap.size) (w.heap.size + 1) (fun k => if k < j then 6 else 0) 7 ∧ Kept NoBlk w wr) (fun iv _ => 8 - (intOf iv).toNat)
    case atStart =>
      refine ⟨0, by omega, rfl, ⟨?_, ?_, ?_⟩, ?_⟩
      · exact Blk.cast (by repeat (with_reducible first | exact Blk.new_at _ _ _ (by simp) | apply Blk.drew | apply Blk.drewN)) (by simp [vecA])
      · exact Blk.cast (by repeat (with_reducible first | exact Blk.new_at _ _ _ (by simp) | apply Blk.drew | apply Blk.drewN | apply Blk.alloc)) (by rfl)
      · exact Blk.cast (by repeat (with_reducible first | exact Blk.new_at _ _ _ (by simp) | apply Blk.drew | apply Blk.drewN | apply Blk.alloc)) (by rfl)
      · repeat (with_reducible first | exact Kept.refl _ _ | apply Kept.drew | apply Kept.drewN | apply Kept.alloc | exact oneHit | apply Kept.setCell)
    case round =>
      obtain ⟨j, hj, rfl, ⟨hv, hp, hq⟩, hK⟩ := hrel
      by_cases hlt : j < 8
      · have c0 := hv.cell 0
        simp only [vecA] at c0
        have c1 := hp.cell j
        rw [arrF_get _ _ _ hlt] at c1
        have f1 := hp.frozen j
        go_wp2
        go_roundw
        case rel =>
          refine ⟨j + 1, by omega, by go_num, ⟨hv.far (by show w.heap.size + 1 + 1 ≠ w.heap.size; omega) _, Blk.cast (hp.set_ j _) ?_, hq.far (by show w.heap.size + 1 ≠ w.heap.size; omega) _⟩, hK.setCell (newHit (by omega)) _⟩
          rw [arrF_set]
          refine arrF_ext _ _ _ fun k hk => ?_
          show (if k = j then Value.int .u8 6 else Value.int .u8 (if k < j then 6 else 0)) = Value.int .u8 (if k < j + 1 then 6 else 0)
          by_cases hkj : k = j
          · rw [if_pos hkj, if_pos (by omega)]
          · rw [if_neg hkj]
            by_cases hk2 : k < j
            · rw [if_pos hk2, if_pos (by omega)]
            · rw [if_neg hk2, if_neg (by omega)]
        case measure => simp [intOf]; omega
      · obtain rfl : j = 8 := by omega
        go_wp2
        go_ret
        exact ⟨_, _, _, rfl, ⟨hv, Blk.cast hp (arrF_ext _ _ _ fun k hk => by show Value.int .u8 (if k < 8 then 6 else 0) = _; rw [if_pos hk]; rfl), hq⟩, by omega, by omega, by omega, hK⟩
  · refine plan_e rfl (fun K hK => ?_)
    go_simp
    refine hK _ _ (by (repeat (refine stab_cons rfl ?_ ?_; focus (go_simp; done))); exact stab_nil) ?_
    clear hK K
    refine plan_e rfl (fun K hK => ?_)
    go_simp
    refine hK _ _ (by (repeat (refine stab_cons rfl ?_ ?_; focus (go_simp; done))); exact stab_nil) ?_
    clear hK K
    repeat (refine plan_q rfl (fun K hK => ?_); go_simp; refine hK _ ?_; clear hK K)
    refine plan_e rfl (fun K hK => ?_)
    go_simp
    refine hK _ _ (by (repeat (refine stab_cons rfl ?_ ?_; focus (go_simp; done))); exact stab_nil) ?_
    clear hK K
    repeat (refine plan_q rfl (fun K hK => ?_); go_simp; refine hK _ ?_; clear hK K)
    refine plan_nil ?_
    go_wp2
    go_loopw [12] (fun iv wr => ∃ j : Nat, j ≤ 8 ∧ iv = .int .i64 j ∧ IsV wr (w.heap.size + 1 + 1) (w.heap.size + 1) (w.heap.size) (fun k => if k < j then 6 else 0) 7 ∧ Kept NoBlk w wr) (fun iv _ => 8 - (intOf iv).toNat)
    case atStart =>
      refine ⟨0, by omega, rfl, ⟨?_, ?_, ?_⟩, ?_⟩
      · exact Blk.cast (by repeat (with_reducible first | exact Blk.new_at _ _ _ (by simp) | apply Blk.drew | apply Blk.drewN)) (by simp [vecA])
      · exact Blk.cast (by repeat (with_reducible first | exact Blk.new_at _ _ _ (by simp) | apply Blk.drew | apply Blk.drewN | apply Blk.alloc)) (by rfl)
      · exact Blk.cast (by repeat (with_reducible first | exact Blk.new_at _ _ _ (by simp) | apply Blk.drew | apply Blk.drewN | apply Blk.alloc)) (by rfl)
      · repeat (with_reducible first | exact Kept.refl _ _ | apply Kept.drew | apply Kept.drewN | apply Kept.alloc | exact oneHit | apply Kept.setCell)
    case round =>
      obtain ⟨j, hj, rfl, ⟨hv, hp, hq⟩, hK⟩ := hrel
      by_cases hlt : j < 8
      · have c0 := hv.cell 0
        simp only [vecA] at c0
        have c1 := hp.cell j
        rw [arrF_get _ _ _ hlt] at c1
        have f1 := hp.frozen j
        go_wp2
        go_roundw
        case rel =>
          refine ⟨j + 1, by omega, by go_num, ⟨hv.far (by show w.heap.size + 1 + 1 ≠ w.heap.size + 1; omega) _, Blk.cast (hp.set_ j _) ?_, hq.far (by show w.heap.size ≠ w.heap.size + 1; omega) _⟩, hK.setCell (newHit (by omega)) _⟩
          rw [arrF_set]
          refine arrF_ext _ _ _ fun k hk => ?_
          show (if k = j then Value.int .u8 6 else Value.int .u8 (if k < j then 6 else 0)) = Value.int .u8 (if k < j + 1 then 6 else 0)
          by_cases hkj : k = j
          · rw [if_pos hkj, if_pos (by omega)]
          · rw [if_neg hkj]
            by_cases hk2 : k < j
            · rw [if_pos hk2, if_pos (by omega)]
            · rw [if_neg hk2, if_neg (by omega)]
        case measure => simp [intOf]; omega
      · obtain rfl : j = 8 := by omega
        go_wp2
        go_ret
        exact ⟨_, _, _, rfl, ⟨hv, Blk.cast hp (arrF_ext _ _ _ fun k hk => by show Value.int .u8 (if k < 8 then 6 else 0) = _; rw [if_pos hk]; rfl), hq⟩, by omega, by omega, by omega, hK⟩
end Go.Proofs.Ytjhngfbhppbcnaa
