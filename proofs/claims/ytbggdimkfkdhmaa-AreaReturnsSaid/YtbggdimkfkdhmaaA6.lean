/- The contracts of the program's area: Clone, Fork, Entries. -/
import Derived.Test.YtbggdimkfkdhmaaA3
namespace Go.Proofs.Ytbggdimkfkdhmaa
open Go.RowKit

theorem rowsOf_one (l : List (Nat → Int)) : (rowsOf l).all (·.oneCell') = true := by
  unfold rowsOf
  rw [List.all_flatMap, List.all_eq_true]
  intro r _
  rfl

set_option maxHeartbeats 1000000 in
theorem clone_any (w : World) (A : Option Addr) (n cap : Nat) (l : List (Nat → Int)) (hr : Row w 31 9 (.slice A n cap) n (rowsOf l)) (hn : n ≤ 4) :
   Calls Try.prog 36 #[.slice A n cap] w fun e w' => ∃ A' cap', e = .returned (.slice A' n cap') ∧ Row w' 31 9 (.slice A' n cap') n (rowsOf l) ∧ Kept NoBlk w w' := by
  by_cases hA : A = none
  · subst hA
    have hq := fun w1 a l c => Lib.run_eql_slice_nil (P := Try.prog) w1 57 31 a l c 0 0 Try.underlying57
    obtain ⟨A2, c2, hv, _, _, hz, _, _⟩ := hr.form
    injection hv with e1 e2 e3
    subst e1
    obtain ⟨rfl, rfl⟩ := hz rfl
    subst e3
    have Hr := Lib.hid hr
    clear hr hz hn
    go_enter Try.func36, Try.ntmps36
    go_wp2
    go_ret
    exact ⟨none, 0, rfl, Hr.out, Kept.refl _ _⟩
  · obtain ⟨a, rfl⟩ := Option.ne_none_iff_exists'.1 hA
    have hq := fun w1 a l c => Lib.run_eql_slice_nil (P := Try.prog) w1 57 31 a l c 0 0 Try.underlying57
    have Hr := Lib.hid hr
    clear hr hA
    go_enter Try.func36, Try.ntmps36
    go_wp2_with (refine wpList_append_mine rfl (.tmp 5) (.tmp 6) 57 rfl 31 9 18 Try.underlying57 Try.sz31 (by decide) w.heap.size (.slice (some ⟨w.heap.size, 0, none⟩) 0 0) 0 [] rfl (own_new (Blk.new _ _ _) (Nat.le_refl _)) (some a) n cap (rowsOf l) rfl (Hr.out.kept (G := NoBlk) ((Kept.refl _ _).alloc _) (fun _ _ _ e => e)) (rowsOf_one l) (by simp only [maxLen]; omega) (by omega) (by simp) ?_; intro A' cap' w1 hown hK)
    go_ret
    refine ⟨A', cap', by simp, ?_, Kept.fresh ((Kept.refl _ _).alloc _) hK (fun b e => e)⟩
    have := Row.of_own hown
    simpa using this

set_option maxHeartbeats 2000000 in
theorem fork_any (w : World) (g : Nat) (S : St) (h : IsA w g S) :
   Calls Try.prog 21 #[.pointer (some ⟨g, 0, none⟩)] w fun e w' => ∃ g', e = .returned (.pointer (some ⟨g', 0, none⟩)) ∧ w.heap.size ≤ g' ∧ g' < w'.heap.size ∧ IsA w' g' S ∧ Kept NoBlk w w' := by
  obtain ⟨v, hB, hR, hl⟩ := h
  obtain ⟨A, cap, rfl, hnc, hcm, hA0, hA1, hA2⟩ := hR.form
  have hlt := hB.lt
  have hc := hB.cell
  have HB := Lib.hid hB
  have HR := Lib.hid hR
  have Hl := Lib.hid hl
  simp only [arrA] at hc
  clear hB hR hl hA0 hA1 hA2
  go_enter Try.func21, Try.ntmps21
  go_wp2_with (first | (refine wpList_load_row rfl 62 (.tmp 7) rfl g rfl 62 _ (0, 0) _ HB.out Try.underlying62 rfl Try.size62 ?_) | (refine wpList_store_blk rfl (.tmp 3) (.tmp 8) 62 rfl w.heap.size 0 62 _ (Blk.new _ _ _) rfl (arrA S (.slice A S.kept.length cap)) rfl Try.size62 (by simp [arrA]) (by rfl) ?_; intro w1 hB1 hK1; have hcell1 := hB1.cell; have hfro1 := hB1.frozen; simp [arrA] at hcell1; have HB1 := Lib.hid hB1; clear hB1; have hg1 : w1.cell? ⟨g, 9, none⟩ = some (.slice A S.kept.length cap) := (by rw [hK1.cell (by simp; omega) (by show ¬ g = w.heap.size; omega)]; go_simp)))
  refine (clone_any _ A S.kept.length cap S.kept (HR.out.kept (G := OneBlk w.heap.size) ?_ (fun b' cs hb' e => by have := hb'.lt; have e' : b' = w.heap.size := e; omega)) Hl.out).mono ?_
  · exact Kept.trans ((Kept.refl _ _).alloc _) hK1
  rintro e w2 ⟨A', cap', rfl, hr2, hK2⟩
  have hB2 := HB1.out.kept hK2 (fun e => e)
  have hcell2 := hB2.cell
  have hfro2 := hB2.frozen
  simp [arrA] at hcell2
  have HB2 := Lib.hid hB2
  clear hB2 hcell1
  go_wp2
  go_ret
  have hf2 := HB2.out.lt
  refine ⟨w.heap.size, rfl, Nat.le_refl _, by simpa using hf2, ⟨.slice A' S.kept.length cap', Blk.cast (by repeat (with_reducible first | exact HB2.out | apply Blk.drew | apply Blk.set_)) (by simp [arrA]), ?_, Hl.out⟩, ?_⟩
  · refine hr2.kept (G := OneBlk w.heap.size) ((Kept.refl _ _).setCell oneHit _) (fun b' cs hb' e => (HB2.out.ne_ hb' (by decide)) e.symm)
  · have k1 : Kept NoBlk w w1 := Kept.fresh ((Kept.refl _ _).alloc _) hK1 (fun b e => by rw [show b = w.heap.size from e]; exact Nat.le_refl _)
    exact Kept.fresh (k1.trans hK2) (G := OneBlk w.heap.size) ((Kept.refl _ _).setCell oneHit _) (fun b e => by rw [show b = w.heap.size from e]; exact Nat.le_refl _)

def kindsOf (S : St) : List Value := ((List.range 5).filter S.has).map (fun (k : Nat) => Value.int .u8 k)
def kindsTo (S : St) (j : Nat) : List Value := ((List.range j).filter S.has).map (fun (k : Nat) => Value.int .u8 k)
theorem kindsTo_succ (S : St) (j : Nat) : kindsTo S (j + 1) = kindsTo S j ++ (if S.has j then [.int .u8 j] else []) := by
  unfold kindsTo
  rw [List.range_succ, List.filter_append, List.map_append]
  cases h : S.has j <;> simp [h]
theorem kindsTo_length (S : St) (j : Nat) : (kindsTo S j).length ≤ j := by
  unfold kindsTo
  rw [List.length_map]
  have := List.length_filter_le S.has (List.range j)
  simpa using this

theorem Try.sz37 : (Try.prog.info? 37).map (fun i => (i.zero.map (·.cells.size), i.size, i.bytes)) = some (some 1, 1, 1) := by kernel_rfl

set_option maxHeartbeats 4000000 in
theorem entries_any (w : World) (g : Nat) (S : St) (h : IsA w g S) :
   Calls Try.prog 24 #[.pointer (some ⟨g, 0, none⟩)] w fun e w' => ∃ A' n cap', e = .returned (.slice A' n cap') ∧ Row w' 37 1 (.slice A' n cap') n (kindsOf S) ∧ Kept NoBlk w w' := by
  have H := Lib.hid h
  clear h
  go_enter Try.func24, Try.ntmps24
  go_wp2
  go_loopw [3, 4, 5, 6, 7] (fun o _ _ _ i wr => ∃ (j n : Nat) (A : Option Addr) (cap : Nat), j ≤ 5 ∧ i = .int .u8 j ∧ o = .slice A n cap ∧ wr.ownsRow w.heap.size 37 1 (.slice A n cap) n (kindsTo S j) ∧ Kept NoBlk w wr)
    (fun _ _ _ _ i _ => 5 - (intOf i).toNat)
  case atStart => exact ⟨0, 0, none, 0, by omega, rfl, rfl, own_none _ _ _ _, Kept.refl _ _⟩
  case round =>
    obtain ⟨j, n, A, cap, hj, rfl, rfl, hown, hK⟩ := hrel
    have hA := H.out.kept hK (fun e => e) (fun _ _ _ e => e)
    have hlen := kindsTo_length S j
    have hnj : n ≤ j := by have := hown.1; omega
    have HK := Lib.hid hK
    have HO := Lib.hid hown
    clear hlen hK hown
    by_cases hlt : j < 5
    · have hw := where_ok wr g S hA (j : Int) (by omega) (by omega)
      rw [Int.toNat_natCast] at hw
      clear hA
      by_cases hs : S.has j = true
      · rw [hs] at hw
        have hsucc := kindsTo_succ S j
        rw [if_pos hs] at hsucc
        have HS := Lib.hid hsucc
        have HW := Lib.hid hw
        clear hw hsucc hs
        go_wp2_with (first | (go_at_call 19; refine (HW.out).mono ?_; rintro e w' ⟨rfl, nq, rfl⟩) | (refine wpList_append_mine rfl (.tmp 17) (.tmp 19) 52 rfl 37 1 1 Try.underlying52 Try.sz37 (by decide) w.heap.size (.slice A n cap) n (kindsTo S j) rfl (own_kept (G := NoBlk) HO.out (((Kept.refl _ _).drewN _).alloc _) (fun _ _ e => e)) (some ⟨wr.heap.size, 0, none⟩) 1 1 [.int .u8 j] rfl (Row.new (Blk.new_at _ _ _ rfl) rfl (by simp [maxLen])) rfl (by simp only [maxLen]; omega) (by omega) (by have := HK.out.size; simp; omega) ?_; intro A' cap' w1 hown' hK1))
        go_roundw
        case rel => exact ⟨j + 1, n + 1, A', cap', by omega, by go_num, rfl, by rw [HS.out]; exact hown', Kept.fresh (Kept.trans HK.out (((Kept.refl _ _).drewN _).alloc _)) hK1 (fun b e => e)⟩
        case measure => simp [intOf]; omega
      · have hs' : S.has j = false := by simpa using hs
        rw [hs'] at hw
        have hsucc := kindsTo_succ S j
        rw [if_neg hs] at hsucc
        have HS := Lib.hid hsucc
        have HW := Lib.hid hw
        clear hw hsucc hs hs'
        go_wp2_with (first | (go_at_call 19; refine (HW.out).mono ?_; rintro e w' ⟨rfl, nq, rfl⟩))
        go_roundw
        case rel => exact ⟨j + 1, n, A, cap, by omega, by go_num, rfl, by rw [HS.out, List.append_nil]; exact own_kept (G := NoBlk) HO.out ((Kept.refl _ _).drewN _) (fun _ _ e => e), HK.out.drewN _⟩
        case measure => simp [intOf]; omega
    · obtain rfl : j = 5 := by omega
      clear hA
      go_wp2
      go_ret
      exact ⟨A, n, cap, rfl, Row.of_own HO.out, HK.out⟩
end Go.Proofs.Ytbggdimkfkdhmaa
