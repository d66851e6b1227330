/- The contracts of the reference's area: Entries, kinds that are compared. -/
import Derived.Test.YtbggdimkfkdhmaaR1
namespace Go.Proofs.Ytbggdimkfkdhmaa
open Go.RowKit

theorem arrR_has' (S : St) (v : Value) (k : Nat) (hk : k < 5) : (arrR S v)[15 + k]? = some (.bool (S.has k)) := by
  obtain rfl | rfl | rfl | rfl | rfl : k = 0 ∨ k = 1 ∨ k = 2 ∨ k = 3 ∨ k = 4 := by omega
  all_goals rfl

set_option maxHeartbeats 4000000 in
theorem rentries_any (w : World) (g : Nat) (S : St) (h : IsR w g S) :
   Calls Try.prog 34 #[.pointer (some ⟨g, 0, none⟩)] w fun e w' => ∃ A' n cap', e = .returned (.slice A' n cap') ∧ Row w' 37 1 (.slice A' n cap') n (kindsOf S) ∧ Kept NoBlk w w' := by
  have H := Lib.hid h
  clear h
  go_enter Try.func34, Try.ntmps34
  go_wp2
  go_loopw [3, 4] (fun o i wr => ∃ (j n : Nat) (A : Option Addr) (cap : Nat), j ≤ 5 ∧ i = .int .u8 j ∧ o = .slice A n cap ∧ wr.ownsRow w.heap.size 37 1 (.slice A n cap) n (kindsTo S j) ∧ Kept NoBlk w wr)
    (fun _ i _ => 5 - (intOf i).toNat)
  case atStart => exact ⟨0, 0, none, 0, by omega, rfl, rfl, own_none _ _ _ _, Kept.refl _ _⟩
  case round =>
    obtain ⟨j, n, A, cap, hj, rfl, rfl, hown, hK⟩ := hrel
    have hA := H.out.kept hK (fun e => e) (fun _ _ _ e => e)
    have hlen := kindsTo_length S j
    have hnj : n ≤ j := by have := hown.1; omega
    have HK := Lib.hid hK
    have HO := Lib.hid hown
    clear hlen hK hown
    by_cases hlt : j < 5
    · obtain ⟨v, hB, _, _⟩ := hA
      have hcj := hB.cell (15 + j)
      rw [arrR_has' _ _ _ hlt] at hcj
      clear hB
      by_cases hs : S.has j = true
      · rw [hs] at hcj
        have hsucc := kindsTo_succ S j
        rw [if_pos hs] at hsucc
        have HS := Lib.hid hsucc
        clear hsucc hs
        go_wp2_with (first | (refine wpList_append_mine rfl (.tmp 19) (.tmp 21) 52 rfl 37 1 1 Try.underlying52 Try.sz37 (by decide) w.heap.size (.slice A n cap) n (kindsTo S j) rfl (own_kept (G := NoBlk) HO.out ((Kept.refl _ _).alloc _) (fun _ _ e => e)) (some ⟨wr.heap.size, 0, none⟩) 1 1 [.int .u8 j] rfl (Row.new (Blk.new_at _ _ _ rfl) rfl (by simp [maxLen])) rfl (by simp only [maxLen]; omega) (by omega) (by have := HK.out.size; simp; omega) ?_; intro A' cap' w1 hown' hK1))
        go_roundw
        case rel => exact ⟨j + 1, n + 1, A', cap', by omega, by go_num, rfl, by rw [HS.out]; exact hown', Kept.fresh (HK.out.alloc _) hK1 (fun b e => e)⟩
        case measure => simp [intOf]; omega
      · have hs' : S.has j = false := by simpa using hs
        rw [hs'] at hcj
        have hsucc := kindsTo_succ S j
        rw [if_neg hs] at hsucc
        have HS := Lib.hid hsucc
        clear hsucc hs hs'
        go_wp2
        go_roundw
        case rel => exact ⟨j + 1, n, A, cap, by omega, by go_num, rfl, by rw [HS.out, List.append_nil]; exact HO.out, HK.out⟩
        case measure => simp [intOf]; omega
    · obtain rfl : j = 5 := by omega
      clear hA
      go_wp2
      go_ret
      exact ⟨A, n, cap, rfl, Row.of_own HO.out, HK.out⟩

theorem Row.cellAt {w : World} {t : TypeId} {v : Value} {n : Nat} {xs : List Value} (h : Row w t 1 v n xs) (hn : 0 < n) : ∃ b cap, v = .slice (some ⟨b, 0, none⟩) n cap ∧ ∀ j, j < n → w.cell? ⟨b, j, none⟩ = xs[j]? := by
  obtain ⟨hl, ⟨_, h0⟩ | ⟨b, cap, cur, rfl, hb, hnc, hm, hs, ht⟩⟩ := h
  · omega
  · refine ⟨b, cap, rfl, fun j hj => ?_⟩
    rw [hb.cell j, ← ht, List.getElem?_take, if_pos (by omega), Array.getElem?_toList]

/-- The same kinds. -/
theorem same_yes (w : World) (A B : Option Addr) (n c d : Nat) (ks : List Int) (h1 : Row w 37 1 (.slice A n c) n (ks.map (Value.int .u8))) (h2 : Row w 37 1 (.slice B n d) n (ks.map (Value.int .u8))) (hn : n ≤ 5) :
   Calls Try.prog 33 #[.slice A n c, .slice B n d] w fun e w' => e = .returned (.bool true) ∧ Kept NoBlk w w' := by
  rcases Nat.eq_zero_or_pos n with rfl | hpos
  · clear h1 h2
    go_enter Try.func33, Try.ntmps33
    go_wp2
    go_loopw [5] (fun i wr => i = .int .i64 0 ∧ wr = w) (fun _ _ => 0)
    case atStart => exact ⟨rfl, rfl⟩
    case round =>
      obtain ⟨rfl, rfl⟩ := hrel
      go_wp2
      go_ret
      exact ⟨rfl, Kept.refl _ _⟩
  · have hlen : ks.length = n := by have := h1.1; simpa using this
    obtain ⟨b1, c1, e1, hc1⟩ := h1.cellAt hpos
    obtain ⟨b2, c2, e2, hc2⟩ := h2.cellAt hpos
    injection e1 with e1a e1b e1c
    injection e2 with e2a e2b e2c
    subst e1a; subst e2a
    have HC1 := Lib.hid hc1
    have HC2 := Lib.hid hc2
    clear h1 h2 hc1 hc2 e1c e2c
    go_enter Try.func33, Try.ntmps33
    go_wp2
    go_loopw [5] (fun i wr => ∃ j : Nat, j ≤ n ∧ i = .int .i64 j ∧ ∃ m, wr = w.drewN m) (fun i _ => n - (intOf i).toNat)
    case atStart => exact ⟨0, by omega, rfl, 0, rfl⟩
    case round =>
      obtain ⟨j, hj, rfl, m, rfl⟩ := hrel
      by_cases hlt : j < n
      · have h1 := HC1.out j hlt
        have h2 := HC2.out j hlt
        rw [List.getElem?_map, List.getElem?_eq_getElem (by omega), Option.map_some] at h1 h2
        generalize ks[j] = k at *
        have hlt' : (j : Int) < n := by omega
        go_wp2
        refine wp_region_plan (by kernel_rfl) (.q 0 <| .q 1 <| .q 2 <| .q 3 <| .q 4 <| .q 5 <| .q 6 <| .q 7 <| .q 8 <| .nil) (by kernel_rfl) (by kernel_rfl) ?_
        repeat (refine plan_q rfl (fun K hK => ?_); go_simp; refine hK _ ?_; clear hK K)
        refine plan_nil ?_
        go_wp2
        go_roundw
        case rel => exact ⟨j + 1, by omega, by go_num, _, rfl⟩
        case measure => simp [intOf]; omega
      · obtain rfl : j = n := by omega
        go_wp2
        go_ret
        exact ⟨rfl, (Kept.refl _ _).drewN _⟩
end Go.Proofs.Ytbggdimkfkdhmaa
