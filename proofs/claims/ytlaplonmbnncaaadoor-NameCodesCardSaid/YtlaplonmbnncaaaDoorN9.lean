/- The program's names: rights as letters. -/
import Derived.Test.YtlaplonmbnncaaaDoorN8
import Derived.Laws.IdiomStrings
namespace Go.Proofs.YtlaplonmbnncaaaDoor
open Go.RowKit Go.Shelf
set_option maxRecDepth 100000

def letterN (j : Nat) : UInt8 := if j = 0 then 114 else if j = 1 then 119 else if j = 2 then 120 else if j = 3 then 103 else 100
/-- The letters of the rights below the j-th. -/
def rightsTo (r : Nat) : Nat → List UInt8
  | 0 => []
  | j + 1 => rightsTo r j ++ if r / 2 ^ j % 2 = 1 then [letterN j] else []
def rightsS (r : Nat) : ByteArray := if rightsTo r 5 = [] then mk [45] else mk (rightsTo r 5)
def rightsP (r : Nat) : ByteArray × Int := if 31 < r then (⟨#[]⟩, 3) else (rightsS r, 0)
theorem rightsTo_len (r : Nat) : ∀ j, (rightsTo r j).length ≤ j
  | 0 => Nat.le_refl _
  | j + 1 => by
    have := rightsTo_len r j
    unfold rightsTo
    rw [List.length_append]
    split <;> simp <;> omega
theorem rightsTo_yes (r j : Nat) (h : r / 2 ^ j % 2 = 1) : rightsTo r (j + 1) = rightsTo r j ++ [letterN j] := by
  conv => lhs; unfold rightsTo
  rw [if_pos h]
theorem rightsTo_no (r j : Nat) (h : ¬ r / 2 ^ j % 2 = 1) : rightsTo r (j + 1) = rightsTo r j := by
  conv => lhs; unfold rightsTo
  rw [if_neg h, List.append_nil]
theorem bit_and : ∀ r : Fin 32, ∀ j : Fin 5, (bits .and .u8 ((r.val : Nat) : Int) ((2 ^ j.val : Nat) : Int) == 0) = decide (r.val / 2 ^ j.val % 2 = 0) := by decide +kernel
theorem bit_one (r j : Nat) (hr : r < 32) (hj : j < 5) (h : r / 2 ^ j % 2 = 1) : (bits .and .u8 (r : Int) ((2 ^ j : Nat) : Int) != 0) = true := by
  have := bit_and ⟨r, hr⟩ ⟨j, hj⟩
  simp only at this
  rw [bne, this, decide_eq_false (by omega)]
  rfl
theorem bit_zero (r j : Nat) (hr : r < 32) (hj : j < 5) (h : ¬ r / 2 ^ j % 2 = 1) : (bits .and .u8 (r : Int) ((2 ^ j : Nat) : Int) != 0) = false := by
  have := bit_and ⟨r, hr⟩ ⟨j, hj⟩
  simp only at this
  rw [bne, this, decide_eq_true (by omega)]
  rfl
def byteV (l : List UInt8) : List Value := l.map fun b => .int .u8 (b.toNat : Int)
theorem Tryd.szB : (Tryd.prog.info? 5).map (fun i => (i.zero.map (·.cells.size), i.size, i.bytes)) = some (some 1, 1, 1) := by kernel_rfl
theorem letterOf_0 (w : World) : Calls Tryd.prog 67 #[.int .u8 1] w fun e w' => e = .returned (.int .u8 114) ∧ w = w' := by
  go_enter Tryd.func67, Tryd.ntmps67
  go_wp2
  go_ret
  exact ⟨rfl, rfl⟩
theorem letterOf_1 (w : World) : Calls Tryd.prog 67 #[.int .u8 2] w fun e w' => e = .returned (.int .u8 119) ∧ w = w' := by
  go_enter Tryd.func67, Tryd.ntmps67
  go_wp2
  go_ret
  exact ⟨rfl, rfl⟩
theorem letterOf_2 (w : World) : Calls Tryd.prog 67 #[.int .u8 4] w fun e w' => e = .returned (.int .u8 120) ∧ w = w' := by
  go_enter Tryd.func67, Tryd.ntmps67
  go_wp2
  go_ret
  exact ⟨rfl, rfl⟩
theorem letterOf_3 (w : World) : Calls Tryd.prog 67 #[.int .u8 8] w fun e w' => e = .returned (.int .u8 103) ∧ w = w' := by
  go_enter Tryd.func67, Tryd.ntmps67
  go_wp2
  go_ret
  exact ⟨rfl, rfl⟩
theorem letterOf_4 (w : World) : Calls Tryd.prog 67 #[.int .u8 16] w fun e w' => e = .returned (.int .u8 100) ∧ w = w' := by
  go_enter Tryd.func67, Tryd.ntmps67
  go_wp2
  go_ret
  exact ⟨rfl, rfl⟩
set_option maxHeartbeats 4000000 in
theorem rights_any (w : World) (r : Nat) (hr : r < 256) : Calls Tryd.prog 54 #[.int .u8 (r : Int)] w fun e w' => e = .returned (.tuple #[.string (rightsP r).1, .int .i64 (rightsP r).2]) ∧ Kept NoBlk w w' := by
  obtain ⟨V, hV⟩ : ∃ V, rightsP r = V := ⟨_, rfl⟩
  rw [hV]
  unfold rightsP at hV
  by_cases h31 : 31 < r
  · rw [if_pos h31] at hV
    subst hV
    have h31' : (31 : Int) < r := by omega
    go_enter Tryd.func54, Tryd.ntmps54
    go_wp2
    go_ret2
    exact ⟨rfl, Kept.refl _ _⟩
  rw [if_neg h31] at hV
  have h31' : (r : Int) ≤ 31 := by omega
  have HV := Lib.hid hV.symm
  clear hV
  go_enter Tryd.func54, Tryd.ntmps54
  go_wp2
  go_loopw [4, 5] (fun ov nv wr => ∃ (j : Nat) (A : Option Addr) (cap : Nat), j ≤ 5 ∧ nv = .int .u8 ((2 ^ j : Nat) : Int) ∧ ov = .slice A (rightsTo r j).length cap ∧ Hid (wr.ownsRow w.heap.size 5 1 (.slice A (rightsTo r j).length cap) (rightsTo r j).length (byteV (rightsTo r j))) ∧ Kept NoBlk w wr) (fun _ nv _ => 64 - (intOf nv).toNat)
  case atStart => exact ⟨0, none, 0, by omega, rfl, rfl, Lib.hid (own_none _ _ _ _), Kept.refl _ _⟩
  case round =>
    obtain ⟨j, A, cap, hj, rfl, rfl, HO, hK⟩ := hrel
    have hn5 := rightsTo_len r j
    have hlw := hK.size
    have HK := Lib.hid hK
    clear hK
    rcases (by omega : j = 0 ∨ j = 1 ∨ j = 2 ∨ j = 3 ∨ j = 4 ∨ j = 5) with rfl | rfl | rfl | rfl | rfl | rfl
    · by_cases hb : r / 2 ^ 0 % 2 = 1
      · have hbit : (bits .and .u8 (r : Int) 1 != 0) = true := bit_one r 0 (by omega) (by omega) hb
        have hs : Hid (rightsTo r 1 = rightsTo r 0 ++ [letterN 0]) := Lib.hid (rightsTo_yes r 0 hb)
        clear hb
        generalize rightsTo r 0 = l at *
        have hp : ((2 ^ 0 : Nat) : Int) = 1 := rfl
        rw [hp]
        go_wp2_with fail
        refine (letterOf_0 _).mono ?_
        rintro e w1 ⟨rfl, rfl⟩
        go_wp2_with (refine wpList_append_mine rfl (.tmp 16) (.tmp 19) 47 rfl 5 1 1 Tryd.underlying47 Tryd.szB (by decide) w.heap.size (.slice A l.length cap) l.length (byteV l) rfl (own_kept (G := NoBlk) HO.out ((Kept.refl _ _).alloc _) (fun _ _ e => e)) (some ⟨wr.heap.size, 0, none⟩) 1 1 [.int .u8 114] rfl (Row.new (Blk.new _ _ _) rfl (by simp [maxLen])) rfl (by simp only [maxLen]; omega) (by omega) (by simp; omega) ?_; intro A' cap' w3 hown3 hK3)
        have hlen : (l ++ [letterN 0]).length = l.length + 1 := by rw [List.length_append, List.length_singleton]
        have HO3 : Hid (w3.ownsRow w.heap.size 5 1 (.slice A' (l ++ [letterN 0]).length cap') (l ++ [letterN 0]).length (byteV (l ++ [letterN 0]))) := Lib.hid (by
          rw [hlen]
          unfold byteV
          rw [List.map_append]
          exact hown3)
        have HK3 := Lib.hid (Kept.fresh (HK.out.alloc _) hK3 (fun b e => e))
        rw [← hlen]
        rw [← hs.out] at HO3 ⊢
        clear hown3 hK3 hlen
        go_roundw
        case rel => exact ⟨1, A', cap', by omega, by rfl, rfl, HO3, HK3.out⟩
        case measure => simp [intOf]
      · have hbit : (bits .and .u8 (r : Int) 1 != 0) = false := bit_zero r 0 (by omega) (by omega) hb
        have hs : rightsTo r 1 = rightsTo r 0 := rightsTo_no r 0 hb
        rw [← hs] at HO ⊢
        have hp : ((2 ^ 0 : Nat) : Int) = 1 := rfl
        rw [hp]
        clear hb hs hn5
        go_wp2
        go_roundw
        case rel => exact ⟨1, A, cap, by omega, by rfl, rfl, HO, HK.out⟩
        case measure => simp [intOf]
    · by_cases hb : r / 2 ^ 1 % 2 = 1
      · have hbit : (bits .and .u8 (r : Int) 2 != 0) = true := bit_one r 1 (by omega) (by omega) hb
        have hs : Hid (rightsTo r 2 = rightsTo r 1 ++ [letterN 1]) := Lib.hid (rightsTo_yes r 1 hb)
        clear hb
        generalize rightsTo r 1 = l at *
        have hp : ((2 ^ 1 : Nat) : Int) = 2 := rfl
        rw [hp]
        go_wp2_with fail
        refine (letterOf_1 _).mono ?_
        rintro e w1 ⟨rfl, rfl⟩
        go_wp2_with (refine wpList_append_mine rfl (.tmp 16) (.tmp 19) 47 rfl 5 1 1 Tryd.underlying47 Tryd.szB (by decide) w.heap.size (.slice A l.length cap) l.length (byteV l) rfl (own_kept (G := NoBlk) HO.out ((Kept.refl _ _).alloc _) (fun _ _ e => e)) (some ⟨wr.heap.size, 0, none⟩) 1 1 [.int .u8 119] rfl (Row.new (Blk.new _ _ _) rfl (by simp [maxLen])) rfl (by simp only [maxLen]; omega) (by omega) (by simp; omega) ?_; intro A' cap' w3 hown3 hK3)
        have hlen : (l ++ [letterN 1]).length = l.length + 1 := by rw [List.length_append, List.length_singleton]
        have HO3 : Hid (w3.ownsRow w.heap.size 5 1 (.slice A' (l ++ [letterN 1]).length cap') (l ++ [letterN 1]).length (byteV (l ++ [letterN 1]))) := Lib.hid (by
          rw [hlen]
          unfold byteV
          rw [List.map_append]
          exact hown3)
        have HK3 := Lib.hid (Kept.fresh (HK.out.alloc _) hK3 (fun b e => e))
        rw [← hlen]
        rw [← hs.out] at HO3 ⊢
        clear hown3 hK3 hlen
        go_roundw
        case rel => exact ⟨2, A', cap', by omega, by rfl, rfl, HO3, HK3.out⟩
        case measure => simp [intOf]
      · have hbit : (bits .and .u8 (r : Int) 2 != 0) = false := bit_zero r 1 (by omega) (by omega) hb
        have hs : rightsTo r 2 = rightsTo r 1 := rightsTo_no r 1 hb
        rw [← hs] at HO ⊢
        have hp : ((2 ^ 1 : Nat) : Int) = 2 := rfl
        rw [hp]
        clear hb hs hn5
        go_wp2
        go_roundw
        case rel => exact ⟨2, A, cap, by omega, by rfl, rfl, HO, HK.out⟩
        case measure => simp [intOf]
    · by_cases hb : r / 2 ^ 2 % 2 = 1
      · have hbit : (bits .and .u8 (r : Int) 4 != 0) = true := bit_one r 2 (by omega) (by omega) hb
        have hs : Hid (rightsTo r 3 = rightsTo r 2 ++ [letterN 2]) := Lib.hid (rightsTo_yes r 2 hb)
        clear hb
        generalize rightsTo r 2 = l at *
        have hp : ((2 ^ 2 : Nat) : Int) = 4 := rfl
        rw [hp]
        go_wp2_with fail
        refine (letterOf_2 _).mono ?_
        rintro e w1 ⟨rfl, rfl⟩
        go_wp2_with (refine wpList_append_mine rfl (.tmp 16) (.tmp 19) 47 rfl 5 1 1 Tryd.underlying47 Tryd.szB (by decide) w.heap.size (.slice A l.length cap) l.length (byteV l) rfl (own_kept (G := NoBlk) HO.out ((Kept.refl _ _).alloc _) (fun _ _ e => e)) (some ⟨wr.heap.size, 0, none⟩) 1 1 [.int .u8 120] rfl (Row.new (Blk.new _ _ _) rfl (by simp [maxLen])) rfl (by simp only [maxLen]; omega) (by omega) (by simp; omega) ?_; intro A' cap' w3 hown3 hK3)
        have hlen : (l ++ [letterN 2]).length = l.length + 1 := by rw [List.length_append, List.length_singleton]
        have HO3 : Hid (w3.ownsRow w.heap.size 5 1 (.slice A' (l ++ [letterN 2]).length cap') (l ++ [letterN 2]).length (byteV (l ++ [letterN 2]))) := Lib.hid (by
          rw [hlen]
          unfold byteV
          rw [List.map_append]
          exact hown3)
        have HK3 := Lib.hid (Kept.fresh (HK.out.alloc _) hK3 (fun b e => e))
        rw [← hlen]
        rw [← hs.out] at HO3 ⊢
        clear hown3 hK3 hlen
        go_roundw
        case rel => exact ⟨3, A', cap', by omega, by rfl, rfl, HO3, HK3.out⟩
        case measure => simp [intOf]
      · have hbit : (bits .and .u8 (r : Int) 4 != 0) = false := bit_zero r 2 (by omega) (by omega) hb
        have hs : rightsTo r 3 = rightsTo r 2 := rightsTo_no r 2 hb
        rw [← hs] at HO ⊢
        have hp : ((2 ^ 2 : Nat) : Int) = 4 := rfl
        rw [hp]
        clear hb hs hn5
        go_wp2
        go_roundw
        case rel => exact ⟨3, A, cap, by omega, by rfl, rfl, HO, HK.out⟩
        case measure => simp [intOf]
    · by_cases hb : r / 2 ^ 3 % 2 = 1
      · have hbit : (bits .and .u8 (r : Int) 8 != 0) = true := bit_one r 3 (by omega) (by omega) hb
        have hs : Hid (rightsTo r 4 = rightsTo r 3 ++ [letterN 3]) := Lib.hid (rightsTo_yes r 3 hb)
        clear hb
        generalize rightsTo r 3 = l at *
        have hp : ((2 ^ 3 : Nat) : Int) = 8 := rfl
        rw [hp]
        go_wp2_with fail
        refine (letterOf_3 _).mono ?_
        rintro e w1 ⟨rfl, rfl⟩
        go_wp2_with (refine wpList_append_mine rfl (.tmp 16) (.tmp 19) 47 rfl 5 1 1 Tryd.underlying47 Tryd.szB (by decide) w.heap.size (.slice A l.length cap) l.length (byteV l) rfl (own_kept (G := NoBlk) HO.out ((Kept.refl _ _).alloc _) (fun _ _ e => e)) (some ⟨wr.heap.size, 0, none⟩) 1 1 [.int .u8 103] rfl (Row.new (Blk.new _ _ _) rfl (by simp [maxLen])) rfl (by simp only [maxLen]; omega) (by omega) (by simp; omega) ?_; intro A' cap' w3 hown3 hK3)
        have hlen : (l ++ [letterN 3]).length = l.length + 1 := by rw [List.length_append, List.length_singleton]
        have HO3 : Hid (w3.ownsRow w.heap.size 5 1 (.slice A' (l ++ [letterN 3]).length cap') (l ++ [letterN 3]).length (byteV (l ++ [letterN 3]))) := Lib.hid (by
          rw [hlen]
          unfold byteV
          rw [List.map_append]
          exact hown3)
        have HK3 := Lib.hid (Kept.fresh (HK.out.alloc _) hK3 (fun b e => e))
        rw [← hlen]
        rw [← hs.out] at HO3 ⊢
        clear hown3 hK3 hlen
        go_roundw
        case rel => exact ⟨4, A', cap', by omega, by rfl, rfl, HO3, HK3.out⟩
        case measure => simp [intOf]
      · have hbit : (bits .and .u8 (r : Int) 8 != 0) = false := bit_zero r 3 (by omega) (by omega) hb
        have hs : rightsTo r 4 = rightsTo r 3 := rightsTo_no r 3 hb
        rw [← hs] at HO ⊢
        have hp : ((2 ^ 3 : Nat) : Int) = 8 := rfl
        rw [hp]
        clear hb hs hn5
        go_wp2
        go_roundw
        case rel => exact ⟨4, A, cap, by omega, by rfl, rfl, HO, HK.out⟩
        case measure => simp [intOf]
    · by_cases hb : r / 2 ^ 4 % 2 = 1
      · have hbit : (bits .and .u8 (r : Int) 16 != 0) = true := bit_one r 4 (by omega) (by omega) hb
        have hs : Hid (rightsTo r 5 = rightsTo r 4 ++ [letterN 4]) := Lib.hid (rightsTo_yes r 4 hb)
        clear hb
        generalize rightsTo r 4 = l at *
        have hp : ((2 ^ 4 : Nat) : Int) = 16 := rfl
        rw [hp]
        go_wp2_with fail
        refine (letterOf_4 _).mono ?_
        rintro e w1 ⟨rfl, rfl⟩
        go_wp2_with (refine wpList_append_mine rfl (.tmp 16) (.tmp 19) 47 rfl 5 1 1 Tryd.underlying47 Tryd.szB (by decide) w.heap.size (.slice A l.length cap) l.length (byteV l) rfl (own_kept (G := NoBlk) HO.out ((Kept.refl _ _).alloc _) (fun _ _ e => e)) (some ⟨wr.heap.size, 0, none⟩) 1 1 [.int .u8 100] rfl (Row.new (Blk.new _ _ _) rfl (by simp [maxLen])) rfl (by simp only [maxLen]; omega) (by omega) (by simp; omega) ?_; intro A' cap' w3 hown3 hK3)
        have hlen : (l ++ [letterN 4]).length = l.length + 1 := by rw [List.length_append, List.length_singleton]
        have HO3 : Hid (w3.ownsRow w.heap.size 5 1 (.slice A' (l ++ [letterN 4]).length cap') (l ++ [letterN 4]).length (byteV (l ++ [letterN 4]))) := Lib.hid (by
          rw [hlen]
          unfold byteV
          rw [List.map_append]
          exact hown3)
        have HK3 := Lib.hid (Kept.fresh (HK.out.alloc _) hK3 (fun b e => e))
        rw [← hlen]
        rw [← hs.out] at HO3 ⊢
        clear hown3 hK3 hlen
        go_roundw
        case rel => exact ⟨5, A', cap', by omega, by rfl, rfl, HO3, HK3.out⟩
        case measure => simp [intOf]
      · have hbit : (bits .and .u8 (r : Int) 16 != 0) = false := bit_zero r 4 (by omega) (by omega) hb
        have hs : rightsTo r 5 = rightsTo r 4 := rightsTo_no r 4 hb
        rw [← hs] at HO ⊢
        have hp : ((2 ^ 4 : Nat) : Int) = 16 := rfl
        rw [hp]
        clear hb hs hn5
        go_wp2
        go_roundw
        case rel => exact ⟨5, A, cap, by omega, by rfl, rfl, HO, HK.out⟩
        case measure => simp [intOf]
    · have hp : ((2 ^ 5 : Nat) : Int) = 32 := rfl
      rw [hp]
      generalize hl : rightsTo r 5 = l at *
      by_cases h0 : l = []
      · subst h0
        have HV2 : Hid (V = (mk [45], 0)) := Lib.hid (by rw [HV.out]; unfold rightsS; rw [if_pos hl])
        go_wp2
        go_ret2
        exact ⟨by rw [HV2.out]; rfl, HK.out⟩
      · have HV2 : Hid (V = (mk l, 0)) := Lib.hid (by rw [HV.out]; unfold rightsS; rw [if_neg (by rw [hl]; exact h0), hl])
        have h0' : 0 < l.length := List.length_pos_iff.2 h0
        have hne : ((l.length : Int) == 0) = false := beq_eq_false_iff_ne.2 (by omega)
        have hrow : Row wr 5 1 (.slice A l.length cap) l.length (byteV l) := Row.of_own HO.out
        obtain ⟨b, o, c, e1, -, -, hbl, -, hbc⟩ := hrow.place h0'
        injection e1 with e1 _ e2
        subst e1 e2
        have hcv := fun (w : World) hc => run_convert_bytes_back (P := Tryd.prog) w 47 9 5 ⟨b, o, none⟩ cap l Tryd.underlying47 Tryd.underlying5 Tryd.underlying9 hc
        have hcell : ∀ j (hj : j < l.length), wr.cell? ((⟨b, o, none⟩ : Addr).add j) = some (.int .u8 (l[j].toNat : Int)) := fun j hj => by
          have hadd : (⟨b, o, none⟩ : Addr).add j = ⟨b, o + j, none⟩ := by unfold Addr.add; split <;> simp_all
          rw [hadd]
          refine hbc j _ ?_
          unfold byteV
          rw [List.getElem?_map, List.getElem?_eq_getElem hj]
          rfl
        have hcv1 := hcv wr hcell
        clear hcv hcell hbc hrow hl h0
        go_wp2
        go_ret2
        exact ⟨by rw [HV2.out]; rfl, HK.out⟩
end Go.Proofs.YtlaplonmbnncaaaDoor
