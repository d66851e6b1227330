/- What both areas tell is the same; deeds that are played on both; what must be whatever is asked. -/
import Derived.Test.YtbggdimkfkdhmaaL1
namespace Go.Proofs.Ytbggdimkfkdhmaa
open Go.RowKit

def q8 : Nat → Int
  | 0 => 8
  | _ => 0
def lS1 : St := entrySt (newSt q8) 1 64
def lS2 : St := upcallSt lS1 1 300

def TrueKept (w : World) (e : Ending) (w' : World) : Prop := e = .returned (.bool true) ∧ Kept NoBlk w w'

theorem kept_own {w w1 w2 : World} {g : Nat} (h : Kept NoBlk w w1) (hg : w.heap.size ≤ g) (h2 : Kept (OneBlk g) w1 w2) : Kept NoBlk w w2 := h.fresh h2 (fun b e => by rw [show b = g from e]; exact hg)

set_option maxHeartbeats 4000000 in
theorem live_any (w : World) : Calls Try.prog 10 #[] w (TrueKept w) := by
  have hN : ∀ w, Calls Try.prog 25 #[.agg #[.int .u16 8, .int .u16 0, .int .u16 0, .int .u16 0, .int .u16 0, .int .u16 0, .int .u16 0, .int .u16 0, .int .u16 0]] w fun e w' => ∃ g, e = .returned (.pointer (some ⟨g, 0, none⟩)) ∧ w.heap.size ≤ g ∧ g < w'.heap.size ∧ IsA w' g (newSt q8) ∧ Kept NoBlk w w' := fun w => new_any w q8
  have hE : ∀ w g, IsA w g (newSt q8) → Calls Try.prog 14 #[.pointer (some ⟨g, 0, none⟩), .int .u8 1, .int .u16 64] w fun e w' => e = .returned (.int .i64 0) ∧ IsA w' g lS1 ∧ Kept (OneBlk g) w w' := fun w g h => entry_ok w g _ h 1 64 (by decide) (by decide)
  have hU : ∀ w g, IsA w g lS1 → Calls Try.prog 15 #[.pointer (some ⟨g, 0, none⟩), .int .u8 1, .int .u16 300] w fun e w' => e = .returned (.int .i64 0) ∧ IsA w' g lS2 ∧ Kept (OneBlk g) w w' := fun w g h => upcall_ok w g _ h rfl 1 300 (by decide) (by decide) rfl (by decide)
  have hG : ∀ w g, IsA w g lS2 → Calls Try.prog 18 #[.pointer (some ⟨g, 0, none⟩)] w fun e w' => e = .returned (.agg #[.int .u16 64, .int .u16 0, .int .u16 300, .int .u16 1, .int .u16 0, .int .u16 0, .int .u16 0, .int .u16 0, .int .u16 0]) ∧ Kept NoBlk w w' := fun w g h => regs_any w g _ h
  have hR : ∀ w g, IsA w g lS2 → Calls Try.prog 12 #[.pointer (some ⟨g, 0, none⟩)] w fun e w' => e = .returned (.int .i64 0) ∧ IsA w' g { lS2 with rg := q8, kept := [] } ∧ Kept (OneBlk g) w w' := fun w g h => return_some w g _ h rfl [] q8 rfl
  have hG2 : ∀ w g, IsA w g { lS2 with rg := q8, kept := [] } → Calls Try.prog 18 #[.pointer (some ⟨g, 0, none⟩)] w fun e w' => e = .returned (.agg #[.int .u16 8, .int .u16 0, .int .u16 0, .int .u16 0, .int .u16 0, .int .u16 0, .int .u16 0, .int .u16 0, .int .u16 0]) ∧ Kept NoBlk w w' := fun w g h => regs_any w g _ h
  have hU2 : ∀ w g, IsA w g { lS2 with rg := q8, kept := [] } → Calls Try.prog 15 #[.pointer (some ⟨g, 0, none⟩), .int .u8 0, .int .u16 1] w fun e w' => e = .returned (.int .i64 5) ∧ Kept NoBlk w w' := fun w g h => upcall_noent w g _ h rfl 0 1 (by decide) (by decide) rfl rfl
  have HN := Lib.hid hN
  have HE := Lib.hid hE
  have HU := Lib.hid hU
  have HG := Lib.hid hG
  have HR := Lib.hid hR
  have HG2 := Lib.hid hG2
  have HU2 := Lib.hid hU2
  clear hN hE hU hG hR hG2 hU2
  have hq := run_eql_regs
  go_enter Try.func10, Try.ntmps10
  go_wp2_with fail
  refine (HN.out _).mono ?_
  rintro e w1 ⟨g, rfl, hg, hg1, hA1, hK1⟩
  go_wp2_with fail
  refine (HE.out _ g hA1).mono ?_
  rintro e w2 ⟨rfl, hA2, hK2⟩
  have hk2 := kept_own hK1 hg hK2
  go_wp2_with fail
  refine (HU.out _ g hA2).mono ?_
  rintro e w3 ⟨rfl, hA3, hK3⟩
  have hk3 := kept_own hk2 hg hK3
  go_wp2_with fail
  refine (HG.out _ g hA3).mono ?_
  rintro e w4 ⟨rfl, hK4⟩
  have hA4 := hA3.ofKept hK4
  have hk4 := hk3.trans hK4
  go_wp2_with fail
  have hA5 := hA4.ofKept ((Kept.refl NoBlk w4).alloc (.cells #[.int .u16 64, .int .u16 0, .int .u16 300, .int .u16 1, .int .u16 0, .int .u16 0, .int .u16 0, .int .u16 0, .int .u16 0] 31))
  have hglt := hA4.lt
  refine (HR.out _ g hA5).mono ?_
  rintro e w5 ⟨rfl, hA6, hK5⟩
  have hbx := Blk.kept (Blk.new w4 31 _) hK5 (by show ¬ w4.heap.size = g; omega)
  have hk5 := kept_own (hk4.alloc _) hg hK5
  have hcx := hbx.cell
  have HBX := Lib.hid hbx
  clear hbx
  go_wp2_with fail
  refine (HG2.out _ g hA6).mono ?_
  rintro e w6 ⟨rfl, hK6⟩
  have hA7 := hA6.ofKept hK6
  have hk6 := hk5.trans hK6
  go_wp2_with fail
  refine (HU2.out _ g hA7).mono ?_
  rintro e w7 ⟨rfl, hK7⟩
  have hk7 := hk6.trans hK7
  go_wp2
  go_ret
  exact ⟨by simp, hk7⟩

theorem kindsInt (S : St) : kindsOf S = (((List.range 5).filter S.has).map (fun (k : Nat) => (k : Int))).map (Value.int .u8) := by
  unfold kindsOf
  rw [List.map_map]
  rfl

theorem run_eql_regV (w : World) (r : Nat → Int) : (binOp .eql 31 (regV r) (regV r)).run Try.prog w = .ok (.bool true) w := by
  unfold regV
  rw [run_eql_regs]
  simp

theorem run_eqGuard_regV (w : World) (x y : Operand) (r : Nat → Int) : (eqGuard .eql 31 x y (regV r) (regV r)).run Try.prog w = .ok () w := by
  unfold regV
  exact run_eqGuard_agg w .eql 31 x y _ _ (by kernel_rfl)

set_option maxHeartbeats 4000000 in
theorem same_any (w : World) (g h : Nat) (S : St) (hI : Inv S) (hA : IsA w g S) (hR : IsR w h S) :
   Calls Try.prog 20 #[.pointer (some ⟨g, 0, none⟩), .pointer (some ⟨h, 0, none⟩)] w (TrueKept w) := by
  have HA := Lib.hid hA
  have HR := Lib.hid hR
  clear hA hR
  have hq := run_eql_regV
  have hqg := run_eqGuard_regV
  go_enter Try.func20, Try.ntmps20
  go_wp2
  go_loopw [5, 6, 7, 8, 9] (fun i _ _ _ _ wr => ∃ j : Nat, j ≤ 6 ∧ i = .int .u8 j ∧ Kept NoBlk w wr) (fun i _ _ _ _ _ => 6 - (intOf i).toNat)
  case atStart => exact ⟨0, by omega, rfl, Kept.refl _ _⟩
  case round =>
    obtain ⟨j, hj, rfl, hK⟩ := hrel
    have hA1 := HA.out.ofKept hK
    have hR1 := HR.out.ofKept hK
    have HK := Lib.hid hK
    clear hK
    by_cases hlt : j < 5
    · have hw1 := where_ok wr g S hA1 (j : Int) (by omega) (by omega)
      have hw2 := fun n => rwhere_ok (wr.drewN n) h S (hR1.ofKept ((Kept.refl _ _).drewN n)) (j : Int) (by omega) (by omega) (hI.1 _ (by omega))
      rw [Int.toNat_natCast] at hw1
      simp only [Int.toNat_natCast] at hw2
      have HW1 := Lib.hid hw1
      have HW2 := Lib.hid hw2
      clear hw1 hw2 hA1 hR1
      generalize S.to j = t at *
      generalize S.has j = b at *
      go_wp2_with (first | (go_at_call 19; refine (HW1.out).mono ?_; rintro e w' ⟨rfl, nq, rfl⟩) | (go_at_call 30; refine (HW2.out _).mono ?_; rintro e w' ⟨rfl, rfl⟩))
      go_roundw
      case rel => exact ⟨j + 1, by omega, by go_num, HK.out.drewN _⟩
      case measure => simp [intOf]; omega
    · by_cases hlt5 : j = 5
      · subst hlt5
        have hw1 := where_range wr (some ⟨g, 0, none⟩) 5 rfl (by decide)
        have hw2 := rwhere_range wr (some ⟨h, 0, none⟩) 5 rfl (by decide)
        have HW1 := Lib.hid hw1
        have HW2 := Lib.hid hw2
        clear hw1 hw2 hA1 hR1 hlt
        go_wp2_with (first | (go_at_call 19; refine (HW1.out).mono ?_; rintro e w' ⟨rfl, rfl⟩) | (go_at_call 30; refine (HW2.out).mono ?_; rintro e w' ⟨rfl, rfl⟩))
        go_roundw
        case rel => exact ⟨6, by omega, by go_num, HK.out⟩
        case measure => simp [intOf]
      · obtain rfl : j = 6 := by omega
        clear hlt hlt5
        go_wp2_with fail
        refine (regs_any _ g S hA1).mono ?_
        rintro e w1 ⟨rfl, hK1⟩
        have hR2 := hR1.ofKept hK1
        go_wp2_with fail
        refine (rregs_any _ h S hR2).mono ?_
        rintro e w2 ⟨rfl, hK2⟩
        have hA3 := hA1.ofKept (hK1.trans hK2)
        have hR3 := hR2.ofKept hK2
        go_wp2_with fail
        refine (depth_any _ g S hA3).mono ?_
        rintro e w3 ⟨rfl, rfl⟩
        go_wp2_with fail
        refine (rdepth_any _ h S hR3).mono ?_
        rintro e w3 ⟨rfl, rfl⟩
        go_wp2_with fail
        refine (entries_any _ g S hA3).mono ?_
        rintro e w4 ⟨A1, n1, c1, rfl, hr1, hK4⟩
        have hR5 := hR3.ofKept hK4
        have hA5 := hA3.ofKept hK4
        go_wp2_with fail
        refine (rentries_any _ h S hR5).mono ?_
        rintro e w5 ⟨A2, n2, c2, rfl, hr2, hK5⟩
        have hn1 := hr1.1
        have hn2 := hr2.1
        obtain rfl : n1 = n2 := by omega
        have hn5 : n1 ≤ 5 := by
          have := kindsTo_length S 5
          have e : kindsTo S 5 = kindsOf S := rfl
          rw [e] at this
          omega
        have hr1' := hr1.kept hK5 (fun _ _ _ e => e)
        rw [kindsInt] at hr1' hr2
        have HS := Lib.hid (same_yes w5 A1 A2 n1 c1 c2 _ hr1' hr2 hn5)
        clear hn1 hn2 hr1 hr2 hr1'
        go_wp2_with fail
        refine (HS.out).mono ?_
        rintro e w6 ⟨rfl, hK6⟩
        have hA7 := hA5.ofKept (hK5.trans hK6)
        have hR7 := hR5.ofKept (hK5.trans hK6)
        go_wp2_with fail
        refine (alive_any _ g S hA7).mono ?_
        rintro e w7 ⟨rfl, rfl⟩
        go_wp2_with fail
        refine (ralive_any _ h S hR7).mono ?_
        rintro e w7 ⟨rfl, rfl⟩
        go_wp2
        go_ret
        exact ⟨by simp, (((HK.out.trans hK1).trans hK2).trans hK4).trans (hK5.trans hK6)⟩
end Go.Proofs.Ytbggdimkfkdhmaa
