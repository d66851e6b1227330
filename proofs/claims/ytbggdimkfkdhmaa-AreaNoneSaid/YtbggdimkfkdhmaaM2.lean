/- The laws of area: what becomes of a fork; a nil area; what ended. -/
import Derived.Test.YtbggdimkfkdhmaaM1
import Derived.Test.YtbggdimkfkdhmaaN1
namespace Go.Proofs.Ytbggdimkfkdhmaa
open Go.RowKit

/-- Two pairs of areas, of which the deeds of one leave the other alone. -/
theorem IsA.away {w w' : World} {g g1 h1 : Nat} {S S1 : St} (hA : IsA w g S) (hA1 : IsA w g1 S1) (hR1 : IsR w h1 S1) (hne : g ≠ g1) (hk : Kept (TwoBlk g1 h1) w w') : IsA w' g S := by
  have hne2 := hA.ne hR1
  obtain ⟨_, hB1, _⟩ := hA1
  obtain ⟨_, hB2, _⟩ := hR1
  exact hA.kept hk (fun e => by rcases e with e | e; exact hne e; exact hne2 e) (fun b cs hb e => by rcases e with e | e; exact (hB1.ne_ hb (by decide)) e.symm; exact (hB2.ne_ hb (by decide)) e.symm)
theorem IsR.away {w w' : World} {h g1 h1 : Nat} {S S1 : St} (hR : IsR w h S) (hA1 : IsA w g1 S1) (hR1 : IsR w h1 S1) (hne : h ≠ h1) (hk : Kept (TwoBlk g1 h1) w w') : IsR w' h S := by
  have hne2 := hA1.ne hR
  obtain ⟨_, hB1, _⟩ := hA1
  obtain ⟨_, hB2, _⟩ := hR1
  exact hR.kept hk (fun e => by rcases e with e | e; exact hne2 e.symm; exact hne e) (fun b cs hb e => by rcases e with e | e; exact (hB1.ne_ hb (by decide)) e.symm; exact (hB2.ne_ hb (by decide)) e.symm)

set_option maxHeartbeats 4000000 in
theorem forks_any (w : World) (A : Option Addr) (n cap : Nat) (hD : IsDeeds w A n) (A2 : Option Addr) (n2 cap2 : Nat) (hD2 : IsDeeds w A2 n2) :
   Calls Try.prog 7 #[.slice A n cap, .slice A2 n2 cap2] w (TrueKept w) := by
  have HP := Lib.hid (play0 w A n cap hD 4)
  have HD := Lib.hid hD2
  clear hD hD2
  go_enter Try.func7, Try.ntmps7
  go_wp2_with fail
  refine (HP.out).mono ?_
  rintro e w1 ⟨g, h, rfl, hg, hh, S, hI, hA, hR, hK⟩
  go_wp2_with fail
  refine (live_any w1).mono ?_
  rintro e w2 ⟨rfl, hK2⟩
  have hA2 := hA.ofKept hK2
  have hR2 := hR.ofKept hK2
  have hk2 := hK.trans hK2
  go_wp2_with fail
  refine (fork_any w2 g S hA2).mono ?_
  rintro e w3 ⟨g1, rfl, hg1, hg1', hF, hK3⟩
  have hR3 := hR2.ofKept hK3
  have hA3 := hA2.ofKept hK3
  have hlg := hA2.lt
  have hlh := hR3.lt
  go_wp2_with fail
  refine (rfork_any w3 h S hR3).mono ?_
  rintro e w4 ⟨h1, rfl, hh1, hh1', hG, hK4⟩
  have hgg : g ≠ g1 := by omega
  have hhh : h ≠ h1 := by omega
  have hk4 : Kept NoBlk w w4 := (hk2.trans hK3).trans hK4
  have hwg1 : w.heap.size ≤ g1 := by have := hk2.size; omega
  have hwh1 : w.heap.size ≤ h1 := by have := (hk2.trans hK3).size; omega
  have HA := Lib.hid (hA3.ofKept hK4)
  have HR := Lib.hid (hR3.ofKept hK4)
  have HF := Lib.hid (hF.ofKept hK4)
  have HG := Lib.hid hG
  have HK := Lib.hid hk4
  clear hA hR hK hK2 hA2 hR2 hk2 hF hK3 hR3 hA3 hG hK4 hk4 hlg hlh hg1 hg1' hh1 hh1'
  go_wp2_with fail
  go_loopw [10] (fun i wr => ∃ (j : Nat) (S' : St), j ≤ n2 ∧ j ≤ 14 ∧ i = .int .i64 j ∧ Inv S' ∧ IsA wr g1 S' ∧ IsR wr h1 S' ∧ IsA wr g S ∧ IsR wr h S ∧ Kept NoBlk w wr) (fun i _ => 14 - (intOf i).toNat)
  case atStart => exact ⟨0, S, by omega, by omega, rfl, hI, HF.out, HG.out, HA.out, HR.out, HK.out⟩
  case round =>
    obtain ⟨j, S', hj, hj14, rfl, hI', hF', hG', hA', hR', hK'⟩ := hrel
    clear HF HG HA HR HK
    have HF := Lib.hid hF'
    have HG := Lib.hid hG'
    have HA := Lib.hid hA'
    have HR := Lib.hid hR'
    have HK := Lib.hid hK'
    have HI := Lib.hid hI'
    clear hF' hG' hA' hR' hK' hI'
    by_cases hlt : j < n2 ∧ j < 14
    · obtain ⟨hlt, hlt14⟩ := hlt
      obtain ⟨b, off, rfl, hb, hd⟩ := (HD.out.kept HK.out) (by omega)
      obtain ⟨dn, dk, dx, q, h0, c1, c2, c3, c4⟩ := hd j hlt
      have d0 : wr.cell? ⟨b, off + j * 12 + 3, none⟩ = some (.int .u16 (q 0)) := c4 0 (by omega)
      have d1 : wr.cell? ⟨b, off + j * 12 + 4, none⟩ = some (.int .u16 (q 1)) := c4 1 (by omega)
      have d2 : wr.cell? ⟨b, off + j * 12 + 5, none⟩ = some (.int .u16 (q 2)) := c4 2 (by omega)
      have d3 : wr.cell? ⟨b, off + j * 12 + 6, none⟩ = some (.int .u16 (q 3)) := c4 3 (by omega)
      have d4 : wr.cell? ⟨b, off + j * 12 + 7, none⟩ = some (.int .u16 (q 4)) := c4 4 (by omega)
      have d5 : wr.cell? ⟨b, off + j * 12 + 8, none⟩ = some (.int .u16 (q 5)) := c4 5 (by omega)
      have d6 : wr.cell? ⟨b, off + j * 12 + 9, none⟩ = some (.int .u16 (q 6)) := c4 6 (by omega)
      have d7 : wr.cell? ⟨b, off + j * 12 + 10, none⟩ = some (.int .u16 (q 7)) := c4 7 (by omega)
      have d8 : wr.cell? ⟨b, off + j * 12 + 11, none⟩ = some (.int .u16 (q 8)) := c4 8 (by omega)
      clear c4 hd
      go_wp2_with fail
      refine (do_any wr g1 h1 S' HI.out HF.out HG.out dn dk dx q h0).mono ?_
      rintro e w5 ⟨rfl, S2, hI2, hF2, hG2, hK5⟩
      have hk5 : Kept NoBlk w w5 := HK.out.fresh hK5 (fun b e => by rcases e with e | e <;> omega)
      have hA5 := HA.out.away HF.out HG.out hgg hK5
      have hR5 := HR.out.away HF.out HG.out hhh hK5
      go_wp2
      go_roundw
      case rel => exact ⟨j + 1, S2, by omega, by omega, by go_num, hI2, hF2, hG2, hA5, hR5, hk5⟩
      case measure => simp [intOf]; omega
    · have hend : j = n2 ∨ j = 14 := by omega
      have Hend : ∀ wr', Kept NoBlk wr wr' → Calls Try.prog 20 #[.pointer (some ⟨g, 0, none⟩), .pointer (some ⟨h, 0, none⟩)] wr' (TrueKept wr') := fun wr' hk => same_any wr' g h S hI (HA.out.ofKept hk) (HR.out.ofKept hk)
      have Hend2 : ∀ wr', Kept NoBlk wr wr' → Calls Try.prog 20 #[.pointer (some ⟨g1, 0, none⟩), .pointer (some ⟨h1, 0, none⟩)] wr' (TrueKept wr') := fun wr' hk => same_any wr' g1 h1 S' HI.out (HF.out.ofKept hk) (HG.out.ofKept hk)
      have HE1 := Lib.hid Hend
      have HE2 := Lib.hid Hend2
      clear Hend Hend2
      by_cases hn2 : j < n2
      · obtain rfl : j = 14 := by omega
        clear hlt hend
        go_wp2_with fail
        refine (HE1.out _ (Kept.refl _ _)).mono ?_
        rintro e w5 ⟨rfl, hK5⟩
        go_wp2_with fail
        refine (HE2.out _ hK5).mono ?_
        rintro e w6 ⟨rfl, hK6⟩
        go_wp2
        go_ret
        exact trueKept_mk ((HK.out.trans hK5).trans hK6)
      · obtain rfl : j = n2 := by omega
        clear hlt hend hn2
        go_wp2_with fail
        refine (HE1.out _ (Kept.refl _ _)).mono ?_
        rintro e w5 ⟨rfl, hK5⟩
        go_wp2_with fail
        refine (HE2.out _ hK5).mono ?_
        rintro e w6 ⟨rfl, hK6⟩
        go_wp2
        go_ret
        exact trueKept_mk ((HK.out.trans hK5).trans hK6)

set_option maxHeartbeats 4000000 in
theorem none_any (w : World) (n k x : Int) (q : Nat → Int) : Calls Try.prog 8 #[deedV n k x q] w (TrueKept w) := by
  have hq := run_eql_regs
  have HS := Lib.hid set_nil
  unfold deedV
  go_enter Try.func8, Try.ntmps8
  go_wp2_with fail
  refine (where_nil _ k).mono ?_
  rintro e w' ⟨rfl, rfl⟩
  go_wp2_with fail
  refine (live_any _).mono ?_
  rintro e w1 ⟨rfl, hK1⟩
  have hk1 : Kept NoBlk w w1 := Kept.trans (by repeat (with_reducible first | exact Kept.refl _ _ | apply Kept.drew | apply Kept.drewN | apply Kept.alloc | exact oneHit | apply Kept.setCell)) hK1
  have hbx := (Blk.kept (Blk.new w 39 _) hK1 (fun e => e))
  have hcx := hbx.cell
  go_wp2_with fail
  refine (entry_nil _ k x).mono ?_
  rintro e w' ⟨rfl, rfl⟩
  go_wp2_with fail
  refine (upcall_nil _ k x).mono ?_
  rintro e w2 ⟨rfl, hK2⟩
  have hk2 := hk1.trans hK2
  have hbx2 := hbx.kept hK2 (fun e => e)
  have hcx2 := hbx2.cell
  clear hcx
  go_wp2_with fail
  refine (return_nil _).mono ?_
  rintro e w' ⟨rfl, rfl⟩
  go_wp2_with fail
  refine (HS.out _ q).mono ?_
  rintro e w3 ⟨rfl, hK3⟩
  have hk3 := hk2.trans hK3
  clear hcx2
  go_wp2_with fail
  refine (kill_nil _).mono ?_
  rintro e w' ⟨rfl, rfl⟩
  go_wp2_with fail
  refine (regs_nil _).mono ?_
  rintro e w4 ⟨rfl, hK4⟩
  have hk4 := hk3.trans hK4
  go_wp2_with fail
  refine (depth_nil _).mono ?_
  rintro e w' ⟨rfl, rfl⟩
  go_wp2_with fail
  refine (entries_nil _).mono ?_
  rintro e w' ⟨rfl, rfl⟩
  go_wp2_with fail
  refine (alive_nil _).mono ?_
  rintro e w' ⟨rfl, rfl⟩
  go_wp2_with fail
  refine (fork_nil _).mono ?_
  rintro e w' ⟨rfl, rfl⟩
  go_wp2
  go_ret
  exact ⟨by simp, hk4⟩
end Go.Proofs.Ytbggdimkfkdhmaa
