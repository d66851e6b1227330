/- The laws of area: what ended stays so. -/
import Derived.Test.YtbggdimkfkdhmaaM1
namespace Go.Proofs.Ytbggdimkfkdhmaa
open Go.RowKit

structure DeadSt (S : St) : Prop where
  dead : S.dead = true
  kept : S.kept = []
  rg : S.rg = fun _ => 0

theorem kill_any (w : World) (g : Nat) (S : St) (hI : Inv S) (hA : IsA w g S) :
   Calls Try.prog 13 #[.pointer (some ⟨g, 0, none⟩)] w fun e w' => ∃ err S', e = .returned (.int .i64 err) ∧ DeadSt S' ∧ IsA w' g S' ∧ Kept (OneBlk g) w w' := by
  cases hd : S.dead with
  | true => exact (kill_dead w g S hA hd).mono fun e w' ⟨he, hw⟩ => ⟨9, S, he, ⟨hd, (hI.2 hd).1, (hI.2 hd).2⟩, hw ▸ hA, hw ▸ Kept.refl _ _⟩
  | false => exact (kill_ok w g S hA hd).mono fun e w' ⟨he, hA', hK⟩ => ⟨0, killSt S, he, ⟨rfl, rfl, rfl⟩, hA', hK⟩

theorem entry_dead (w : World) (g : Nat) (S : St) (hD : DeadSt S) (hA : IsA w g S) (k x : Int) (h0 : 0 ≤ k) :
   Calls Try.prog 14 #[.pointer (some ⟨g, 0, none⟩), .int .u8 k, .int .u16 x] w fun e w' => ∃ err S', e = .returned (.int .i64 err) ∧ DeadSt S' ∧ IsA w' g S' ∧ Kept (OneBlk g) w w' := by
  by_cases h1 : k < 5
  · exact (entry_ok w g S hA k x h0 h1).mono fun e w' ⟨he, hA', hK⟩ => ⟨0, entrySt S k.toNat x, he, ⟨hD.dead, hD.kept, hD.rg⟩, hA', hK⟩
  · exact (entry_range w _ k x rfl (by omega)).mono fun e w' ⟨he, hw⟩ => ⟨2, S, he, hD, hw ▸ hA, hw ▸ Kept.refl _ _⟩

def StateOrRange (w : World) (e : Ending) (w' : World) : Prop := ∃ err : Int, (err = 9 ∨ err = 2) ∧ e = .returned (.int .i64 err) ∧ Kept NoBlk w w'

theorem upcall_ended (w : World) (g : Nat) (S : St) (hD : DeadSt S) (hA : IsA w g S) (k x : Int) (h0 : 0 ≤ k) :
   Calls Try.prog 15 #[.pointer (some ⟨g, 0, none⟩), .int .u8 k, .int .u16 x] w (StateOrRange w) := by
  by_cases h1 : k < 5
  · exact (upcall_dead w g S hA hD.dead k x h0 h1).mono fun e w' ⟨he, hK⟩ => ⟨9, .inl rfl, he, hK⟩
  · exact (upcall_range w _ k x rfl (by omega)).mono fun e w' ⟨he, hK⟩ => ⟨2, .inr rfl, he, hK⟩

theorem regs_dead (w : World) (g : Nat) (S : St) (hD : DeadSt S) (h : IsA w g S) :
   Calls Try.prog 18 #[.pointer (some ⟨g, 0, none⟩)] w fun e w' => e = .returned (.agg #[.int .u16 0, .int .u16 0, .int .u16 0, .int .u16 0, .int .u16 0, .int .u16 0, .int .u16 0, .int .u16 0, .int .u16 0]) ∧ Kept NoBlk w w' :=
  (regs_any w g S h).mono fun e w' ⟨he, hK⟩ => ⟨by rw [he, hD.rg]; rfl, hK⟩

set_option maxHeartbeats 8000000 in
theorem dead_any (w : World) (A : Option Addr) (n cap : Nat) (hD : IsDeeds w A n) (A2 : Option Addr) (n2 cap2 : Nat) (hD2 : IsDeeds w A2 n2) :
   Calls Try.prog 4 #[.slice A n cap, .slice A2 n2 cap2] w (TrueKept w) := by
  have HP := Lib.hid (play0 w A n cap hD 0)
  have HD := Lib.hid hD2
  have hq := run_eql_regs
  clear hD hD2
  go_enter Try.func4, Try.ntmps4
  go_wp2_with fail
  refine (HP.out).mono ?_
  rintro e w1 ⟨g, h, rfl, hg, hh, S, hI, hA, hR, hK⟩
  go_wp2_with fail
  refine (live_any w1).mono ?_
  rintro e w2 ⟨rfl, hK2⟩
  go_wp2_with fail
  refine (kill_any w2 g S hI (hA.ofKept hK2)).mono ?_
  rintro e w3 ⟨err, S3, rfl, hD3, hA3, hK3⟩
  have hk3 : Kept NoBlk w w3 := kept_own (hK.trans hK2) hg hK3
  have HA := Lib.hid hA3
  have HK := Lib.hid hk3
  clear hA hR hK hK2 hK3 hI hA3 hk3
  go_wp2_with fail
  go_loopw [8, 9, 10] (fun i _ _ wr => ∃ (j : Nat) (S' : St), j ≤ n2 ∧ j ≤ 12 ∧ i = .int .i64 j ∧ DeadSt S' ∧ IsA wr g S' ∧ Kept NoBlk w wr) (fun i _ _ _ => 12 - (intOf i).toNat)
  case atStart => exact ⟨0, S3, by omega, by omega, rfl, hD3, HA.out, HK.out⟩
  case round =>
    obtain ⟨j, S', hj, hj12, rfl, hD', hA', hK'⟩ := hrel
    clear HA HK
    have HA := Lib.hid hA'
    have HK := Lib.hid hK'
    have HDS := Lib.hid hD'
    have hglt := hA'.lt
    clear hA' hK' hD' hD3
    by_cases hlt : j < n2 ∧ j < 12
    · obtain ⟨hlt, hlt12⟩ := hlt
      obtain ⟨b, off, rfl, hb, hd⟩ := (HD.out.kept HK.out) (by omega)
      obtain ⟨dn, dk, dx, q, h0, c1, c2, c3, c4⟩ := hd j hlt
      have d0 : wr.cell? ⟨b, off + j * 12 + 3, none⟩ = some (.int .u16 (q 0)) := c4 0 (by omega)
      have d1 : wr.cell? ⟨b, off + j * 12 + 4, none⟩ = some (.int .u16 (q 1)) := c4 1 (by omega)
      have d2 : wr.cell? ⟨b, off + j * 12 + 5, none⟩ = some (.int .u16 (q 2)) := c4 2 (by omega)
      have d3 : wr.cell? ⟨b, off + j * 12 + 6, none⟩ = some (.int .u16 (q 3)) := c4 3 (by omega)
      have d4 : wr.cell? ⟨b, off + j * 12 + 7, none⟩ = some (.int .u16 (q 4)) := c4 4 (by omega)
      have d5 : wr.cell? ⟨b, off + j * 12 + 8, none⟩ = some (.int .u16 (q 5)) := c4 5 (by omega)
      have d6 : wr.cell? ⟨b, off + j * 12 + 9, none⟩ = some (.int .u16 (q 6)) := c4 6 (by omega)
      have d7 : wr.cell? ⟨b, off + j * 12 + 10, none⟩ = some (.int .u16 (q 7)) := c4 7 (by omega)
      have d8 : wr.cell? ⟨b, off + j * 12 + 11, none⟩ = some (.int .u16 (q 8)) := c4 8 (by omega)
      clear c4 hd
      by_cases hn0 : dn = 0
      · subst hn0
        go_wp2_with fail
        refine (entry_dead _ g S' HDS.out (HA.out.ofKept ((Kept.refl _ _).alloc _)) dk dx h0).mono ?_
        rintro e w5 ⟨err5, S5, rfl, hD5, hA5, hK5⟩
        have hk5 : Kept NoBlk w w5 := kept_own (HK.out.alloc _) hg hK5
        go_wp2
        go_roundw
        case rel => exact ⟨j + 1, S5, by omega, by omega, by go_num, hD5, hA5, hk5⟩
        case measure => simp [intOf]; omega
      · have en0 : (dn == 0) = false := by simpa using hn0
        go_wp2_with fail
        refine (upcall_ended _ g S' HDS.out (HA.out.ofKept ((Kept.refl _ _).alloc _)) dk dx h0).mono ?_
        rintro e w5 ⟨err5, herr5, rfl, hK5⟩
        have hbx := (Blk.kept (Blk.new wr 39 _) hK5 (fun e => e)).cell
        have hA5 := HA.out.ofKept (Kept.trans ((Kept.refl NoBlk wr).alloc _) hK5)
        have hk5 : Kept NoBlk w w5 := (HK.out.alloc _).trans hK5
        clear c1 c2 c3 d0 d1 d2 d3 d4 d5 d6 d7 d8
        have HS5 := Lib.hid (set_dead w5 g S' hA5 HDS.out.dead q)
        have HR5 := Lib.hid (return_dead w5 g S' hA5 HDS.out.dead)
        have hA5' := fun w6 (hk : Kept NoBlk w5 w6) => hA5.ofKept hk
        have HA5 := Lib.hid hA5'
        clear hA5 hA5'
        rcases herr5 with rfl | rfl
        all_goals
          go_wp2_with fail
          refine (HR5.out).mono ?_
          rintro e w6 ⟨rfl, rfl⟩
          go_wp2_with fail
          refine (HS5.out).mono ?_
          rintro e w6 ⟨rfl, hK6⟩
          go_wp2_with fail
          refine (kill_dead w6 g S' (HA5.out w6 hK6) HDS.out.dead).mono ?_
          rintro e w7 ⟨rfl, rfl⟩
          go_wp2
          go_roundw
          case rel => exact ⟨j + 1, S', by omega, by omega, by go_num, HDS.out, HA5.out w6 hK6, hk5.trans hK6⟩
          case measure => simp [intOf]; omega
    · have hend : j = n2 ∨ j = 12 := by omega
      have HAl := Lib.hid (alive_any wr g S' HA.out)
      have HDp := Lib.hid (depth_any wr g S' HA.out)
      have HRg := Lib.hid (regs_dead wr g S' HDS.out HA.out)
      by_cases hn2 : j < n2
      · obtain rfl : j = 12 := by omega
        clear hlt hend
        go_wp2_with fail
        refine (HAl.out).mono ?_
        rintro e w5 ⟨rfl, rfl⟩
        rw [HDS.out.dead]
        go_wp2_with fail
        refine (HDp.out).mono ?_
        rintro e w5 ⟨rfl, rfl⟩
        rw [HDS.out.kept]
        go_wp2_with fail
        refine (HRg.out).mono ?_
        rintro e w5 ⟨rfl, hK5⟩
        go_wp2
        go_ret
        exact trueKept_mk (HK.out.trans hK5)
      · obtain rfl : j = n2 := by omega
        clear hlt hend hn2
        go_wp2_with fail
        refine (HAl.out).mono ?_
        rintro e w5 ⟨rfl, rfl⟩
        rw [HDS.out.dead]
        go_wp2_with fail
        refine (HDp.out).mono ?_
        rintro e w5 ⟨rfl, rfl⟩
        rw [HDS.out.kept]
        go_wp2_with fail
        refine (HRg.out).mono ?_
        rintro e w5 ⟨rfl, hK5⟩
        go_wp2
        go_ret
        exact trueKept_mk (HK.out.trans hK5)
end Go.Proofs.Ytbggdimkfkdhmaa
