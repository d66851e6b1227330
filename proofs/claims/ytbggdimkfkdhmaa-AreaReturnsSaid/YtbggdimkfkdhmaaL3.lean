/- Deeds that are played on both areas. -/
import Derived.Test.YtbggdimkfkdhmaaL2
namespace Go.Proofs.Ytbggdimkfkdhmaa
open Go.RowKit

/-- A deed lies at off in block b. -/
def DeedAt (w : World) (b off : Nat) : Prop := ∃ (dn dk dx : Int) (q : Nat → Int), 0 ≤ dk ∧ w.cell? ⟨b, off, none⟩ = some (.int .i64 dn) ∧ w.cell? ⟨b, off + 1, none⟩ = some (.int .u8 dk) ∧ w.cell? ⟨b, off + 2, none⟩ = some (.int .u16 dx) ∧
  ∀ j, j < 9 → w.cell? ⟨b, off + 3 + j, none⟩ = some (.int .u16 (q j))

/-- The slice holds n deeds. -/
def IsDeeds (w : World) (A : Option Addr) (n : Nat) : Prop := 0 < n → ∃ b off, A = some ⟨b, off, none⟩ ∧ b < w.heap.size ∧ ∀ i, i < n → DeedAt w b (off + i * 12)

theorem DeedAt.kept {w w' : World} {b off : Nat} {G : Nat → Prop} (h : DeedAt w b off) (hb : b < w.heap.size) (hk : Kept G w w') (hg : ¬ G b) : DeedAt w' b off := by
  obtain ⟨dn, dk, dx, q, h0, h1, h2, h3, h4⟩ := h
  refine ⟨dn, dk, dx, q, h0, ?_, ?_, ?_, fun j hj => ?_⟩
  · rw [hk.cell (by simpa using hb) (by simpa using hg)]; exact h1
  · rw [hk.cell (by simpa using hb) (by simpa using hg)]; exact h2
  · rw [hk.cell (by simpa using hb) (by simpa using hg)]; exact h3
  · rw [hk.cell (by simpa using hb) (by simpa using hg)]; exact h4 j hj
theorem IsDeeds.kept {w w' : World} {A : Option Addr} {n : Nat} (h : IsDeeds w A n) (hk : Kept NoBlk w w') : IsDeeds w' A n := by
  intro hn
  obtain ⟨b, off, hA, hb, hd⟩ := h hn
  exact ⟨b, off, hA, Nat.lt_of_lt_of_le hb hk.size, fun i hi => (hd i hi).kept hb hk (fun e => e)⟩

def PlayPost (w : World) (e : Ending) (w' : World) : Prop := ∃ g h, e = .returned (.tuple #[.pointer (some ⟨g, 0, none⟩), .pointer (some ⟨h, 0, none⟩), .bool true]) ∧ w.heap.size ≤ g ∧ w.heap.size ≤ h ∧ ∃ S, Inv S ∧ IsA w' g S ∧ IsR w' h S ∧ Kept NoBlk w w'

theorem inv_new (q : Nat → Int) : Inv (newSt q) := ⟨fun _ _ _ => rfl, fun e => by cases e⟩

set_option maxHeartbeats 4000000 in
theorem play_any (w : World) (s : Nat → Int) (A : Option Addr) (n cap : Nat) (hD : IsDeeds w A n) :
   Calls Try.prog 9 #[regV s, .slice A n cap] w (PlayPost w) := by
  have HD := Lib.hid hD
  clear hD
  have hN := new_any
  have hN2 := rnew_any
  unfold regV at hN hN2 ⊢
  have HN := Lib.hid hN
  have HN2 := Lib.hid hN2
  clear hN hN2
  go_enter Try.func9, Try.ntmps9
  go_wp2
  refine wp_region_plan (by kernel_rfl) (.q 0 <| .q 2 <| .e 1 [2] <| .e 3 [] <| .q 4 <| .q 5 <| .nil) (by kernel_rfl) (by kernel_rfl) ?_
  repeat (refine plan_q rfl (fun K hK => ?_); go_simp; refine hK _ ?_; clear hK K)
  refine plan_e rfl (fun K hK => ?_)
  go_simp
  refine (HN.out _ s).mono ?_
  rintro e w1 ⟨g, rfl, hg, hg1, hA1, hK1⟩
  have hbx := (Blk.kept (Blk.drew (Blk.new w 31 _)) hK1 (fun e => e)).cell
  have hk1 : Kept NoBlk w w1 := Kept.trans (by repeat (with_reducible first | exact Kept.refl _ _ | apply Kept.drew | apply Kept.drewN | apply Kept.alloc | exact oneHit | apply Kept.setCell)) hK1
  have hgw : w.heap.size ≤ g := by simp at hg; omega
  refine hK _ _ (by (repeat (refine stab_cons rfl ?_ ?_; focus (go_simp; done))); exact stab_nil) ?_
  clear hK K
  refine plan_e rfl (fun K hK => ?_)
  go_simp
  refine (HN2.out _ s).mono ?_
  rintro e w2 ⟨h, rfl, hh, hh1, hR2, hK2⟩
  have hA2 := hA1.ofKept hK2
  have hk2 := hk1.trans hK2
  have hhw : w.heap.size ≤ h := by have := hk1.size; omega
  refine hK _ _ stab_nil ?_
  clear hK K hbx
  repeat (refine plan_q rfl (fun K hK => ?_); go_simp; refine hK _ ?_; clear hK K)
  refine plan_nil ?_
  go_wp2
  go_loopw [9] (fun i wr => ∃ (j : Nat) (S : St), j ≤ n ∧ j ≤ 40 ∧ i = .int .i64 j ∧ Inv S ∧ IsA wr g S ∧ IsR wr h S ∧ Kept NoBlk w wr) (fun i _ => 40 - (intOf i).toNat)
  case atStart => exact ⟨0, newSt s, by omega, by omega, rfl, inv_new s, hA2, hR2, hk2⟩
  case round =>
    obtain ⟨j, S, hj, hj40, rfl, hI, hA, hR, hK⟩ := hrel
    have HA := Lib.hid hA
    have HR := Lib.hid hR
    have HI := Lib.hid hI
    have HK := Lib.hid hK
    clear hA hR hI hK hA1 hK1 hk1 hR2 hK2 hA2 hk2 hg hg1 hh hh1
    by_cases hlt : j < n
    · by_cases hlt40 : j < 40
      · obtain ⟨b, off, rfl, hb, hd⟩ := (HD.out.kept HK.out) (by omega)
        obtain ⟨dn, dk, dx, q, h0, c1, c2, c3, c4⟩ := hd j hlt
        have d0 : wr.cell? ⟨b, off + j * 12 + 3, none⟩ = some (.int .u16 (q 0)) := c4 0 (by omega)
        have d1 : wr.cell? ⟨b, off + j * 12 + 4, none⟩ = some (.int .u16 (q 1)) := c4 1 (by omega)
        have d2 : wr.cell? ⟨b, off + j * 12 + 5, none⟩ = some (.int .u16 (q 2)) := c4 2 (by omega)
        have d3 : wr.cell? ⟨b, off + j * 12 + 6, none⟩ = some (.int .u16 (q 3)) := c4 3 (by omega)
        have d4 : wr.cell? ⟨b, off + j * 12 + 7, none⟩ = some (.int .u16 (q 4)) := c4 4 (by omega)
        have d5 : wr.cell? ⟨b, off + j * 12 + 8, none⟩ = some (.int .u16 (q 5)) := c4 5 (by omega)
        have d6 : wr.cell? ⟨b, off + j * 12 + 9, none⟩ = some (.int .u16 (q 6)) := c4 6 (by omega)
        have d7 : wr.cell? ⟨b, off + j * 12 + 10, none⟩ = some (.int .u16 (q 7)) := c4 7 (by omega)
        have d8 : wr.cell? ⟨b, off + j * 12 + 11, none⟩ = some (.int .u16 (q 8)) := c4 8 (by omega)
        clear c4 hd
        go_wp2_with fail
        refine (do_any wr g h S HI.out HA.out HR.out dn dk dx q h0).mono ?_
        rintro e w3 ⟨rfl, S', hI', hA', hR', hK'⟩
        have hk' : Kept NoBlk w w3 := HK.out.fresh hK' (fun b e => by rcases e with e | e <;> omega)
        go_wp2
        go_roundw
        case rel => exact ⟨j + 1, S', by omega, by omega, by go_num, hI', hA', hR', hk'⟩
        case measure => simp [intOf]; omega
      · obtain rfl : j = 40 := by omega
        go_wp2
        exact bodyPost_ret (v := .tuple #[.pointer (some ⟨g, 0, none⟩), .pointer (some ⟨h, 0, none⟩), .bool true]) (by simp [results, Try.results9, go_sem]) rfl ⟨g, h, rfl, hgw, hhw, S, HI.out, HA.out, HR.out, HK.out⟩
    · go_wp2
      exact bodyPost_ret (v := .tuple #[.pointer (some ⟨g, 0, none⟩), .pointer (some ⟨h, 0, none⟩), .bool true]) (by simp [results, Try.results9, go_sem]) rfl ⟨g, h, rfl, hgw, hhw, S, HI.out, HA.out, HR.out, HK.out⟩
end Go.Proofs.Ytbggdimkfkdhmaa
