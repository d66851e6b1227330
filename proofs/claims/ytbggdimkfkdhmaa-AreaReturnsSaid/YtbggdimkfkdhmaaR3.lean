/- The contracts of the reference's area: Upcall, Entries, kinds that are compared. -/
import Derived.Test.YtbggdimkfkdhmaaR1
namespace Go.Proofs.Ytbggdimkfkdhmaa
open Go.RowKit

theorem arrR_to (S : St) (v : Value) (k : Nat) (hk : k < 5) : (arrR S v)[10 + k]? = some (.int .u16 (S.to k)) := by
  obtain rfl | rfl | rfl | rfl | rfl : k = 0 ∨ k = 1 ∨ k = 2 ∨ k = 3 ∨ k = 4 := by omega
  all_goals rfl
theorem arrR_has (S : St) (v : Value) (k : Nat) (hk : k < 5) : (arrR S v)[15 + k]? = some (.bool (S.has k)) := by
  obtain rfl | rfl | rfl | rfl | rfl : k = 0 ∨ k = 1 ∨ k = 2 ∨ k = 3 ∨ k = 4 := by omega
  all_goals rfl

theorem rupcall_range (w : World) (p : Option Addr) (k x : Int) (hp : p.isSome = true) (hk : 5 ≤ k) :
   Calls Try.prog 38 #[.pointer p, .int .u8 k, .int .u16 x] w fun e w' => e = .returned (.int .i64 2) ∧ w = w' := by
  obtain ⟨a, rfl⟩ := Option.isSome_iff_exists.1 hp
  clear hp
  go_enter Try.func38, Try.ntmps38
  go_wp2
  go_ret
  exact ⟨rfl, rfl⟩

theorem rupcall_dead (w : World) (g : Nat) (S : St) (h : IsR w g S) (hd : S.dead = true) (k x : Int) (_h0 : 0 ≤ k) (h1 : k < 5) :
   Calls Try.prog 38 #[.pointer (some ⟨g, 0, none⟩), .int .u8 k, .int .u16 x] w fun e w' => e = .returned (.int .i64 9) ∧ w = w' := by
  obtain ⟨v, hB, hR, hl⟩ := h
  obtain ⟨rg, kept, to, has, dead⟩ := S
  obtain rfl : dead = true := hd
  have hc := hB.cell
  simp only [arrR] at hc
  clear hB hR
  go_enter Try.func38, Try.ntmps38
  go_wp2
  go_ret
  exact ⟨rfl, rfl⟩

theorem rupcall_noent (w : World) (g : Nat) (S : St) (h : IsR w g S) (hd : S.dead = false) (k x : Int) (h0 : 0 ≤ k) (h1 : k < 5) (hh : S.has k.toNat = false) :
   Calls Try.prog 38 #[.pointer (some ⟨g, 0, none⟩), .int .u8 k, .int .u16 x] w fun e w' => e = .returned (.int .i64 5) ∧ w = w' := by
  obtain ⟨v, hB, hR, hl⟩ := h
  have hcd := hB.cell 20
  have hch := hB.cell (15 + k.toNat)
  rw [arrR_has S v _ (by omega), hh] at hch
  simp only [arrR, hd] at hcd
  clear hB hR
  go_enter Try.func38, Try.ntmps38
  go_wp2
  go_ret
  exact ⟨rfl, rfl⟩

theorem rupcall_space (w : World) (g : Nat) (S : St) (h : IsR w g S) (hd : S.dead = false) (k x : Int) (h0 : 0 ≤ k) (h1 : k < 5) (hh : S.has k.toNat = true) (hlen : 4 ≤ S.kept.length) :
   Calls Try.prog 38 #[.pointer (some ⟨g, 0, none⟩), .int .u8 k, .int .u16 x] w fun e w' => e = .returned (.int .i64 4) ∧ w = w' := by
  obtain ⟨v, hB, hR, hl⟩ := h
  obtain ⟨A, cap, rfl, hnc, hcm, hA0, hA1, hA2⟩ := hR.form
  have hcd := hB.cell 20
  have hc9 := hB.cell 9
  have hch := hB.cell (15 + k.toNat)
  rw [arrR_has S _ _ (by omega), hh] at hch
  simp only [arrR, hd] at hcd hc9
  generalize hN : S.kept.length = n at *
  obtain rfl : n = 4 := by omega
  clear hB hR hA0 hA1 hA2 hcm hN hl hlen
  go_enter Try.func38, Try.ntmps38
  go_wp2
  go_ret
  exact ⟨rfl, rfl⟩

/-- What the three ways through 'append(append(.., kept...), s)' come to. -/
structure Mid (w w3 : World) (g : Nat) (S : St) (n : Nat) (A' : Option Addr) (cap' : Nat) : Prop where
  blk : Blk w3 g 68 (arrR S (.slice A' (n + 1) cap'))
  row : Row w3 31 9 (.slice A' (n + 1) cap') (n + 1) (rowsOf S.kept ++ regCells S.rg)
  kept : Kept (OneBlk g) w w3

set_option maxHeartbeats 8000000 in
theorem rupcall_ok (w : World) (g : Nat) (S : St) (h : IsR w g S) (hd : S.dead = false) (k x : Int) (h0 : 0 ≤ k) (h1 : k < 5) (hh : S.has k.toNat = true) (hlen : S.kept.length < 4) :
   Calls Try.prog 38 #[.pointer (some ⟨g, 0, none⟩), .int .u8 k, .int .u16 x] w fun e w' => e = .returned (.int .i64 0) ∧ IsR w' g (upcallSt S k.toNat x) ∧ Kept (OneBlk g) w w' := by
  obtain ⟨v, hB, hR, hl⟩ := h
  obtain ⟨A, cap, rfl, hnc, hcm, hA0, hA1, hA2⟩ := hR.form
  obtain ⟨rg, kept, to, has, dead⟩ := S
  obtain rfl : dead = false := hd
  simp only at hh hlen hnc
  have hcd := hB.cell 20
  have hc9 := hB.cell 9
  have hch := hB.cell (15 + k.toNat)
  rw [arrR_has _ _ _ (by omega)] at hch
  simp only [hh] at hch
  have hcr := hB.cell
  have hr0 := hcr 0
  have hr1 := hcr 1
  have hr2 := hcr 2
  have hr3 := hcr 3
  have hr4 := hcr 4
  have hr5 := hcr 5
  have hr6 := hcr 6
  have hr7 := hcr 7
  have hr8 := hcr 8
  have hlt := hB.lt
  have hlt1 : g < w.heap.size + 1 := by omega
  have hlt2 : g < w.heap.size + 1 + 1 := by omega
  simp only [arrR] at hcd hc9 hr0 hr1 hr2 hr3 hr4 hr5 hr6 hr7 hr8
  have HB := Lib.hid hB
  have HR := Lib.hid hR
  have Hone := Lib.hid (rowsOf_one kept)
  have hkt : k.toNat < 5 := by omega
  have hwk : IntKind.u16.wrap k = ((k.toNat : Nat) : Int) := by
    have hk5 : k = 0 ∨ k = 1 ∨ k = 2 ∨ k = 3 ∨ k = 4 := by omega
    rcases hk5 with rfl | rfl | rfl | rfl | rfl <;> rfl
  have HW := Lib.hid hwk
  clear hwk
  generalize hN : kept.length = n at *
  have HN := Lib.hid hN
  clear hB hR hA0 hA1 hA2 hcr hN hcm hl
  go_enter Try.func38, Try.ntmps38
  go_wp2
  refine wp_region_plan (by kernel_rfl) (.q 0 <| .q 2 <| .q 3 <| .q 4 <| .q 5 <| .q 7 <| .q 8 <| .q 9 <| .q 10 <| .alt (.e 1 [0, 2, 3, 4, 5, 7, 8, 9, 10] <| .alt (.e 6 [0, 7, 8, 9, 10] <| .e 11 [0, 2, 3, 4, 5] <| .e 12 [0] <| .q 13 <| .q 14 <| .e 15 [] <| .nil) (.e 11 [0, 2, 3, 4, 5] <| .e 6 [0, 7, 8, 9, 10] <| .e 12 [0] <| .q 13 <| .q 14 <| .e 15 [] <| .nil)) (.e 11 [0, 2, 3, 4, 5] <| .e 1 [0, 2, 3, 4, 5, 7, 8, 9, 10] <| .e 6 [0, 7, 8, 9, 10] <| .e 12 [0] <| .q 13 <| .q 14 <| .e 15 [] <| .nil)) (by kernel_rfl) (by kernel_rfl) ?_
  repeat (refine plan_q rfl (fun K hK => ?_); go_simp; refine hK _ ?_; clear hK K)
  have fin : ∀ (w3 : World) (A' : Option Addr) (cap' : Nat), Blk w3 g 68 (arrR ⟨rg, kept, to, has, false⟩ (.slice A n cap)) → Kept NoBlk w w3 → Row w3 31 9 (.slice A' (n + 1) cap') (n + 1) (rowsOf kept ++ regCells rg) →
      Mid w (w3.setCell ⟨g, 9, none⟩ (.slice A' (n + 1) cap')) g ⟨rg, kept, to, has, false⟩ n A' cap' := by
    intro w3 A' cap' hB3 hK3 hR3
    exact ⟨Blk.cast (Blk.set_ hB3 _ _) (by simp [arrR]), hR3.kept (G := OneBlk g) ((Kept.refl _ _).setCell oneHit _) (fun b' cs hb' e => (hB3.ne_ hb' (by decide)) e.symm), (hK3.weaken (fun _ _ e => e.elim)).setCell oneHit _⟩
  have FIN := Lib.hid fin
  clear fin
  refine plan_alt ?_ ?_
  · refine plan_e rfl (fun K hK => ?_)
    go_simp
    refine hK _ _ (by (repeat (refine stab_cons rfl ?_ ?_; focus (go_simp; done))); exact stab_nil) ?_
    clear hK K
    refine plan_alt ?_ ?_
    · refine plan_e rfl (fun K hK => ?_)
      refine step_append_own1 rfl (.tmp 34) (.tmp 38) 57 rfl 31 9 18 Try.underlying57 Try.sz31 (by decide) w.heap.size (.slice (some ⟨w.heap.size, 0, none⟩) 0 0) 0 [] rfl (own_new (Blk.drew (Blk.new _ _ _)) (Nat.le_refl _)) A n cap (rowsOf kept) rfl (HR.out.kept (G := NoBlk) (by repeat (with_reducible first | exact Kept.refl _ _ | apply Kept.drew | apply Kept.drewN | apply Kept.alloc | exact oneHit | apply Kept.setCell)) (fun _ _ _ e => e)) Hone.out (by simp only [maxLen]; omega) (by omega) (by first | (simp; done) | (simp; omega)) ?_
      intro A1 cap1 w1 hown1 hK1
      simp only [Nat.zero_add, List.nil_append] at hown1 hK
      have hB1 : Blk w1 g 68 (arrR ⟨rg, kept, to, has, false⟩ (.slice A n cap)) := Blk.kept (by repeat (with_reducible first | exact HB.out | apply Blk.drew | apply Blk.drewN | apply Blk.alloc | apply Blk.set_)) hK1 (by simp [Value.ownBlock]; omega)
      have hc1 := hB1.cell
      simp only [arrR] at hc1
      have hlt1' := hB1.lt
      have hk1 : Kept NoBlk w w1 := Kept.fresh (by repeat (with_reducible first | exact Kept.refl _ _ | apply Kept.drew | apply Kept.drewN | apply Kept.alloc | exact oneHit | apply Kept.setCell)) hK1 (fun b e => by simp [Value.ownBlock] at e; omega)
      have HB1 := Lib.hid hB1
      refine hK _ _ (by (repeat (refine stab_cons rfl ?_ ?_; focus (go_simp; done))); exact stab_nil) ?_
      clear hK K hB1
      refine plan_e rfl (fun K hK => ?_)
      go_simp
      refine hK _ _ (by (repeat (refine stab_cons rfl ?_ ?_; focus (go_simp; done))); exact stab_nil) ?_
      clear hK K
      refine plan_e rfl (fun K hK => ?_)
      refine step_append_own1 rfl (.tmp 39) (.tmp 44) 57 rfl 31 9 18 Try.underlying57 Try.sz31 (by decide) w.heap.size (.slice A1 n cap1) n (rowsOf kept) rfl (own_kept (G := NoBlk) hown1 ((Kept.refl _ _).alloc _) (fun _ _ e => e)) (some ⟨w1.heap.size, 0, none⟩) 1 1 (regCells rg) rfl (Row.new (Blk.new _ _ _) rfl (by simp [maxLen])) rfl (by simp only [maxLen]; omega) (by omega) (by have := hk1.size; simp; omega) ?_
      intro A2 cap2 w2 hown2 hK2
      have hK2' := hK2.weaken (H := fun b => w.heap.size ≤ b) (fun b _ e => (hown1.lt b e).1)
      have hB2 : Blk w2 g 68 (arrR ⟨rg, kept, to, has, false⟩ (.slice A n cap)) := Blk.kept (by repeat (with_reducible first | exact HB1.out | apply Blk.drew | apply Blk.drewN | apply Blk.alloc | apply Blk.set_)) hK2' (by omega)
      have hc2 := hB2.cell
      have hf2 := hB2.frozen
      simp only [arrR] at hc2
      have hk2 : Kept NoBlk w w2 := Kept.fresh (hk1.alloc _) hK2' (fun b e => e)
      have M := Lib.hid (FIN.out w2 A2 cap2 hB2 hk2 (Row.of_own hown2))
      clear hB2
      refine hK _ _ (by (repeat (refine stab_cons rfl ?_ ?_; focus (go_simp; done))); exact stab_nil) ?_
      clear hK K
      repeat (refine plan_q rfl (fun K hK => ?_); go_simp; refine hK _ ?_; clear hK K)
      refine plan_e rfl (fun K hK => ?_)
      go_simp
      refine hK _ _ stab_nil ?_
      clear hK K
      refine plan_nil ?_
      have hcT := M.out.blk.cell (10 + k.toNat)
      rw [arrR_to _ _ _ hkt] at hcT
      have hcA := M.out.blk.cell
      have h0A := hcA 0
      have h2A := hcA 2
      have h3A := hcA 3
      have hfA := M.out.blk.frozen
      simp only [arrR] at h0A h2A h3A
      clear hcA hc2 hf2 hc1
      generalize w2.setCell ⟨g, 9, none⟩ (.slice A2 (n + 1) cap2) = w3 at *
      go_wp2
      refine wp_region_plan (by kernel_rfl) (.q 0 <| .q 1 <| .q 2 <| .q 3 <| .q 4 <| .q 5 <| .q 6 <| .q 7 <| .q 8 <| .q 9 <| .q 10 <| .q 11 <| .q 12 <| .q 13 <| .q 14 <| .q 16 <| .q 17 <| .q 18 <| .q 21 <| .q 22 <| .q 23 <| .e 15 [1, 2, 9, 10, 11, 16, 17, 18, 21, 22, 23] <| .q 19 <| .e 20 [2, 10, 11, 21, 22, 23] <| .q 24 <| .e 25 [] <| .nil) (by kernel_rfl) (by kernel_rfl) ?_
      repeat (refine plan_q rfl (fun K hK => ?_); go_simp; refine hK _ ?_; clear hK K)
      refine plan_e rfl (fun K hK => ?_)
      go_simp
      refine hK _ _ (by (repeat (refine stab_cons rfl ?_ ?_; focus (go_simp; done))); exact stab_nil) ?_
      clear hK K
      repeat (refine plan_q rfl (fun K hK => ?_); go_simp; refine hK _ ?_; clear hK K)
      refine plan_e rfl (fun K hK => ?_)
      go_simp
      refine hK _ _ (by (repeat (refine stab_cons rfl ?_ ?_; focus (go_simp; done))); exact stab_nil) ?_
      clear hK K
      repeat (refine plan_q rfl (fun K hK => ?_); go_simp; refine hK _ ?_; clear hK K)
      refine plan_e rfl (fun K hK => ?_)
      go_simp
      refine hK _ _ stab_nil ?_
      clear hK K
      refine plan_nil ?_
      go_wp2
      go_ret
      refine ⟨rfl, ⟨.slice A2 (n + 1) cap2, Blk.cast (by repeat (with_reducible first | exact M.out.blk | apply Blk.drew | apply Blk.drewN | apply Blk.alloc | apply Blk.set_)) (by simp [arrR, upcallSt, upd, HW.out]), ?_, ?_⟩, ?_⟩
      · have e1 : (upcallSt ⟨rg, kept, to, has, false⟩ k.toNat x).kept.length = n + 1 := by simp [upcallSt, HN.out]
        have e2 : rowsOf (upcallSt ⟨rg, kept, to, has, false⟩ k.toNat x).kept = rowsOf kept ++ regCells rg := by simp [upcallSt, rowsOf]
        rw [e1, e2]
        exact M.out.row.kept (G := OneBlk g) (by repeat (with_reducible first | exact Kept.refl _ _ | apply Kept.drew | apply Kept.drewN | apply Kept.alloc | exact oneHit | apply Kept.setCell)) (fun b' cs hb' e => (M.out.blk.ne_ hb' (by decide)) e.symm)
      · simp [upcallSt, HN.out]
        omega
      · refine M.out.kept.trans ?_
        repeat (with_reducible first | exact Kept.refl _ _ | apply Kept.drew | apply Kept.drewN | apply Kept.alloc | exact oneHit | apply Kept.setCell)
    · refine plan_e rfl (fun K hK => ?_)
      go_simp
      refine hK _ _ (by (repeat (refine stab_cons rfl ?_ ?_; focus (go_simp; done))); exact stab_nil) ?_
      clear hK K
      refine plan_e rfl (fun K hK => ?_)
      refine step_append_own1 rfl (.tmp 34) (.tmp 38) 57 rfl 31 9 18 Try.underlying57 Try.sz31 (by decide) w.heap.size (.slice (some ⟨w.heap.size, 0, none⟩) 0 0) 0 [] rfl (own_new (Blk.drew (Blk.alloc (Blk.new _ _ _) _)) (Nat.le_refl _)) A n cap (rowsOf kept) rfl (HR.out.kept (G := NoBlk) (by repeat (with_reducible first | exact Kept.refl _ _ | apply Kept.drew | apply Kept.drewN | apply Kept.alloc | exact oneHit | apply Kept.setCell)) (fun _ _ _ e => e)) Hone.out (by simp only [maxLen]; omega) (by omega) (by first | (simp; done) | (simp; omega)) ?_
      intro A1 cap1 w1 hown1 hK1
      simp only [Nat.zero_add, List.nil_append] at hown1 hK
      have hB1 : Blk w1 g 68 (arrR ⟨rg, kept, to, has, false⟩ (.slice A n cap)) := Blk.kept (by repeat (with_reducible first | exact HB.out | apply Blk.drew | apply Blk.drewN | apply Blk.alloc | apply Blk.set_)) hK1 (by simp [Value.ownBlock]; omega)
      have hc1 := hB1.cell
      simp only [arrR] at hc1
      have hlt1' := hB1.lt
      have hk1 : Kept NoBlk w w1 := Kept.fresh (by repeat (with_reducible first | exact Kept.refl _ _ | apply Kept.drew | apply Kept.drewN | apply Kept.alloc | exact oneHit | apply Kept.setCell)) hK1 (fun b e => by simp [Value.ownBlock] at e; omega)
      have HB1 := Lib.hid hB1
      have hS1 : Blk w1 (w.heap.size + 1) 31 #[.int .u16 (rg 0), .int .u16 (rg 1), .int .u16 (rg 2), .int .u16 (rg 3), .int .u16 (rg 4), .int .u16 (rg 5), .int .u16 (rg 6), .int .u16 (rg 7), .int .u16 (rg 8)] := Blk.kept (Blk.drew (Blk.new_at _ _ _ (by simp))) hK1 (by simp [Value.ownBlock])
      refine hK _ _ (by (repeat (refine stab_cons rfl ?_ ?_; focus (go_simp; done))); exact stab_nil) ?_
      clear hK K hB1
      refine plan_e rfl (fun K hK => ?_)
      try simp only [Nat.zero_add]
      refine step_append_own1 rfl (.tmp 39) (.tmp 44) 57 rfl 31 9 18 Try.underlying57 Try.sz31 (by decide) w.heap.size (.slice A1 n cap1) n (rowsOf kept) rfl hown1 (some ⟨w.heap.size + 1, 0, none⟩) 1 1 (regCells rg) rfl (Row.new hS1 rfl (by simp [maxLen])) rfl (by simp only [maxLen]; omega) (by omega) (by have := hk1.size; simp; omega) ?_
      intro A2 cap2 w2 hown2 hK2
      have hK2' := hK2.weaken (H := fun b => w.heap.size ≤ b) (fun b _ e => (hown1.lt b e).1)
      have hB2 : Blk w2 g 68 (arrR ⟨rg, kept, to, has, false⟩ (.slice A n cap)) := Blk.kept (by repeat (with_reducible first | exact HB1.out | apply Blk.drew | apply Blk.drewN | apply Blk.alloc | apply Blk.set_)) hK2' (by omega)
      have hc2 := hB2.cell
      have hf2 := hB2.frozen
      simp only [arrR] at hc2
      have hk2 : Kept NoBlk w w2 := Kept.fresh hk1 hK2' (fun b e => e)
      have M := Lib.hid (FIN.out w2 A2 cap2 hB2 hk2 (Row.of_own hown2))
      clear hB2
      refine hK _ _ (by (repeat (refine stab_cons rfl ?_ ?_; focus (go_simp; done))); exact stab_nil) ?_
      clear hK K
      repeat (refine plan_q rfl (fun K hK => ?_); go_simp; refine hK _ ?_; clear hK K)
      refine plan_e rfl (fun K hK => ?_)
      go_simp
      refine hK _ _ stab_nil ?_
      clear hK K
      refine plan_nil ?_
      have hcT := M.out.blk.cell (10 + k.toNat)
      rw [arrR_to _ _ _ hkt] at hcT
      have hcA := M.out.blk.cell
      have h0A := hcA 0
      have h2A := hcA 2
      have h3A := hcA 3
      have hfA := M.out.blk.frozen
      simp only [arrR] at h0A h2A h3A
      clear hcA hc2 hf2 hc1
      generalize w2.setCell ⟨g, 9, none⟩ (.slice A2 (n + 1) cap2) = w3 at *
      go_wp2
      refine wp_region_plan (by kernel_rfl) (.q 0 <| .q 1 <| .q 2 <| .q 3 <| .q 4 <| .q 5 <| .q 6 <| .q 7 <| .q 8 <| .q 9 <| .q 10 <| .q 11 <| .q 12 <| .q 13 <| .q 14 <| .q 16 <| .q 17 <| .q 18 <| .q 21 <| .q 22 <| .q 23 <| .e 15 [1, 2, 9, 10, 11, 16, 17, 18, 21, 22, 23] <| .q 19 <| .e 20 [2, 10, 11, 21, 22, 23] <| .q 24 <| .e 25 [] <| .nil) (by kernel_rfl) (by kernel_rfl) ?_
      repeat (refine plan_q rfl (fun K hK => ?_); go_simp; refine hK _ ?_; clear hK K)
      refine plan_e rfl (fun K hK => ?_)
      go_simp
      refine hK _ _ (by (repeat (refine stab_cons rfl ?_ ?_; focus (go_simp; done))); exact stab_nil) ?_
      clear hK K
      repeat (refine plan_q rfl (fun K hK => ?_); go_simp; refine hK _ ?_; clear hK K)
      refine plan_e rfl (fun K hK => ?_)
      go_simp
      refine hK _ _ (by (repeat (refine stab_cons rfl ?_ ?_; focus (go_simp; done))); exact stab_nil) ?_
      clear hK K
      repeat (refine plan_q rfl (fun K hK => ?_); go_simp; refine hK _ ?_; clear hK K)
      refine plan_e rfl (fun K hK => ?_)
      go_simp
      refine hK _ _ stab_nil ?_
      clear hK K
      refine plan_nil ?_
      go_wp2
      go_ret
      refine ⟨rfl, ⟨.slice A2 (n + 1) cap2, Blk.cast (by repeat (with_reducible first | exact M.out.blk | apply Blk.drew | apply Blk.drewN | apply Blk.alloc | apply Blk.set_)) (by simp [arrR, upcallSt, upd, HW.out]), ?_, ?_⟩, ?_⟩
      · have e1 : (upcallSt ⟨rg, kept, to, has, false⟩ k.toNat x).kept.length = n + 1 := by simp [upcallSt, HN.out]
        have e2 : rowsOf (upcallSt ⟨rg, kept, to, has, false⟩ k.toNat x).kept = rowsOf kept ++ regCells rg := by simp [upcallSt, rowsOf]
        rw [e1, e2]
        exact M.out.row.kept (G := OneBlk g) (by repeat (with_reducible first | exact Kept.refl _ _ | apply Kept.drew | apply Kept.drewN | apply Kept.alloc | exact oneHit | apply Kept.setCell)) (fun b' cs hb' e => (M.out.blk.ne_ hb' (by decide)) e.symm)
      · simp [upcallSt, HN.out]
        omega
      · refine M.out.kept.trans ?_
        repeat (with_reducible first | exact Kept.refl _ _ | apply Kept.drew | apply Kept.drewN | apply Kept.alloc | exact oneHit | apply Kept.setCell)
  · refine plan_e rfl (fun K hK => ?_)
    go_simp
    refine hK _ _ (by (repeat (refine stab_cons rfl ?_ ?_; focus (go_simp; done))); exact stab_nil) ?_
    clear hK K
    refine plan_e rfl (fun K hK => ?_)
    go_simp
    refine hK _ _ (by (repeat (refine stab_cons rfl ?_ ?_; focus (go_simp; done))); exact stab_nil) ?_
    clear hK K
    refine plan_e rfl (fun K hK => ?_)
    refine step_append_own1 rfl (.tmp 34) (.tmp 38) 57 rfl 31 9 18 Try.underlying57 Try.sz31 (by decide) w.heap.size (.slice (some ⟨w.heap.size + 1, 0, none⟩) 0 0) 0 [] rfl (own_new (Blk.drew (Blk.new_at _ _ _ (by simp))) (by omega)) A n cap (rowsOf kept) rfl (HR.out.kept (G := NoBlk) (by repeat (with_reducible first | exact Kept.refl _ _ | apply Kept.drew | apply Kept.drewN | apply Kept.alloc | exact oneHit | apply Kept.setCell)) (fun _ _ _ e => e)) Hone.out (by simp only [maxLen]; omega) (by omega) (by first | (simp; done) | (simp; omega)) ?_
    intro A1 cap1 w1 hown1 hK1
    simp only [Nat.zero_add, List.nil_append] at hown1 hK
    have hB1 : Blk w1 g 68 (arrR ⟨rg, kept, to, has, false⟩ (.slice A n cap)) := Blk.kept (by repeat (with_reducible first | exact HB.out | apply Blk.drew | apply Blk.drewN | apply Blk.alloc | apply Blk.set_)) hK1 (by simp [Value.ownBlock]; omega)
    have hc1 := hB1.cell
    simp only [arrR] at hc1
    have hlt1' := hB1.lt
    have hk1 : Kept NoBlk w w1 := Kept.fresh (by repeat (with_reducible first | exact Kept.refl _ _ | apply Kept.drew | apply Kept.drewN | apply Kept.alloc | exact oneHit | apply Kept.setCell)) hK1 (fun b e => by simp [Value.ownBlock] at e; omega)
    have HB1 := Lib.hid hB1
    have hS1 : Blk w1 w.heap.size 31 #[.int .u16 (rg 0), .int .u16 (rg 1), .int .u16 (rg 2), .int .u16 (rg 3), .int .u16 (rg 4), .int .u16 (rg 5), .int .u16 (rg 6), .int .u16 (rg 7), .int .u16 (rg 8)] := Blk.kept (Blk.drew (Blk.alloc (Blk.new _ _ _) _)) hK1 (by simp [Value.ownBlock])
    refine hK _ _ (by (repeat (refine stab_cons rfl ?_ ?_; focus (go_simp; done))); exact stab_nil) ?_
    clear hK K hB1
    refine plan_e rfl (fun K hK => ?_)
    try simp only [Nat.zero_add]
    refine step_append_own1 rfl (.tmp 39) (.tmp 44) 57 rfl 31 9 18 Try.underlying57 Try.sz31 (by decide) w.heap.size (.slice A1 n cap1) n (rowsOf kept) rfl hown1 (some ⟨w.heap.size, 0, none⟩) 1 1 (regCells rg) rfl (Row.new hS1 rfl (by simp [maxLen])) rfl (by simp only [maxLen]; omega) (by omega) (by have := hk1.size; simp; omega) ?_
    intro A2 cap2 w2 hown2 hK2
    have hK2' := hK2.weaken (H := fun b => w.heap.size ≤ b) (fun b _ e => (hown1.lt b e).1)
    have hB2 : Blk w2 g 68 (arrR ⟨rg, kept, to, has, false⟩ (.slice A n cap)) := Blk.kept (by repeat (with_reducible first | exact HB1.out | apply Blk.drew | apply Blk.drewN | apply Blk.alloc | apply Blk.set_)) hK2' (by omega)
    have hc2 := hB2.cell
    have hf2 := hB2.frozen
    simp only [arrR] at hc2
    have hk2 : Kept NoBlk w w2 := Kept.fresh hk1 hK2' (fun b e => e)
    have M := Lib.hid (FIN.out w2 A2 cap2 hB2 hk2 (Row.of_own hown2))
    clear hB2
    refine hK _ _ (by (repeat (refine stab_cons rfl ?_ ?_; focus (go_simp; done))); exact stab_nil) ?_
    clear hK K
    repeat (refine plan_q rfl (fun K hK => ?_); go_simp; refine hK _ ?_; clear hK K)
    refine plan_e rfl (fun K hK => ?_)
    go_simp
    refine hK _ _ stab_nil ?_
    clear hK K
    refine plan_nil ?_
    have hcT := M.out.blk.cell (10 + k.toNat)
    rw [arrR_to _ _ _ hkt] at hcT
    have hcA := M.out.blk.cell
    have h0A := hcA 0
    have h2A := hcA 2
    have h3A := hcA 3
    have hfA := M.out.blk.frozen
    simp only [arrR] at h0A h2A h3A
    clear hcA hc2 hf2 hc1
    generalize w2.setCell ⟨g, 9, none⟩ (.slice A2 (n + 1) cap2) = w3 at *
    go_wp2
    refine wp_region_plan (by kernel_rfl) (.q 0 <| .q 1 <| .q 2 <| .q 3 <| .q 4 <| .q 5 <| .q 6 <| .q 7 <| .q 8 <| .q 9 <| .q 10 <| .q 11 <| .q 12 <| .q 13 <| .q 14 <| .q 16 <| .q 17 <| .q 18 <| .q 21 <| .q 22 <| .q 23 <| .e 15 [1, 2, 9, 10, 11, 16, 17, 18, 21, 22, 23] <| .q 19 <| .e 20 [2, 10, 11, 21, 22, 23] <| .q 24 <| .e 25 [] <| .nil) (by kernel_rfl) (by kernel_rfl) ?_
    repeat (refine plan_q rfl (fun K hK => ?_); go_simp; refine hK _ ?_; clear hK K)
    refine plan_e rfl (fun K hK => ?_)
    go_simp
    refine hK _ _ (by (repeat (refine stab_cons rfl ?_ ?_; focus (go_simp; done))); exact stab_nil) ?_
    clear hK K
    repeat (refine plan_q rfl (fun K hK => ?_); go_simp; refine hK _ ?_; clear hK K)
    refine plan_e rfl (fun K hK => ?_)
    go_simp
    refine hK _ _ (by (repeat (refine stab_cons rfl ?_ ?_; focus (go_simp; done))); exact stab_nil) ?_
    clear hK K
    repeat (refine plan_q rfl (fun K hK => ?_); go_simp; refine hK _ ?_; clear hK K)
    refine plan_e rfl (fun K hK => ?_)
    go_simp
    refine hK _ _ stab_nil ?_
    clear hK K
    refine plan_nil ?_
    go_wp2
    go_ret
    refine ⟨rfl, ⟨.slice A2 (n + 1) cap2, Blk.cast (by repeat (with_reducible first | exact M.out.blk | apply Blk.drew | apply Blk.drewN | apply Blk.alloc | apply Blk.set_)) (by simp [arrR, upcallSt, upd, HW.out]), ?_, ?_⟩, ?_⟩
    · have e1 : (upcallSt ⟨rg, kept, to, has, false⟩ k.toNat x).kept.length = n + 1 := by simp [upcallSt, HN.out]
      have e2 : rowsOf (upcallSt ⟨rg, kept, to, has, false⟩ k.toNat x).kept = rowsOf kept ++ regCells rg := by simp [upcallSt, rowsOf]
      rw [e1, e2]
      exact M.out.row.kept (G := OneBlk g) (by repeat (with_reducible first | exact Kept.refl _ _ | apply Kept.drew | apply Kept.drewN | apply Kept.alloc | exact oneHit | apply Kept.setCell)) (fun b' cs hb' e => (M.out.blk.ne_ hb' (by decide)) e.symm)
    · simp [upcallSt, HN.out]
      omega
    · refine M.out.kept.trans ?_
      repeat (with_reducible first | exact Kept.refl _ _ | apply Kept.drew | apply Kept.drewN | apply Kept.alloc | exact oneHit | apply Kept.setCell)
end Go.Proofs.Ytbggdimkfkdhmaa
