/- The contracts of the program's area: Upcall. -/
import Derived.Test.YtjhngfbhppbcnaaA3
namespace Go.Proofs.Ytjhngfbhppbcnaa
open Go.RowKit
set_option maxRecDepth 100000

/-- The area, and where the registers that it kept lie. -/
def IsAt (w : World) (g : Nat) (S : St) (b0 : Nat) : Prop := ∃ v, Blk w g 102 (arrA S v) ∧ Row w 35 9 v S.kept.length (rowsOf S.kept) ∧ S.kept.length ≤ 4 ∧ ∀ b off cap, v = .slice (some ⟨b, off, none⟩) S.kept.length cap → b0 ≤ b

def upcallSt (S : St) (k : Nat) (x : Int) : St := { S with rg := upd (upd (upd S.rg 0 (S.to k)) 2 x) 3 (k : Int), kept := S.kept ++ [S.rg] }

set_option maxHeartbeats 4000000 in
theorem upcall_ok0 (w : World) (g : Nat) (S : St) (h : IsA w g S) (hd : S.dead = false) (k x : Int) (hk : k = 0) (hh : S.has k.toNat = true) (hlen : S.kept.length < 4) :
   Calls Try.prog 15 #[.pointer (some ⟨g, 0, none⟩), .int .u8 k, .int .u16 x] w fun e w' => e = .returned (.int .i64 0) ∧ IsAt w' g (upcallSt S k.toNat x) w.heap.size ∧ Kept (OneBlk g) w w' := by
  subst hk
  have HL := Lib.hid (fun w1 (hK : Kept NoBlk w w1) => lives_ok w1 g S (h.kept hK (fun e => e) (fun _ _ _ e => e)) hd)
  obtain ⟨v, hB, hR, hl⟩ := h
  obtain ⟨rg, kept, to, has, dead⟩ := S
  obtain rfl : dead = false := hd
  obtain ⟨A, cap, rfl, hnc, hcm, hA0, hA1, hA2⟩ := hR.form
  have hc := hB.cell
  have hf := hB.frozen
  have hlt := hB.lt
  have hlt1 : g < w.heap.size + 1 := by omega
  have hlt2 : g < w.heap.size + 1 + 1 := by omega
  have hlt3 : g < w.heap.size + 1 + 1 + 1 := by omega
  have HB := Lib.hid hB
  have HR := Lib.hid hR
  have hh' : has 0 = true := hh
  simp only [arrA] at hc
  simp only at hlen hl hnc
  generalize hN : kept.length = n at *
  have HN := Lib.hid hN
  have Hcm := Lib.hid hcm
  clear hB hR hh hA0 hA1 hA2 hN hcm
  go_enter_defers Try.func15, Try.ntmps15
  go_wp2_with (go_at_call 44; refine (HL.out _ (by repeat (with_reducible first | exact Kept.refl _ _ | apply Kept.alloc | apply Kept.drew))).mono ?_; rintro e w' ⟨rfl, rfl⟩)
  refine wp_region_plan (by kernel_rfl) (.q 0 <| .q 1 <| .q 2 <| .q 3 <| .q 4 <| .q 5 <| .q 6 <| .q 7 <| .q 8 <| .q 10 <| .q 11 <| .q 12 <| .e 9 [1, 3, 4, 10, 11, 12] <| .q 13 <| .e 14 [] <| .nil) (by kernel_rfl) (by kernel_rfl) ?_
  repeat (refine plan_q rfl (fun K hK => ?_); go_simp; refine hK _ ?_; clear hK K)
  refine plan_e rfl (fun K hK => ?_)
  go_simp
  refine hK _ _ ?_ ?_
  · repeat (refine stab_cons rfl ?_ ?_; focus (go_simp; done))
    exact stab_nil
  clear hK K
  repeat (refine plan_q rfl (fun K hK => ?_); go_simp; refine hK _ ?_; clear hK K)
  refine plan_e rfl (fun K hK => ?_)
  go_simp
  refine hK _ _ stab_nil ?_
  clear hK K
  refine plan_nil ?_
  go_wp2
  have HE := HN.out
  refine leaves_cons (f := 45) (args := #[.pointer (some ⟨w.heap.size + 1, 0, none⟩), .pointer (some ⟨w.heap.size, 0, none⟩), .pointer (some ⟨w.heap.size + 1 + 1 + 1, 0, none⟩)]) (by simp) (by simp [go_sem]) ?_
  refine (closure_ok _ (w.heap.size + 1) w.heap.size (w.heap.size + 1 + 1 + 1) g A n cap rg (arrA { upcallSt ⟨rg, kept, to, has, false⟩ 0 x with kept := kept } (.slice A n cap)) (rowsOf kept) .returning ?_ ?_ ?_ ?_ ?_ ?_ (by omega) hnc Hcm.out).mono ?_
  · go_simp
  · go_simp
  · exact Blk.drew (Blk.new_at _ _ _ (by simp))
  · exact Blk.cast (by repeat (with_reducible first | exact HB.out | apply Blk.drew | apply Blk.alloc | apply Blk.set_)) (by simp [arrA, upcallSt, upd])
  · simp [arrA]
  · have hR2 := HR.out
    refine hR2.kept (G := OneBlk g) ?_ (fun b' cs hb' e => (HB.out.ne_ hb' (by decide)) e.symm)
    repeat (with_reducible first | exact Kept.refl _ _ | apply Kept.drew | apply Kept.alloc | exact oneHit | apply Kept.setCell)
  · rintro e u' w'' ⟨rfl, rfl, g', cap', hge, hrow, hblk, hk⟩
    have hEc : w''.cell? ⟨w.heap.size + 1, 0, none⟩ = some (.int .i64 0) := by
      rw [hk.cell (by simp) (by show ¬ w.heap.size + 1 = g; omega)]
      go_simp
    refine ⟨.int .i64 0, by simp [results, Try.results15, go_sem, hEc], rfl, ⟨.slice (some ⟨g', 0, none⟩) (n + 1) cap', Blk.cast hblk (by simp [arrA, upcallSt, upd]), ?_, ?_, fun b off cap hv => by injection hv with q1 _ _; injection q1 with q1; injection q1 with q1 _ _; subst q1; simp at hge; omega⟩, ?_⟩
    · have e1 : (upcallSt ⟨rg, kept, to, has, false⟩ 0 x).kept.length = n + 1 := by simp [upcallSt, HE]
      have e2 : rowsOf (upcallSt ⟨rg, kept, to, has, false⟩ 0 x).kept = rowsOf kept ++ regCells rg := by simp [upcallSt, rowsOf]
      show Row w'' 35 9 _ (upcallSt ⟨rg, kept, to, has, false⟩ 0 x).kept.length (rowsOf (upcallSt ⟨rg, kept, to, has, false⟩ 0 x).kept)
      rw [e1, e2]
      exact hrow
    · simp [upcallSt, HE]
      omega
    · refine Kept.trans ?_ hk
      repeat (with_reducible first | exact Kept.refl _ _ | apply Kept.drew | apply Kept.alloc | exact oneHit | apply Kept.setCell)
set_option maxHeartbeats 4000000 in
theorem upcall_ok1 (w : World) (g : Nat) (S : St) (h : IsA w g S) (hd : S.dead = false) (k x : Int) (hk : k = 1) (hh : S.has k.toNat = true) (hlen : S.kept.length < 4) :
   Calls Try.prog 15 #[.pointer (some ⟨g, 0, none⟩), .int .u8 k, .int .u16 x] w fun e w' => e = .returned (.int .i64 0) ∧ IsAt w' g (upcallSt S k.toNat x) w.heap.size ∧ Kept (OneBlk g) w w' := by
  subst hk
  have HL := Lib.hid (fun w1 (hK : Kept NoBlk w w1) => lives_ok w1 g S (h.kept hK (fun e => e) (fun _ _ _ e => e)) hd)
  obtain ⟨v, hB, hR, hl⟩ := h
  obtain ⟨rg, kept, to, has, dead⟩ := S
  obtain rfl : dead = false := hd
  obtain ⟨A, cap, rfl, hnc, hcm, hA0, hA1, hA2⟩ := hR.form
  have hc := hB.cell
  have hf := hB.frozen
  have hlt := hB.lt
  have hlt1 : g < w.heap.size + 1 := by omega
  have hlt2 : g < w.heap.size + 1 + 1 := by omega
  have hlt3 : g < w.heap.size + 1 + 1 + 1 := by omega
  have HB := Lib.hid hB
  have HR := Lib.hid hR
  have hh' : has 1 = true := hh
  simp only [arrA] at hc
  simp only at hlen hl hnc
  generalize hN : kept.length = n at *
  have HN := Lib.hid hN
  have Hcm := Lib.hid hcm
  clear hB hR hh hA0 hA1 hA2 hN hcm
  go_enter_defers Try.func15, Try.ntmps15
  go_wp2_with (go_at_call 44; refine (HL.out _ (by repeat (with_reducible first | exact Kept.refl _ _ | apply Kept.alloc | apply Kept.drew))).mono ?_; rintro e w' ⟨rfl, rfl⟩)
  refine wp_region_plan (by kernel_rfl) (.q 0 <| .q 1 <| .q 2 <| .q 3 <| .q 4 <| .q 5 <| .q 6 <| .q 7 <| .q 8 <| .q 10 <| .q 11 <| .q 12 <| .e 9 [1, 3, 4, 10, 11, 12] <| .q 13 <| .e 14 [] <| .nil) (by kernel_rfl) (by kernel_rfl) ?_
  repeat (refine plan_q rfl (fun K hK => ?_); go_simp; refine hK _ ?_; clear hK K)
  refine plan_e rfl (fun K hK => ?_)
  go_simp
  refine hK _ _ ?_ ?_
  · repeat (refine stab_cons rfl ?_ ?_; focus (go_simp; done))
    exact stab_nil
  clear hK K
  repeat (refine plan_q rfl (fun K hK => ?_); go_simp; refine hK _ ?_; clear hK K)
  refine plan_e rfl (fun K hK => ?_)
  go_simp
  refine hK _ _ stab_nil ?_
  clear hK K
  refine plan_nil ?_
  go_wp2
  have HE := HN.out
  refine leaves_cons (f := 45) (args := #[.pointer (some ⟨w.heap.size + 1, 0, none⟩), .pointer (some ⟨w.heap.size, 0, none⟩), .pointer (some ⟨w.heap.size + 1 + 1 + 1, 0, none⟩)]) (by simp) (by simp [go_sem]) ?_
  refine (closure_ok _ (w.heap.size + 1) w.heap.size (w.heap.size + 1 + 1 + 1) g A n cap rg (arrA { upcallSt ⟨rg, kept, to, has, false⟩ 1 x with kept := kept } (.slice A n cap)) (rowsOf kept) .returning ?_ ?_ ?_ ?_ ?_ ?_ (by omega) hnc Hcm.out).mono ?_
  · go_simp
  · go_simp
  · exact Blk.drew (Blk.new_at _ _ _ (by simp))
  · exact Blk.cast (by repeat (with_reducible first | exact HB.out | apply Blk.drew | apply Blk.alloc | apply Blk.set_)) (by simp [arrA, upcallSt, upd])
  · simp [arrA]
  · have hR2 := HR.out
    refine hR2.kept (G := OneBlk g) ?_ (fun b' cs hb' e => (HB.out.ne_ hb' (by decide)) e.symm)
    repeat (with_reducible first | exact Kept.refl _ _ | apply Kept.drew | apply Kept.alloc | exact oneHit | apply Kept.setCell)
  · rintro e u' w'' ⟨rfl, rfl, g', cap', hge, hrow, hblk, hk⟩
    have hEc : w''.cell? ⟨w.heap.size + 1, 0, none⟩ = some (.int .i64 0) := by
      rw [hk.cell (by simp) (by show ¬ w.heap.size + 1 = g; omega)]
      go_simp
    refine ⟨.int .i64 0, by simp [results, Try.results15, go_sem, hEc], rfl, ⟨.slice (some ⟨g', 0, none⟩) (n + 1) cap', Blk.cast hblk (by simp [arrA, upcallSt, upd]), ?_, ?_, fun b off cap hv => by injection hv with q1 _ _; injection q1 with q1; injection q1 with q1 _ _; subst q1; simp at hge; omega⟩, ?_⟩
    · have e1 : (upcallSt ⟨rg, kept, to, has, false⟩ 1 x).kept.length = n + 1 := by simp [upcallSt, HE]
      have e2 : rowsOf (upcallSt ⟨rg, kept, to, has, false⟩ 1 x).kept = rowsOf kept ++ regCells rg := by simp [upcallSt, rowsOf]
      show Row w'' 35 9 _ (upcallSt ⟨rg, kept, to, has, false⟩ 1 x).kept.length (rowsOf (upcallSt ⟨rg, kept, to, has, false⟩ 1 x).kept)
      rw [e1, e2]
      exact hrow
    · simp [upcallSt, HE]
      omega
    · refine Kept.trans ?_ hk
      repeat (with_reducible first | exact Kept.refl _ _ | apply Kept.drew | apply Kept.alloc | exact oneHit | apply Kept.setCell)
set_option maxHeartbeats 4000000 in
theorem upcall_ok2 (w : World) (g : Nat) (S : St) (h : IsA w g S) (hd : S.dead = false) (k x : Int) (hk : k = 2) (hh : S.has k.toNat = true) (hlen : S.kept.length < 4) :
   Calls Try.prog 15 #[.pointer (some ⟨g, 0, none⟩), .int .u8 k, .int .u16 x] w fun e w' => e = .returned (.int .i64 0) ∧ IsAt w' g (upcallSt S k.toNat x) w.heap.size ∧ Kept (OneBlk g) w w' := by
  subst hk
  have HL := Lib.hid (fun w1 (hK : Kept NoBlk w w1) => lives_ok w1 g S (h.kept hK (fun e => e) (fun _ _ _ e => e)) hd)
  obtain ⟨v, hB, hR, hl⟩ := h
  obtain ⟨rg, kept, to, has, dead⟩ := S
  obtain rfl : dead = false := hd
  obtain ⟨A, cap, rfl, hnc, hcm, hA0, hA1, hA2⟩ := hR.form
  have hc := hB.cell
  have hf := hB.frozen
  have hlt := hB.lt
  have hlt1 : g < w.heap.size + 1 := by omega
  have hlt2 : g < w.heap.size + 1 + 1 := by omega
  have hlt3 : g < w.heap.size + 1 + 1 + 1 := by omega
  have HB := Lib.hid hB
  have HR := Lib.hid hR
  have hh' : has 2 = true := hh
  simp only [arrA] at hc
  simp only at hlen hl hnc
  generalize hN : kept.length = n at *
  have HN := Lib.hid hN
  have Hcm := Lib.hid hcm
  clear hB hR hh hA0 hA1 hA2 hN hcm
  go_enter_defers Try.func15, Try.ntmps15
  go_wp2_with (go_at_call 44; refine (HL.out _ (by repeat (with_reducible first | exact Kept.refl _ _ | apply Kept.alloc | apply Kept.drew))).mono ?_; rintro e w' ⟨rfl, rfl⟩)
  refine wp_region_plan (by kernel_rfl) (.q 0 <| .q 1 <| .q 2 <| .q 3 <| .q 4 <| .q 5 <| .q 6 <| .q 7 <| .q 8 <| .q 10 <| .q 11 <| .q 12 <| .e 9 [1, 3, 4, 10, 11, 12] <| .q 13 <| .e 14 [] <| .nil) (by kernel_rfl) (by kernel_rfl) ?_
  repeat (refine plan_q rfl (fun K hK => ?_); go_simp; refine hK _ ?_; clear hK K)
  refine plan_e rfl (fun K hK => ?_)
  go_simp
  refine hK _ _ ?_ ?_
  · repeat (refine stab_cons rfl ?_ ?_; focus (go_simp; done))
    exact stab_nil
  clear hK K
  repeat (refine plan_q rfl (fun K hK => ?_); go_simp; refine hK _ ?_; clear hK K)
  refine plan_e rfl (fun K hK => ?_)
  go_simp
  refine hK _ _ stab_nil ?_
  clear hK K
  refine plan_nil ?_
  go_wp2
  have HE := HN.out
  refine leaves_cons (f := 45) (args := #[.pointer (some ⟨w.heap.size + 1, 0, none⟩), .pointer (some ⟨w.heap.size, 0, none⟩), .pointer (some ⟨w.heap.size + 1 + 1 + 1, 0, none⟩)]) (by simp) (by simp [go_sem]) ?_
  refine (closure_ok _ (w.heap.size + 1) w.heap.size (w.heap.size + 1 + 1 + 1) g A n cap rg (arrA { upcallSt ⟨rg, kept, to, has, false⟩ 2 x with kept := kept } (.slice A n cap)) (rowsOf kept) .returning ?_ ?_ ?_ ?_ ?_ ?_ (by omega) hnc Hcm.out).mono ?_
  · go_simp
  · go_simp
  · exact Blk.drew (Blk.new_at _ _ _ (by simp))
  · exact Blk.cast (by repeat (with_reducible first | exact HB.out | apply Blk.drew | apply Blk.alloc | apply Blk.set_)) (by simp [arrA, upcallSt, upd])
  · simp [arrA]
  · have hR2 := HR.out
    refine hR2.kept (G := OneBlk g) ?_ (fun b' cs hb' e => (HB.out.ne_ hb' (by decide)) e.symm)
    repeat (with_reducible first | exact Kept.refl _ _ | apply Kept.drew | apply Kept.alloc | exact oneHit | apply Kept.setCell)
  · rintro e u' w'' ⟨rfl, rfl, g', cap', hge, hrow, hblk, hk⟩
    have hEc : w''.cell? ⟨w.heap.size + 1, 0, none⟩ = some (.int .i64 0) := by
      rw [hk.cell (by simp) (by show ¬ w.heap.size + 1 = g; omega)]
      go_simp
    refine ⟨.int .i64 0, by simp [results, Try.results15, go_sem, hEc], rfl, ⟨.slice (some ⟨g', 0, none⟩) (n + 1) cap', Blk.cast hblk (by simp [arrA, upcallSt, upd]), ?_, ?_, fun b off cap hv => by injection hv with q1 _ _; injection q1 with q1; injection q1 with q1 _ _; subst q1; simp at hge; omega⟩, ?_⟩
    · have e1 : (upcallSt ⟨rg, kept, to, has, false⟩ 2 x).kept.length = n + 1 := by simp [upcallSt, HE]
      have e2 : rowsOf (upcallSt ⟨rg, kept, to, has, false⟩ 2 x).kept = rowsOf kept ++ regCells rg := by simp [upcallSt, rowsOf]
      show Row w'' 35 9 _ (upcallSt ⟨rg, kept, to, has, false⟩ 2 x).kept.length (rowsOf (upcallSt ⟨rg, kept, to, has, false⟩ 2 x).kept)
      rw [e1, e2]
      exact hrow
    · simp [upcallSt, HE]
      omega
    · refine Kept.trans ?_ hk
      repeat (with_reducible first | exact Kept.refl _ _ | apply Kept.drew | apply Kept.alloc | exact oneHit | apply Kept.setCell)
set_option maxHeartbeats 4000000 in
theorem upcall_ok3 (w : World) (g : Nat) (S : St) (h : IsA w g S) (hd : S.dead = false) (k x : Int) (hk : k = 3) (hh : S.has k.toNat = true) (hlen : S.kept.length < 4) :
   Calls Try.prog 15 #[.pointer (some ⟨g, 0, none⟩), .int .u8 k, .int .u16 x] w fun e w' => e = .returned (.int .i64 0) ∧ IsAt w' g (upcallSt S k.toNat x) w.heap.size ∧ Kept (OneBlk g) w w' := by
  subst hk
  have HL := Lib.hid (fun w1 (hK : Kept NoBlk w w1) => lives_ok w1 g S (h.kept hK (fun e => e) (fun _ _ _ e => e)) hd)
  obtain ⟨v, hB, hR, hl⟩ := h
  obtain ⟨rg, kept, to, has, dead⟩ := S
  obtain rfl : dead = false := hd
  obtain ⟨A, cap, rfl, hnc, hcm, hA0, hA1, hA2⟩ := hR.form
  have hc := hB.cell
  have hf := hB.frozen
  have hlt := hB.lt
  have hlt1 : g < w.heap.size + 1 := by omega
  have hlt2 : g < w.heap.size + 1 + 1 := by omega
  have hlt3 : g < w.heap.size + 1 + 1 + 1 := by omega
  have HB := Lib.hid hB
  have HR := Lib.hid hR
  have hh' : has 3 = true := hh
  simp only [arrA] at hc
  simp only at hlen hl hnc
  generalize hN : kept.length = n at *
  have HN := Lib.hid hN
  have Hcm := Lib.hid hcm
  clear hB hR hh hA0 hA1 hA2 hN hcm
  go_enter_defers Try.func15, Try.ntmps15
  go_wp2_with (go_at_call 44; refine (HL.out _ (by repeat (with_reducible first | exact Kept.refl _ _ | apply Kept.alloc | apply Kept.drew))).mono ?_; rintro e w' ⟨rfl, rfl⟩)
  refine wp_region_plan (by kernel_rfl) (.q 0 <| .q 1 <| .q 2 <| .q 3 <| .q 4 <| .q 5 <| .q 6 <| .q 7 <| .q 8 <| .q 10 <| .q 11 <| .q 12 <| .e 9 [1, 3, 4, 10, 11, 12] <| .q 13 <| .e 14 [] <| .nil) (by kernel_rfl) (by kernel_rfl) ?_
  repeat (refine plan_q rfl (fun K hK => ?_); go_simp; refine hK _ ?_; clear hK K)
  refine plan_e rfl (fun K hK => ?_)
  go_simp
  refine hK _ _ ?_ ?_
  · repeat (refine stab_cons rfl ?_ ?_; focus (go_simp; done))
    exact stab_nil
  clear hK K
  repeat (refine plan_q rfl (fun K hK => ?_); go_simp; refine hK _ ?_; clear hK K)
  refine plan_e rfl (fun K hK => ?_)
  go_simp
  refine hK _ _ stab_nil ?_
  clear hK K
  refine plan_nil ?_
  go_wp2
  have HE := HN.out
  refine leaves_cons (f := 45) (args := #[.pointer (some ⟨w.heap.size + 1, 0, none⟩), .pointer (some ⟨w.heap.size, 0, none⟩), .pointer (some ⟨w.heap.size + 1 + 1 + 1, 0, none⟩)]) (by simp) (by simp [go_sem]) ?_
  refine (closure_ok _ (w.heap.size + 1) w.heap.size (w.heap.size + 1 + 1 + 1) g A n cap rg (arrA { upcallSt ⟨rg, kept, to, has, false⟩ 3 x with kept := kept } (.slice A n cap)) (rowsOf kept) .returning ?_ ?_ ?_ ?_ ?_ ?_ (by omega) hnc Hcm.out).mono ?_
  · go_simp
  · go_simp
  · exact Blk.drew (Blk.new_at _ _ _ (by simp))
  · exact Blk.cast (by repeat (with_reducible first | exact HB.out | apply Blk.drew | apply Blk.alloc | apply Blk.set_)) (by simp [arrA, upcallSt, upd])
  · simp [arrA]
  · have hR2 := HR.out
    refine hR2.kept (G := OneBlk g) ?_ (fun b' cs hb' e => (HB.out.ne_ hb' (by decide)) e.symm)
    repeat (with_reducible first | exact Kept.refl _ _ | apply Kept.drew | apply Kept.alloc | exact oneHit | apply Kept.setCell)
  · rintro e u' w'' ⟨rfl, rfl, g', cap', hge, hrow, hblk, hk⟩
    have hEc : w''.cell? ⟨w.heap.size + 1, 0, none⟩ = some (.int .i64 0) := by
      rw [hk.cell (by simp) (by show ¬ w.heap.size + 1 = g; omega)]
      go_simp
    refine ⟨.int .i64 0, by simp [results, Try.results15, go_sem, hEc], rfl, ⟨.slice (some ⟨g', 0, none⟩) (n + 1) cap', Blk.cast hblk (by simp [arrA, upcallSt, upd]), ?_, ?_, fun b off cap hv => by injection hv with q1 _ _; injection q1 with q1; injection q1 with q1 _ _; subst q1; simp at hge; omega⟩, ?_⟩
    · have e1 : (upcallSt ⟨rg, kept, to, has, false⟩ 3 x).kept.length = n + 1 := by simp [upcallSt, HE]
      have e2 : rowsOf (upcallSt ⟨rg, kept, to, has, false⟩ 3 x).kept = rowsOf kept ++ regCells rg := by simp [upcallSt, rowsOf]
      show Row w'' 35 9 _ (upcallSt ⟨rg, kept, to, has, false⟩ 3 x).kept.length (rowsOf (upcallSt ⟨rg, kept, to, has, false⟩ 3 x).kept)
      rw [e1, e2]
      exact hrow
    · simp [upcallSt, HE]
      omega
    · refine Kept.trans ?_ hk
      repeat (with_reducible first | exact Kept.refl _ _ | apply Kept.drew | apply Kept.alloc | exact oneHit | apply Kept.setCell)
set_option maxHeartbeats 4000000 in
theorem upcall_ok4 (w : World) (g : Nat) (S : St) (h : IsA w g S) (hd : S.dead = false) (k x : Int) (hk : k = 4) (hh : S.has k.toNat = true) (hlen : S.kept.length < 4) :
   Calls Try.prog 15 #[.pointer (some ⟨g, 0, none⟩), .int .u8 k, .int .u16 x] w fun e w' => e = .returned (.int .i64 0) ∧ IsAt w' g (upcallSt S k.toNat x) w.heap.size ∧ Kept (OneBlk g) w w' := by
  subst hk
  have HL := Lib.hid (fun w1 (hK : Kept NoBlk w w1) => lives_ok w1 g S (h.kept hK (fun e => e) (fun _ _ _ e => e)) hd)
  obtain ⟨v, hB, hR, hl⟩ := h
  obtain ⟨rg, kept, to, has, dead⟩ := S
  obtain rfl : dead = false := hd
  obtain ⟨A, cap, rfl, hnc, hcm, hA0, hA1, hA2⟩ := hR.form
  have hc := hB.cell
  have hf := hB.frozen
  have hlt := hB.lt
  have hlt1 : g < w.heap.size + 1 := by omega
  have hlt2 : g < w.heap.size + 1 + 1 := by omega
  have hlt3 : g < w.heap.size + 1 + 1 + 1 := by omega
  have HB := Lib.hid hB
  have HR := Lib.hid hR
  have hh' : has 4 = true := hh
  simp only [arrA] at hc
  simp only at hlen hl hnc
  generalize hN : kept.length = n at *
  have HN := Lib.hid hN
  have Hcm := Lib.hid hcm
  clear hB hR hh hA0 hA1 hA2 hN hcm
  go_enter_defers Try.func15, Try.ntmps15
  go_wp2_with (go_at_call 44; refine (HL.out _ (by repeat (with_reducible first | exact Kept.refl _ _ | apply Kept.alloc | apply Kept.drew))).mono ?_; rintro e w' ⟨rfl, rfl⟩)
  refine wp_region_plan (by kernel_rfl) (.q 0 <| .q 1 <| .q 2 <| .q 3 <| .q 4 <| .q 5 <| .q 6 <| .q 7 <| .q 8 <| .q 10 <| .q 11 <| .q 12 <| .e 9 [1, 3, 4, 10, 11, 12] <| .q 13 <| .e 14 [] <| .nil) (by kernel_rfl) (by kernel_rfl) ?_
  repeat (refine plan_q rfl (fun K hK => ?_); go_simp; refine hK _ ?_; clear hK K)
  refine plan_e rfl (fun K hK => ?_)
  go_simp
  refine hK _ _ ?_ ?_
  · repeat (refine stab_cons rfl ?_ ?_; focus (go_simp; done))
    exact stab_nil
  clear hK K
  repeat (refine plan_q rfl (fun K hK => ?_); go_simp; refine hK _ ?_; clear hK K)
  refine plan_e rfl (fun K hK => ?_)
  go_simp
  refine hK _ _ stab_nil ?_
  clear hK K
  refine plan_nil ?_
  go_wp2
  have HE := HN.out
  refine leaves_cons (f := 45) (args := #[.pointer (some ⟨w.heap.size + 1, 0, none⟩), .pointer (some ⟨w.heap.size, 0, none⟩), .pointer (some ⟨w.heap.size + 1 + 1 + 1, 0, none⟩)]) (by simp) (by simp [go_sem]) ?_
  refine (closure_ok _ (w.heap.size + 1) w.heap.size (w.heap.size + 1 + 1 + 1) g A n cap rg (arrA { upcallSt ⟨rg, kept, to, has, false⟩ 4 x with kept := kept } (.slice A n cap)) (rowsOf kept) .returning ?_ ?_ ?_ ?_ ?_ ?_ (by omega) hnc Hcm.out).mono ?_
  · go_simp
  · go_simp
  · exact Blk.drew (Blk.new_at _ _ _ (by simp))
  · exact Blk.cast (by repeat (with_reducible first | exact HB.out | apply Blk.drew | apply Blk.alloc | apply Blk.set_)) (by simp [arrA, upcallSt, upd])
  · simp [arrA]
  · have hR2 := HR.out
    refine hR2.kept (G := OneBlk g) ?_ (fun b' cs hb' e => (HB.out.ne_ hb' (by decide)) e.symm)
    repeat (with_reducible first | exact Kept.refl _ _ | apply Kept.drew | apply Kept.alloc | exact oneHit | apply Kept.setCell)
  · rintro e u' w'' ⟨rfl, rfl, g', cap', hge, hrow, hblk, hk⟩
    have hEc : w''.cell? ⟨w.heap.size + 1, 0, none⟩ = some (.int .i64 0) := by
      rw [hk.cell (by simp) (by show ¬ w.heap.size + 1 = g; omega)]
      go_simp
    refine ⟨.int .i64 0, by simp [results, Try.results15, go_sem, hEc], rfl, ⟨.slice (some ⟨g', 0, none⟩) (n + 1) cap', Blk.cast hblk (by simp [arrA, upcallSt, upd]), ?_, ?_, fun b off cap hv => by injection hv with q1 _ _; injection q1 with q1; injection q1 with q1 _ _; subst q1; simp at hge; omega⟩, ?_⟩
    · have e1 : (upcallSt ⟨rg, kept, to, has, false⟩ 4 x).kept.length = n + 1 := by simp [upcallSt, HE]
      have e2 : rowsOf (upcallSt ⟨rg, kept, to, has, false⟩ 4 x).kept = rowsOf kept ++ regCells rg := by simp [upcallSt, rowsOf]
      show Row w'' 35 9 _ (upcallSt ⟨rg, kept, to, has, false⟩ 4 x).kept.length (rowsOf (upcallSt ⟨rg, kept, to, has, false⟩ 4 x).kept)
      rw [e1, e2]
      exact hrow
    · simp [upcallSt, HE]
      omega
    · refine Kept.trans ?_ hk
      repeat (with_reducible first | exact Kept.refl _ _ | apply Kept.drew | apply Kept.alloc | exact oneHit | apply Kept.setCell)
theorem upcall_ok (w : World) (g : Nat) (S : St) (h : IsA w g S) (hd : S.dead = false) (k x : Int) (h0 : 0 ≤ k) (h1 : k < 5) (hh : S.has k.toNat = true) (hlen : S.kept.length < 4) :
   Calls Try.prog 15 #[.pointer (some ⟨g, 0, none⟩), .int .u8 k, .int .u16 x] w fun e w' => e = .returned (.int .i64 0) ∧ IsAt w' g (upcallSt S k.toNat x) w.heap.size ∧ Kept (OneBlk g) w w' := by
  have hk : k = 0 ∨ k = 1 ∨ k = 2 ∨ k = 3 ∨ k = 4 := by omega
  rcases hk with hk | hk | hk | hk | hk
  · exact upcall_ok0 w g S h hd k x hk hh hlen
  · exact upcall_ok1 w g S h hd k x hk hh hlen
  · exact upcall_ok2 w g S h hd k x hk hh hlen
  · exact upcall_ok3 w g S h hd k x hk hh hlen
  · exact upcall_ok4 w g S h hd k x hk hh hlen
end Go.Proofs.Ytjhngfbhppbcnaa
