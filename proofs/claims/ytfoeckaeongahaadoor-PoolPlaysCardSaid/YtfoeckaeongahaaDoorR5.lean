/- The pool: a deed on both. -/
import Derived.Test.YtfoeckaeongahaaDoorR4
namespace Go.Proofs.YtfoeckaeongahaaDoor
open Go.RowKit Go.Shelf
set_option maxRecDepth 100000

def cutN (n : ByteArray) : ByteArray := if 300 < n.size then n.extract 0 300 else n
theorem cutN_size (n : ByteArray) : (cutN n).size ≤ 300 := by
  unfold cutN
  split
  · rw [ByteArray.size_extract]; omega
  · omega
def ThreeBlk (p f r : Nat) : Nat → Prop := fun b => b = p ∨ b = f ∨ b = r
/-- Both tell S; they lie in memory that was not there in w0. -/
structure Both (w0 w : World) (pb fb rb : Nat) (S : PSt) : Prop where
  p : PI w pb fb S
  r : RI w rb S
  hp : w0.heap.size ≤ pb
  hf : w0.heap.size ≤ fb
  hr : w0.heap.size ≤ rb
  npr : pb ≠ rb
  nfr : fb ≠ rb
  kept : Kept NoBlk w0 w
theorem row_not {w : World} {g t : Nat} {cs : Array Value} (h : Blk w g t cs) (ht : t ≠ 34) : ∀ b cs', Blk w b 34 cs' → ¬ OneBlk g b := fun b _ hb e => (h.ne_ hb ht) (show g = b from e.symm)
theorem RI.after {w w' : World} {pb fb rb : Nat} {S S' : PSt} (h : RI w rb S) (hp : PI w pb fb S') (hk : Kept (TwoBlk pb fb) w w') (n1 : pb ≠ rb) (n2 : fb ≠ rb) : RI w' rb S := by
  obtain ⟨cap, hp⟩ := hp
  obtain ⟨v, -, hb⟩ := hp.pool
  obtain ⟨g, hg, -⟩ := hp.fr
  refine h.kept hk (fun e => by rcases e with e | e; exact n1 e.symm; exact n2 e.symm) (fun b cs hb' e => ?_)
  rcases e with e | e
  · exact (hb.ne_ hb' (by decide)) e.symm
  · exact (hg.ne_ hb' (by decide)) e.symm
theorem PI.after {w w' : World} {pb fb rb : Nat} {S S' : PSt} (h : PI w pb fb S) (hr : RI w rb S') (hk : Kept (OneBlk rb) w w') (n1 : pb ≠ rb) (n2 : fb ≠ rb) : PI w' pb fb S := by
  obtain ⟨v, -, hb⟩ := hr
  exact h.kept hk n1 n2 (row_not hb (by decide))
theorem Both.step {w0 w w1 w2 : World} {pb fb rb : Nat} {S T : PSt} (h : Both w0 w pb fb rb S) (p1 : PI w1 pb fb T) (k1 : Kept (TwoBlk pb fb) w w1) (r2 : RI w2 rb T) (k2 : Kept (OneBlk rb) w1 w2) : Both w0 w2 pb fb rb T := by
  have hr1 : RI w1 rb S := h.r.after h.p k1 h.npr h.nfr
  exact ⟨p1.after hr1 k2 h.npr h.nfr, r2, h.hp, h.hf, h.hr, h.npr, h.nfr, Kept.fresh (Kept.fresh h.kept k1 (fun b e => by rcases e with e | e <;> rw [e]; exact h.hp; exact h.hf)) k2 (fun b e => by rw [show b = rb from e]; exact h.hr)⟩
theorem Both.keptNo {w0 w w' : World} {pb fb rb : Nat} {S : PSt} (h : Both w0 w pb fb rb S) (hk : Kept NoBlk w w') : Both w0 w' pb fb rb S :=
  ⟨h.p.keptNo hk, h.r.keptNo hk, h.hp, h.hf, h.hr, h.npr, h.nfr, h.kept.trans hk⟩
theorem Both.mid {w0 w w1 : World} {pb fb rb : Nat} {S : PSt} (h : Both w0 w pb fb rb S) (k1 : Kept (TwoBlk pb fb) w w1) : RI w1 rb S ∧ Kept NoBlk w0 w1 :=
  ⟨h.r.after h.p k1 h.npr h.nfr, Kept.fresh h.kept k1 (fun b e => by rcases e with e | e <;> rw [e]; exact h.hp; exact h.hf)⟩
def deedV (k m e t f : Int) (n : ByteArray) (r : Int) : Value := .agg #[.int .i64 k, .int .i64 m, .int .u8 e, .int .u8 t, .int .u8 f, .string n, .int .u8 r]
def deedC (k m e t f : Int) (n : ByteArray) (r : Int) : Array Value := #[.int .i64 k, .int .i64 m, .int .u8 e, .int .u8 t, .int .u8 f, .string n, .int .u8 r]
theorem deed_cells {w : World} {b : Nat} {k m e t f : Int} {n : ByteArray} {r : Int} (h : Blk w b 44 (deedC k m e t f n r)) : w.cell? ⟨b, 1, none⟩ = some (.int .i64 m) ∧ w.cell? ⟨b, 2, none⟩ = some (.int .u8 e) ∧ w.cell? ⟨b, 3, none⟩ = some (.int .u8 t) ∧ w.cell? ⟨b, 4, none⟩ = some (.int .u8 f) ∧ w.cell? ⟨b, 5, none⟩ = some (.string n) ∧ w.cell? ⟨b, 6, none⟩ = some (.int .u8 r) := ⟨h.cell 1, h.cell 2, h.cell 3, h.cell 4, h.cell 5, h.cell 6⟩
set_option maxHeartbeats 8000000 in
theorem do_00 (w0 w : World) (pb fb rb : Nat) (S : PSt) (m : Int) (e t f : Nat) (n nn : ByteArray) (r : Int) (hn : n.size ≤ 9223372036854775807) (h300 : ¬ 300 < n.size) (hnn : n = nn) (hnz : nn.size ≤ 300) (B : Both w0 w pb fb rb S) (hFit : Fit S) (hTo : Told S) (hTab : ∀ u, Kept NoBlk w0 u → Tabs u) (hf : f < 256) :
    Calls Tryd.prog 26 #[.pointer (some ⟨pb, 0, none⟩), .pointer (some ⟨rb, 0, none⟩), .agg #[.int .i64 0, .int .i64 m, .int .u8 (e : Int), .int .u8 (t : Int), .int .u8 (f : Int), .string n, .int .u8 r]] w fun x w' => x = .returned (.bool true) ∧ Both w0 w' pb fb rb (quotaT S e m) := by
  have hgt : ¬ (300 : Int) < (n.size : Int) := by omega
  subst hnn
  have hu := And.intro hFit (And.intro hTo (And.intro hnz (And.intro hf hTab)))
  clear hu
  have hmax : (n.size : Int) ≤ 9223372036854775807 := by omega
  have HB0 : Hid (Blk (w.alloc (.cells (deedC 0 m (e : Int) (t : Int) (f : Int) n r) 44)) w.heap.size 44 (deedC 0 m (e : Int) (t : Int) (f : Int) n r)) := Lib.hid (Blk.new _ _ _)
  have HT0 := Lib.hid (B.keptNo ((Kept.refl NoBlk w).alloc (.cells (deedC 0 m (e : Int) (t : Int) (f : Int) n r) 44)))
  have hlt : w.heap.size ≠ pb ∧ w.heap.size ≠ fb ∧ w.heap.size ≠ rb := by
    have := B.p.ltP; have := B.p.ltF; have := B.r.lt
    omega
  obtain ⟨l1, l2, l3⟩ := hlt
  have HP := Lib.hid (fun w (h : PI w pb fb S) => quota_any w pb fb S e m h)
  have HR := Lib.hid (fun w (h : RI w rb S) (hT : Tabs w) => rquota_any w rb S e m h)
  have HTA := Lib.hid hTab
  generalize quotaC e m = gc at *
  generalize quotaT S e m = T at *
  clear hFit hTo hTab B
  unfold deedC at HB0 HT0
  go_enter Tryd.func26, Tryd.ntmps26
  go_wp2
  refine wp_region_plan (by kernel_rfl) (.q 0 <| .q 1 <| .q 2 <| .q 3 <| .q 4 <| .q 6 <| .q 7 <| .q 8 <| .q 9 <| .q 10 <| .e 5 [6, 7, 8, 9, 10] <| .e 11 [] <| .q 12 <| .q 13 <| .nil) (by kernel_rfl) (by kernel_rfl) ?_
  repeat (refine plan_q rfl (fun K hK => ?_); go_simp; refine hK _ ?_; clear hK K)
  refine plan_e rfl (fun K hK => ?_)
  go_simp
  refine (HP.out _ HT0.out.p.drew).mono ?_
  rintro x w1 ⟨rfl, hp1, hk1⟩
  have HT0d := HT0.out.keptNo (Kept.refl _ _).drew
  obtain ⟨hr1, hk01⟩ := HT0d.mid hk1
  have HB1 := Lib.hid (HB0.out.drew.kept hk1 (fun e => by rcases e with e | e; exact l1 e; exact l2 e))
  obtain ⟨a1, a2, a3, a4, a5, a6⟩ := deed_cells HB1.out
  have HBO := Lib.hid (fun w2 (r2 : RI w2 rb T) k2 => HT0d.step hp1 hk1 r2 k2)
  have HR1 := Lib.hid hr1
  have HTB1 := Lib.hid (HTA.out _ hk01)
  clear hp1 hk1 hr1 hk01 HT0d HB0
  refine hK _ _ (by (repeat (refine stab_cons rfl ?_ ?_; focus (go_simp; done))); exact stab_nil) ?_
  clear hK K
  refine plan_e rfl (fun K hK => ?_)
  go_simp
  refine (HR.out _ HR1.out HTB1.out).mono ?_
  rintro x w2 ⟨rfl, hr2, hk2⟩
  have HF := Lib.hid (HBO.out _ hr2 hk2)
  clear hr2 hk2 HBO HB1
  refine hK _ _ stab_nil ?_
  clear hK K
  repeat (refine plan_q rfl (fun K hK => ?_); go_simp; refine hK _ ?_; clear hK K)
  refine plan_nil ?_
  go_wp2
  go_ret
  exact ⟨by simp, HF.out⟩
set_option maxHeartbeats 8000000 in
theorem do_01 (w0 w : World) (pb fb rb : Nat) (S : PSt) (m : Int) (e t f : Nat) (n nn : ByteArray) (r : Int) (hn : n.size ≤ 9223372036854775807) (h300 : 300 < n.size) (hnn : n.extract 0 300 = nn) (hnz : nn.size ≤ 300) (B : Both w0 w pb fb rb S) (hFit : Fit S) (hTo : Told S) (hTab : ∀ u, Kept NoBlk w0 u → Tabs u) (hf : f < 256) :
    Calls Tryd.prog 26 #[.pointer (some ⟨pb, 0, none⟩), .pointer (some ⟨rb, 0, none⟩), .agg #[.int .i64 0, .int .i64 m, .int .u8 (e : Int), .int .u8 (t : Int), .int .u8 (f : Int), .string n, .int .u8 r]] w fun x w' => x = .returned (.bool true) ∧ Both w0 w' pb fb rb (quotaT S e m) := by
  have hgt : (300 : Int) < (n.size : Int) := by omega
  have hsl := fun w => sl_to w n 300 (by omega) (by omega)
  rw [show ((300 : Int)).toNat = 300 from rfl, hnn] at hsl
  have hu := And.intro hFit (And.intro hTo (And.intro hnz (And.intro hf hTab)))
  clear hu
  have hmax : (n.size : Int) ≤ 9223372036854775807 := by omega
  have HB0 : Hid (Blk (w.alloc (.cells (deedC 0 m (e : Int) (t : Int) (f : Int) nn r) 44)) w.heap.size 44 (deedC 0 m (e : Int) (t : Int) (f : Int) nn r)) := Lib.hid (Blk.new _ _ _)
  have HT0 := Lib.hid (B.keptNo ((Kept.refl NoBlk w).alloc (.cells (deedC 0 m (e : Int) (t : Int) (f : Int) nn r) 44)))
  have hlt : w.heap.size ≠ pb ∧ w.heap.size ≠ fb ∧ w.heap.size ≠ rb := by
    have := B.p.ltP; have := B.p.ltF; have := B.r.lt
    omega
  obtain ⟨l1, l2, l3⟩ := hlt
  have HP := Lib.hid (fun w (h : PI w pb fb S) => quota_any w pb fb S e m h)
  have HR := Lib.hid (fun w (h : RI w rb S) (hT : Tabs w) => rquota_any w rb S e m h)
  have HTA := Lib.hid hTab
  generalize quotaC e m = gc at *
  generalize quotaT S e m = T at *
  clear hFit hTo hTab B
  unfold deedC at HB0 HT0
  go_enter Tryd.func26, Tryd.ntmps26
  go_wp2
  refine wp_region_plan (by kernel_rfl) (.q 0 <| .q 1 <| .q 2 <| .q 3 <| .q 4 <| .q 6 <| .q 7 <| .q 8 <| .q 9 <| .q 10 <| .e 5 [6, 7, 8, 9, 10] <| .e 11 [] <| .q 12 <| .q 13 <| .nil) (by kernel_rfl) (by kernel_rfl) ?_
  repeat (refine plan_q rfl (fun K hK => ?_); go_simp; refine hK _ ?_; clear hK K)
  refine plan_e rfl (fun K hK => ?_)
  go_simp
  refine (HP.out _ HT0.out.p.drew).mono ?_
  rintro x w1 ⟨rfl, hp1, hk1⟩
  have HT0d := HT0.out.keptNo (Kept.refl _ _).drew
  obtain ⟨hr1, hk01⟩ := HT0d.mid hk1
  have HB1 := Lib.hid (HB0.out.drew.kept hk1 (fun e => by rcases e with e | e; exact l1 e; exact l2 e))
  obtain ⟨a1, a2, a3, a4, a5, a6⟩ := deed_cells HB1.out
  have HBO := Lib.hid (fun w2 (r2 : RI w2 rb T) k2 => HT0d.step hp1 hk1 r2 k2)
  have HR1 := Lib.hid hr1
  have HTB1 := Lib.hid (HTA.out _ hk01)
  clear hp1 hk1 hr1 hk01 HT0d HB0
  refine hK _ _ (by (repeat (refine stab_cons rfl ?_ ?_; focus (go_simp; done))); exact stab_nil) ?_
  clear hK K
  refine plan_e rfl (fun K hK => ?_)
  go_simp
  refine (HR.out _ HR1.out HTB1.out).mono ?_
  rintro x w2 ⟨rfl, hr2, hk2⟩
  have HF := Lib.hid (HBO.out _ hr2 hk2)
  clear hr2 hk2 HBO HB1
  refine hK _ _ stab_nil ?_
  clear hK K
  repeat (refine plan_q rfl (fun K hK => ?_); go_simp; refine hK _ ?_; clear hK K)
  refine plan_nil ?_
  go_wp2
  go_ret
  exact ⟨by simp, HF.out⟩
set_option maxHeartbeats 8000000 in
theorem do_10 (w0 w : World) (pb fb rb : Nat) (S : PSt) (m : Int) (e t f : Nat) (n nn : ByteArray) (r : Int) (hn : n.size ≤ 9223372036854775807) (h300 : ¬ 300 < n.size) (hnn : n = nn) (hnz : nn.size ≤ 300) (B : Both w0 w pb fb rb S) (hFit : Fit S) (hTo : Told S) (hTab : ∀ u, Kept NoBlk w0 u → Tabs u) (hf : f < 256) :
    Calls Tryd.prog 26 #[.pointer (some ⟨pb, 0, none⟩), .pointer (some ⟨rb, 0, none⟩), .agg #[.int .i64 1, .int .i64 m, .int .u8 (e : Int), .int .u8 (t : Int), .int .u8 (f : Int), .string n, .int .u8 r]] w fun x w' => x = .returned (.bool true) ∧ Both w0 w' pb fb rb (grantT S e f nn r) := by
  have hgt : ¬ (300 : Int) < (n.size : Int) := by omega
  subst hnn
  have hu := And.intro hFit (And.intro hTo (And.intro hnz (And.intro hf hTab)))
  clear hu
  have hmax : (n.size : Int) ≤ 9223372036854775807 := by omega
  have HB0 : Hid (Blk (w.alloc (.cells (deedC 1 m (e : Int) (t : Int) (f : Int) n r) 44)) w.heap.size 44 (deedC 1 m (e : Int) (t : Int) (f : Int) n r)) := Lib.hid (Blk.new _ _ _)
  have HT0 := Lib.hid (B.keptNo ((Kept.refl NoBlk w).alloc (.cells (deedC 1 m (e : Int) (t : Int) (f : Int) n r) 44)))
  have hlt : w.heap.size ≠ pb ∧ w.heap.size ≠ fb ∧ w.heap.size ≠ rb := by
    have := B.p.ltP; have := B.p.ltF; have := B.r.lt
    omega
  obtain ⟨l1, l2, l3⟩ := hlt
  have HP := Lib.hid (fun w (h : PI w pb fb S) => grant_any w pb fb S e f n r h hFit hf (by omega))
  have HR := Lib.hid (fun w (h : RI w rb S) (hT : Tabs w) => rgrant_any w rb S e f n r h hFit hTo hf (by omega) hT)
  have HTA := Lib.hid hTab
  generalize grantC S e f n r = gc at *
  generalize grantT S e f n r = T at *
  clear hFit hTo hTab B
  unfold capV at *
  unfold deedC at HB0 HT0
  go_enter Tryd.func26, Tryd.ntmps26
  go_wp2
  refine wp_region_plan (by kernel_rfl) (.q 0 <| .q 1 <| .q 2 <| .q 3 <| .q 4 <| .q 5 <| .q 6 <| .q 8 <| .q 9 <| .q 10 <| .q 11 <| .q 12 <| .q 13 <| .q 14 <| .e 7 [8, 9, 10, 11, 12, 13, 14] <| .e 15 [] <| .q 16 <| .q 17 <| .nil) (by kernel_rfl) (by kernel_rfl) ?_
  repeat (refine plan_q rfl (fun K hK => ?_); go_simp; refine hK _ ?_; clear hK K)
  refine plan_e rfl (fun K hK => ?_)
  go_simp
  refine (HP.out _ HT0.out.p.drew).mono ?_
  rintro x w1 ⟨rfl, hp1, hk1⟩
  have HT0d := HT0.out.keptNo (Kept.refl _ _).drew
  obtain ⟨hr1, hk01⟩ := HT0d.mid hk1
  have HB1 := Lib.hid (HB0.out.drew.kept hk1 (fun e => by rcases e with e | e; exact l1 e; exact l2 e))
  obtain ⟨a1, a2, a3, a4, a5, a6⟩ := deed_cells HB1.out
  have HBO := Lib.hid (fun w2 (r2 : RI w2 rb T) k2 => HT0d.step hp1 hk1 r2 k2)
  have HR1 := Lib.hid hr1
  have HTB1 := Lib.hid (HTA.out _ hk01)
  clear hp1 hk1 hr1 hk01 HT0d HB0
  refine hK _ _ (by (repeat (refine stab_cons rfl ?_ ?_; focus (go_simp; done))); exact stab_nil) ?_
  clear hK K
  refine plan_e rfl (fun K hK => ?_)
  go_simp
  refine (HR.out _ HR1.out HTB1.out).mono ?_
  rintro x w2 ⟨rfl, hr2, hk2⟩
  have HF := Lib.hid (HBO.out _ hr2 hk2)
  clear hr2 hk2 HBO HB1
  refine hK _ _ stab_nil ?_
  clear hK K
  repeat (refine plan_q rfl (fun K hK => ?_); go_simp; refine hK _ ?_; clear hK K)
  refine plan_nil ?_
  go_wp2
  go_ret
  exact ⟨by simp, HF.out⟩
set_option maxHeartbeats 8000000 in
theorem do_11 (w0 w : World) (pb fb rb : Nat) (S : PSt) (m : Int) (e t f : Nat) (n nn : ByteArray) (r : Int) (hn : n.size ≤ 9223372036854775807) (h300 : 300 < n.size) (hnn : n.extract 0 300 = nn) (hnz : nn.size ≤ 300) (B : Both w0 w pb fb rb S) (hFit : Fit S) (hTo : Told S) (hTab : ∀ u, Kept NoBlk w0 u → Tabs u) (hf : f < 256) :
    Calls Tryd.prog 26 #[.pointer (some ⟨pb, 0, none⟩), .pointer (some ⟨rb, 0, none⟩), .agg #[.int .i64 1, .int .i64 m, .int .u8 (e : Int), .int .u8 (t : Int), .int .u8 (f : Int), .string n, .int .u8 r]] w fun x w' => x = .returned (.bool true) ∧ Both w0 w' pb fb rb (grantT S e f nn r) := by
  have hgt : (300 : Int) < (n.size : Int) := by omega
  have hsl := fun w => sl_to w n 300 (by omega) (by omega)
  rw [show ((300 : Int)).toNat = 300 from rfl, hnn] at hsl
  have hu := And.intro hFit (And.intro hTo (And.intro hnz (And.intro hf hTab)))
  clear hu
  have hmax : (n.size : Int) ≤ 9223372036854775807 := by omega
  have HB0 : Hid (Blk (w.alloc (.cells (deedC 1 m (e : Int) (t : Int) (f : Int) nn r) 44)) w.heap.size 44 (deedC 1 m (e : Int) (t : Int) (f : Int) nn r)) := Lib.hid (Blk.new _ _ _)
  have HT0 := Lib.hid (B.keptNo ((Kept.refl NoBlk w).alloc (.cells (deedC 1 m (e : Int) (t : Int) (f : Int) nn r) 44)))
  have hlt : w.heap.size ≠ pb ∧ w.heap.size ≠ fb ∧ w.heap.size ≠ rb := by
    have := B.p.ltP; have := B.p.ltF; have := B.r.lt
    omega
  obtain ⟨l1, l2, l3⟩ := hlt
  have HP := Lib.hid (fun w (h : PI w pb fb S) => grant_any w pb fb S e f nn r h hFit hf (by omega))
  have HR := Lib.hid (fun w (h : RI w rb S) (hT : Tabs w) => rgrant_any w rb S e f nn r h hFit hTo hf (by omega) hT)
  have HTA := Lib.hid hTab
  generalize grantC S e f nn r = gc at *
  generalize grantT S e f nn r = T at *
  clear hFit hTo hTab B
  unfold capV at *
  unfold deedC at HB0 HT0
  go_enter Tryd.func26, Tryd.ntmps26
  go_wp2
  refine wp_region_plan (by kernel_rfl) (.q 0 <| .q 1 <| .q 2 <| .q 3 <| .q 4 <| .q 5 <| .q 6 <| .q 8 <| .q 9 <| .q 10 <| .q 11 <| .q 12 <| .q 13 <| .q 14 <| .e 7 [8, 9, 10, 11, 12, 13, 14] <| .e 15 [] <| .q 16 <| .q 17 <| .nil) (by kernel_rfl) (by kernel_rfl) ?_
  repeat (refine plan_q rfl (fun K hK => ?_); go_simp; refine hK _ ?_; clear hK K)
  refine plan_e rfl (fun K hK => ?_)
  go_simp
  refine (HP.out _ HT0.out.p.drew).mono ?_
  rintro x w1 ⟨rfl, hp1, hk1⟩
  have HT0d := HT0.out.keptNo (Kept.refl _ _).drew
  obtain ⟨hr1, hk01⟩ := HT0d.mid hk1
  have HB1 := Lib.hid (HB0.out.drew.kept hk1 (fun e => by rcases e with e | e; exact l1 e; exact l2 e))
  obtain ⟨a1, a2, a3, a4, a5, a6⟩ := deed_cells HB1.out
  have HBO := Lib.hid (fun w2 (r2 : RI w2 rb T) k2 => HT0d.step hp1 hk1 r2 k2)
  have HR1 := Lib.hid hr1
  have HTB1 := Lib.hid (HTA.out _ hk01)
  clear hp1 hk1 hr1 hk01 HT0d HB0
  refine hK _ _ (by (repeat (refine stab_cons rfl ?_ ?_; focus (go_simp; done))); exact stab_nil) ?_
  clear hK K
  refine plan_e rfl (fun K hK => ?_)
  go_simp
  refine (HR.out _ HR1.out HTB1.out).mono ?_
  rintro x w2 ⟨rfl, hr2, hk2⟩
  have HF := Lib.hid (HBO.out _ hr2 hk2)
  clear hr2 hk2 HBO HB1
  refine hK _ _ stab_nil ?_
  clear hK K
  repeat (refine plan_q rfl (fun K hK => ?_); go_simp; refine hK _ ?_; clear hK K)
  refine plan_nil ?_
  go_wp2
  go_ret
  exact ⟨by simp, HF.out⟩
set_option maxHeartbeats 8000000 in
theorem do_20 (w0 w : World) (pb fb rb : Nat) (S : PSt) (m : Int) (e t f : Nat) (n nn : ByteArray) (r : Int) (hn : n.size ≤ 9223372036854775807) (h300 : ¬ 300 < n.size) (hnn : n = nn) (hnz : nn.size ≤ 300) (B : Both w0 w pb fb rb S) (hFit : Fit S) (hTo : Told S) (hTab : ∀ u, Kept NoBlk w0 u → Tabs u) (hf : f < 256) :
    Calls Tryd.prog 26 #[.pointer (some ⟨pb, 0, none⟩), .pointer (some ⟨rb, 0, none⟩), .agg #[.int .i64 2, .int .i64 m, .int .u8 (e : Int), .int .u8 (t : Int), .int .u8 (f : Int), .string n, .int .u8 r]] w fun x w' => x = .returned (.bool true) ∧ Both w0 w' pb fb rb (shareT S e t f) := by
  have hgt : ¬ (300 : Int) < (n.size : Int) := by omega
  subst hnn
  have hu := And.intro hFit (And.intro hTo (And.intro hnz (And.intro hf hTab)))
  clear hu
  have hmax : (n.size : Int) ≤ 9223372036854775807 := by omega
  have HB0 : Hid (Blk (w.alloc (.cells (deedC 2 m (e : Int) (t : Int) (f : Int) n r) 44)) w.heap.size 44 (deedC 2 m (e : Int) (t : Int) (f : Int) n r)) := Lib.hid (Blk.new _ _ _)
  have HT0 := Lib.hid (B.keptNo ((Kept.refl NoBlk w).alloc (.cells (deedC 2 m (e : Int) (t : Int) (f : Int) n r) 44)))
  have hlt : w.heap.size ≠ pb ∧ w.heap.size ≠ fb ∧ w.heap.size ≠ rb := by
    have := B.p.ltP; have := B.p.ltF; have := B.r.lt
    omega
  obtain ⟨l1, l2, l3⟩ := hlt
  have HP := Lib.hid (fun w (h : PI w pb fb S) => share_any w pb fb S e t f h hFit hf)
  have HR := Lib.hid (fun w (h : RI w rb S) (hT : Tabs w) => rshare_any w rb S e t f h hFit hTo hf)
  have HTA := Lib.hid hTab
  generalize shareC S e t f = gc at *
  generalize shareT S e t f = T at *
  clear hFit hTo hTab B
  unfold deedC at HB0 HT0
  go_enter Tryd.func26, Tryd.ntmps26
  go_wp2
  refine wp_region_plan (by kernel_rfl) (.q 0 <| .q 1 <| .q 2 <| .q 3 <| .q 4 <| .q 5 <| .q 6 <| .q 8 <| .q 9 <| .q 10 <| .q 11 <| .q 12 <| .q 13 <| .q 14 <| .e 7 [8, 9, 10, 11, 12, 13, 14] <| .e 15 [] <| .q 16 <| .q 17 <| .nil) (by kernel_rfl) (by kernel_rfl) ?_
  repeat (refine plan_q rfl (fun K hK => ?_); go_simp; refine hK _ ?_; clear hK K)
  refine plan_e rfl (fun K hK => ?_)
  go_simp
  refine (HP.out _ HT0.out.p.drew).mono ?_
  rintro x w1 ⟨rfl, hp1, hk1⟩
  have HT0d := HT0.out.keptNo (Kept.refl _ _).drew
  obtain ⟨hr1, hk01⟩ := HT0d.mid hk1
  have HB1 := Lib.hid (HB0.out.drew.kept hk1 (fun e => by rcases e with e | e; exact l1 e; exact l2 e))
  obtain ⟨a1, a2, a3, a4, a5, a6⟩ := deed_cells HB1.out
  have HBO := Lib.hid (fun w2 (r2 : RI w2 rb T) k2 => HT0d.step hp1 hk1 r2 k2)
  have HR1 := Lib.hid hr1
  have HTB1 := Lib.hid (HTA.out _ hk01)
  clear hp1 hk1 hr1 hk01 HT0d HB0
  refine hK _ _ (by (repeat (refine stab_cons rfl ?_ ?_; focus (go_simp; done))); exact stab_nil) ?_
  clear hK K
  refine plan_e rfl (fun K hK => ?_)
  go_simp
  refine (HR.out _ HR1.out HTB1.out).mono ?_
  rintro x w2 ⟨rfl, hr2, hk2⟩
  have HF := Lib.hid (HBO.out _ hr2 hk2)
  clear hr2 hk2 HBO HB1
  refine hK _ _ stab_nil ?_
  clear hK K
  repeat (refine plan_q rfl (fun K hK => ?_); go_simp; refine hK _ ?_; clear hK K)
  refine plan_nil ?_
  go_wp2
  go_ret
  exact ⟨by simp, HF.out⟩
set_option maxHeartbeats 8000000 in
theorem do_21 (w0 w : World) (pb fb rb : Nat) (S : PSt) (m : Int) (e t f : Nat) (n nn : ByteArray) (r : Int) (hn : n.size ≤ 9223372036854775807) (h300 : 300 < n.size) (hnn : n.extract 0 300 = nn) (hnz : nn.size ≤ 300) (B : Both w0 w pb fb rb S) (hFit : Fit S) (hTo : Told S) (hTab : ∀ u, Kept NoBlk w0 u → Tabs u) (hf : f < 256) :
    Calls Tryd.prog 26 #[.pointer (some ⟨pb, 0, none⟩), .pointer (some ⟨rb, 0, none⟩), .agg #[.int .i64 2, .int .i64 m, .int .u8 (e : Int), .int .u8 (t : Int), .int .u8 (f : Int), .string n, .int .u8 r]] w fun x w' => x = .returned (.bool true) ∧ Both w0 w' pb fb rb (shareT S e t f) := by
  have hgt : (300 : Int) < (n.size : Int) := by omega
  have hsl := fun w => sl_to w n 300 (by omega) (by omega)
  rw [show ((300 : Int)).toNat = 300 from rfl, hnn] at hsl
  have hu := And.intro hFit (And.intro hTo (And.intro hnz (And.intro hf hTab)))
  clear hu
  have hmax : (n.size : Int) ≤ 9223372036854775807 := by omega
  have HB0 : Hid (Blk (w.alloc (.cells (deedC 2 m (e : Int) (t : Int) (f : Int) nn r) 44)) w.heap.size 44 (deedC 2 m (e : Int) (t : Int) (f : Int) nn r)) := Lib.hid (Blk.new _ _ _)
  have HT0 := Lib.hid (B.keptNo ((Kept.refl NoBlk w).alloc (.cells (deedC 2 m (e : Int) (t : Int) (f : Int) nn r) 44)))
  have hlt : w.heap.size ≠ pb ∧ w.heap.size ≠ fb ∧ w.heap.size ≠ rb := by
    have := B.p.ltP; have := B.p.ltF; have := B.r.lt
    omega
  obtain ⟨l1, l2, l3⟩ := hlt
  have HP := Lib.hid (fun w (h : PI w pb fb S) => share_any w pb fb S e t f h hFit hf)
  have HR := Lib.hid (fun w (h : RI w rb S) (hT : Tabs w) => rshare_any w rb S e t f h hFit hTo hf)
  have HTA := Lib.hid hTab
  generalize shareC S e t f = gc at *
  generalize shareT S e t f = T at *
  clear hFit hTo hTab B
  unfold deedC at HB0 HT0
  go_enter Tryd.func26, Tryd.ntmps26
  go_wp2
  refine wp_region_plan (by kernel_rfl) (.q 0 <| .q 1 <| .q 2 <| .q 3 <| .q 4 <| .q 5 <| .q 6 <| .q 8 <| .q 9 <| .q 10 <| .q 11 <| .q 12 <| .q 13 <| .q 14 <| .e 7 [8, 9, 10, 11, 12, 13, 14] <| .e 15 [] <| .q 16 <| .q 17 <| .nil) (by kernel_rfl) (by kernel_rfl) ?_
  repeat (refine plan_q rfl (fun K hK => ?_); go_simp; refine hK _ ?_; clear hK K)
  refine plan_e rfl (fun K hK => ?_)
  go_simp
  refine (HP.out _ HT0.out.p.drew).mono ?_
  rintro x w1 ⟨rfl, hp1, hk1⟩
  have HT0d := HT0.out.keptNo (Kept.refl _ _).drew
  obtain ⟨hr1, hk01⟩ := HT0d.mid hk1
  have HB1 := Lib.hid (HB0.out.drew.kept hk1 (fun e => by rcases e with e | e; exact l1 e; exact l2 e))
  obtain ⟨a1, a2, a3, a4, a5, a6⟩ := deed_cells HB1.out
  have HBO := Lib.hid (fun w2 (r2 : RI w2 rb T) k2 => HT0d.step hp1 hk1 r2 k2)
  have HR1 := Lib.hid hr1
  have HTB1 := Lib.hid (HTA.out _ hk01)
  clear hp1 hk1 hr1 hk01 HT0d HB0
  refine hK _ _ (by (repeat (refine stab_cons rfl ?_ ?_; focus (go_simp; done))); exact stab_nil) ?_
  clear hK K
  refine plan_e rfl (fun K hK => ?_)
  go_simp
  refine (HR.out _ HR1.out HTB1.out).mono ?_
  rintro x w2 ⟨rfl, hr2, hk2⟩
  have HF := Lib.hid (HBO.out _ hr2 hk2)
  clear hr2 hk2 HBO HB1
  refine hK _ _ stab_nil ?_
  clear hK K
  repeat (refine plan_q rfl (fun K hK => ?_); go_simp; refine hK _ ?_; clear hK K)
  refine plan_nil ?_
  go_wp2
  go_ret
  exact ⟨by simp, HF.out⟩
set_option maxHeartbeats 8000000 in
theorem do_30 (w0 w : World) (pb fb rb : Nat) (S : PSt) (m : Int) (e t f : Nat) (n nn : ByteArray) (r : Int) (hn : n.size ≤ 9223372036854775807) (h300 : ¬ 300 < n.size) (hnn : n = nn) (hnz : nn.size ≤ 300) (B : Both w0 w pb fb rb S) (hFit : Fit S) (hTo : Told S) (hTab : ∀ u, Kept NoBlk w0 u → Tabs u) (hf : f < 256) :
    Calls Tryd.prog 26 #[.pointer (some ⟨pb, 0, none⟩), .pointer (some ⟨rb, 0, none⟩), .agg #[.int .i64 3, .int .i64 m, .int .u8 (e : Int), .int .u8 (t : Int), .int .u8 (f : Int), .string n, .int .u8 r]] w fun x w' => x = .returned (.bool true) ∧ Both w0 w' pb fb rb (freeT S e f) := by
  have hgt : ¬ (300 : Int) < (n.size : Int) := by omega
  subst hnn
  have hu := And.intro hFit (And.intro hTo (And.intro hnz (And.intro hf hTab)))
  clear hu
  have hmax : (n.size : Int) ≤ 9223372036854775807 := by omega
  have HB0 : Hid (Blk (w.alloc (.cells (deedC 3 m (e : Int) (t : Int) (f : Int) n r) 44)) w.heap.size 44 (deedC 3 m (e : Int) (t : Int) (f : Int) n r)) := Lib.hid (Blk.new _ _ _)
  have HT0 := Lib.hid (B.keptNo ((Kept.refl NoBlk w).alloc (.cells (deedC 3 m (e : Int) (t : Int) (f : Int) n r) 44)))
  have hlt : w.heap.size ≠ pb ∧ w.heap.size ≠ fb ∧ w.heap.size ≠ rb := by
    have := B.p.ltP; have := B.p.ltF; have := B.r.lt
    omega
  obtain ⟨l1, l2, l3⟩ := hlt
  have HP := Lib.hid (fun w (h : PI w pb fb S) => free_any w pb fb S e f h hFit hf)
  have HR := Lib.hid (fun w (h : RI w rb S) (hT : Tabs w) => rfree_any w rb S e f h hFit hf)
  have HTA := Lib.hid hTab
  generalize freeB S e f = gb at *
  generalize freeC S e f = gc at *
  generalize freeT S e f = T at *
  clear hFit hTo hTab B
  unfold deedC at HB0 HT0
  go_enter Tryd.func26, Tryd.ntmps26
  go_wp2_with fail
  refine (HP.out _ HT0.out.p).mono ?_
  rintro x w1 ⟨rfl, hp1, hk1⟩
  obtain ⟨hr1, hk01⟩ := HT0.out.mid hk1
  have HB1 := Lib.hid (HB0.out.kept hk1 (fun e => by rcases e with e | e; exact l1 e; exact l2 e))
  obtain ⟨a1, a2, a3, a4, a5, a6⟩ := deed_cells HB1.out
  have HBO := Lib.hid (fun w2 (r2 : RI w2 rb T) k2 => HT0.out.step hp1 hk1 r2 k2)
  have HR1 := Lib.hid hr1
  have HTB1 := Lib.hid (HTA.out _ hk01)
  clear hp1 hk1 hr1 hk01 HB0
  go_wp2_with fail
  refine (HR.out _ HR1.out HTB1.out).mono ?_
  rintro x w2 ⟨rfl, hr2, hk2⟩
  have HF := Lib.hid (HBO.out _ hr2 hk2)
  clear hr2 hk2 HBO HB1 a1 a2 a3 a4 a5 a6
  go_wp2
  go_ret
  exact ⟨by simp, HF.out⟩
set_option maxHeartbeats 8000000 in
theorem do_31 (w0 w : World) (pb fb rb : Nat) (S : PSt) (m : Int) (e t f : Nat) (n nn : ByteArray) (r : Int) (hn : n.size ≤ 9223372036854775807) (h300 : 300 < n.size) (hnn : n.extract 0 300 = nn) (hnz : nn.size ≤ 300) (B : Both w0 w pb fb rb S) (hFit : Fit S) (hTo : Told S) (hTab : ∀ u, Kept NoBlk w0 u → Tabs u) (hf : f < 256) :
    Calls Tryd.prog 26 #[.pointer (some ⟨pb, 0, none⟩), .pointer (some ⟨rb, 0, none⟩), .agg #[.int .i64 3, .int .i64 m, .int .u8 (e : Int), .int .u8 (t : Int), .int .u8 (f : Int), .string n, .int .u8 r]] w fun x w' => x = .returned (.bool true) ∧ Both w0 w' pb fb rb (freeT S e f) := by
  have hgt : (300 : Int) < (n.size : Int) := by omega
  have hsl := fun w => sl_to w n 300 (by omega) (by omega)
  rw [show ((300 : Int)).toNat = 300 from rfl, hnn] at hsl
  have hu := And.intro hFit (And.intro hTo (And.intro hnz (And.intro hf hTab)))
  clear hu
  have hmax : (n.size : Int) ≤ 9223372036854775807 := by omega
  have HB0 : Hid (Blk (w.alloc (.cells (deedC 3 m (e : Int) (t : Int) (f : Int) nn r) 44)) w.heap.size 44 (deedC 3 m (e : Int) (t : Int) (f : Int) nn r)) := Lib.hid (Blk.new _ _ _)
  have HT0 := Lib.hid (B.keptNo ((Kept.refl NoBlk w).alloc (.cells (deedC 3 m (e : Int) (t : Int) (f : Int) nn r) 44)))
  have hlt : w.heap.size ≠ pb ∧ w.heap.size ≠ fb ∧ w.heap.size ≠ rb := by
    have := B.p.ltP; have := B.p.ltF; have := B.r.lt
    omega
  obtain ⟨l1, l2, l3⟩ := hlt
  have HP := Lib.hid (fun w (h : PI w pb fb S) => free_any w pb fb S e f h hFit hf)
  have HR := Lib.hid (fun w (h : RI w rb S) (hT : Tabs w) => rfree_any w rb S e f h hFit hf)
  have HTA := Lib.hid hTab
  generalize freeB S e f = gb at *
  generalize freeC S e f = gc at *
  generalize freeT S e f = T at *
  clear hFit hTo hTab B
  unfold deedC at HB0 HT0
  go_enter Tryd.func26, Tryd.ntmps26
  go_wp2_with fail
  refine (HP.out _ HT0.out.p).mono ?_
  rintro x w1 ⟨rfl, hp1, hk1⟩
  obtain ⟨hr1, hk01⟩ := HT0.out.mid hk1
  have HB1 := Lib.hid (HB0.out.kept hk1 (fun e => by rcases e with e | e; exact l1 e; exact l2 e))
  obtain ⟨a1, a2, a3, a4, a5, a6⟩ := deed_cells HB1.out
  have HBO := Lib.hid (fun w2 (r2 : RI w2 rb T) k2 => HT0.out.step hp1 hk1 r2 k2)
  have HR1 := Lib.hid hr1
  have HTB1 := Lib.hid (HTA.out _ hk01)
  clear hp1 hk1 hr1 hk01 HB0
  go_wp2_with fail
  refine (HR.out _ HR1.out HTB1.out).mono ?_
  rintro x w2 ⟨rfl, hr2, hk2⟩
  have HF := Lib.hid (HBO.out _ hr2 hk2)
  clear hr2 hk2 HBO HB1 a1 a2 a3 a4 a5 a6
  go_wp2
  go_ret
  exact ⟨by simp, HF.out⟩
set_option maxHeartbeats 8000000 in
theorem do_40 (w0 w : World) (pb fb rb : Nat) (S : PSt) (m : Int) (e t f : Nat) (n nn : ByteArray) (r : Int) (hn : n.size ≤ 9223372036854775807) (h300 : ¬ 300 < n.size) (hnn : n = nn) (hnz : nn.size ≤ 300) (B : Both w0 w pb fb rb S) (hFit : Fit S) (hTo : Told S) (hTab : ∀ u, Kept NoBlk w0 u → Tabs u) (hf : f < 256) :
    Calls Tryd.prog 26 #[.pointer (some ⟨pb, 0, none⟩), .pointer (some ⟨rb, 0, none⟩), .agg #[.int .i64 4, .int .i64 m, .int .u8 (e : Int), .int .u8 (t : Int), .int .u8 (f : Int), .string n, .int .u8 r]] w fun x w' => x = .returned (.bool true) ∧ Both w0 w' pb fb rb (repT S e f) := by
  have hgt : ¬ (300 : Int) < (n.size : Int) := by omega
  subst hnn
  have hu := And.intro hFit (And.intro hTo (And.intro hnz (And.intro hf hTab)))
  clear hu
  have hmax : (n.size : Int) ≤ 9223372036854775807 := by omega
  have HB0 : Hid (Blk (w.alloc (.cells (deedC 4 m (e : Int) (t : Int) (f : Int) n r) 44)) w.heap.size 44 (deedC 4 m (e : Int) (t : Int) (f : Int) n r)) := Lib.hid (Blk.new _ _ _)
  have HT0 := Lib.hid (B.keptNo ((Kept.refl NoBlk w).alloc (.cells (deedC 4 m (e : Int) (t : Int) (f : Int) n r) 44)))
  have hlt : w.heap.size ≠ pb ∧ w.heap.size ≠ fb ∧ w.heap.size ≠ rb := by
    have := B.p.ltP; have := B.p.ltF; have := B.r.lt
    omega
  obtain ⟨l1, l2, l3⟩ := hlt
  have HP := Lib.hid (fun w (h : PI w pb fb S) => repossess_any w pb fb S e f h hFit hf)
  have HR := Lib.hid (fun w (h : RI w rb S) (hT : Tabs w) => rrep_any w rb S e f h hFit hTo hf)
  have HTA := Lib.hid hTab
  generalize repB S e f = gb at *
  generalize repC S e f = gc at *
  generalize repT S e f = T at *
  clear hFit hTo hTab B
  unfold deedC at HB0 HT0
  go_enter Tryd.func26, Tryd.ntmps26
  go_wp2_with fail
  refine (HP.out _ HT0.out.p).mono ?_
  rintro x w1 ⟨rfl, hp1, hk1⟩
  obtain ⟨hr1, hk01⟩ := HT0.out.mid hk1
  have HB1 := Lib.hid (HB0.out.kept hk1 (fun e => by rcases e with e | e; exact l1 e; exact l2 e))
  obtain ⟨a1, a2, a3, a4, a5, a6⟩ := deed_cells HB1.out
  have HBO := Lib.hid (fun w2 (r2 : RI w2 rb T) k2 => HT0.out.step hp1 hk1 r2 k2)
  have HR1 := Lib.hid hr1
  have HTB1 := Lib.hid (HTA.out _ hk01)
  clear hp1 hk1 hr1 hk01 HB0
  go_wp2_with fail
  refine (HR.out _ HR1.out HTB1.out).mono ?_
  rintro x w2 ⟨rfl, hr2, hk2⟩
  have HF := Lib.hid (HBO.out _ hr2 hk2)
  clear hr2 hk2 HBO HB1 a1 a2 a3 a4 a5 a6
  go_wp2
  go_ret
  exact ⟨by simp, HF.out⟩
set_option maxHeartbeats 8000000 in
theorem do_41 (w0 w : World) (pb fb rb : Nat) (S : PSt) (m : Int) (e t f : Nat) (n nn : ByteArray) (r : Int) (hn : n.size ≤ 9223372036854775807) (h300 : 300 < n.size) (hnn : n.extract 0 300 = nn) (hnz : nn.size ≤ 300) (B : Both w0 w pb fb rb S) (hFit : Fit S) (hTo : Told S) (hTab : ∀ u, Kept NoBlk w0 u → Tabs u) (hf : f < 256) :
    Calls Tryd.prog 26 #[.pointer (some ⟨pb, 0, none⟩), .pointer (some ⟨rb, 0, none⟩), .agg #[.int .i64 4, .int .i64 m, .int .u8 (e : Int), .int .u8 (t : Int), .int .u8 (f : Int), .string n, .int .u8 r]] w fun x w' => x = .returned (.bool true) ∧ Both w0 w' pb fb rb (repT S e f) := by
  have hgt : (300 : Int) < (n.size : Int) := by omega
  have hsl := fun w => sl_to w n 300 (by omega) (by omega)
  rw [show ((300 : Int)).toNat = 300 from rfl, hnn] at hsl
  have hu := And.intro hFit (And.intro hTo (And.intro hnz (And.intro hf hTab)))
  clear hu
  have hmax : (n.size : Int) ≤ 9223372036854775807 := by omega
  have HB0 : Hid (Blk (w.alloc (.cells (deedC 4 m (e : Int) (t : Int) (f : Int) nn r) 44)) w.heap.size 44 (deedC 4 m (e : Int) (t : Int) (f : Int) nn r)) := Lib.hid (Blk.new _ _ _)
  have HT0 := Lib.hid (B.keptNo ((Kept.refl NoBlk w).alloc (.cells (deedC 4 m (e : Int) (t : Int) (f : Int) nn r) 44)))
  have hlt : w.heap.size ≠ pb ∧ w.heap.size ≠ fb ∧ w.heap.size ≠ rb := by
    have := B.p.ltP; have := B.p.ltF; have := B.r.lt
    omega
  obtain ⟨l1, l2, l3⟩ := hlt
  have HP := Lib.hid (fun w (h : PI w pb fb S) => repossess_any w pb fb S e f h hFit hf)
  have HR := Lib.hid (fun w (h : RI w rb S) (hT : Tabs w) => rrep_any w rb S e f h hFit hTo hf)
  have HTA := Lib.hid hTab
  generalize repB S e f = gb at *
  generalize repC S e f = gc at *
  generalize repT S e f = T at *
  clear hFit hTo hTab B
  unfold deedC at HB0 HT0
  go_enter Tryd.func26, Tryd.ntmps26
  go_wp2_with fail
  refine (HP.out _ HT0.out.p).mono ?_
  rintro x w1 ⟨rfl, hp1, hk1⟩
  obtain ⟨hr1, hk01⟩ := HT0.out.mid hk1
  have HB1 := Lib.hid (HB0.out.kept hk1 (fun e => by rcases e with e | e; exact l1 e; exact l2 e))
  obtain ⟨a1, a2, a3, a4, a5, a6⟩ := deed_cells HB1.out
  have HBO := Lib.hid (fun w2 (r2 : RI w2 rb T) k2 => HT0.out.step hp1 hk1 r2 k2)
  have HR1 := Lib.hid hr1
  have HTB1 := Lib.hid (HTA.out _ hk01)
  clear hp1 hk1 hr1 hk01 HB0
  go_wp2_with fail
  refine (HR.out _ HR1.out HTB1.out).mono ?_
  rintro x w2 ⟨rfl, hr2, hk2⟩
  have HF := Lib.hid (HBO.out _ hr2 hk2)
  clear hr2 hk2 HBO HB1 a1 a2 a3 a4 a5 a6
  go_wp2
  go_ret
  exact ⟨by simp, HF.out⟩
set_option maxHeartbeats 8000000 in
theorem do_x0 (w0 w : World) (pb fb rb : Nat) (S : PSt) (m : Int) (e t f : Nat) (n nn : ByteArray) (r : Int) (k : Int) (k0 : k ≠ 0) (k1 : k ≠ 1) (k2 : k ≠ 2) (k3 : k ≠ 3) (k4 : k ≠ 4) (hn : n.size ≤ 9223372036854775807) (h300 : ¬ 300 < n.size) (hnn : n = nn) (hnz : nn.size ≤ 300) (B : Both w0 w pb fb rb S) (hFit : Fit S) (hTo : Told S) (hTab : ∀ u, Kept NoBlk w0 u → Tabs u) (hf : f < 256) :
    Calls Tryd.prog 26 #[.pointer (some ⟨pb, 0, none⟩), .pointer (some ⟨rb, 0, none⟩), .agg #[.int .i64 k, .int .i64 m, .int .u8 (e : Int), .int .u8 (t : Int), .int .u8 (f : Int), .string n, .int .u8 r]] w fun x w' => x = .returned (.bool true) ∧ Both w0 w' pb fb rb (S) := by
  have hgt : ¬ (300 : Int) < (n.size : Int) := by omega
  subst hnn
  have hu := And.intro hFit (And.intro hTo (And.intro hnz (And.intro hf hTab)))
  clear hu
  have hmax : (n.size : Int) ≤ 9223372036854775807 := by omega
  have HB0 : Hid (Blk (w.alloc (.cells (deedC k m (e : Int) (t : Int) (f : Int) n r) 44)) w.heap.size 44 (deedC k m (e : Int) (t : Int) (f : Int) n r)) := Lib.hid (Blk.new _ _ _)
  have HT0 := Lib.hid (B.keptNo ((Kept.refl NoBlk w).alloc (.cells (deedC k m (e : Int) (t : Int) (f : Int) n r) 44)))
  have hlt : w.heap.size ≠ pb ∧ w.heap.size ≠ fb ∧ w.heap.size ≠ rb := by
    have := B.p.ltP; have := B.p.ltF; have := B.r.lt
    omega
  obtain ⟨l1, l2, l3⟩ := hlt
  have e0 : (k == 0) = false := beq_eq_false_iff_ne.2 k0
  have e1 : (k == 1) = false := beq_eq_false_iff_ne.2 k1
  have e2 : (k == 2) = false := beq_eq_false_iff_ne.2 k2
  have e3 : (k == 3) = false := beq_eq_false_iff_ne.2 k3
  have e4 : (k == 4) = false := beq_eq_false_iff_ne.2 k4
  clear hFit hTo hTab B
  unfold deedC at HB0 HT0
  go_enter Tryd.func26, Tryd.ntmps26
  go_wp2
  go_ret
  exact ⟨rfl, HT0.out⟩
set_option maxHeartbeats 8000000 in
theorem do_x1 (w0 w : World) (pb fb rb : Nat) (S : PSt) (m : Int) (e t f : Nat) (n nn : ByteArray) (r : Int) (k : Int) (k0 : k ≠ 0) (k1 : k ≠ 1) (k2 : k ≠ 2) (k3 : k ≠ 3) (k4 : k ≠ 4) (hn : n.size ≤ 9223372036854775807) (h300 : 300 < n.size) (hnn : n.extract 0 300 = nn) (hnz : nn.size ≤ 300) (B : Both w0 w pb fb rb S) (hFit : Fit S) (hTo : Told S) (hTab : ∀ u, Kept NoBlk w0 u → Tabs u) (hf : f < 256) :
    Calls Tryd.prog 26 #[.pointer (some ⟨pb, 0, none⟩), .pointer (some ⟨rb, 0, none⟩), .agg #[.int .i64 k, .int .i64 m, .int .u8 (e : Int), .int .u8 (t : Int), .int .u8 (f : Int), .string n, .int .u8 r]] w fun x w' => x = .returned (.bool true) ∧ Both w0 w' pb fb rb (S) := by
  have hgt : (300 : Int) < (n.size : Int) := by omega
  have hsl := fun w => sl_to w n 300 (by omega) (by omega)
  rw [show ((300 : Int)).toNat = 300 from rfl, hnn] at hsl
  have hu := And.intro hFit (And.intro hTo (And.intro hnz (And.intro hf hTab)))
  clear hu
  have hmax : (n.size : Int) ≤ 9223372036854775807 := by omega
  have HB0 : Hid (Blk (w.alloc (.cells (deedC k m (e : Int) (t : Int) (f : Int) nn r) 44)) w.heap.size 44 (deedC k m (e : Int) (t : Int) (f : Int) nn r)) := Lib.hid (Blk.new _ _ _)
  have HT0 := Lib.hid (B.keptNo ((Kept.refl NoBlk w).alloc (.cells (deedC k m (e : Int) (t : Int) (f : Int) nn r) 44)))
  have hlt : w.heap.size ≠ pb ∧ w.heap.size ≠ fb ∧ w.heap.size ≠ rb := by
    have := B.p.ltP; have := B.p.ltF; have := B.r.lt
    omega
  obtain ⟨l1, l2, l3⟩ := hlt
  have e0 : (k == 0) = false := beq_eq_false_iff_ne.2 k0
  have e1 : (k == 1) = false := beq_eq_false_iff_ne.2 k1
  have e2 : (k == 2) = false := beq_eq_false_iff_ne.2 k2
  have e3 : (k == 3) = false := beq_eq_false_iff_ne.2 k3
  have e4 : (k == 4) = false := beq_eq_false_iff_ne.2 k4
  clear hFit hTo hTab B
  unfold deedC at HB0 HT0
  go_enter Tryd.func26, Tryd.ntmps26
  go_wp2
  go_ret
  exact ⟨rfl, HT0.out⟩
/-- What a deed leaves. -/
def doT (S : PSt) (k m : Int) (e t f : Nat) (n : ByteArray) (r : Int) : PSt :=
  if k = 0 then quotaT S e m else if k = 1 then grantT S e f (cutN n) r else if k = 2 then shareT S e t f else if k = 3 then freeT S e f else if k = 4 then repT S e f else S
theorem Inv.doT {c : Nat} {S : PSt} (h : Inv c S) (k m : Int) (e t f : Nat) (n : ByteArray) (r : Int) : Inv (c + 1) (doT S k m e t f n r) := by
  unfold Go.Proofs.YtfoeckaeongahaaDoor.doT
  split
  · exact h.quota e m
  · split
    · exact h.grant e f _ r
    · split
      · exact h.share e t f
      · split
        · exact h.free e f
        · split
          · exact h.rep e f
          · exact h.more (by omega)
theorem do_any (w0 w : World) (pb fb rb : Nat) (S : PSt) (c : Nat) (k m : Int) (e t f : Nat) (n : ByteArray) (r : Int) (hn : n.size ≤ 9223372036854775807) (B : Both w0 w pb fb rb S) (hI : Inv c S) (hc : c ≤ 1000) (hTab : Tabs w0) (hf : f < 256) :
    Calls Tryd.prog 26 #[.pointer (some ⟨pb, 0, none⟩), .pointer (some ⟨rb, 0, none⟩), deedV k m (e : Int) (t : Int) (f : Int) n r] w fun x w' => x = .returned (.bool true) ∧ Both w0 w' pb fb rb (doT S k m e t f n r) := by
  have F := hI.fit (by omega)
  have TD := hI.told
  have HT := fun u hk => hTab.kept (w' := u) hk
  have hz := cutN_size n
  unfold doT deedV
  by_cases h3 : 300 < n.size
  · have hcut : n.extract 0 300 = cutN n := (if_pos h3).symm
    by_cases k0 : k = 0
    · rw [if_pos k0, k0]; exact do_01 w0 w pb fb rb S m e t f n _ r hn h3 hcut hz B F TD HT hf
    rw [if_neg k0]
    by_cases k1 : k = 1
    · rw [if_pos k1, k1]; exact do_11 w0 w pb fb rb S m e t f n _ r hn h3 hcut hz B F TD HT hf
    rw [if_neg k1]
    by_cases k2 : k = 2
    · rw [if_pos k2, k2]; exact do_21 w0 w pb fb rb S m e t f n _ r hn h3 hcut hz B F TD HT hf
    rw [if_neg k2]
    by_cases k3 : k = 3
    · rw [if_pos k3, k3]; exact do_31 w0 w pb fb rb S m e t f n _ r hn h3 hcut hz B F TD HT hf
    rw [if_neg k3]
    by_cases k4 : k = 4
    · rw [if_pos k4, k4]; exact do_41 w0 w pb fb rb S m e t f n _ r hn h3 hcut hz B F TD HT hf
    rw [if_neg k4]
    exact do_x1 w0 w pb fb rb S m e t f n _ r k k0 k1 k2 k3 k4 hn h3 hcut hz B F TD HT hf
  · have hcut : n = cutN n := (if_neg h3).symm
    by_cases k0 : k = 0
    · rw [if_pos k0, k0]; exact do_00 w0 w pb fb rb S m e t f n _ r hn h3 hcut hz B F TD HT hf
    rw [if_neg k0]
    by_cases k1 : k = 1
    · rw [if_pos k1, k1, ← hcut]; exact do_10 w0 w pb fb rb S m e t f n _ r hn h3 rfl (by rw [hcut]; exact hz) B F TD HT hf
    rw [if_neg k1]
    by_cases k2 : k = 2
    · rw [if_pos k2, k2]; exact do_20 w0 w pb fb rb S m e t f n _ r hn h3 hcut hz B F TD HT hf
    rw [if_neg k2]
    by_cases k3 : k = 3
    · rw [if_pos k3, k3]; exact do_30 w0 w pb fb rb S m e t f n _ r hn h3 hcut hz B F TD HT hf
    rw [if_neg k3]
    by_cases k4 : k = 4
    · rw [if_pos k4, k4]; exact do_40 w0 w pb fb rb S m e t f n _ r hn h3 hcut hz B F TD HT hf
    rw [if_neg k4]
    exact do_x0 w0 w pb fb rb S m e t f n _ r k k0 k1 k2 k3 k4 hn h3 hcut hz B F TD HT hf
end Go.Proofs.YtfoeckaeongahaaDoor
