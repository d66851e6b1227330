/- A deed on both areas: they answer alike, and are alike behind it. -/
import Derived.Test.YtbggdimkfkdhmaaR2
import Derived.Test.YtbggdimkfkdhmaaR3
import Derived.Test.YtbggdimkfkdhmaaR4
namespace Go.Proofs.Ytbggdimkfkdhmaa
open Go.RowKit

def Inv (S : St) : Prop := (∀ k, k < 5 → S.has k = false → S.to k = 0) ∧ (S.dead = true → S.kept = [] ∧ S.rg = fun _ => 0)

def PostA (err : Int) (S' : St) (g : Nat) (w : World) (e : Ending) (w' : World) : Prop := e = .returned (.int .i64 err) ∧ IsA w' g S' ∧ Kept (OneBlk g) w w'
def PostR (err : Int) (S' : St) (g : Nat) (w : World) (e : Ending) (w' : World) : Prop := e = .returned (.int .i64 err) ∧ IsR w' g S' ∧ Kept (OneBlk g) w w'

theorem IsA.ofKept {w w' : World} {g : Nat} {S : St} (h : IsA w g S) (hk : Kept NoBlk w w') : IsA w' g S := h.kept hk (fun e => e) (fun _ _ _ e => e)
theorem IsR.ofKept {w w' : World} {g : Nat} {S : St} (h : IsR w g S) (hk : Kept NoBlk w w') : IsR w' g S := h.kept hk (fun e => e) (fun _ _ _ e => e)
theorem IsA.lt {w : World} {g : Nat} {S : St} (h : IsA w g S) : g < w.heap.size := by obtain ⟨v, hB, _⟩ := h; exact hB.lt
theorem IsR.lt {w : World} {g : Nat} {S : St} (h : IsR w g S) : g < w.heap.size := by obtain ⟨v, hB, _⟩ := h; exact hB.lt
theorem IsA.ne {w : World} {g h : Nat} {S T : St} (hA : IsA w g S) (hR : IsR w h T) : g ≠ h := by
  obtain ⟨_, hB, _⟩ := hA
  obtain ⟨_, hB', _⟩ := hR
  exact hB.ne_ hB' (by decide)
theorem IsR.afterA {w w' : World} {g h : Nat} {S T : St} (hR : IsR w h T) (hA : IsA w g S) (hk : Kept (OneBlk g) w w') : IsR w' h T := by
  have hne := hA.ne hR
  obtain ⟨_, hB, _⟩ := hA
  exact hR.kept hk (fun e => hne e.symm) (fun b cs hb e => (hB.ne_ hb (by decide)) e.symm)
theorem IsA.afterR {w w' : World} {g h : Nat} {S T : St} (hA : IsA w g S) (hR : IsR w h T) (hk : Kept (OneBlk h) w w') : IsA w' g S := by
  have hne := hA.ne hR
  obtain ⟨_, hB, _⟩ := hR
  exact hA.kept hk (fun e => hne e) (fun b cs hb e => (hB.ne_ hb (by decide)) e.symm)

theorem postA_same {w : World} {S : St} {g : Nat} {err : Int} (h : IsA w g S) : ∀ e w', e = .returned (.int .i64 err) ∧ w = w' → PostA err S g w e w' := fun _ _ ⟨h1, h2⟩ => ⟨h1, h2 ▸ h, h2 ▸ Kept.refl _ _⟩
theorem postA_new {w : World} {S : St} {g : Nat} {err : Int} (h : IsA w g S) : ∀ e w', e = .returned (.int .i64 err) ∧ Kept NoBlk w w' → PostA err S g w e w' := fun _ _ ⟨h1, h2⟩ => ⟨h1, h.ofKept h2, h2.weaken (fun _ _ e => e.elim)⟩
theorem postR_same {w : World} {S : St} {g : Nat} {err : Int} (h : IsR w g S) : ∀ e w', e = .returned (.int .i64 err) ∧ w = w' → PostR err S g w e w' := fun _ _ ⟨h1, h2⟩ => ⟨h1, h2 ▸ h, h2 ▸ Kept.refl _ _⟩
theorem postR_new {w : World} {S : St} {g : Nat} {err : Int} (h : IsR w g S) : ∀ e w', e = .returned (.int .i64 err) ∧ Kept NoBlk w w' → PostR err S g w e w' := fun _ _ ⟨h1, h2⟩ => ⟨h1, h.ofKept h2, h2.weaken (fun _ _ e => e.elim)⟩

theorem inv_entry {S : St} (h : Inv S) (k : Nat) (x : Int) : Inv (entrySt S k x) := by
  refine ⟨fun j hj => ?_, h.2⟩
  simp only [entrySt, upd]
  split
  · intro e; cases e
  · exact h.1 j hj

theorem inv_alive {S S' : St} (h : Inv S) (h1 : S'.to = S.to) (h2 : S'.has = S.has) (hd : S'.dead = false) : Inv S' :=
  ⟨fun k hk => by rw [h1, h2]; exact h.1 k hk, fun e => by rw [hd] at e; cases e⟩
theorem inv_kill {S : St} (h : Inv S) : Inv (killSt S) := ⟨h.1, fun _ => ⟨rfl, rfl⟩⟩

theorem entry_both (S : St) (hI : Inv S) (k x : Int) (h0 : 0 ≤ k) : ∃ err S', Inv S' ∧ S'.dead = S.dead ∧ S'.rg = S.rg ∧ S'.kept = S.kept ∧ (∀ w g, IsA w g S → Calls Try.prog 14 #[.pointer (some ⟨g, 0, none⟩), .int .u8 k, .int .u16 x] w (PostA err S' g w)) ∧
    (∀ w g, IsR w g S → Calls Try.prog 37 #[.pointer (some ⟨g, 0, none⟩), .int .u8 k, .int .u16 x] w (PostR err S' g w)) := by
  by_cases h1 : k < 5
  · exact ⟨0, entrySt S k.toNat x, inv_entry hI _ _, rfl, rfl, rfl, fun w g h => entry_ok w g S h k x h0 h1, fun w g h => rentry_ok w g S h k x h0 h1⟩
  · exact ⟨2, S, hI, rfl, rfl, rfl, fun w g h => (entry_range w _ k x rfl (by omega)).mono (postA_same h), fun w g h => (rentry_range w _ k x rfl (by omega)).mono (postR_same h)⟩

theorem upcall_both (S : St) (hI : Inv S) (k x : Int) (h0 : 0 ≤ k) : ∃ err S', Inv S' ∧ (∀ w g, IsA w g S → Calls Try.prog 15 #[.pointer (some ⟨g, 0, none⟩), .int .u8 k, .int .u16 x] w (PostA err S' g w)) ∧
    (∀ w g, IsR w g S → Calls Try.prog 38 #[.pointer (some ⟨g, 0, none⟩), .int .u8 k, .int .u16 x] w (PostR err S' g w)) := by
  by_cases h1 : k < 5
  · by_cases hd : S.dead = true
    · exact ⟨9, S, hI, fun w g h => (upcall_dead w g S h hd k x h0 h1).mono (postA_new h), fun w g h => (rupcall_dead w g S h hd k x h0 h1).mono (postR_same h)⟩
    · have hd' : S.dead = false := by simpa using hd
      by_cases hh : S.has k.toNat = true
      · by_cases hl : S.kept.length < 4
        · exact ⟨0, upcallSt S k.toNat x, inv_alive hI rfl rfl hd', fun w g h => upcall_ok w g S h hd' k x h0 h1 hh hl, fun w g h => rupcall_ok w g S h hd' k x h0 h1 hh hl⟩
        · exact ⟨4, S, hI, fun w g h => (upcall_space w g S h hd' k x h0 h1 hh (by omega)).mono (postA_new h), fun w g h => (rupcall_space w g S h hd' k x h0 h1 hh (by omega)).mono (postR_same h)⟩
      · have hh' : S.has k.toNat = false := by simpa using hh
        exact ⟨5, S, hI, fun w g h => (upcall_noent w g S h hd' k x h0 h1 hh' (hI.1 _ (by omega) hh')).mono (postA_new h), fun w g h => (rupcall_noent w g S h hd' k x h0 h1 hh').mono (postR_same h)⟩
  · exact ⟨2, S, hI, fun w g h => (upcall_range w _ k x rfl (by omega)).mono (postA_new h), fun w g h => (rupcall_range w _ k x rfl (by omega)).mono (postR_same h)⟩

theorem return_both (S : St) (hI : Inv S) : ∃ err S', Inv S' ∧ (∀ w g, IsA w g S → Calls Try.prog 12 #[.pointer (some ⟨g, 0, none⟩)] w (PostA err S' g w)) ∧
    (∀ w g, IsR w g S → Calls Try.prog 39 #[.pointer (some ⟨g, 0, none⟩)] w (PostR err S' g w)) := by
  by_cases hd : S.dead = true
  · exact ⟨9, S, hI, fun w g h => (return_dead w g S h hd).mono (postA_same h), fun w g h => (rreturn_dead w g S h hd).mono (postR_same h)⟩
  · have hd' : S.dead = false := by simpa using hd
    rcases List.eq_nil_or_concat S.kept with hk | ⟨l, a, hk⟩
    rotate_left
    rw [List.concat_eq_append] at hk
    rotate_left
    · exact ⟨9, S, hI, fun w g h => (return_none w g S h hd' hk).mono (postA_same h), fun w g h => (rreturn_none w g S h hd' hk).mono (postR_same h)⟩
    · exact ⟨0, { S with rg := a, kept := l }, inv_alive hI rfl rfl hd', fun w g h => return_some w g S h hd' l a hk, fun w g h => rreturn_some w g S h hd' l a hk⟩

theorem set_both (S : St) (hI : Inv S) (q : Nat → Int) : ∃ err S', Inv S' ∧ (∀ w g, IsA w g S → Calls Try.prog 16 #[.pointer (some ⟨g, 0, none⟩), regV q] w (PostA err S' g w)) ∧
    (∀ w g, IsR w g S → Calls Try.prog 40 #[.pointer (some ⟨g, 0, none⟩), regV q] w (PostR err S' g w)) := by
  by_cases hd : S.dead = true
  · exact ⟨9, S, hI, fun w g h => (set_dead w g S h hd q).mono (postA_new h), fun w g h => (rset_dead w g S h hd q).mono (postR_new h)⟩
  · have hd' : S.dead = false := by simpa using hd
    exact ⟨0, { S with rg := q }, inv_alive hI rfl rfl hd', fun w g h => set_ok w g S h hd' q, fun w g h => rset_ok w g S h hd' q⟩

theorem kill_both (S : St) (hI : Inv S) : ∃ err S', Inv S' ∧ (∀ w g, IsA w g S → Calls Try.prog 13 #[.pointer (some ⟨g, 0, none⟩)] w (PostA err S' g w)) ∧
    (∀ w g, IsR w g S → Calls Try.prog 41 #[.pointer (some ⟨g, 0, none⟩)] w (PostR err S' g w)) := by
  by_cases hd : S.dead = true
  · exact ⟨9, S, hI, fun w g h => (kill_dead w g S h hd).mono (postA_same h), fun w g h => (rkill_dead w g S h hd).mono (postR_same h)⟩
  · have hd' : S.dead = false := by simpa using hd
    exact ⟨0, killSt S, inv_kill hI, fun w g h => kill_ok w g S h hd', fun w g h => rkill_ok w g S h hd'⟩

/-- A deed, as a value. -/
def deedV (n k x : Int) (q : Nat → Int) : Value := .agg #[.int .i64 n, .int .u8 k, .int .u16 x, .int .u16 (q 0), .int .u16 (q 1), .int .u16 (q 2), .int .u16 (q 3), .int .u16 (q 4), .int .u16 (q 5), .int .u16 (q 6), .int .u16 (q 7), .int .u16 (q 8)]

def TwoBlk (g h : Nat) : Nat → Prop := fun b => b = g ∨ b = h

def DoPost (g h : Nat) (w : World) (e : Ending) (w' : World) : Prop := e = .returned (.bool true) ∧ ∃ S', Inv S' ∧ IsA w' g S' ∧ IsR w' h S' ∧ Kept (TwoBlk g h) w w'

theorem doPost_mk {g h : Nat} {w w0 w1 w2 : World} {S S' : St} {e : Ending} (he : e = .returned (.bool true)) (hI : Inv S') (h0 : Kept NoBlk w w0) (hA1 : IsA w1 g S') (hK1 : Kept (OneBlk g) w0 w1) (hRw1 : IsR w1 h S) (hR2 : IsR w2 h S') (hK2 : Kept (OneBlk h) w1 w2) {w3 : World} (h3 : Kept NoBlk w2 w3) : DoPost g h w e w3 :=
  ⟨he, S', hI, (hA1.afterR hRw1 hK2).ofKept h3, hR2.ofKept h3, (((h0.weaken (fun _ _ e => e.elim)).trans (hK1.weaken (fun _ _ e => .inl e))).trans (hK2.weaken (fun _ _ e => .inr e))).trans (h3.weaken (fun _ _ e => e.elim))⟩

set_option maxHeartbeats 4000000 in
theorem do_entry (w : World) (g h : Nat) (S : St) (hI : Inv S) (hA : IsA w g S) (hR : IsR w h S) (k x : Int) (q : Nat → Int) (h0 : 0 ≤ k) :
   Calls Try.prog 23 #[.pointer (some ⟨g, 0, none⟩), .pointer (some ⟨h, 0, none⟩), deedV 0 k x q] w (DoPost g h w) := by
  obtain ⟨err, S', hI', _, _, _, hEA, hER⟩ := entry_both S hI k x h0
  have hglt := hA.lt
  have HEA := Lib.hid hEA
  have HER := Lib.hid hER
  have HA := Lib.hid hA
  have HR := Lib.hid hR
  clear hEA hER hA hR
  unfold deedV
  go_enter Try.func23, Try.ntmps23
  go_wp2
  refine wp_region_plan (by kernel_rfl) (.q 0 <| .q 1 <| .q 2 <| .q 3 <| .q 4 <| .q 6 <| .q 7 <| .q 8 <| .q 9 <| .q 10 <| .e 5 [6, 7, 8, 9, 10] <| .e 11 [] <| .q 12 <| .q 13 <| .nil) (by kernel_rfl) (by kernel_rfl) ?_
  repeat (refine plan_q rfl (fun K hK => ?_); go_simp; refine hK _ ?_; clear hK K)
  refine plan_e rfl (fun K hK => ?_)
  go_simp
  have hA0 := HA.out.ofKept (((Kept.refl NoBlk w).alloc (.cells #[.int .i64 0, .int .u8 k, .int .u16 x, .int .u16 (q 0), .int .u16 (q 1), .int .u16 (q 2), .int .u16 (q 3), .int .u16 (q 4), .int .u16 (q 5), .int .u16 (q 6), .int .u16 (q 7), .int .u16 (q 8)] 39)).drew)
  have hR0 := HR.out.ofKept (((Kept.refl NoBlk w).alloc (.cells #[.int .i64 0, .int .u8 k, .int .u16 x, .int .u16 (q 0), .int .u16 (q 1), .int .u16 (q 2), .int .u16 (q 3), .int .u16 (q 4), .int .u16 (q 5), .int .u16 (q 6), .int .u16 (q 7), .int .u16 (q 8)] 39)).drew)
  refine (HEA.out _ g hA0).mono ?_
  rintro e w1 ⟨rfl, hA1, hK1⟩
  have hR1 := hR0.afterA hA0 hK1
  have hbx := (Blk.kept (Blk.drew (Blk.new w 39 _)) hK1 (by show ¬ w.heap.size = g; omega)).cell
  refine hK _ _ (by (repeat (refine stab_cons rfl ?_ ?_; focus (go_simp; done))); exact stab_nil) ?_
  clear hK K
  refine plan_e rfl (fun K hK => ?_)
  go_simp
  refine (HER.out _ h hR1).mono ?_
  rintro e w2 ⟨rfl, hR2, hK2⟩
  refine hK _ _ stab_nil ?_
  clear hK K
  repeat (refine plan_q rfl (fun K hK => ?_); go_simp; refine hK _ ?_; clear hK K)
  refine plan_nil ?_
  go_wp2
  go_ret
  exact doPost_mk (by simp) hI' (by repeat (with_reducible first | exact Kept.refl _ _ | apply Kept.drew | apply Kept.drewN | apply Kept.alloc | exact oneHit | apply Kept.setCell)) hA1 hK1 hR1 hR2 hK2 (Kept.refl _ _)
set_option maxHeartbeats 4000000 in
theorem do_upcall (w : World) (g h : Nat) (S : St) (hI : Inv S) (hA : IsA w g S) (hR : IsR w h S) (k x : Int) (q : Nat → Int) (h0 : 0 ≤ k) :
   Calls Try.prog 23 #[.pointer (some ⟨g, 0, none⟩), .pointer (some ⟨h, 0, none⟩), deedV 1 k x q] w (DoPost g h w) := by
  obtain ⟨err, S', hI', hEA, hER⟩ := upcall_both S hI k x h0
  have hglt := hA.lt
  have HEA := Lib.hid hEA
  have HER := Lib.hid hER
  have HA := Lib.hid hA
  have HR := Lib.hid hR
  clear hEA hER hA hR
  unfold deedV
  go_enter Try.func23, Try.ntmps23
  go_wp2
  refine wp_region_plan (by kernel_rfl) (.q 0 <| .q 1 <| .q 2 <| .q 3 <| .q 4 <| .q 6 <| .q 7 <| .q 8 <| .q 9 <| .q 10 <| .e 5 [6, 7, 8, 9, 10] <| .e 11 [] <| .q 12 <| .q 13 <| .nil) (by kernel_rfl) (by kernel_rfl) ?_
  repeat (refine plan_q rfl (fun K hK => ?_); go_simp; refine hK _ ?_; clear hK K)
  refine plan_e rfl (fun K hK => ?_)
  go_simp
  have hA0 := HA.out.ofKept (((Kept.refl NoBlk w).alloc (.cells #[.int .i64 1, .int .u8 k, .int .u16 x, .int .u16 (q 0), .int .u16 (q 1), .int .u16 (q 2), .int .u16 (q 3), .int .u16 (q 4), .int .u16 (q 5), .int .u16 (q 6), .int .u16 (q 7), .int .u16 (q 8)] 39)).drew)
  have hR0 := HR.out.ofKept (((Kept.refl NoBlk w).alloc (.cells #[.int .i64 1, .int .u8 k, .int .u16 x, .int .u16 (q 0), .int .u16 (q 1), .int .u16 (q 2), .int .u16 (q 3), .int .u16 (q 4), .int .u16 (q 5), .int .u16 (q 6), .int .u16 (q 7), .int .u16 (q 8)] 39)).drew)
  refine (HEA.out _ g hA0).mono ?_
  rintro e w1 ⟨rfl, hA1, hK1⟩
  have hR1 := hR0.afterA hA0 hK1
  have hbx := (Blk.kept (Blk.drew (Blk.new w 39 _)) hK1 (by show ¬ w.heap.size = g; omega)).cell
  refine hK _ _ (by (repeat (refine stab_cons rfl ?_ ?_; focus (go_simp; done))); exact stab_nil) ?_
  clear hK K
  refine plan_e rfl (fun K hK => ?_)
  go_simp
  refine (HER.out _ h hR1).mono ?_
  rintro e w2 ⟨rfl, hR2, hK2⟩
  refine hK _ _ stab_nil ?_
  clear hK K
  repeat (refine plan_q rfl (fun K hK => ?_); go_simp; refine hK _ ?_; clear hK K)
  refine plan_nil ?_
  go_wp2
  go_ret
  exact doPost_mk (by simp) hI' (by repeat (with_reducible first | exact Kept.refl _ _ | apply Kept.drew | apply Kept.drewN | apply Kept.alloc | exact oneHit | apply Kept.setCell)) hA1 hK1 hR1 hR2 hK2 (Kept.refl _ _)
set_option maxHeartbeats 4000000 in
theorem do_set (w : World) (g h : Nat) (S : St) (hI : Inv S) (hA : IsA w g S) (hR : IsR w h S) (k x : Int) (q : Nat → Int) :
   Calls Try.prog 23 #[.pointer (some ⟨g, 0, none⟩), .pointer (some ⟨h, 0, none⟩), deedV 3 k x q] w (DoPost g h w) := by
  obtain ⟨err, S', hI', hEA, hER⟩ := set_both S hI q
  have hglt := hA.lt
  have HEA := Lib.hid hEA
  have HER := Lib.hid hER
  have HA := Lib.hid hA
  have HR := Lib.hid hR
  clear hEA hER hA hR
  unfold deedV
  go_enter Try.func23, Try.ntmps23
  go_wp2
  refine wp_region_plan (by kernel_rfl) (.q 0 <| .q 1 <| .q 2 <| .q 4 <| .q 5 <| .q 6 <| .e 3 [4, 5, 6] <| .e 7 [] <| .q 8 <| .q 9 <| .nil) (by kernel_rfl) (by kernel_rfl) ?_
  repeat (refine plan_q rfl (fun K hK => ?_); go_simp; refine hK _ ?_; clear hK K)
  refine plan_e rfl (fun K hK => ?_)
  go_simp
  have hA0 := HA.out.ofKept (((Kept.refl NoBlk w).alloc (.cells #[.int .i64 3, .int .u8 k, .int .u16 x, .int .u16 (q 0), .int .u16 (q 1), .int .u16 (q 2), .int .u16 (q 3), .int .u16 (q 4), .int .u16 (q 5), .int .u16 (q 6), .int .u16 (q 7), .int .u16 (q 8)] 39)).drew)
  have hR0 := HR.out.ofKept (((Kept.refl NoBlk w).alloc (.cells #[.int .i64 3, .int .u8 k, .int .u16 x, .int .u16 (q 0), .int .u16 (q 1), .int .u16 (q 2), .int .u16 (q 3), .int .u16 (q 4), .int .u16 (q 5), .int .u16 (q 6), .int .u16 (q 7), .int .u16 (q 8)] 39)).drew)
  refine (HEA.out _ g hA0).mono ?_
  rintro e w1 ⟨rfl, hA1, hK1⟩
  have hR1 := hR0.afterA hA0 hK1
  have hbx := (Blk.kept (Blk.drew (Blk.new w 39 _)) hK1 (by show ¬ w.heap.size = g; omega)).cell
  refine hK _ _ (by (repeat (refine stab_cons rfl ?_ ?_; focus (go_simp; done))); exact stab_nil) ?_
  clear hK K
  refine plan_e rfl (fun K hK => ?_)
  go_simp
  refine (HER.out _ h hR1).mono ?_
  rintro e w2 ⟨rfl, hR2, hK2⟩
  refine hK _ _ stab_nil ?_
  clear hK K
  repeat (refine plan_q rfl (fun K hK => ?_); go_simp; refine hK _ ?_; clear hK K)
  refine plan_nil ?_
  go_wp2
  go_ret
  exact doPost_mk (by simp) hI' (by repeat (with_reducible first | exact Kept.refl _ _ | apply Kept.drew | apply Kept.drewN | apply Kept.alloc | exact oneHit | apply Kept.setCell)) hA1 hK1 hR1 hR2 hK2 (Kept.refl _ _)
set_option maxHeartbeats 1000000 in
theorem do_return (w : World) (g h : Nat) (S : St) (hI : Inv S) (hA : IsA w g S) (hR : IsR w h S) (k x : Int) (q : Nat → Int) :
   Calls Try.prog 23 #[.pointer (some ⟨g, 0, none⟩), .pointer (some ⟨h, 0, none⟩), deedV 2 k x q] w (DoPost g h w) := by
  obtain ⟨err, S', hI', hEA, hER⟩ := return_both S hI
  have hA0 := hA.ofKept ((Kept.refl NoBlk w).alloc (.cells #[.int .i64 2, .int .u8 k, .int .u16 x, .int .u16 (q 0), .int .u16 (q 1), .int .u16 (q 2), .int .u16 (q 3), .int .u16 (q 4), .int .u16 (q 5), .int .u16 (q 6), .int .u16 (q 7), .int .u16 (q 8)] 39))
  have hR0 := hR.ofKept ((Kept.refl NoBlk w).alloc (.cells #[.int .i64 2, .int .u8 k, .int .u16 x, .int .u16 (q 0), .int .u16 (q 1), .int .u16 (q 2), .int .u16 (q 3), .int .u16 (q 4), .int .u16 (q 5), .int .u16 (q 6), .int .u16 (q 7), .int .u16 (q 8)] 39))
  have HE := Lib.hid (hEA _ g hA0)
  have HER := Lib.hid hER
  clear hEA hER hA hR
  unfold deedV
  go_enter Try.func23, Try.ntmps23
  go_wp2_with (first | (go_at_call 12; refine (HE.out).mono ?_; rintro e w1 ⟨rfl, hA1, hK1⟩; have hR1 := hR0.afterA hA0 hK1) | (go_at_call 39; refine (HER.out _ h hR1).mono ?_; rintro e w2 ⟨rfl, hR2, hK2⟩))
  go_ret
  exact doPost_mk (by simp) hI' (by repeat (with_reducible first | exact Kept.refl _ _ | apply Kept.drew | apply Kept.drewN | apply Kept.alloc | exact oneHit | apply Kept.setCell)) hA1 hK1 hR1 hR2 hK2 (Kept.refl _ _)

set_option maxHeartbeats 1000000 in
theorem do_kill (w : World) (g h : Nat) (S : St) (hI : Inv S) (hA : IsA w g S) (hR : IsR w h S) (k x : Int) (q : Nat → Int) :
   Calls Try.prog 23 #[.pointer (some ⟨g, 0, none⟩), .pointer (some ⟨h, 0, none⟩), deedV 4 k x q] w (DoPost g h w) := by
  obtain ⟨err, S', hI', hEA, hER⟩ := kill_both S hI
  have hA0 := hA.ofKept ((Kept.refl NoBlk w).alloc (.cells #[.int .i64 4, .int .u8 k, .int .u16 x, .int .u16 (q 0), .int .u16 (q 1), .int .u16 (q 2), .int .u16 (q 3), .int .u16 (q 4), .int .u16 (q 5), .int .u16 (q 6), .int .u16 (q 7), .int .u16 (q 8)] 39))
  have hR0 := hR.ofKept ((Kept.refl NoBlk w).alloc (.cells #[.int .i64 4, .int .u8 k, .int .u16 x, .int .u16 (q 0), .int .u16 (q 1), .int .u16 (q 2), .int .u16 (q 3), .int .u16 (q 4), .int .u16 (q 5), .int .u16 (q 6), .int .u16 (q 7), .int .u16 (q 8)] 39))
  have HE := Lib.hid (hEA _ g hA0)
  have HER := Lib.hid hER
  clear hEA hER hA hR
  unfold deedV
  go_enter Try.func23, Try.ntmps23
  go_wp2_with (first | (go_at_call 13; refine (HE.out).mono ?_; rintro e w1 ⟨rfl, hA1, hK1⟩; have hR1 := hR0.afterA hA0 hK1) | (go_at_call 41; refine (HER.out _ h hR1).mono ?_; rintro e w2 ⟨rfl, hR2, hK2⟩))
  go_ret
  exact doPost_mk (by simp) hI' (by repeat (with_reducible first | exact Kept.refl _ _ | apply Kept.drew | apply Kept.drewN | apply Kept.alloc | exact oneHit | apply Kept.setCell)) hA1 hK1 hR1 hR2 hK2 (Kept.refl _ _)

theorem do_other (w : World) (g h : Nat) (S : St) (hI : Inv S) (hA : IsA w g S) (hR : IsR w h S) (n k x : Int) (q : Nat → Int) (h0 : n ≠ 0) (h1 : n ≠ 1) (h2 : n ≠ 2) (h3 : n ≠ 3) (h4 : n ≠ 4) :
   Calls Try.prog 23 #[.pointer (some ⟨g, 0, none⟩), .pointer (some ⟨h, 0, none⟩), deedV n k x q] w (DoPost g h w) := by
  have e0 : (n == 0) = false := by simpa using h0
  have e1 : (n == 1) = false := by simpa using h1
  have e2 : (n == 2) = false := by simpa using h2
  have e3 : (n == 3) = false := by simpa using h3
  have e4 : (n == 4) = false := by simpa using h4
  unfold deedV
  go_enter Try.func23, Try.ntmps23
  go_wp2
  go_ret
  have hK : Kept NoBlk w (w.alloc (.cells #[.int .i64 n, .int .u8 k, .int .u16 x, .int .u16 (q 0), .int .u16 (q 1), .int .u16 (q 2), .int .u16 (q 3), .int .u16 (q 4), .int .u16 (q 5), .int .u16 (q 6), .int .u16 (q 7), .int .u16 (q 8)] 39)) := by repeat (with_reducible first | exact Kept.refl _ _ | apply Kept.drew | apply Kept.drewN | apply Kept.alloc | exact oneHit | apply Kept.setCell)
  exact ⟨rfl, S, hI, hA.ofKept hK, hR.ofKept hK, hK.weaken (fun _ _ e => e.elim)⟩

theorem do_any (w : World) (g h : Nat) (S : St) (hI : Inv S) (hA : IsA w g S) (hR : IsR w h S) (n k x : Int) (q : Nat → Int) (hk : 0 ≤ k) :
   Calls Try.prog 23 #[.pointer (some ⟨g, 0, none⟩), .pointer (some ⟨h, 0, none⟩), deedV n k x q] w (DoPost g h w) := by
  by_cases h0 : n = 0
  · subst h0; exact do_entry w g h S hI hA hR k x q hk
  by_cases h1 : n = 1
  · subst h1; exact do_upcall w g h S hI hA hR k x q hk
  by_cases h2 : n = 2
  · subst h2; exact do_return w g h S hI hA hR k x q
  by_cases h3 : n = 3
  · subst h3; exact do_set w g h S hI hA hR k x q
  by_cases h4 : n = 4
  · subst h4; exact do_kill w g h S hI hA hR k x q
  exact do_other w g h S hI hA hR n k x q h0 h1 h2 h3 h4

end Go.Proofs.Ytbggdimkfkdhmaa
