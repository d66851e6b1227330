/- The contracts of the reference's area. -/
import Derived.Test.YtbggdimkfkdhmaaA4
import Derived.Test.YtbggdimkfkdhmaaA5
import Derived.Test.YtbggdimkfkdhmaaA6
namespace Go.Proofs.Ytbggdimkfkdhmaa
open Go.RowKit

def arrR (S : St) (v : Value) : Array Value := #[.int .u16 (S.rg 0), .int .u16 (S.rg 1), .int .u16 (S.rg 2), .int .u16 (S.rg 3), .int .u16 (S.rg 4), .int .u16 (S.rg 5), .int .u16 (S.rg 6), .int .u16 (S.rg 7), .int .u16 (S.rg 8), v,
  .int .u16 (S.to 0), .int .u16 (S.to 1), .int .u16 (S.to 2), .int .u16 (S.to 3), .int .u16 (S.to 4), .bool (S.has 0), .bool (S.has 1), .bool (S.has 2), .bool (S.has 3), .bool (S.has 4), .bool S.dead]

def IsR (w : World) (g : Nat) (S : St) : Prop := ∃ v, Blk w g 68 (arrR S v) ∧ Row w 31 9 v S.kept.length (rowsOf S.kept) ∧ S.kept.length ≤ 4

theorem IsR.kept {w w' : World} {g : Nat} {S : St} {G : Nat → Prop} (h : IsR w g S) (hk : Kept G w w') (hg : ¬ G g) (hr : ∀ b cs, Blk w b 31 cs → ¬ G b) : IsR w' g S := by
  obtain ⟨v, hB, hR, hl⟩ := h
  exact ⟨v, hB.kept hk hg, hR.kept hk hr, hl⟩

theorem rnew_any (w : World) (q : Nat → Int) :
   Calls Try.prog 26 #[regV q] w fun e w' => ∃ g, e = .returned (.pointer (some ⟨g, 0, none⟩)) ∧ w.heap.size ≤ g ∧ g < w'.heap.size ∧ IsR w' g (newSt q) ∧ Kept NoBlk w w' := by
  unfold regV
  go_enter Try.func26, Try.ntmps26
  go_wp2
  go_ret
  refine ⟨w.heap.size + 1, rfl, by omega, by simp, ⟨.slice none 0 0, Blk.cast (Blk.new_at _ _ _ (by simp)) (by simp [arrR, newSt]), Row.nil _ _ _, by simp [newSt]⟩, ?_⟩
  repeat (with_reducible first | exact Kept.refl _ _ | apply Kept.drew | apply Kept.drewN | apply Kept.alloc | exact oneHit | apply Kept.setCell)

theorem rdepth_any (w : World) (g : Nat) (S : St) (h : IsR w g S) :
   Calls Try.prog 32 #[.pointer (some ⟨g, 0, none⟩)] w fun e w' => e = .returned (.int .i64 S.kept.length) ∧ w = w' := by
  obtain ⟨v, hB, hR, hl⟩ := h
  obtain ⟨A, cap, rfl, h1, h2, h3, h4, h5⟩ := hR.form
  have hc := hB.cell
  simp only [arrR] at hc
  clear hB hR h4 h5
  generalize S.kept.length = n at *
  go_enter Try.func32, Try.ntmps32
  go_wp2
  go_ret
  exact ⟨rfl, rfl⟩

theorem rregs_any (w : World) (g : Nat) (S : St) (h : IsR w g S) :
   Calls Try.prog 31 #[.pointer (some ⟨g, 0, none⟩)] w fun e w' => e = .returned (regV S.rg) ∧ Kept NoBlk w w' := by
  obtain ⟨v, hB, hR, hl⟩ := h
  have hc := hB.cell
  have hlt := hB.lt
  simp only [arrR] at hc
  clear hB hR
  go_enter Try.func31, Try.ntmps31
  go_wp2
  exact bodyPost_ret (v := regV S.rg) (by simp [results, Try.results31, go_sem, regV]) rfl ⟨rfl, (Kept.refl _ _).alloc _⟩

theorem ralive_any (w : World) (g : Nat) (S : St) (h : IsR w g S) :
   Calls Try.prog 35 #[.pointer (some ⟨g, 0, none⟩)] w fun e w' => e = .returned (.bool (!S.dead)) ∧ w = w' := by
  obtain ⟨v, hB, hR, hl⟩ := h
  have hc := hB.cell
  simp only [arrR] at hc
  clear hB hR
  go_enter Try.func35, Try.ntmps35
  go_wp2
  go_ret
  exact ⟨rfl, rfl⟩

theorem rwhere_range (w : World) (p : Option Addr) (k : Int) (hp : p.isSome = true) (hk : 5 ≤ k) :
   Calls Try.prog 30 #[.pointer p, .int .u8 k] w fun e w' => e = .returned (.tuple #[.int .u16 0, .bool false]) ∧ w = w' := by
  obtain ⟨a, rfl⟩ := Option.isSome_iff_exists.1 hp
  clear hp
  go_enter Try.func30, Try.ntmps30
  go_wp2
  go_ret2
  exact ⟨rfl, rfl⟩

set_option maxHeartbeats 1000000 in
theorem rwhere_ok (w : World) (g : Nat) (S : St) (h : IsR w g S) (k : Int) (h0 : 0 ≤ k) (h1 : k < 5) (ht : S.has k.toNat = false → S.to k.toNat = 0) :
   Calls Try.prog 30 #[.pointer (some ⟨g, 0, none⟩), .int .u8 k] w fun e w' => e = .returned (.tuple #[.int .u16 (S.to k.toNat), .bool (S.has k.toNat)]) ∧ w = w' := by
  obtain ⟨v, hB, hR, hl⟩ := h
  obtain ⟨rg, kept, to, has, dead⟩ := S
  have hc := hB.cell
  simp only [arrR] at hc
  clear hB hR
  have hk : k = 0 ∨ k = 1 ∨ k = 2 ∨ k = 3 ∨ k = 4 := by omega
  clear h0 h1
  simp only at ht ⊢
  by_cases hh : has k.toNat = true
  · rw [hh]
    clear ht
    rcases hk with rfl | rfl | rfl | rfl | rfl
    all_goals
      simp only [Int.toNat_zero, Int.toNat_one, Int.reduceToNat] at hh ⊢
      go_enter Try.func30, Try.ntmps30
      go_wp2
      go_ret2
      exact ⟨rfl, rfl⟩
  · have hh' : has k.toNat = false := by simpa using hh
    have ht' := ht hh'
    rw [hh', ht']
    clear ht hh
    rcases hk with rfl | rfl | rfl | rfl | rfl
    all_goals
      simp only [Int.toNat_zero, Int.toNat_one, Int.reduceToNat] at hh' ht'
      go_enter Try.func30, Try.ntmps30
      go_wp2
      go_ret2
      exact ⟨rfl, rfl⟩

theorem rentry_range (w : World) (p : Option Addr) (k x : Int) (hp : p.isSome = true) (hk : 5 ≤ k) :
   Calls Try.prog 37 #[.pointer p, .int .u8 k, .int .u16 x] w fun e w' => e = .returned (.int .i64 2) ∧ w = w' := by
  obtain ⟨a, rfl⟩ := Option.isSome_iff_exists.1 hp
  clear hp
  go_enter Try.func37, Try.ntmps37
  go_wp2
  go_ret
  exact ⟨rfl, rfl⟩

set_option maxHeartbeats 4000000 in
theorem rentry_ok (w : World) (g : Nat) (S : St) (h : IsR w g S) (k x : Int) (h0 : 0 ≤ k) (h1 : k < 5) :
   Calls Try.prog 37 #[.pointer (some ⟨g, 0, none⟩), .int .u8 k, .int .u16 x] w fun e w' => e = .returned (.int .i64 0) ∧ IsR w' g (entrySt S k.toNat x) ∧ Kept (OneBlk g) w w' := by
  obtain ⟨v, hB, hR, hl⟩ := h
  obtain ⟨rg, kept, to, has, dead⟩ := S
  have hc := hB.cell
  have hf := hB.frozen
  have HB := Lib.hid hB
  have HR := Lib.hid hR
  simp only [arrR] at hc
  clear hB hR
  have hk : k = 0 ∨ k = 1 ∨ k = 2 ∨ k = 3 ∨ k = 4 := by omega
  clear h0 h1
  rcases hk with rfl | rfl | rfl | rfl | rfl
  all_goals
    go_enter Try.func37, Try.ntmps37
    go_wp2
    refine wp_region_plan (by kernel_rfl) (.q 0 <| .q 1 <| .q 2 <| .q 3 <| .q 4 <| .q 5 <| .q 6 <| .q 7 <| .q 9 <| .q 10 <| .e 8 [2, 3, 9, 10] <| .q 11 <| .e 12 [] <| .nil) (by kernel_rfl) (by kernel_rfl) ?_
    repeat (refine plan_q rfl (fun K hK => ?_); go_simp; refine hK _ ?_; clear hK K)
    refine plan_e rfl (fun K hK => ?_)
    go_simp
    refine hK _ _ (by (repeat (refine stab_cons rfl ?_ ?_; focus (go_simp; done))); exact stab_nil) ?_
    clear hK K
    repeat (refine plan_q rfl (fun K hK => ?_); go_simp; refine hK _ ?_; clear hK K)
    refine plan_e rfl (fun K hK => ?_)
    go_simp
    refine hK _ _ stab_nil ?_
    clear hK K
    refine plan_nil ?_
    go_wp2
    go_ret
    refine ⟨rfl, ⟨v, Blk.cast (by repeat (with_reducible first | exact HB.out | apply Blk.drew | apply Blk.drewN | apply Blk.alloc | apply Blk.set_)) (by simp [arrR, entrySt, upd]), HR.out.kept (G := OneBlk g) ?_ (fun b' cs hb' e => (HB.out.ne_ hb' (by decide)) e.symm), hl⟩, ?_⟩
    all_goals repeat (with_reducible first | exact Kept.refl _ _ | apply Kept.drew | apply Kept.drewN | apply Kept.alloc | exact oneHit | apply Kept.setCell)

theorem rset_dead (w : World) (g : Nat) (S : St) (h : IsR w g S) (hd : S.dead = true) (q : Nat → Int) :
   Calls Try.prog 40 #[.pointer (some ⟨g, 0, none⟩), regV q] w fun e w' => e = .returned (.int .i64 9) ∧ Kept NoBlk w w' := by
  obtain ⟨v, hB, hR, hl⟩ := h
  obtain ⟨rg, kept, to, has, dead⟩ := S
  obtain rfl : dead = true := hd
  have hc := hB.cell
  have hlt := hB.lt
  simp only [arrR] at hc
  clear hB hR
  unfold regV
  go_enter Try.func40, Try.ntmps40
  go_wp2
  go_ret
  exact ⟨rfl, by repeat (with_reducible first | exact Kept.refl _ _ | apply Kept.drew | apply Kept.drewN | apply Kept.alloc | exact oneHit | apply Kept.setCell)⟩

set_option maxHeartbeats 1000000 in
theorem rset_ok (w : World) (g : Nat) (S : St) (h : IsR w g S) (hd : S.dead = false) (q : Nat → Int) :
   Calls Try.prog 40 #[.pointer (some ⟨g, 0, none⟩), regV q] w fun e w' => e = .returned (.int .i64 0) ∧ IsR w' g { S with rg := q } ∧ Kept (OneBlk g) w w' := by
  obtain ⟨v, hB, hR, hl⟩ := h
  obtain ⟨rg, kept, to, has, dead⟩ := S
  obtain rfl : dead = false := hd
  have hc := hB.cell
  have hf := hB.frozen
  have hlt := hB.lt
  have HB := Lib.hid hB
  have HR := Lib.hid hR
  simp only [arrR] at hc
  clear hB hR
  unfold regV
  go_enter Try.func40, Try.ntmps40
  go_wp2
  go_ret
  refine ⟨rfl, ⟨v, Blk.cast (by repeat (with_reducible first | exact HB.out | apply Blk.drew | apply Blk.drewN | apply Blk.alloc | apply Blk.set_)) (by simp [arrR]), HR.out.kept (G := OneBlk g) ?_ (fun b' cs hb' e => (HB.out.ne_ hb' (by decide)) e.symm), hl⟩, ?_⟩
  all_goals repeat (with_reducible first | exact Kept.refl _ _ | apply Kept.drew | apply Kept.drewN | apply Kept.alloc | exact oneHit | apply Kept.setCell)

theorem rkill_dead (w : World) (g : Nat) (S : St) (h : IsR w g S) (hd : S.dead = true) :
   Calls Try.prog 41 #[.pointer (some ⟨g, 0, none⟩)] w fun e w' => e = .returned (.int .i64 9) ∧ w = w' := by
  obtain ⟨v, hB, hR, hl⟩ := h
  obtain ⟨rg, kept, to, has, dead⟩ := S
  obtain rfl : dead = true := hd
  have hc := hB.cell
  simp only [arrR] at hc
  clear hB hR
  go_enter Try.func41, Try.ntmps41
  go_wp2
  go_ret
  exact ⟨rfl, rfl⟩

set_option maxHeartbeats 1000000 in
theorem rkill_ok (w : World) (g : Nat) (S : St) (h : IsR w g S) (hd : S.dead = false) :
   Calls Try.prog 41 #[.pointer (some ⟨g, 0, none⟩)] w fun e w' => e = .returned (.int .i64 0) ∧ IsR w' g (killSt S) ∧ Kept (OneBlk g) w w' := by
  obtain ⟨v, hB, hR, hl⟩ := h
  obtain ⟨rg, kept, to, has, dead⟩ := S
  obtain rfl : dead = false := hd
  have hc := hB.cell
  have hf := hB.frozen
  have HB := Lib.hid hB
  simp only [arrR] at hc
  clear hB hR
  go_enter Try.func41, Try.ntmps41
  go_wp2
  go_ret
  refine ⟨rfl, ⟨.slice none 0 0, Blk.cast (by repeat (with_reducible first | exact HB.out | apply Blk.drew | apply Blk.drewN | apply Blk.alloc | apply Blk.set_)) (by simp [arrR, killSt]), Row.nil _ _ _, by simp [killSt]⟩, ?_⟩
  repeat (with_reducible first | exact Kept.refl _ _ | apply Kept.drew | apply Kept.drewN | apply Kept.alloc | exact oneHit | apply Kept.setCell)

theorem Try.size68 : (Try.prog.info? 68).map (·.size) = some 21 := by kernel_rfl
theorem Try.size31 : (Try.prog.info? 31).map (·.size) = some 9 := by kernel_rfl

set_option maxHeartbeats 2000000 in
theorem rfork_any (w : World) (g : Nat) (S : St) (h : IsR w g S) :
   Calls Try.prog 22 #[.pointer (some ⟨g, 0, none⟩)] w fun e w' => ∃ g', e = .returned (.pointer (some ⟨g', 0, none⟩)) ∧ w.heap.size ≤ g' ∧ g' < w'.heap.size ∧ IsR w' g' S ∧ Kept NoBlk w w' := by
  obtain ⟨v, hB, hR, hl⟩ := h
  obtain ⟨A, cap, rfl, hnc, hcm, hA0, hA1, hA2⟩ := hR.form
  have hlt := hB.lt
  have HB := Lib.hid hB
  have HR := Lib.hid hR
  have Hl := Lib.hid hl
  clear hB hR hl hA0 hA1 hA2
  go_enter Try.func22, Try.ntmps22
  go_wp2_with (first | (refine wpList_load_row rfl 68 (.tmp 7) rfl g rfl 68 _ (0, 0) _ HB.out Try.underlying68 rfl Try.size68 ?_) | (refine wpList_store_blk rfl (.tmp 3) (.tmp 8) 68 rfl w.heap.size 0 68 _ (Blk.new _ _ _) rfl (arrR S (.slice A S.kept.length cap)) rfl Try.size68 (by simp [arrR]) (by rfl) ?_; intro w1 hB1 hK1))
  go_ret
  have hlt1 := hB1.lt
  refine ⟨w.heap.size, rfl, Nat.le_refl _, hlt1, ⟨.slice A S.kept.length cap, Blk.cast hB1 (by simp [arrR]), ?_, Hl.out⟩, ?_⟩
  · refine HR.out.kept (G := OneBlk w.heap.size) (Kept.trans ((Kept.refl _ _).alloc _) hK1) (fun b' cs hb' e => by have := hb'.lt; have e' : b' = w.heap.size := e; omega)
  · exact Kept.fresh ((Kept.refl _ _).alloc _) hK1 (fun b e => by rw [show b = w.heap.size from e]; exact Nat.le_refl _)
end Go.Proofs.Ytbggdimkfkdhmaa
