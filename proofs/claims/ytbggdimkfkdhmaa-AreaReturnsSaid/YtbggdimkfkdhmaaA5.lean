/- The contracts of the program's area: the ways on which Upcall does nothing. -/
import Derived.Test.YtbggdimkfkdhmaaA3
namespace Go.Proofs.Ytbggdimkfkdhmaa
open Go.RowKit

theorem upcall_range (w : World) (p : Option Addr) (k x : Int) (hp : p.isSome = true) (hk : 5 ≤ k) :
   Calls Try.prog 15 #[.pointer p, .int .u8 k, .int .u16 x] w fun e w' => e = .returned (.int .i64 2) ∧ Kept NoBlk w w' := by
  obtain ⟨a, rfl⟩ := Option.isSome_iff_exists.1 hp
  clear hp
  go_enter_defers Try.func15, Try.ntmps15
  go_wp2
  exact ⟨.int .i64 2, by simp [results, Try.results15, go_sem], rfl, by repeat (with_reducible first | exact Kept.refl _ _ | apply Kept.alloc | apply Kept.drew)⟩

theorem upcall_nil (w : World) (k x : Int) :
   Calls Try.prog 15 #[.pointer none, .int .u8 k, .int .u16 x] w fun e w' => e = .returned (.int .i64 1) ∧ Kept NoBlk w w' := by
  go_enter_defers Try.func15, Try.ntmps15
  go_wp2
  exact ⟨.int .i64 1, by simp [results, Try.results15, go_sem], rfl, by repeat (with_reducible first | exact Kept.refl _ _ | apply Kept.alloc | apply Kept.drew)⟩

set_option maxHeartbeats 1000000 in
theorem upcall_dead (w : World) (g : Nat) (S : St) (h : IsA w g S) (hd : S.dead = true) (k x : Int) (_h0 : 0 ≤ k) (h1 : k < 5) :
   Calls Try.prog 15 #[.pointer (some ⟨g, 0, none⟩), .int .u8 k, .int .u16 x] w fun e w' => e = .returned (.int .i64 9) ∧ Kept NoBlk w w' := by
  have HL := Lib.hid (fun w1 (hK : Kept NoBlk w w1) => lives_dead w1 g S (h.kept hK (fun e => e) (fun _ _ _ e => e)) hd)
  clear h hd
  go_enter_defers Try.func15, Try.ntmps15
  go_wp2_with (go_at_call 27; refine (HL.out _ (by repeat (with_reducible first | exact Kept.refl _ _ | apply Kept.alloc | apply Kept.drew))).mono ?_; rintro e w' ⟨rfl, rfl⟩)
  exact ⟨.int .i64 9, by simp [results, Try.results15, go_sem], rfl, by repeat (with_reducible first | exact Kept.refl _ _ | apply Kept.alloc | apply Kept.drew)⟩

set_option maxHeartbeats 4000000 in
theorem upcall_noent (w : World) (g : Nat) (S : St) (h : IsA w g S) (hd : S.dead = false) (k x : Int) (h0 : 0 ≤ k) (h1 : k < 5) (hh : S.has k.toNat = false) (ht : S.to k.toNat = 0) :
   Calls Try.prog 15 #[.pointer (some ⟨g, 0, none⟩), .int .u8 k, .int .u16 x] w fun e w' => e = .returned (.int .i64 5) ∧ Kept NoBlk w w' := by
  have HL := Lib.hid (fun w1 (hK : Kept NoBlk w w1) => lives_ok w1 g S (h.kept hK (fun e => e) (fun _ _ _ e => e)) hd)
  obtain ⟨v, hB, hR, hl⟩ := h
  obtain ⟨rg, kept, to, has, dead⟩ := S
  obtain rfl : dead = false := hd
  have hc := hB.cell
  have hlt := hB.lt
  have hlt1 : g < w.heap.size + 1 := by omega
  have hlt2 : g < w.heap.size + 1 + 1 := by omega
  simp only [arrA] at hc
  clear hB hR
  have hk : k = 0 ∨ k = 1 ∨ k = 2 ∨ k = 3 ∨ k = 4 := by omega
  clear h0 h1
  rcases hk with rfl | rfl | rfl | rfl | rfl
  all_goals
    simp only [Int.toNat_zero, Int.toNat_one, Int.reduceToNat] at hh ht
    go_enter_defers Try.func15, Try.ntmps15
    go_wp2_with (go_at_call 27; refine (HL.out _ (by repeat (with_reducible first | exact Kept.refl _ _ | apply Kept.alloc | apply Kept.drew))).mono ?_; rintro e w' ⟨rfl, rfl⟩)
    exact ⟨.int .i64 5, by simp [results, Try.results15, go_sem], rfl, by repeat (with_reducible first | exact Kept.refl _ _ | apply Kept.alloc | apply Kept.drew)⟩

theorem closure_no (w : World) (E F R : Nat) (x : Int) (u : FrameMode) (hx : (x == 0) = false) (hE : w.cell? ⟨E, 0, none⟩ = some (.int .i64 x)) :
   CallsD Try.prog 28 #[.pointer (some ⟨E, 0, none⟩), .pointer (some ⟨F, 0, none⟩), .pointer (some ⟨R, 0, none⟩)] u w fun e u' w' => u' = u ∧ e = .returned (.tuple #[]) ∧ w = w' := by
  go_enter_d Try.func28, Try.ntmps28
  go_wp2
  go_end0
  exact ⟨rfl, rfl⟩

set_option maxHeartbeats 4000000 in
theorem upcall_space (w : World) (g : Nat) (S : St) (h : IsA w g S) (hd : S.dead = false) (k x : Int) (h0 : 0 ≤ k) (h1 : k < 5) (hh : S.has k.toNat = true) (hlen : 4 ≤ S.kept.length) :
   Calls Try.prog 15 #[.pointer (some ⟨g, 0, none⟩), .int .u8 k, .int .u16 x] w fun e w' => e = .returned (.int .i64 4) ∧ Kept NoBlk w w' := by
  have HL := Lib.hid (fun w1 (hK : Kept NoBlk w w1) => lives_ok w1 g S (h.kept hK (fun e => e) (fun _ _ _ e => e)) hd)
  obtain ⟨v, hB, hR, hl⟩ := h
  obtain ⟨rg, kept, to, has, dead⟩ := S
  obtain rfl : dead = false := hd
  obtain ⟨A, cap, rfl, hnc, hcm, hA0, hA1, hA2⟩ := hR.form
  have hc := hB.cell
  have hlt := hB.lt
  have hlt1 : g < w.heap.size + 1 := by omega
  have hlt2 : g < w.heap.size + 1 + 1 := by omega
  have hlt3 : g < w.heap.size + 1 + 1 + 1 := by omega
  simp only [arrA] at hc
  simp only at hlen hl hnc
  generalize hN : kept.length = n at *
  obtain rfl : n = 4 := by omega
  clear hB hR hA0 hA1 hA2 hcm hN hl hlen
  have hk : k = 0 ∨ k = 1 ∨ k = 2 ∨ k = 3 ∨ k = 4 := by omega
  clear h0 h1
  rcases hk with rfl | rfl | rfl | rfl | rfl
  all_goals
    simp only [Int.toNat_zero, Int.toNat_one, Int.reduceToNat] at hh
    go_enter_defers Try.func15, Try.ntmps15
    go_wp2_with (go_at_call 27; refine (HL.out _ (by repeat (with_reducible first | exact Kept.refl _ _ | apply Kept.alloc | apply Kept.drew))).mono ?_; rintro e w' ⟨rfl, rfl⟩)
    refine leaves_cons (f := 28) (args := #[.pointer (some ⟨w.heap.size + 1, 0, none⟩), .pointer (some ⟨w.heap.size, 0, none⟩), .pointer (some ⟨w.heap.size + 1 + 1 + 1, 0, none⟩)]) (by simp) (by simp [go_sem]) ?_
    refine (closure_no _ (w.heap.size + 1) w.heap.size (w.heap.size + 1 + 1 + 1) 4 .returning (by rfl) (by go_simp)).mono ?_
    rintro e u' w'' ⟨rfl, rfl, rfl⟩
    exact ⟨.int .i64 4, by simp [results, Try.results15, go_sem], rfl, by repeat (with_reducible first | exact Kept.refl _ _ | apply Kept.alloc | apply Kept.drew)⟩
end Go.Proofs.Ytbggdimkfkdhmaa
