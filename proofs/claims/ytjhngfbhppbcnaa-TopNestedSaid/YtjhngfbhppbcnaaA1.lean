/- The contracts of the program's area, one a function. -/
import Derived.Test.YtjhngfbhppbcnaaBase
namespace Go.Proofs.Ytjhngfbhppbcnaa
open Go.RowKit
set_option maxRecDepth 100000

/-- What is kept of an environment: 9 registers, those that were kept, where upcalls come to. -/
structure St where
  rg : Nat → Int
  kept : List (Nat → Int)
  to : Nat → Int
  has : Nat → Bool
  dead : Bool

def regCells (r : Nat → Int) : List Value := [.int .u16 (r 0), .int .u16 (r 1), .int .u16 (r 2), .int .u16 (r 3), .int .u16 (r 4), .int .u16 (r 5), .int .u16 (r 6), .int .u16 (r 7), .int .u16 (r 8)]
def rowsOf (l : List (Nat → Int)) : List Value := l.flatMap regCells
def regV (r : Nat → Int) : Value := .agg #[.int .u16 (r 0), .int .u16 (r 1), .int .u16 (r 2), .int .u16 (r 3), .int .u16 (r 4), .int .u16 (r 5), .int .u16 (r 6), .int .u16 (r 7), .int .u16 (r 8)]
theorem rowsOf_length (l : List (Nat → Int)) : (rowsOf l).length = l.length * 9 := by
  unfold rowsOf
  induction l with
  | nil => rfl
  | cons a l ih => simp [List.flatMap_cons, regCells] at *; omega

def arrA (S : St) (v : Value) : Array Value := #[.int .u16 (S.rg 0), .int .u16 (S.rg 1), .int .u16 (S.rg 2), .int .u16 (S.rg 3), .int .u16 (S.rg 4), .int .u16 (S.rg 5), .int .u16 (S.rg 6), .int .u16 (S.rg 7), .int .u16 (S.rg 8), v,
  .int .u16 (S.to 0), .bool (S.has 0), .int .u16 (S.to 1), .bool (S.has 1), .int .u16 (S.to 2), .bool (S.has 2), .int .u16 (S.to 3), .bool (S.has 3), .int .u16 (S.to 4), .bool (S.has 4), .bool S.dead]

def IsA (w : World) (g : Nat) (S : St) : Prop := ∃ v, Blk w g 102 (arrA S v) ∧ Row w 35 9 v S.kept.length (rowsOf S.kept) ∧ S.kept.length ≤ 4

theorem IsA.kept {w w' : World} {g : Nat} {S : St} {G : Nat → Prop} (h : IsA w g S) (hk : Kept G w w') (hg : ¬ G g) (hr : ∀ b cs, Blk w b 35 cs → ¬ G b) : IsA w' g S := by
  obtain ⟨v, hB, hR, hl⟩ := h
  exact ⟨v, hB.kept hk hg, hR.kept hk hr, hl⟩

theorem lives_dead (w : World) (g : Nat) (S : St) (h : IsA w g S) (hd : S.dead = true) :
   Calls Try.prog 44 #[.pointer (some ⟨g, 0, none⟩)] w fun e w' => e = .returned (.int .i64 9) ∧ w = w' := by
  obtain ⟨v, hB, hR, hl⟩ := h
  obtain ⟨rg, kept, to, has, dead⟩ := S
  obtain rfl : dead = true := hd
  have hc := hB.cell
  simp only [arrA] at hc
  clear hB hR
  go_enter Try.func44, Try.ntmps44
  go_wp2
  go_ret
  exact ⟨rfl, rfl⟩

theorem lives_ok (w : World) (g : Nat) (S : St) (h : IsA w g S) (hd : S.dead = false) :
   Calls Try.prog 44 #[.pointer (some ⟨g, 0, none⟩)] w fun e w' => e = .returned (.int .i64 0) ∧ w = w' := by
  obtain ⟨v, hB, hR, hl⟩ := h
  obtain ⟨rg, kept, to, has, dead⟩ := S
  obtain rfl : dead = false := hd
  have hc := hB.cell
  simp only [arrA] at hc
  clear hB hR
  go_enter Try.func44, Try.ntmps44
  go_wp2
  go_ret
  exact ⟨rfl, rfl⟩

theorem depth_any (w : World) (g : Nat) (S : St) (h : IsA w g S) :
   Calls Try.prog 17 #[.pointer (some ⟨g, 0, none⟩)] w fun e w' => e = .returned (.int .i64 S.kept.length) ∧ w = w' := by
  obtain ⟨v, hB, hR, hl⟩ := h
  obtain ⟨A, cap, rfl, h1, h2, h3, h4, h5⟩ := hR.form
  have hc := hB.cell
  simp only [arrA] at hc
  clear hB hR h4 h5
  generalize S.kept.length = n at *
  go_enter Try.func17, Try.ntmps17
  go_wp2
  go_ret
  exact ⟨rfl, rfl⟩

theorem regs_any (w : World) (g : Nat) (S : St) (h : IsA w g S) :
   Calls Try.prog 16 #[.pointer (some ⟨g, 0, none⟩)] w fun e w' => e = .returned (regV S.rg) ∧ Kept NoBlk w w' := by
  obtain ⟨v, hB, hR, hl⟩ := h
  have hc := hB.cell
  have hlt := hB.lt
  simp only [arrA] at hc
  clear hB hR
  go_enter Try.func16, Try.ntmps16
  go_wp2
  exact bodyPost_ret (v := regV S.rg) (by simp [results, Try.results16, go_sem, regV]) rfl ⟨rfl, (Kept.refl _ _).alloc _⟩

def popSt (S : St) : St := { S with rg := S.kept.getLast?.getD S.rg, kept := S.kept.dropLast }

theorem return_dead (w : World) (g : Nat) (S : St) (h : IsA w g S) (hd : S.dead = true) :
   Calls Try.prog 18 #[.pointer (some ⟨g, 0, none⟩)] w fun e w' => e = .returned (.int .i64 9) ∧ w = w' := by
  have HL := Lib.hid (lives_dead w g S h hd)
  clear h
  obtain ⟨rg, kept, to, has, dead⟩ := S
  obtain rfl : dead = true := hd
  go_enter Try.func18, Try.ntmps18
  go_wp2_with (go_at_call 44; refine (HL.out).mono ?_; rintro e w' ⟨rfl, rfl⟩)
  go_ret
  exact ⟨rfl, rfl⟩

theorem return_none (w : World) (g : Nat) (S : St) (h : IsA w g S) (hd : S.dead = false) (hk : S.kept = []) :
   Calls Try.prog 18 #[.pointer (some ⟨g, 0, none⟩)] w fun e w' => e = .returned (.int .i64 9) ∧ w = w' := by
  have HL := Lib.hid (lives_ok w g S h hd)
  obtain ⟨v, hB, hR, hl⟩ := h
  obtain ⟨A, cap, rfl, h1, h2, h3, h4, h5⟩ := hR.form
  have hc := hB.cell
  obtain ⟨rg, kept, to, has, dead⟩ := S
  obtain rfl : dead = false := hd
  obtain rfl : kept = [] := hk
  simp only [arrA] at hc
  clear hB hR h4 h5
  go_enter Try.func18, Try.ntmps18
  go_wp2_with (go_at_call 44; refine (HL.out).mono ?_; rintro e w' ⟨rfl, rfl⟩)
  go_ret
  exact ⟨rfl, rfl⟩

theorem rows_last (l : List (Nat → Int)) (a : Nat → Int) (j : Nat) (hj : j < 9) : (rowsOf (l ++ [a]))[l.length * 9 + j]? = (regCells a)[j]? := by
  unfold rowsOf
  rw [List.flatMap_append, List.getElem?_append_right (by have := rowsOf_length l; unfold rowsOf at this; omega)]
  have := rowsOf_length l
  unfold rowsOf at this
  rw [this]
  simp

set_option maxHeartbeats 1000000 in
theorem return_some (w : World) (g : Nat) (S : St) (h : IsA w g S) (hd : S.dead = false) (l : List (Nat → Int)) (a : Nat → Int) (hk : S.kept = l ++ [a]) :
   Calls Try.prog 18 #[.pointer (some ⟨g, 0, none⟩)] w fun e w' => e = .returned (.int .i64 0) ∧ IsA w' g { S with rg := a, kept := l } ∧ Kept (OneBlk g) w w' := by
  have HL := Lib.hid (lives_ok w g S h hd)
  obtain ⟨v, hB, hR, hl⟩ := h
  obtain ⟨rg, kept, to, has, dead⟩ := S
  obtain rfl : dead = false := hd
  obtain rfl : kept = l ++ [a] := hk
  simp only [List.length_append, List.length_cons, List.length_nil, Nat.zero_add] at hR hl
  obtain ⟨hxl, ⟨_, hq⟩ | ⟨b, cap, cur, rfl, hb, hn, hm, hs, ht⟩⟩ := hR
  · omega
  have hc := hB.cell
  have hf := hB.frozen
  have hcb := hb.cell
  have hgb : g ≠ b := hB.ne_ hb (by decide)
  have hcur : ∀ j, j < 9 → cur[l.length * 9 + j]? = (regCells a)[j]? := by
    intro j hj
    rw [← rows_last l a j hj, ← ht, List.getElem?_take, if_pos (by omega), Array.getElem?_toList]
  have k0 : cur[l.length * 9]? = some (.int .u16 (a 0)) := by simpa [regCells] using hcur 0 (by omega)
  have k1 : cur[l.length * 9 + 1]? = some (.int .u16 (a 1)) := by simpa [regCells] using hcur 1 (by omega)
  have k2 : cur[l.length * 9 + 2]? = some (.int .u16 (a 2)) := by simpa [regCells] using hcur 2 (by omega)
  have k3 : cur[l.length * 9 + 3]? = some (.int .u16 (a 3)) := by simpa [regCells] using hcur 3 (by omega)
  have k4 : cur[l.length * 9 + 4]? = some (.int .u16 (a 4)) := by simpa [regCells] using hcur 4 (by omega)
  have k5 : cur[l.length * 9 + 5]? = some (.int .u16 (a 5)) := by simpa [regCells] using hcur 5 (by omega)
  have k6 : cur[l.length * 9 + 6]? = some (.int .u16 (a 6)) := by simpa [regCells] using hcur 6 (by omega)
  have k7 : cur[l.length * 9 + 7]? = some (.int .u16 (a 7)) := by simpa [regCells] using hcur 7 (by omega)
  have k8 : cur[l.length * 9 + 8]? = some (.int .u16 (a 8)) := by simpa [regCells] using hcur 8 (by omega)
  have hRow : Row w 35 9 (.slice (some ⟨b, 0, none⟩) l.length cap) l.length (rowsOf l) := by
    refine ⟨rowsOf_length l, .inr ⟨b, cap, cur, rfl, hb, by omega, hm, by omega, ?_⟩⟩
    have e : rowsOf (l ++ [a]) = rowsOf l ++ rowsOf [a] := by simp [rowsOf]
    rw [e] at ht
    have := congrArg (List.take (l.length * 9)) ht
    rw [List.take_take, Nat.min_eq_left (by omega), List.take_append_of_le_length (by rw [rowsOf_length]; omega), List.take_of_length_le (l := rowsOf l) (by rw [rowsOf_length]; omega)] at this
    exact this
  have HB := Lib.hid hB
  have HR := Lib.hid hRow
  have hl' : l.length ≤ 4 := by omega
  unfold maxLen at hm
  simp only [arrA] at hc
  generalize hN : l.length = n at *
  have HN := Lib.hid hN
  clear hB hb hRow hs ht hxl hcur hN
  go_enter Try.func18, Try.ntmps18
  go_wp2_with (go_at_call 44; refine (HL.out).mono ?_; rintro e w' ⟨rfl, rfl⟩)
  go_region
  all_goals go_wp2
  all_goals go_ret
  refine ⟨rfl, ⟨.slice (some ⟨b, 0, none⟩) n cap, Blk.cast (by repeat (with_reducible first | exact HB.out | apply Blk.drew | apply Blk.set_)) (by simp [arrA]), ?_, ?_⟩, ?_⟩
  · rw [HN.out]
    exact HR.out.kept (G := OneBlk g) (by repeat (with_reducible first | exact Kept.refl _ _ | apply Kept.drew | apply Kept.alloc | exact oneHit | apply Kept.setCell)) (fun b' cs hb' e => (HB.out.ne_ hb' (by decide)) e.symm)
  · rw [HN.out]; exact hl'
  · repeat (with_reducible first | exact Kept.refl _ _ | apply Kept.drew | apply Kept.alloc | exact oneHit | apply Kept.setCell)
end Go.Proofs.Ytjhngfbhppbcnaa
