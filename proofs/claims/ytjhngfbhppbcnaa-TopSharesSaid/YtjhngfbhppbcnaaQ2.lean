/- Slices of a core's time: Take, and the iterator over the places. -/
import Derived.Test.YtjhngfbhppbcnaaQ1
namespace Go.Proofs.Ytjhngfbhppbcnaa
open Go.RowKit Go.Shelf
attribute [local go_sem] Oper.semAt_some
set_option maxRecDepth 100000

def updF (P : Nat → Int) (i : Nat) (e : Int) (j : Nat) : Int := if j = i then e else P j
theorem may_ok (w : World) (g gp gq : Nat) (P : Nat → Int) (now e : Int) (i : Nat) (h : IsV w g gp gq P now) (e1 : e < 6) (hi : i < 8) :
    Calls Try.prog 42 #[.pointer (some ⟨g, 0, none⟩), .int .u8 e, .int .i64 i] w fun x w' => x = .returned (.int .i64 0) ∧ w = w' := by
  have c0 := h.v.cell 0
  simp only [vecA] at c0
  have hi0 : ¬ ((i : Int) < 0) := by omega
  have hi8 : (i : Int) < 8 := by omega
  go_enter Try.func42, Try.ntmps42
  go_wp2
  go_ret
  exact ⟨rfl, rfl⟩
set_option maxHeartbeats 1000000 in
theorem take_ok (w : World) (g gp gq : Nat) (P : Nat → Int) (now e : Int) (i : Nat) (h : IsV w g gp gq P now) (e1 : e < 6) (hi : i < 8) (hP : P i = 6) :
    Calls Try.prog 11 #[.pointer (some ⟨g, 0, none⟩), .int .u8 e, .int .i64 i] w fun x w' => x = .returned (.int .i64 0) ∧ IsV w' g gp gq (updF P i e) now ∧ Kept (OneBlk gp) w w' := by
  have HM := Lib.hid (may_ok w g gp gq P now e i h e1 hi)
  obtain ⟨hv, hp, hq⟩ := h
  have c0 := hv.cell 0
  simp only [vecA] at c0
  have c1 : w.cell? ⟨gp, i, none⟩ = some (.int .u8 6) := by rw [hp.cell, arrF_get _ _ _ hi]; unfold u8F; rw [hP]
  have f1 := hp.frozen i
  have g1 : g ≠ gp := hv.ne_ hp (by decide)
  have g2 : gq ≠ gp := hq.ne_ hp (by decide)
  have HV := Lib.hid hv
  have HP := Lib.hid hp
  have HQ := Lib.hid hq
  clear hv hp hq
  go_enter Try.func11, Try.ntmps11
  go_wp2_with fail
  refine HM.out.mono ?_
  rintro x w1 ⟨rfl, rfl⟩
  go_wp2
  go_ret
  refine ⟨rfl, ⟨HV.out.far g1 _, Blk.cast (HP.out.set_ i _) ?_, HQ.out.far g2 _⟩, (Kept.refl _ _).setCell oneHit _⟩
  rw [arrF_set]
  refine arrF_ext _ _ _ fun k _ => ?_
  unfold u8F updF
  by_cases hk : k = i
  · rw [if_pos hk, if_pos hk]
  · rw [if_neg hk, if_neg hk]

/-- A place, and an environment whose it is. -/
abbrev Plc := { x : Nat × Int // x.1 < 8 ∧ 0 ≤ x.2 ∧ x.2 < 6 }
def encP (x : Plc) : Array Value := #[.int .i64 (x.1.1 : Int), .int .u8 x.1.2]
def nth (P : Nat → Int) (hP : ∀ k, k < 8 → 0 ≤ P k ∧ P k < 6) (now k : Nat) : Plc := ⟨((now + 1 + k) % 8, P ((now + 1 + k) % 8)), by omega, (hP _ (by omega)).1, (hP _ (by omega)).2⟩
def upto {α : Type} (f : Nat → α) (k : Nat) : List α := (List.range k).map f
theorem upto_succ {α : Type} (f : Nat → α) (k : Nat) : upto f (k + 1) = upto f k ++ [f k] := by simp [upto, List.range_succ]
theorem upto_length {α : Type} (f : Nat → α) (k : Nat) : (upto f k).length = k := by simp [upto]

set_option maxHeartbeats 2000000 in
theorem round1_in (F : Fence) (n : Nat) (h7 : F.fn 72) (hro : F.round = none) (hn : 1 ≤ n) (l Bv n₀ g gp gq : Nat) (P : Nat → Int) (hP : ∀ k, k < 8 → 0 ≤ P k ∧ P k < 6) (now : Nat) (hnow : now < 8) (J Jx : List Plc → World → Prop)
    (hg : g < n₀) (hgp : gp < n₀) (hBv : Bv < n₀)
    (hY : ∀ pre x W, J pre W → pre.length < 8 → YieldAt F (n - 1) Try.prog l (encP x) W fun e W' =>
      (e = .returned (.bool true) ∧ J (pre ++ [x]) W' ∧ Below n₀ W W') ∨ (e = .returned (.bool false) ∧ Jx (pre ++ [x]) W'))
    (W : World) (hB : W.cell? ⟨Bv, 0, none⟩ = some (.pointer (some ⟨g, 0, none⟩))) (hV : IsV W g gp gq P now) (h0 : J [] W) :
    CallsIn F n Try.prog 72 #[.func (.yield l) #[] #[], .pointer (some ⟨Bv, 0, none⟩)] W fun e W' => (∃ v, e = .returned v) ∧
      ((∃ ys, ys = upto (nth P hP now) 8 ∧ J ys W') ∨ (∃ pre, (∃ k, k ≤ 8 ∧ pre = upto (nth P hP now) k) ∧ Jx pre W')) := by
  have c0 := hV.v.cell 0
  have c2 := hV.v.cell 2
  simp only [vecA] at c0 c2
  have HV := Lib.hid hV
  clear hV
  refine callsIn_of_wp Try.func72 rfl h7 ?_ hro
  simp only [Try.ntmps72, List.size_toArray, List.length_cons, List.length_nil, Nat.reduceAdd, Nat.reduceSub, Array.replicate_succ, Array.replicate_zero, List.push_toArray, List.append_toArray, List.nil_append, List.cons_append]
  gi_wp2
  gi_loopw [15] (fun i wr => ∃ k : Nat, k ≤ 8 ∧ i = .int .i64 k ∧ J (upto (nth P hP now) k) wr ∧ Below n₀ W wr)
    (fun i _ => 8 - (intOf i).toNat)
  case atStart => exact ⟨0, Nat.zero_le _, rfl, h0, Below.refl _ _⟩
  case round =>
    obtain ⟨k, hk, rfl, hJs, hnx⟩ := hrel
    by_cases hlt : k < 8
    · obtain ⟨fn, tmps, assign, body, hy, hR⟩ := hY _ (nth P hP now k) wr hJs (by rw [upto_length]; exact hlt)
      have b0 := (hnx.cell (p := ⟨Bv, 0, none⟩) hBv).trans hB
      have b1 := (hnx.cell (p := ⟨g, 0, none⟩) hg).trans c0
      have b2 : wr.cell? ⟨gp, (now + 1 + k) % 8, none⟩ = some (.int .u8 (P ((now + 1 + k) % 8))) := by
        rw [hnx.cell (p := ⟨gp, (now + 1 + k) % 8, none⟩) hgp, HV.out.p.cell, arrF_get _ _ _ (by omega)]
        rfl
      have hrem : ((now : Int) + 1 + k).tmod 8 = (((now + 1 + k) % 8 : Nat) : Int) := by
        rw [Int.tmod_eq_emod_of_nonneg (by omega)]
        omega
      have hm8 : (now + 1 + k) % 8 < 8 := by omega
      dsimp only [encP, nth] at hy
      generalize hm : (now + 1 + k) % 8 = m at *
      gi_wp2
      refine hR.mono ?_
      rintro e W3 (⟨rfl, hJ3, hk3⟩ | ⟨rfl, hJx3⟩)
      · gi_wp2
        go_roundw
        case rel => exact ⟨k + 1, by omega, by simp, by rw [upto_succ]; exact hJ3, hnx.trans hk3⟩
        case measure => simp [intOf]; omega
      · gi_wp2
        refine bodyPost_ret (results_none rfl _ _ _) rfl ?_
        exact ⟨⟨_, rfl⟩, .inr ⟨_, ⟨k + 1, by omega, (upto_succ _ _).symm⟩, hJx3⟩⟩
    · obtain rfl : k = 8 := by omega
      gi_wp2
      go_end0
      exact ⟨⟨_, rfl⟩, .inl ⟨_, rfl, hJs⟩⟩
end Go.Proofs.Ytjhngfbhppbcnaa
