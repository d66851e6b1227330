/- Who has more places has more turns: TopShares, walked. -/
import Derived.Test.YtjhngfbhppbcnaaQ3
namespace Go.Proofs.Ytjhngfbhppbcnaa
open Go.RowKit Go.Shelf
set_option maxRecDepth 100000

def TrueKept' (w : World) (e : Ending) (w' : World) : Prop := e = .returned (.bool true) ∧ Kept NoBlk w w'
def ind (E : Nat → Int) (e : Nat) (j : Nat) : Nat := if E j = e then 1 else 0
/-- How many of the first i are e's. -/
def cnt (E : Nat → Int) (e : Nat) : Nat → Nat
  | 0 => 0
  | i + 1 => cnt E e i + ind E e i
theorem cnt_le (E : Nat → Int) (e i : Nat) : cnt E e i ≤ i := by
  induction i with
  | zero => exact Nat.le_refl _
  | succ i ih =>
    unfold cnt ind
    split <;> omega
theorem cnt_three (E : Nat → Int) (e : Nat) : cnt (fun j => E (j % 8)) e 24 = 3 * cnt E e 8 := by
  have h : ∀ j, ind (fun j => E (j % 8)) e j = ind E e (j % 8) := fun _ => rfl
  simp only [cnt, h, Nat.reduceMod]
  omega
theorem IsV.ext {w : World} {g gp gq : Nat} {P P' : Nat → Int} {now : Int} (h : IsV w g gp gq P now) (e : ∀ k, k < 8 → P k = P' k) : IsV w g gp gq P' now :=
  ⟨h.v, Blk.cast h.p (arrF_ext _ _ _ fun k hk => by unfold u8F; rw [e k hk]), h.q⟩
theorem cnt_set (E : Nat → Int) (i x : Nat) (hx : E i = x) : (arrF 6 (i64F fun e => (cnt E e i : Int))).setIfInBounds x (.int .i64 ((cnt E x i : Int) + 1)) = arrF 6 (i64F fun e => (cnt E e (i + 1) : Int)) := by
  rw [arrF_set]
  refine arrF_ext _ _ _ fun k _ => ?_
  unfold i64F
  show (if k = x then _ else _) = Value.int .i64 ((cnt E k i + ind E k i : Nat) : Int)
  unfold ind
  by_cases hk : k = x
  · subst hk
    rw [if_pos rfl, if_pos hx]
    rfl
  · rw [if_neg hk, if_neg (fun h => hk (by omega))]
    rfl

set_option maxHeartbeats 2000000 in
theorem shares_any (w : World) (Wh : Nat → Int) (hWh : ∀ j, j < 8 → 0 ≤ Wh j ∧ Wh j < 256) : Calls Try.prog 3 #[.agg (arrF 8 (u8F Wh))] w (TrueKept' w) := by
  have hE : ∀ j, j < 8 → 0 ≤ Wh j % 6 ∧ Wh j % 6 < 6 := fun j hj => by have := hWh j hj; omega
  have hT : ∀ j, j < 8 → (Wh j).tmod 6 = Wh j % 6 := fun j hj => Int.tmod_eq_emod_of_nonneg (hWh j hj).1
  obtain ⟨E, hEE⟩ : ∃ E : Nat → Int, E = fun j => Wh j % 6 := ⟨_, rfl⟩
  replace hE : ∀ j, j < 8 → 0 ≤ E j ∧ E j < 6 := by rw [hEE]; exact hE
  replace hT : ∀ j, j < 8 → (Wh j).tmod 6 = E j := by rw [hEE]; exact hT
  have HC := Lib.hid (fun e => cnt_three E e)
  have HE := Lib.hid hE
  have HT := Lib.hid hT
  have HW := Lib.hid hWh
  clear hE hT hEE hWh
  go_enter Try.func3, Try.ntmps3
  go_wp2_with fail
  refine (qnew_any _).mono ?_
  rintro e w1 ⟨g, gp, gq, rfl, hV, hg, hgp, hgq, hK1⟩
  have hbw : Blk w1 w.heap.size 22 (arrF 8 (u8F Wh)) := Blk.kept (Blk.new w 22 (arrF 8 (u8F Wh))) hK1 (fun e => e)
  have hs1 := hK1.size
  rw [World.size_alloc] at hs1 hg hgp hgq
  have hK1' : Kept NoBlk w w1 := Kept.trans ((Kept.refl _ _).alloc _) (hK1.weaken fun _ _ e => e)
  have HV := Lib.hid hV
  have HBW := Lib.hid hbw
  have HK1 := Lib.hid hK1'
  have hlg := hV.v.lt
  have hlp := hV.p.lt
  have hlq := hV.q.lt
  clear hV hbw hK1 hK1'
  go_wp2
  go_loopw [6] (fun iv wr => ∃ i : Nat, i ≤ 8 ∧ iv = .int .i64 i ∧ IsV wr g gp gq (fun k => if k < i then E k else 6) 7 ∧ Blk wr w1.heap.size 25 (arrF 6 (i64F fun e => (cnt E e i : Int))) ∧
    Blk wr (w1.heap.size + 1) 25 (arrF 6 (i64F fun _ => 0)) ∧ Blk wr w.heap.size 22 (arrF 8 (u8F Wh)) ∧ Kept NoBlk w wr) (fun iv _ => 8 - (intOf iv).toNat)
  case atStart =>
    have z : ∀ f : Nat → Nat, (∀ k, k < 6 → f k = 0) → (#[.int .i64 0, .int .i64 0, .int .i64 0, .int .i64 0, .int .i64 0, .int .i64 0] : Array Value) = arrF 6 (i64F fun e => (f e : Int)) := fun f hf => by
      have : arrF 6 (i64F fun e => (f e : Int)) = arrF 6 (i64F fun _ => 0) := arrF_ext _ _ _ fun k hk => by
        show Value.int .i64 ((f k : Nat) : Int) = .int .i64 0
        rw [hf k hk]
        rfl
      rw [this]
      rfl
    generalize (#[.int .i64 0, .int .i64 0, .int .i64 0, .int .i64 0, .int .i64 0, .int .i64 0] : Array Value) = zs at z ⊢
    have hk : Kept NoBlk w1 ((w1.alloc (.cells zs 25)).alloc (.cells zs 25)) := ((Kept.refl _ _).alloc _).alloc _
    refine ⟨0, by omega, rfl, ?_, ?_, ?_, ?_, ?_⟩
    · exact (HV.out.kept hk (fun e => e) (fun e => e) (fun e => e)).ext (fun k _ => rfl)
    · exact Blk.cast ((Blk.new w1 _ _).alloc _) (z _ (fun _ _ => rfl))
    · exact Blk.cast (Blk.new_at _ _ _ (by simp)) (z _ (fun _ _ => rfl))
    · exact HBW.out.kept hk (fun e => e)
    · exact HK1.out.trans hk
  case round =>
    obtain ⟨i, hi, rfl, hV, hP, hQ, hW, hK⟩ := hrel
    by_cases hlt : i < 8
    · have hT := HT.out i hlt
      obtain ⟨x0, x6⟩ := HE.out i hlt
      have c0 : wr.cell? ⟨w.heap.size, i, none⟩ = some (.int .u8 (Wh i)) := by rw [hW.cell, arrF_get _ _ _ hlt]; rfl
      have hK3 := Lib.hid (take_ok wr g gp gq _ 7 (E i) i hV x6 hlt (if_neg (Nat.lt_irrefl i)))
      obtain ⟨x, hx⟩ := Int.eq_ofNat_of_zero_le x0
      have x6' : x < 6 := by omega
      obtain ⟨v0, v1⟩ := HW.out i hlt
      have c1 : wr.cell? ⟨w1.heap.size, x, none⟩ = some (.int .i64 (cnt E x i : Int)) := by rw [hP.cell, arrF_get _ _ _ x6']; rfl
      have f1 := hP.frozen x
      have hn : (cnt E x i : Int) ≤ 8 := by have := cnt_le E x i; omega
      have hc1 : w1.heap.size ≠ gp := by omega
      have HPP := Lib.hid hP
      have HQQ := Lib.hid hQ
      have HWW := Lib.hid hW
      have HKK := Lib.hid hK
      have HX := Lib.hid hx
      rw [hx] at hT hK3
      have HN := Lib.hid hn
      have HC1 := Lib.hid hc1
      clear hV hP hQ hW hK x0 x6 hc1 hn
      generalize Wh i = q at *
      have hwx : IntKind.u8.wrap (x : Int) = x := by rw [IntKind.wrap_u8]; omega
      have hx256 : (x : Int) < 6 := by omega
      go_wp2_with fail
      refine hK3.out.mono ?_
      rintro e w3 ⟨rfl, hV3, hk3⟩
      have hc1 := HC1.out
      have hn := HN.out
      have c3 := (hk3.cell (p := ⟨w1.heap.size, x, none⟩) HPP.out.lt hc1).trans c1
      have f3 := (hk3.frozen (p := ⟨w1.heap.size, x, none⟩) HPP.out.lt hc1).trans f1
      have HV3 := Lib.hid hV3
      clear hV3 c1 f1 hK3
      go_wp2
      go_roundw
      case rel =>
        have g1 : g ≠ w1.heap.size := by omega
        have g2 : gp ≠ w1.heap.size := by omega
        have g3 : gq ≠ w1.heap.size := by omega
        refine ⟨i + 1, by omega, by go_num, ?_, Blk.cast ((HPP.out.kept hk3 hc1).set_ x _) (cnt_set E i x HX.out), (HQQ.out.kept hk3 (by show ¬ w1.heap.size + 1 = gp; omega)).far (by show w1.heap.size + 1 ≠ w1.heap.size; omega) _, (HWW.out.kept hk3 (by show ¬ w.heap.size = gp; omega)).far (by show w.heap.size ≠ w1.heap.size; omega) _, (HKK.out.fresh hk3 (fun b e => by have e' : b = gp := e; omega)).setCell (newHit (by omega)) _⟩
        have hv := HV3.out
        refine IsV.ext (P := updF (fun k => if k < i then E k else 6) i x) ⟨hv.v.far g1 _, hv.p.far g2 _, hv.q.far g3 _⟩ fun k _ => ?_
        show (if k = i then (x : Int) else if k < i then E k else 6) = if k < i + 1 then E k else 6
        by_cases hk : k = i
        · subst hk
          rw [if_pos rfl, if_pos (by omega), HX.out]
        · rw [if_neg hk]
          by_cases hk2 : k < i
          · rw [if_pos hk2, if_pos (by omega)]
          · rw [if_neg hk2, if_neg (by omega)]
      case measure => simp [intOf]; omega
    · have hi8 : i = 8 := by omega
      have hV8 := hV.ext (P' := E) (fun k hk => if_pos (by omega))
      have hP : Blk wr w1.heap.size 25 (arrF 6 (i64F fun e => (cnt E e 8 : Int))) := by rw [hi8] at hP; exact hP
      have HV8 := Lib.hid hV8
      have HP8 := Lib.hid hP
      have hi8' : ¬ ((i : Int) < 8) := by omega
      clear hi8
      generalize (i : Int) = i8 at *
      have HQ8 := Lib.hid hQ
      have HK8 := Lib.hid hK
      clear hV8 hV hP hQ hW hK hi
      go_wp2
      go_loopw [8] (fun iv wr => ∃ i : Nat, i ≤ 24 ∧ iv = .int .i64 i ∧ IsV wr g gp gq E (((i + 7) % 8 : Nat) : Int) ∧ Blk wr w1.heap.size 25 (arrF 6 (i64F fun e => (cnt E e 8 : Int))) ∧
        Blk wr (w1.heap.size + 1) 25 (arrF 6 (i64F fun e => (cnt (fun j => E (j % 8)) e i : Int))) ∧ Kept NoBlk w wr) (fun iv _ => 24 - (intOf iv).toNat)
      case atStart => exact ⟨0, by omega, rfl, HV8.out, HP8.out, HQ8.out, HK8.out⟩
      case round =>
        clear HV8 HP8 HQ8 HK8
        obtain ⟨i, hi, rfl, hV, hP, hQ, hK⟩ := hrel
        by_cases hlt : i < 24
        · have hm8 : i % 8 < 8 := by omega
          obtain ⟨x0, x6⟩ := HE.out (i % 8) hm8
          have hK3 := turn_ok wr g gp gq E HE.out ((i + 7) % 8) (by omega) hV
          rw [show ((i + 7) % 8 + 1) % 8 = i % 8 by omega] at hK3
          obtain ⟨x, hx⟩ := Int.eq_ofNat_of_zero_le x0
          have x6' : x < 6 := by omega
          have hr : (i : Int).tmod 8 = ((i % 8 : Nat) : Int) := by
            rw [Int.tmod_eq_emod_of_nonneg (by omega)]
            omega
          have HN : Hid ((cnt (fun j => E (j % 8)) x i : Int) ≤ 24) := Lib.hid (by have := cnt_le (fun j => E (j % 8)) x i; omega)
          have HSET := Lib.hid (cnt_set (fun j => E (j % 8)) i x hx)
          have HNOW : Hid ((i + 1 + 7) % 8 = i % 8) := Lib.hid (by omega)
          rw [hx] at hK3
          have hx6 : (x : Int) < 6 := by omega
          have HV := Lib.hid hV
          have HPP := Lib.hid hP
          have HQQ := Lib.hid hQ
          have HKK := Lib.hid hK
          have H3 := Lib.hid hK3
          clear hV hP hQ hK hK3 hx x0 x6
          generalize i % 8 = m at *
          go_wp2_with fail
          refine H3.out.mono ?_
          rintro e w3 ⟨rfl, hV3, hk3⟩
          have hb1 : w1.heap.size + 1 ≠ g := by omega
          have hb2 : w1.heap.size ≠ g := by omega
          have c3 : w3.cell? ⟨w1.heap.size + 1, x, none⟩ = some (.int .i64 (cnt (fun j => E (j % 8)) x i : Int)) := by
            rw [(HQQ.out.kept hk3 hb1).cell, arrF_get _ _ _ x6']
            rfl
          have f3 := (HQQ.out.kept hk3 hb1).frozen x
          have hn := HN.out
          have HV3 := Lib.hid hV3
          clear hV3 H3 hb1 hb2
          go_wp2
          go_roundw
          case rel =>
            have g1 : g ≠ w1.heap.size + 1 := by omega
            have g2 : gp ≠ w1.heap.size + 1 := by omega
            have g3 : gq ≠ w1.heap.size + 1 := by omega
            have hv := HV3.out
            refine ⟨i + 1, by omega, by go_num, ?_, (HPP.out.kept hk3 (by show ¬ w1.heap.size = g; omega)).far (by show w1.heap.size ≠ w1.heap.size + 1; omega) _, Blk.cast ((HQQ.out.kept hk3 (by show ¬ w1.heap.size + 1 = g; omega)).set_ x _) HSET.out, (HKK.out.fresh hk3 (fun b e => by have e' : b = g := e; omega)).setCell (newHit (by omega)) _⟩
            rw [HNOW.out]
            exact ⟨hv.v.far g1 _, hv.p.far g2 _, hv.q.far g3 _⟩
          case measure => simp [intOf]; omega
        · have hi8 : i = 24 := by omega
          have hi8' : ¬ ((i : Int) < 24) := by omega
          have hQ : Blk wr (w1.heap.size + 1) 25 (arrF 6 (i64F fun e => (cnt (fun j => E (j % 8)) e 24 : Int))) := by rw [hi8] at hQ; exact hQ
          have hQ3 : Blk wr (w1.heap.size + 1) 25 (arrF 6 (i64F fun e => ((3 * cnt E e 8 : Nat) : Int))) := Blk.cast hQ (arrF_ext _ _ _ fun k _ => by
            show Value.int .i64 ((cnt (fun j => E (j % 8)) k 24 : Nat) : Int) = .int .i64 ((3 * cnt E k 8 : Nat) : Int)
            rw [HC.out k])
          have HP8 := Lib.hid hP
          have HQ8 := Lib.hid hQ3
          have HK8 := Lib.hid hK
          clear hV hP hQ hQ3 hK hi8 hi
          generalize (i : Int) = i24 at *
          go_wp2
          go_loopw [12] (fun iv wr => ∃ i : Nat, i ≤ 6 ∧ iv = .int .i64 i ∧ Blk wr w1.heap.size 25 (arrF 6 (i64F fun e => (cnt E e 8 : Int))) ∧
            Blk wr (w1.heap.size + 1) 25 (arrF 6 (i64F fun e => ((3 * cnt E e 8 : Nat) : Int))) ∧ Kept NoBlk w wr) (fun iv _ => 6 - (intOf iv).toNat)
          case atStart => exact ⟨0, by omega, rfl, HP8.out, HQ8.out, HK8.out⟩
          case round =>
            clear HP8 HQ8 HK8
            obtain ⟨i, hi, rfl, hP, hQ, hK⟩ := hrel
            by_cases hlt : i < 6
            · have c1 : wr.cell? ⟨w1.heap.size, i, none⟩ = some (.int .i64 (cnt E i 8 : Int)) := by rw [hP.cell, arrF_get _ _ _ hlt]; rfl
              have c2 : wr.cell? ⟨w1.heap.size + 1, i, none⟩ = some (.int .i64 (3 * (cnt E i 8 : Int))) := by rw [hQ.cell, arrF_get _ _ _ hlt]; rfl
              have hn := cnt_le E i 8
              have HPP := Lib.hid hP
              have HQQ := Lib.hid hQ
              have HKK := Lib.hid hK
              clear hP hQ hK
              generalize cnt E i 8 = c at *
              have h3 : IntKind.i64.wrap (3 * (c : Int)) = 3 * (c : Int) := by rw [IntKind.wrap_i64]; omega
              go_wp2
              go_quiet (fail)
              go_wp2
              go_roundw
              case rel => exact ⟨i + 1, by omega, by go_num, by repeat (with_reducible first | exact HPP.out | apply Blk.drew | apply Blk.drewN | apply Blk.alloc | apply Blk.set_), by repeat (with_reducible first | exact HQQ.out | apply Blk.drew | apply Blk.drewN | apply Blk.alloc | apply Blk.set_), by repeat (with_reducible first | exact HKK.out | apply Kept.drew | apply Kept.drewN)⟩
              case measure => simp [intOf]; omega
            · obtain rfl : i = 6 := by omega
              go_wp2
              go_ret
              exact ⟨rfl, hK⟩
end Go.Proofs.Ytjhngfbhppbcnaa
