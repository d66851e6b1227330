/- The pool: what holds of its states behind every deed. -/
import Derived.Test.YtfoeckaeongahaaDoorP8
namespace Go.Proofs.YtfoeckaeongahaaDoor
open Go.RowKit Go.Shelf
set_option maxRecDepth 100000

def cnt (t : Nat → Bool) (k : Nat) : Nat := (suchTo t k).length
theorem cnt_succ (t : Nat → Bool) (k : Nat) : cnt t (k + 1) = cnt t k + if t k = true then 1 else 0 := by
  unfold cnt
  rw [suchTo_succ, List.length_append]
  split <;> rfl
theorem cnt_congr {t t' : Nat → Bool} : ∀ k : Nat, (∀ j, j < k → t j = t' j) → cnt t k = cnt t' k
  | 0, _ => rfl
  | k + 1, h => by rw [cnt_succ, cnt_succ, cnt_congr k (fun j hj => h j (by omega)), h k (by omega)]
theorem cnt_set (t : Nat → Bool) (i : Nat) (h : t i = false) : ∀ k : Nat, cnt (upd t i true) k = cnt t k + if i < k then 1 else 0
  | 0 => rfl
  | k + 1 => by
    have ih := cnt_set t i h k
    rw [cnt_succ, cnt_succ, ih]
    have e : upd t i true k = if k = i then true else t k := rfl
    rw [e]
    by_cases hk : k = i
    · subst hk
      simp [h]
    · by_cases h2 : i < k
      · have h3 : i < k + 1 := by omega
        simp only [hk, h2, h3, if_true, if_false]
        omega
      · have h3 : ¬ i < k + 1 := by omega
        simp only [hk, h2, h3, if_false]
        omega
theorem cnt_clr (t : Nat → Bool) (i : Nat) (h : t i = true) : ∀ k : Nat, cnt (upd t i false) k + (if i < k then 1 else 0) = cnt t k
  | 0 => rfl
  | k + 1 => by
    have ih := cnt_clr t i h k
    rw [cnt_succ, cnt_succ, ← ih]
    have e : upd t i false k = if k = i then false else t k := rfl
    rw [e]
    by_cases hk : k = i
    · subst hk
      simp [h]
    · by_cases h2 : i < k
      · have h3 : i < k + 1 := by omega
        simp only [hk, h2, h3, if_true, if_false]
        omega
      · have h3 : ¬ i < k + 1 := by omega
        simp only [hk, h2, h3, if_false]
        omega
theorem cnt_le (t : Nat → Bool) (k : Nat) : cnt t k ≤ k := suchTo_le t k
/-- Behind n deeds. -/
structure Inv (n : Nat) (S : PSt) : Prop where
  own : ∀ i, S.own i < 64
  count : ∀ e, e < 6 → S.count e = (cnt (fun f => (S.own f).testBit e) 8 : Int)
  high : ∀ e, 6 ≤ e → S.count e = 0
  ev : S.ev.length ≤ n
theorem Inv.fit {n : Nat} {S : PSt} (h : Inv n S) (hn : n ≤ 1000000) : Fit S :=
  ⟨h.own, fun e => by
    by_cases he : e < 6
    · rw [h.count e he]
      have := cnt_le (fun f => (S.own f).testBit e) 8
      omega
    · rw [h.high e (by omega)]; omega, Nat.le_trans h.ev hn⟩
theorem Inv.more {n m : Nat} {S : PSt} (h : Inv n S) (hm : n ≤ m) : Inv m S := ⟨h.own, h.count, h.high, Nat.le_trans h.ev hm⟩
theorem bits_upd (own : Nat → Nat) (i m e : Nat) : (fun f => (upd own i m f).testBit e) = upd (fun f => (own f).testBit e) i (m.testBit e) := by
  funext f
  unfold upd
  split <;> rfl
theorem upd_self {α : Type} (g : Nat → α) (i : Nat) (v : α) (h : g i = v) : upd g i v = g := by
  funext k
  unfold upd
  split
  · rename_i e; rw [e, h]
  · rfl
theorem or_bit (m e k : Nat) (hm : m < 64) (he : e < 6) (hk : k < 6) : (m ||| 2 ^ e).testBit k = (decide (k = e) || m.testBit k) := (or_bit_ ⟨m, hm⟩ ⟨e, he⟩ ⟨k, hk⟩).1
theorem clr_bit (m e k : Nat) (hm : m < 64) (he : e < 6) (hk : k < 6) : (clr m e).testBit k = (!decide (k = e) && m.testBit k) := (or_bit_ ⟨m, hm⟩ ⟨e, he⟩ ⟨k, hk⟩).2
theorem Inv.give {n : Nat} {S : PSt} (h : Inv n S) (k : Int) (e i : Nat) (he : e < 6) (hi : i < 8) (hb : (S.own i).testBit e = false) : Inv (n + 1) (giveS S k e i) := by
  refine ⟨fun j => ?_, fun e' he' => ?_, fun e' he' => ?_, ?_⟩
  · show upd S.own i _ j < 64
    unfold upd
    split
    · exact (or_lt_ ⟨S.own i, h.own i⟩ ⟨e, he⟩).1
    · exact h.own j
  · show upd S.count e _ e' = _
    have e1 : (fun f => ((giveS S k e i).own f).testBit e') = upd (fun f => (S.own f).testBit e') i ((S.own i ||| 2 ^ e).testBit e') := bits_upd S.own i _ e'
    rw [e1, or_bit _ e e' (h.own i) he he']
    unfold upd
    by_cases hee : e' = e
    · subst hee
      rw [if_pos rfl, decide_eq_true rfl, Bool.true_or]
      have := cnt_set (fun f => (S.own f).testBit e') i hb 8
      rw [if_pos hi] at this
      rw [h.count e' he', show (fun k => if k = i then true else (S.own k).testBit e') = upd (fun f => (S.own f).testBit e') i true from rfl, this]
      omega
    · rw [if_neg hee, decide_eq_false hee, Bool.false_or]
      have := upd_self (fun f => (S.own f).testBit e') i ((S.own i).testBit e') rfl
      rw [show (fun k => if k = i then (S.own i).testBit e' else (S.own k).testBit e') = upd (fun f => (S.own f).testBit e') i ((S.own i).testBit e') from rfl, this]
      exact h.count e' he'
  · show upd S.count e _ e' = 0
    unfold upd
    rw [if_neg (by omega)]
    exact h.high e' he'
  · show (S.ev ++ _).length ≤ n + 1
    rw [List.length_append]
    have := h.ev
    simp
    omega
theorem Inv.guard {n : Nat} {S : PSt} (h : Inv n S) (gn : Nat → ByteArray) (gr : Nat → Int) : Inv n { S with gn := gn, gr := gr } := ⟨h.own, h.count, h.high, h.ev⟩
theorem Inv.takeS {n : Nat} {S : PSt} (h : Inv n S) (k : Int) (e i : Nat) (he : e < 6) (hi : i < 8) (hb : (S.own i).testBit e = true) : Inv (n + 1) (takeS S k e i) := by
  refine ⟨fun j => ?_, fun e' he' => ?_, fun e' he' => ?_, ?_⟩
  · show upd S.own i _ j < 64
    unfold upd
    split
    · exact (or_lt_ ⟨S.own i, h.own i⟩ ⟨e, he⟩).2.2
    · exact h.own j
  · show upd S.count e _ e' = _
    have e1 : (fun f => ((Go.Proofs.YtfoeckaeongahaaDoor.takeS S k e i).own f).testBit e') = upd (fun f => (S.own f).testBit e') i ((clr (S.own i) e).testBit e') := bits_upd S.own i _ e'
    rw [e1, clr_bit _ e e' (h.own i) he he']
    unfold upd
    by_cases hee : e' = e
    · subst hee
      rw [if_pos rfl, decide_eq_true rfl, Bool.not_true, Bool.false_and]
      have := cnt_clr (fun f => (S.own f).testBit e') i hb 8
      rw [if_pos hi] at this
      rw [h.count e' he', show (fun k => if k = i then false else (S.own k).testBit e') = upd (fun f => (S.own f).testBit e') i false from rfl]
      omega
    · rw [if_neg hee, decide_eq_false hee, Bool.not_false, Bool.true_and]
      have := upd_self (fun f => (S.own f).testBit e') i ((S.own i).testBit e') rfl
      rw [show (fun k => if k = i then (S.own i).testBit e' else (S.own k).testBit e') = upd (fun f => (S.own f).testBit e') i ((S.own i).testBit e') from rfl, this]
      exact h.count e' he'
  · show upd S.count e _ e' = 0
    unfold upd
    rw [if_neg (by omega)]
    exact h.high e' he'
  · show (S.ev ++ _).length ≤ n + 1
    rw [List.length_append]
    have := h.ev
    simp
    omega
theorem Inv.take {n : Nat} {S : PSt} (h : Inv n S) (k : Int) (e i : Nat) (he : e < 6) (hi : i < 8) (hb : (S.own i).testBit e = true) : Inv (n + 1) (takeT S k e i) := by
  unfold takeT
  split
  · exact (h.takeS k e i he hi hb).guard _ _
  · exact h.takeS k e i he hi hb
theorem Inv.giveT {n : Nat} {S : PSt} (h : Inv n S) (k : Int) (e i : Nat) (he : e < 6) (hi : i < 8) (hb : (S.own i).testBit e = false) : Inv (n + 1) (giveT S k e i) := by
  unfold Go.Proofs.YtfoeckaeongahaaDoor.giveT
  split
  · exact h.more (by omega)
  · exact h.give k e i he hi hb
theorem Inv.quota {n : Nat} {S : PSt} (h : Inv n S) (e : Nat) (q : Int) : Inv (n + 1) (quotaT S e q) := by
  unfold quotaT
  split
  · exact ⟨h.own, h.count, h.high, Nat.le_trans h.ev (by omega)⟩
  · exact h.more (by omega)
theorem Inv.grant {n : Nat} {S : PSt} (h : Inv n S) (e i : Nat) (nm : ByteArray) (r : Int) : Inv (n + 1) (grantT S e i nm r) := by
  unfold grantT
  split
  · rename_i hat
    split
    · split
      · rename_i h0
        split
        · exact h.more (by omega)
        · exact (h.give 1 e i hat.1 hat.2 (by rw [h0]; simp)).guard _ _
      · exact h.more (by omega)
    · exact h.more (by omega)
  · exact h.more (by omega)
theorem Inv.share {n : Nat} {S : PSt} (h : Inv n S) (f t i : Nat) : Inv (n + 1) (shareT S f t i) := by
  unfold shareT
  split
  · rename_i hat
    split
    · rename_i ht
      split
      · split
        · exact h.more (by omega)
        · rename_i hb
          exact h.giveT 2 t i ht hat.2 (by simpa using hb)
      · exact h.more (by omega)
    · exact h.more (by omega)
  · exact h.more (by omega)
theorem Inv.free {n : Nat} {S : PSt} (h : Inv n S) (e i : Nat) : Inv (n + 1) (freeT S e i) := by
  unfold freeT
  split
  · rename_i hat
    split
    · rename_i hb
      exact h.take 3 e i hat.1 hat.2 hb
    · exact h.more (by omega)
  · exact h.more (by omega)
theorem Inv.rep {n : Nat} {S : PSt} (h : Inv n S) (e i : Nat) : Inv (n + 1) (repT S e i) := by
  unfold repT
  split
  · rename_i hat
    split
    · rename_i hb
      split
      · exact h.more (by omega)
      · exact h.take 4 e i hat.1 hat.2 hb
    · exact h.more (by omega)
  · exact h.more (by omega)
theorem S0_inv : Inv 0 S0 := by
  refine ⟨fun _ => by show 0 < 64; omega, fun e _ => ?_, fun _ _ => rfl, Nat.le_refl _⟩
  show (0 : Int) = _
  have e1 : (fun f => (S0.own f).testBit e) = fun _ => false := by funext f; show (0 : Nat).testBit e = false; simp
  rw [e1]
  rfl
end Go.Proofs.YtfoeckaeongahaaDoor
