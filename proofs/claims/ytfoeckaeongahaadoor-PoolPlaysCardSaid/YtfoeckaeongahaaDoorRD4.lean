/- The reference's Split. -/
import Derived.Test.YtfoeckaeongahaaDoorRD1
namespace Go.Proofs.YtfoeckaeongahaaDoor
open Go.RowKit Go.Shelf
set_option maxRecDepth 100000

theorem pieces_snoc_slash : ∀ l : List UInt8, pieces (l ++ [47]) = pieces l ++ [[]]
  | [] => rfl
  | c :: t => by
    have ih := pieces_snoc_slash t
    rw [List.cons_append]
    conv => lhs; unfold pieces
    conv => rhs; unfold pieces
    rw [ih]
    split
    · rfl
    · cases hp : pieces t with
      | nil => exact absurd hp (pieces_ne t)
      | cons a r => rfl
theorem pieces_snoc (b : UInt8) (hb : b ≠ 47) : ∀ l : List UInt8, ∃ r q, pieces l = r ++ [q] ∧ pieces (l ++ [b]) = r ++ [q ++ [b]]
  | [] => ⟨[], [], rfl, by rw [List.nil_append]; unfold pieces; rw [if_neg hb]; rfl⟩
  | c :: t => by
    obtain ⟨r, q, h1, h2⟩ := pieces_snoc b hb t
    rw [List.cons_append]
    by_cases hc : c = 47
    · refine ⟨[] :: r, q, ?_, ?_⟩
      · conv => lhs; unfold pieces
        rw [if_pos hc, h1]
        rfl
      · conv => lhs; unfold pieces
        rw [if_pos hc, h2]
        rfl
    · cases r with
      | nil =>
        refine ⟨[], c :: q, ?_, ?_⟩
        · conv => lhs; unfold pieces
          rw [if_neg hc, h1]
          rfl
        · conv => lhs; unfold pieces
          rw [if_neg hc, h2]
          rfl
      | cons a r =>
        refine ⟨(c :: a) :: r, q, ?_, ?_⟩
        · conv => lhs; unfold pieces
          rw [if_neg hc, h1]
          rfl
        · conv => lhs; unfold pieces
          rw [if_neg hc, h2]
          rfl
theorem pieces_len : ∀ l : List UInt8, (pieces l).length ≤ l.length + 1 ∧ ∀ p ∈ pieces l, p.length ≤ l.length
  | [] => ⟨Nat.le_refl _, fun p hp => by rw [List.mem_singleton.1 hp]; exact Nat.le_refl _⟩
  | c :: t => by
    obtain ⟨h1, h2⟩ := pieces_len t
    unfold pieces
    cases hp : pieces t with
    | nil => exact absurd hp (pieces_ne t)
    | cons a r =>
      rw [hp] at h1 h2
      have ha := h2 a (List.mem_cons_self ..)
      simp only [List.length_cons] at h1 ⊢
      split
      · refine ⟨by simp only [List.length_cons]; omega, fun p h => ?_⟩
        rcases List.mem_cons.1 h with rfl | h
        · simp
        · have := h2 p h
          omega
      · refine ⟨by simp only [List.headD_cons, List.tail_cons, List.length_cons]; omega, fun p h => ?_⟩
        rcases List.mem_cons.1 h with rfl | h
        · simp only [List.headD_cons, List.length_cons]; omega
        · have := h2 p (List.mem_cons_of_mem _ h)
          omega
/-- What the bytes so far say. -/
def partP (l : List UInt8) : Nat → List (List UInt8)
  | 0 => []
  | i + 1 => pieces ((l.drop 1).take i)
theorem own_set {W : World} {base g n cap j : Nat} {xs : List Value} {u : Value} (h : W.ownsRow base 9 1 (.slice (some ⟨g, 0, none⟩) n cap) n xs) : (W.setCell ⟨g, j, none⟩ u).ownsRow base 9 1 (.slice (some ⟨g, 0, none⟩) n cap) n (xs.set j u) := by
  obtain ⟨hl, ⟨h0, -⟩ | ⟨g', cap', cur, hv, hb, hgg, hn, hm, hs, ht⟩⟩ := h
  · cases h0
  · injection hv with hv _ hc
    injection hv with hv
    injection hv with hv
    subst hv hc
    refine ⟨by rw [List.length_set]; exact hl, .inr ⟨g, cap, cur.setIfInBounds j u, rfl, hb, Blk.set_ hgg j u, hn, hm, by rw [Array.size_setIfInBounds]; exact hs, ?_⟩⟩
    rw [← ht, Array.toList_setIfInBounds, List.take_set]
theorem own_place {W : World} {base n : Nat} {v : Value} {xs : List Value} (h : W.ownsRow base 9 1 v n xs) (hn : 0 < n) : ∃ g cap, v = .slice (some ⟨g, 0, none⟩) n cap ∧ base ≤ g ∧ g < W.heap.size ∧ (∃ cs, Blk W g 9 cs) ∧ ∀ j u, xs[j]? = some u → W.cell? ⟨g, j, none⟩ = some u := by
  obtain ⟨hl, ⟨-, h0⟩ | ⟨g, cap, cur, rfl, hb, hgg, hc, hm, hs, ht⟩⟩ := h
  · omega
  · have hB : Blk W g 9 cur := hgg
    refine ⟨g, cap, rfl, hb, hB.lt, ⟨cur, hB⟩, fun j u hu => ?_⟩
    rw [hB.cell, ← Array.getElem?_toList]
    rw [← ht, List.getElem?_take] at hu
    split at hu
    · exact hu
    · cases hu
theorem sl_one (w : World) (s : ByteArray) (i : Nat) (h : i < s.size) : (Instr.slice 9 (.string s) (some (.int .i64 (i : Int))) (some (.int .i64 ((i : Int) + 1))) none).run Tryd.prog w = .ok (.string (mk [s[i]'h])) w := by
  rw [run_slice_string (P := Tryd.prog) w 9 s .i64 .i64 (i : Int) ((i : Int) + 1) Tryd.underlying9 (by omega) (by omega) (by omega)]
  rw [show ((i : Int) + 1).toNat = i + 1 by omega, show ((i : Int)).toNat = i by omega]
  have : s.extract i (i + 1) = mk [s[i]'h] := by
    rw [Lib.extract_eq, show i + 1 - i = 1 by omega, List.drop_eq_getElem_cons (show i < s.data.toList.length from h)]
    rfl
  rw [this]
theorem idx_at (w : World) (s : ByteArray) (j : Nat) (h : j < s.size) : (Instr.index 9 (.string s) (.int .i64 (j : Int))).run Tryd.prog w = .ok (.int .u8 (s[j]'h).toNat) w := by
  rw [run_index_string (P := Tryd.prog) w 9 s .i64 j Tryd.underlying9, dif_pos (by omega)]
  rfl
theorem part_step (s : ByteArray) (i : Nat) (h : i < s.size) (h47 : s.data.toList.head? = some 47) :
    ((s[i]'h) = 47 → partP s.data.toList (i + 1) = partP s.data.toList i ++ [[]]) ∧ ((s[i]'h) ≠ 47 → ∃ r q, partP s.data.toList i = r ++ [q] ∧ partP s.data.toList (i + 1) = r ++ [q ++ [s[i]'h]]) := by
  have hi : i < s.data.toList.length := h
  have hg : s.data.toList[i] = s[i]'h := rfl
  cases i with
  | zero =>
    have h0 : (s[0]'h) = 47 := by
      cases hs : s.data.toList with
      | nil => rw [hs] at h47; cases h47
      | cons c t =>
        rw [hs] at h47
        have : s.data.toList[0] = c := by simp [hs]
        rw [← hg, this]
        exact Option.some.inj h47
    refine ⟨fun _ => ?_, fun hn => absurd h0 hn⟩
    rfl
  | succ i =>
    have ht : (s.data.toList.drop 1).take (i + 1) = (s.data.toList.drop 1).take i ++ [s[i + 1]'h] := by
      rw [List.take_succ_eq_append_getElem (by rw [List.length_drop]; omega)]
      congr 2
      rw [List.getElem_drop, ← hg]
      congr 1
      omega
    constructor
    · intro he
      show pieces ((s.data.toList.drop 1).take (i + 1)) = pieces ((s.data.toList.drop 1).take i) ++ [[]]
      rw [ht, he, pieces_snoc_slash]
    · intro hne
      obtain ⟨r, q, h1, h2⟩ := pieces_snoc _ hne ((s.data.toList.drop 1).take i)
      exact ⟨r, q, h1, by show pieces ((s.data.toList.drop 1).take (i + 1)) = _; rw [ht]; exact h2⟩
theorem part_len (l : List UInt8) (i : Nat) : (partP l i).length ≤ i ∧ ∀ p ∈ partP l i, p.length ≤ i := by
  cases i with
  | zero => exact ⟨Nat.le_refl _, fun p hp => by cases hp⟩
  | succ i =>
    obtain ⟨h1, h2⟩ := pieces_len ((l.drop 1).take i)
    have h3 : ((l.drop 1).take i).length ≤ i := by rw [List.length_take]; omega
    exact ⟨by show (pieces _).length ≤ _; omega, fun p hp => by have := h2 p hp; omega⟩
theorem Tryd.szS : (Tryd.prog.info? 9).map (fun i => (i.zero.map (·.cells.size), i.size, i.bytes)) = some (some 1, 1, 16) := by kernel_rfl
theorem mk_append2 (l k : List UInt8) : mk l ++ mk k = mk (l ++ k) := by
  rw [← mk_of (mk l ++ mk k)]
  congr 1
theorem strV_at (l : List ByteArray) (k : Nat) (h : k < l.length) : (strV l)[k]? = some (.string l[k]) := by
  unfold strV
  rw [List.getElem?_map, List.getElem?_eq_getElem h]
  rfl
end Go.Proofs.YtfoeckaeongahaaDoor
