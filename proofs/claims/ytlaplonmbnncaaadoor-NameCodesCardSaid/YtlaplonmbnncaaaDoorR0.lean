/- Rights as letters, and back: the plain laws. -/
import Derived.Test.YtlaplonmbnncaaaDoorN10
namespace Go.Proofs.YtlaplonmbnncaaaDoor
open Go.RowKit Go.Shelf
set_option maxRecDepth 100000

/-- Which right a rune stands for; 5: none. -/
def idxL (c : Nat) : Nat := if c = 114 then 0 else if c = 119 then 1 else if c = 120 then 2 else if c = 103 then 3 else if c = 100 then 4 else 5
def scanL : List UInt8 → Nat → Nat → Option Nat
  | [], _, r => if r = 0 then none else some r
  | b :: t, j, r => if j ≤ idxL b.toNat ∧ idxL b.toNat < 5 then scanL t (idxL b.toNat + 1) (r + 2 ^ idxL b.toNat) else none
def readO (s : ByteArray) : Option Nat := if s.data.toList = [45] then some 0 else scanL s.data.toList 0 0
/-- All that letters from the (5 - f)-th on may say. -/
def allF : Nat → List (List UInt8 × Nat)
  | 0 => [([], 0)]
  | f + 1 => allF f ++ (allF f).map (fun p => (letterN (4 - f) :: p.1, 2 ^ (4 - f) + p.2))
theorem allF_mono (f g : Nat) (h : f ≤ g) (p : List UInt8 × Nat) (hp : p ∈ allF f) : p ∈ allF g := by
  induction g with
  | zero => obtain rfl : f = 0 := by omega
            exact hp
  | succ g ih =>
    by_cases e : f = g + 1
    · rw [← e]
      exact hp
    · unfold allF
      exact List.mem_append_left _ (ih (by omega))
theorem letter_idx (b : UInt8) (h : idxL b.toNat < 5) : b = letterN (idxL b.toNat) := by
  have e : ∀ n : Nat, b.toNat = n → ∀ c : UInt8, c.toNat = n → b = c := fun n h1 c h2 => UInt8.toNat_inj.1 (by omega)
  unfold idxL at h ⊢
  by_cases h1 : b.toNat = 114
  · rw [if_pos h1]; exact e _ h1 _ rfl
  rw [if_neg h1] at h ⊢
  by_cases h2 : b.toNat = 119
  · rw [if_pos h2]; exact e _ h2 _ rfl
  rw [if_neg h2] at h ⊢
  by_cases h3 : b.toNat = 120
  · rw [if_pos h3]; exact e _ h3 _ rfl
  rw [if_neg h3] at h ⊢
  by_cases h4 : b.toNat = 103
  · rw [if_pos h4]; exact e _ h4 _ rfl
  rw [if_neg h4] at h ⊢
  by_cases h5 : b.toNat = 100
  · rw [if_pos h5]; exact e _ h5 _ rfl
  rw [if_neg h5] at h
  omega
theorem scan_all : ∀ (l : List UInt8) (j r q : Nat), j ≤ 5 → scanL l j r = some q → q ≠ 0 ∧ ∃ m, (l, m) ∈ allF (5 - j) ∧ q = r + m
  | [], j, r, q, hj, h => by
    unfold scanL at h
    split at h
    · cases h
    · rename_i hr
      obtain rfl := Option.some.inj h
      exact ⟨hr, 0, allF_mono 0 _ (Nat.zero_le _) _ (by unfold allF; exact List.mem_singleton.2 rfl), rfl⟩
  | b :: t, j, r, q, hj, h => by
    unfold scanL at h
    split at h
    · rename_i hc
      obtain ⟨h1, m, hm, rfl⟩ := scan_all t _ _ q (by omega) h
      refine ⟨h1, 2 ^ idxL b.toNat + m, allF_mono (5 - idxL b.toNat) _ (by omega) _ ?_, by omega⟩
      have e : 5 - idxL b.toNat = (4 - idxL b.toNat) + 1 := by omega
      rw [e]
      unfold allF
      refine List.mem_append_right _ (List.mem_map.2 ⟨(t, m), ?_, ?_⟩)
      · rw [show 4 - idxL b.toNat = 5 - (idxL b.toNat + 1) by omega]
        exact hm
      · rw [show 4 - (4 - idxL b.toNat) = idxL b.toNat by omega, ← letter_idx b hc.2]
    · cases h
theorem all_said : ∀ p ∈ allF 5, p.2 < 32 ∧ p.1 = rightsTo p.2 5 := by decide +kernel
theorem said_read : ∀ r : Fin 32, readO (rightsS r.val) = some r.val := by decide +kernel
/-- What is read was written so. -/
theorem read_said (s : ByteArray) (q : Nat) (h : readO s = some q) : q < 32 ∧ rightsS q = s := by
  unfold readO at h
  split at h
  · rename_i hs
    obtain rfl := Option.some.inj h
    refine ⟨by decide, ?_⟩
    rw [← mk_of s, hs]
    rfl
  · obtain ⟨h1, m, hm, rfl⟩ := scan_all _ 0 0 q (by omega) h
    obtain ⟨h2, h3⟩ := all_said _ hm
    simp only at h2 h3
    rw [Nat.zero_add] at h1 ⊢
    refine ⟨h2, ?_⟩
    unfold rightsS
    have h4 : rightsTo m 5 ≠ [] := fun e => by
      rw [e] at h3
      rw [h3] at hm
      have : ∀ p ∈ allF 5, p.1 = [] → p.2 = 0 := by decide +kernel
      exact h1 (this _ hm rfl)
    rw [if_neg h4, ← h3, mk_of]
def readP (s : ByteArray) : Int × Int := match readO s with
  | some q => ((q : Int), 0)
  | none => (0, 3)
theorem scanL_step (l : List UInt8) (pos j r : Nat) (h : pos < l.length) : scanL (l.drop pos) j r = if j ≤ idxL (l[pos]).toNat ∧ idxL (l[pos]).toNat < 5 then scanL (l.drop (pos + 1)) (idxL (l[pos]).toNat + 1) (r + 2 ^ idxL (l[pos]).toNat) else none := by
  rw [List.drop_eq_getElem_cons h]
  rfl
theorem or_bits : ∀ k : Fin 5, ∀ r : Fin 32, r.val < 2 ^ k.val → bits .or .u8 ((r.val : Nat) : Int) ((2 ^ k.val : Nat) : Int) = ((r.val + 2 ^ k.val : Nat) : Int) := by decide +kernel
theorem or_nat (k r : Nat) (hk : k < 5) (hr : r < 2 ^ k) : bits .or .u8 (r : Int) ((2 ^ k : Nat) : Int) = ((r + 2 ^ k : Nat) : Int) := by
  have h32 : r < 32 := by
    rcases (by omega : k = 0 ∨ k = 1 ∨ k = 2 ∨ k = 3 ∨ k = 4) with rfl | rfl | rfl | rfl | rfl <;> omega
  exact or_bits ⟨k, hk⟩ ⟨r, h32⟩ hr
end Go.Proofs.YtlaplonmbnncaaaDoor
