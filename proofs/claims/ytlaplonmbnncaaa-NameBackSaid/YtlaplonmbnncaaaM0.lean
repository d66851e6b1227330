/- What opens what: the plain laws. -/
import Derived.Test.YtlaplonmbnncaaaN10
namespace Go.Proofs.Ytlaplonmbnncaaa
open Go.RowKit Go.Shelf
set_option maxRecDepth 100000

def TrueKept (w : World) (e : Ending) (w' : World) : Prop := e = .returned (.bool true) ∧ Kept NoBlk w w'
theorem common_prefix : ∀ x y : List ByteArray, common x y = x.length ↔ ∃ t, y = x ++ t
  | [], y => ⟨fun _ => ⟨y, rfl⟩, fun _ => rfl⟩
  | a :: x, [] => ⟨fun h => (by unfold common at h; cases h), fun ⟨t, h⟩ => (by cases h)⟩
  | a :: x, b :: y => by
    have ih := common_prefix x y
    unfold common
    constructor
    · intro h
      split at h
      · rename_i he
        obtain ⟨t, rfl⟩ := ih.1 (by simpa using h)
        exact ⟨t, by rw [he]; rfl⟩
      · cases h
    · rintro ⟨t, h⟩
      injection h with h1 h2
      rw [if_pos h1.symm, ih.2 ⟨t, h2⟩]
      rfl
theorem above_iff (a b : ByteArray) : aboveB a b = true ↔ ∃ x t, splitO a = some x ∧ splitO b = some (x ++ t) := by
  unfold aboveB
  constructor
  · intro h
    split at h
    · rename_i x y hx hy
      obtain ⟨t, rfl⟩ := (common_prefix x y).1 (of_decide_eq_true h)
      exact ⟨x, t, hx, hy⟩
    · cases h
  · rintro ⟨x, t, hx, hy⟩
    rw [hx, hy]
    exact decide_eq_true ((common_prefix x _).2 ⟨t, rfl⟩)
theorem above_trans {a b c : ByteArray} (h : aboveB a b = true) (k : aboveB b c = true) : aboveB a c = true := by
  obtain ⟨x, t, hx, hy⟩ := (above_iff a b).1 h
  obtain ⟨y, u, hy', hz⟩ := (above_iff b c).1 k
  rw [hy] at hy'
  obtain rfl := Option.some.inj hy'
  exact (above_iff a c).2 ⟨x, t ++ u, hx, by rw [hz, List.append_assoc]⟩
def subN (a b : Nat) : Bool := decide (a / 1 % 2 ≤ b / 1 % 2 ∧ a / 2 % 2 ≤ b / 2 % 2 ∧ a / 4 % 2 ≤ b / 4 % 2 ∧ a / 8 % 2 ≤ b / 8 % 2 ∧ a / 16 % 2 ≤ b / 16 % 2)
theorem sub_bits : ∀ a b : Fin 32, (bits .andNot .u8 ((a.val : Nat) : Int) ((b.val : Nat) : Int) == 0) = subN a.val b.val := by decide +kernel
theorem sub_int (a b : Int) (a0 : 0 ≤ a) (a1 : a ≤ 31) (b0 : 0 ≤ b) (b1 : b ≤ 31) : (bits .andNot .u8 a b == 0) = subN a.toNat b.toNat := by
  obtain ⟨a, rfl⟩ := Int.eq_ofNat_of_zero_le a0
  obtain ⟨b, rfl⟩ := Int.eq_ofNat_of_zero_le b0
  exact sub_bits ⟨a, by omega⟩ ⟨b, by omega⟩
theorem sub_trans {a b c : Nat} (h : subN a b = true) (k : subN b c = true) : subN a c = true := by
  have h1 := of_decide_eq_true h
  have h2 := of_decide_eq_true k
  exact decide_eq_true ⟨by omega, by omega, by omega, by omega, by omega⟩
theorem sub_self (a : Nat) : subN a a = true := decide_eq_true ⟨by omega, by omega, by omega, by omega, by omega⟩
theorem opens_iff (n : ByteArray) (r : Int) (n' : ByteArray) (r' : Int) (h0 : 0 ≤ r) (h0' : 0 ≤ r') : opensB n r n' r' = true ↔ rightB n r = true ∧ rightB n' r' = true ∧ subN r'.toNat r.toNat = true ∧ aboveB n n' = true := by
  unfold opensB
  rw [Bool.and_eq_true, Bool.and_eq_true, Bool.and_eq_true]
  constructor
  · rintro ⟨⟨⟨h1, h2⟩, h3⟩, h4⟩
    rw [sub_int r' r h0' (rightB_parts h2).2 h0 (rightB_parts h1).2] at h3
    exact ⟨h1, h2, h3, h4⟩
  · rintro ⟨h1, h2, h3, h4⟩
    rw [sub_int r' r h0' (rightB_parts h2).2 h0 (rightB_parts h1).2]
    exact ⟨⟨⟨h1, h2⟩, h3⟩, h4⟩
theorem opens_trans {n n' n'' : ByteArray} {r r' r'' : Int} (h0 : 0 ≤ r) (h0' : 0 ≤ r') (h0'' : 0 ≤ r'') (h : opensB n r n' r' = true) (k : opensB n' r' n'' r'' = true) : opensB n r n'' r'' = true := by
  obtain ⟨h1, -, h3, h4⟩ := (opens_iff _ _ _ _ h0 h0').1 h
  obtain ⟨-, k2, k3, k4⟩ := (opens_iff _ _ _ _ h0' h0'').1 k
  exact (opens_iff _ _ _ _ h0 h0'').2 ⟨h1, k2, sub_trans k3 h3, above_trans h4 k4⟩
theorem opens_self (n : ByteArray) (r : Int) (h0 : 0 ≤ r) : opensB n r n r = rightB n r := by
  cases hb : rightB n r with
  | true =>
    refine (opens_iff _ _ _ _ h0 h0).2 ⟨hb, hb, sub_self _, ?_⟩
    unfold rightB at hb
    rw [Bool.and_eq_true] at hb
    obtain ⟨l, hl⟩ := Option.isSome_iff_exists.1 hb.1
    exact (above_iff n n).2 ⟨l, [], hl, by rw [List.append_nil]; exact hl⟩
  | false =>
    unfold opensB
    rw [hb]
    rfl

end Go.Proofs.Ytlaplonmbnncaaa
