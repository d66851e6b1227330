/- What a text says: the program's and the document's reading of a quoted character are one (plain). -/
import Derived.Test.YtkdojdcfakjjfaaDoorP7
import Derived.Lib.MapLaws
namespace Go.Lib
set_option maxRecDepth 100000 in
set_option maxHeartbeats 2000000 in
theorem decodeN_less (n n' b0 b1 b2 b3 c1 c2 c3 : Nat) (hn : 2 ≤ n) (hnn : n ≤ n') (hw : (decodeN n' b0 b1 b2 b3).2 = n)
    (e1 : 1 < n → c1 = b1) (e2 : 2 < n → c2 = b2) (e3 : 3 < n → c3 = b3) : decodeN n b0 c1 c2 c3 = decodeN n' b0 b1 b2 b3 := by
  rcases decodeN_shape n' b0 b1 b2 b3 with ⟨c, e⟩ | ⟨a1, a2, a3, av, e⟩ | ⟨a1, a2, a3, a4, av, aw, e⟩ | ⟨a1, a2, a3, a4, a5, av, aw, e⟩ | e
  · rw [e] at hw; simp only at hw; omega
  · rw [e] at hw ⊢
    simp only at hw
    subst hw
    have E1 := e1 (by omega)
    subst E1
    unfold decodeN
    rw [if_neg (by omega), if_pos ⟨a1, by omega, a3⟩, if_pos av]
  · rw [e] at hw ⊢
    simp only at hw
    subst hw
    have E1 := e1 (by omega)
    have E2 := e2 (by omega)
    subst E1 E2
    unfold decodeN
    rw [if_neg (by omega), if_neg (by omega), if_pos ⟨a1, ⟨by omega, a3⟩, by omega, a4⟩, if_pos ⟨av, by omega⟩]
  · rw [e] at hw ⊢
    simp only at hw
    subst hw
    have E1 := e1 (by omega)
    have E2 := e2 (by omega)
    have E3 := e3 (by omega)
    subst E1 E2 E3
    unfold decodeN
    rw [if_neg (by omega), if_neg (by omega), if_neg (by omega), if_pos ⟨a1, ⟨by omega, a3⟩, ⟨by omega, a4⟩, by omega, a5⟩, if_pos ⟨av, by omega⟩]
  · rw [e] at hw; simp only at hw; omega
/-- A character with a quote behind it: filling its bytes it is one either way. -/
theorem decodeN_quote (m i0 i1 i2 i3 t1 t2 t3 : Nat) (hm : 1 ≤ m) (e1 : 1 < m → i1 = t1) (e2 : 2 < m → i2 = t2) (e3 : 3 < m → i3 = t3) (q : m = 1 → t1 = 39)
    (h : (decodeN m i0 i1 i2 i3).2 = m ∨ (decodeN (m + 1) i0 t1 t2 t3).2 = m) : decodeN m i0 i1 i2 i3 = decodeN (m + 1) i0 t1 t2 t3 := by
  by_cases h1 : m = 1
  · subst h1
    have hq := q rfl
    subst hq
    by_cases ha : i0 < 128
    · rw [decodeN_ascii _ _ _ _ _ ha, decodeN_ascii _ _ _ _ _ ha]
    · rw [decodeN_alone _ _ _ _ _ (by omega) (.inl (by omega)), decodeN_alone _ _ _ _ _ (by omega) (.inr (by decide))]
  · rcases h with h | h
    · exact (decodeN_more m (m + 1) i0 i1 i2 i3 t1 t2 t3 (by omega) (by omega) h (fun k => (e1 k).symm) (fun k => (e2 k).symm) (fun k => (e3 k).symm)).symm
    · exact decodeN_less m (m + 1) i0 t1 t2 t3 i1 i2 i3 (by omega) (by omega) h e1 e2 e3
theorem width_four (n b0 b1 b2 b3 : Nat) : (decodeN n b0 b1 b2 b3).2 ≤ 4 := by
  rcases decodeN_shape n b0 b1 b2 b3 with ⟨c, e⟩ | ⟨a1, a2, a3, av, e⟩ | ⟨a1, a2, a3, a4, av, aw, e⟩ | ⟨a1, a2, a3, a4, a5, av, aw, e⟩ | e <;> rw [e] <;> simp
/-- One rune: it fills the text. -/
theorem runeCount_one (s : ByteArray) (h : 1 ≤ s.size) (hle : (Utf8.decode s 0).2 ≤ s.size) : runeCount s = 1 ↔ (Utf8.decode s 0).2 = s.size := by
  have hp := width_pos s 0
  unfold runeCount
  obtain ⟨k, hk⟩ : ∃ k, s.size = k + 1 := ⟨s.size - 1, by omega⟩
  rw [hk]
  unfold runeCountFrom
  rw [if_pos (by omega), Nat.zero_add]
  constructor
  · intro h1
    apply Classical.byContradiction
    intro hn
    obtain ⟨j, rfl⟩ : ∃ j, k = j + 1 := ⟨k - 1, by omega⟩
    unfold runeCountFrom at h1
    rw [if_pos (by omega)] at h1
    omega
  · intro h1
    rw [runeCountFrom_end s k _ (by omega)]
theorem validD_one (l : List UInt8) (h : 1 ≤ l.length) (hw : (decodeL l).2 = l.length) : validD l = false ↔ (decodeL l).1 = 65533 ∧ (decodeL l).2 = 1 := by
  unfold validD
  obtain ⟨k, hk⟩ : ∃ k, l.length = k + 1 := ⟨l.length - 1, by omega⟩
  rw [hk]
  unfold validGoD
  rw [if_neg (by intro e; subst e; simp at h)]
  split
  · rename_i hc
    exact Iff.intro (fun _ => hc) (fun _ => rfl)
  · rename_i hc
    rw [List.drop_eq_nil_of_le (by omega), validGoD_nil]
    exact Iff.intro (fun e => by cases e) (fun e => absurd e hc)
end Go.Lib
namespace Go.Proofs.YtkdojdcfakjjfaaDoor
open Go.RowKit
set_option maxRecDepth 100000

theorem inner_list (s : ByteArray) (h : 2 ≤ s.size) : (inner s).data.toList = (s.data.toList.drop 1).take (s.size - 2) := by
  unfold inner
  rw [ByteArray.data_extract, Array.toList_extract]
  show (s.data.toList.drop 1).take (s.size - 1 - 1) = _
  rw [show s.size - 1 - 1 = s.size - 2 by omega]
theorem inner_size (s : ByteArray) (h : 2 ≤ s.size) : (inner s).size = s.size - 2 := by unfold inner; rw [ByteArray.size_extract]; omega
theorem quo_eq (s : ByteArray) : quoP s = quoR s := by
  unfold quoP quoR
  by_cases h3 : s.size < 3
  · rw [if_pos (.inl h3), if_pos (.inl h3)]
  by_cases hL : bL s = 39
  case neg => rw [if_pos (.inr (.inl hL)), if_pos (.inr (.inr hL))]
  have hz := inner_size s (by omega)
  have hD : Lib.decodeL (inner s).data.toList = Utf8.decode (inner s) 0 := by
    have := Lib.decodeL_drop (inner s) 0
    rwa [List.drop_zero] at this
  have hE : Lib.decodeGo (s.extract 1 s.size) = Utf8.decode s 1 := by
    have h1 := Lib.decodeL_drop (s.extract 1 s.size) 0
    have h2 := Lib.decodeL_drop s 1
    rw [List.drop_zero, tail_list] at h1
    unfold Lib.decodeGo
    rw [if_neg (by rw [tail_size]; omega), ← h1, h2]
  have hQ : ((Utf8.decode (inner s) 0).2 = s.size - 2 ∨ (Utf8.decode s 1).2 = s.size - 2) → Utf8.decode (inner s) 0 = Utf8.decode s 1 := by
    rw [Lib.decode_N (inner s) 0, Lib.decode_N s 1, inner_list s (by omega)]
    have hlen : s.data.toList.length = s.size := rfl
    have hlen' : ((s.data.toList.drop 1).take (s.size - 2)).length = s.size - 2 := by rw [List.length_take, List.length_drop, hlen]; omega
    rw [hlen', hlen, show s.size - 1 = s.size - 2 + 1 by omega, Nat.sub_zero]
    have G : ∀ k, k < s.size - 2 → ((s.data.toList.drop 1).take (s.size - 2)).getD (0 + k) 0 = s.data.toList.getD (1 + k) 0 := fun k hk => by rw [Nat.zero_add, Lib.getD_takeU _ _ _ hk, Lib.getD_dropU]
    have G0 := G 0 (by omega)
    rw [Nat.add_zero, Nat.add_zero] at G0
    rw [G0]
    refine Lib.decodeN_quote (s.size - 2) _ _ _ _ _ _ _ (by omega) (fun k => by rw [G 1 k]) (fun k => by rw [G 2 k]) (fun k => by rw [G 3 k]) (fun k => ?_)
    unfold bL at hL
    rw [show s.size - 1 = 1 + 1 by omega] at hL
    omega
  have h4 : (Utf8.decode (inner s) 0).2 ≤ 4 := by rw [Lib.decode_N]; exact Lib.width_four _ _ _ _ _
  have hlD : (Utf8.decode (inner s) 0).2 ≤ (inner s).size := by
    rw [← hD]
    exact Lib.decodeL_le _ (by intro e; have h5 : (inner s).data.toList.length = (inner s).size := rfl; rw [e] at h5; have h6 : (0 : Nat) = (inner s).size := h5; omega)
  have hR := Lib.runeCount_one (inner s) (by omega) hlD
  have hV := fun e => Lib.validD_one (inner s).data.toList (show 1 ≤ (inner s).size by omega) e
  rw [hD] at hV
  rw [hE]
  by_cases hw : (Utf8.decode (inner s) 0).2 = s.size - 2
  · have hq := hQ (.inl hw)
    have hv := hV (by rw [hw, ← hz]; rfl)
    rw [← hq]
    by_cases hb : (Utf8.decode (inner s) 0).1 = 65533 ∧ (Utf8.decode (inner s) 0).2 = 1
    · rw [if_pos (.inr (.inr (.inl (hv.2 hb)))), if_neg (by rintro (h | h | h); exact h3 h; omega; exact h hL), if_pos (.inr hb)]
    · rw [if_neg (by rintro (h | h | h | h); exact h3 h; exact h hL; exact hb (hv.1 h); exact h (hR.2 (by omega))), if_neg (by rintro (h | h | h); exact h3 h; omega; exact h hL), if_neg (by rintro (h | h); omega; exact hb h)]
  · rw [if_pos (.inr (.inr (.inr (fun h => hw (by have := hR.1 h; omega)))))]
    by_cases h6 : 6 < s.size
    · rw [if_pos (.inr (.inl h6))]
    · have hne : ((Utf8.decode s 1).2 : Int) ≠ (s.size : Int) - 2 := fun h => by
        have he : (Utf8.decode s 1).2 = s.size - 2 := by omega
        have := hQ (.inr he)
        exact hw (by rw [this]; exact he)
      rw [if_neg (by rintro (h | h | h); exact h3 h; exact h6 h; exact h hL), if_pos (.inl hne)]
end Go.Proofs.YtkdojdcfakjjfaaDoor
