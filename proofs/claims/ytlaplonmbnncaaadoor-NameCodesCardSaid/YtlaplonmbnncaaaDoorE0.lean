/- Capabilities as bytes and as text: the plain laws. -/
import Derived.Test.YtlaplonmbnncaaaDoorR0
namespace Go.Proofs.YtlaplonmbnncaaaDoor
open Go.RowKit Go.Shelf
set_option maxRecDepth 100000

/-- A letter takes one byte or two, and none of them is a space. -/
theorem letter_shape32 (s : ByteArray) (pos : Nat) (h : pos < s.size) (hl : letterB (Utf8.decode s pos).1 = true) :
    1 ≤ (Utf8.decode s pos).2 ∧ (Utf8.decode s pos).2 ≤ 2 ∧ pos + (Utf8.decode s pos).2 ≤ s.size ∧ ∀ j, pos ≤ j → j < pos + (Utf8.decode s pos).2 → (s.data.toList.getD j 0).toNat ≠ 32 := by
  have hlen : s.data.toList.length = s.size := rfl
  rw [Lib.decode_N] at hl ⊢
  rw [hlen] at hl ⊢
  have hl' := of_decide_eq_true hl
  rcases Lib.decodeN_shape (s.size - pos) (s.data.toList.getD pos 0).toNat (s.data.toList.getD (pos + 1) 0).toNat (s.data.toList.getD (pos + 2) 0).toNat (s.data.toList.getD (pos + 3) 0).toNat with ⟨c, e⟩ | ⟨a1, a2, a3, av, e⟩ | ⟨a1, a2, a3, a4, av, aw, e⟩ | ⟨a1, a2, a3, a4, a5, av, aw, e⟩ | e
  · rw [e] at hl' ⊢
    simp only at hl' ⊢
    refine ⟨by omega, by omega, by omega, fun j h1 h2 => ?_⟩
    obtain rfl : j = pos := by omega
    omega
  · rw [e] at hl' ⊢
    simp only at hl' ⊢
    refine ⟨by omega, by omega, by omega, fun j h1 h2 => ?_⟩
    rcases (by omega : j = pos ∨ j = pos + 1) with rfl | rfl <;> omega
  · rw [e] at hl'
    simp only at hl'
    omega
  · rw [e] at hl'
    simp only at hl'
    omega
  · rw [e] at hl'
    simp only at hl'
    omega
theorem labG_facts32 (s : ByteArray) : ∀ f pos n, labG s f pos n = true → pos ≤ s.size → n ≤ 6 →
    s.size ≤ pos + 2 * (6 - n) ∧ (n = 0 → pos < s.size) ∧ ∀ j, pos ≤ j → j < s.size → (s.data.toList.getD j 0).toNat ≠ 32
  | 0, _, _, h, _, _ => by cases h
  | f + 1, pos, n, h, hp, hn => by
    unfold labG at h
    split at h
    · rename_i hlt
      split at h
      · rename_i hc
        obtain ⟨k1, k2, k3, k4⟩ := letter_shape32 s pos hlt hc.2
        obtain ⟨r1, r2, r3⟩ := labG_facts32 s f _ _ h k3 (by omega)
        refine ⟨by omega, fun _ => hlt, fun j h1 h2 => ?_⟩
        by_cases hj : j < pos + (Utf8.decode s pos).2
        · exact k4 j h1 hj
        · exact r3 j (by omega) h2
      · cases h
    · have := of_decide_eq_true h
      exact ⟨by omega, by omega, fun j h1 h2 => by omega⟩
theorem label_nospace (s : ByteArray) (h : label s = true) : (32 : UInt8) ∉ s.data.toList := by
  obtain ⟨h1, h2, h3⟩ := labG_facts32 s _ _ _ h (Nat.zero_le _) (by decide)
  intro hm
  obtain ⟨j, hj, e⟩ := List.getElem_of_mem hm
  refine h3 j (Nat.zero_le _) hj ?_
  rw [List.getD, List.getElem?_eq_getElem hj, e]
  rfl
theorem joinS_mem (c : UInt8) (hc : c ≠ 47) : ∀ ls : List (List UInt8), c ∈ joinS ls → ∃ p ∈ ls, c ∈ p
  | [], h => by cases h
  | [p], h => ⟨p, List.mem_cons_self .., h⟩
  | p :: q :: t, h => by
    have h' : c ∈ p ++ 47 :: joinS (q :: t) := h
    rcases List.mem_append.1 h' with h' | h'
    · exact ⟨p, List.mem_cons_self .., h'⟩
    · rcases List.mem_cons.1 h' with e | h'
      · exact absurd e hc
      · obtain ⟨x, hx, hcx⟩ := joinS_mem c hc (q :: t) h'
        exact ⟨x, List.mem_cons_of_mem _ hx, hcx⟩
theorem right_nospace {n : ByteArray} {r : Int} (h : rightB n r = true) : (32 : UInt8) ∉ n.data.toList := by
  unfold rightB at h
  rw [Bool.and_eq_true] at h
  obtain ⟨l, hl⟩ := Option.isSome_iff_exists.1 h.1
  have hn := nameOf_splitO n l hl
  have ha := (splitO_labels n l hl).1
  rw [← hn]
  unfold nameOf
  rw [mk_list]
  intro hm
  rcases List.mem_cons.1 hm with e | hm
  · exact absurd e (by decide)
  · obtain ⟨p, hp, hcp⟩ := joinS_mem 32 (by decide) _ hm
    obtain ⟨x, hx, rfl⟩ := List.mem_map.1 hp
    exact label_nospace x (List.all_eq_true.1 ha x hx) hcp
theorem cut_none32 (l : List UInt8) (h : (32 : UInt8) ∉ l) : Lib.cut l [32] = (l, [], false) := by
  unfold Lib.cut
  rw [Lib.index_one]
  have : Lib.indexByte l 32 = -1 := by
    induction l with
    | nil => rfl
    | cons c t ih =>
      have hc : (c == 32) = false := beq_eq_false_iff_ne.2 (fun e => h (by rw [e]; exact List.mem_cons_self ..))
      have := ih (fun k => h (List.mem_cons_of_mem _ k))
      simp [Lib.indexByte, hc, this]
  rw [this, if_neg (by decide)]
theorem indexByte_hit32 : ∀ a b : List UInt8, (32 : UInt8) ∉ a → Lib.indexByte (a ++ 32 :: b) 32 = a.length
  | [], b, _ => rfl
  | c :: t, b, h => by
    have hc : (c == 32) = false := beq_eq_false_iff_ne.2 (fun e => h (by rw [e]; exact List.mem_cons_self ..))
    have := indexByte_hit32 t b (fun k => h (List.mem_cons_of_mem _ k))
    rw [List.cons_append]
    unfold Lib.indexByte
    rw [this, if_neg (by simp [hc])]
    have h2 : ((t.length : Int) == -1) = false := beq_eq_false_iff_ne.2 (by omega)
    simp [h2]
theorem cut_hit32 (a b : List UInt8) (h : (32 : UInt8) ∉ a) : Lib.cut (a ++ 32 :: b) [32] = (a, b, true) := by
  unfold Lib.cut
  rw [Lib.index_one, indexByte_hit32 a b h, if_pos (by omega)]
  simp

/-- What stands before the first space, and what behind it. -/
def sp : List UInt8 → Option (List UInt8 × List UInt8)
  | [] => none
  | c :: t => if c = 32 then some ([], t) else (sp t).map fun p => (c :: p.1, p.2)
theorem sp_none : ∀ l : List UInt8, sp l = none → (32 : UInt8) ∉ l
  | [], _, h => by cases h
  | c :: t, e, h => by
    unfold sp at e
    split at e
    · cases e
    · rename_i hc
      rcases List.mem_cons.1 h with h | h
      · exact hc h.symm
      · exact sp_none t (Option.map_eq_none_iff.1 e) h
theorem sp_some : ∀ (l a b : List UInt8), sp l = some (a, b) → l = a ++ 32 :: b ∧ (32 : UInt8) ∉ a
  | [], _, _, h => by cases h
  | c :: t, a, b, e => by
    unfold sp at e
    split at e
    · rename_i hc
      cases e
      exact ⟨by rw [hc]; rfl, fun h => by cases h⟩
    · rename_i hc
      obtain ⟨⟨x, y⟩, h1, h2⟩ := Option.map_eq_some_iff.1 e
      cases h2
      obtain ⟨h3, h4⟩ := sp_some t x y h1
      refine ⟨by rw [h3]; rfl, fun h => ?_⟩
      rcases List.mem_cons.1 h with h | h
      · exact hc h.symm
      · exact h4 h
theorem sp_hit : ∀ (a b : List UInt8), (32 : UInt8) ∉ a → sp (a ++ 32 :: b) = some (a, b)
  | [], b, _ => rfl
  | c :: t, b, h => by
    rw [List.cons_append]
    unfold sp
    rw [if_neg (fun e => h (by rw [e]; exact List.mem_cons_self ..)), sp_hit t b (fun k => h (List.mem_cons_of_mem _ k))]
    rfl
theorem cut_sp (l : List UInt8) : Lib.cut l [32] = match sp l with
    | some (a, b) => (a, b, true)
    | none => (l, [], false) := by
  cases h : sp l with
  | none => exact cut_none32 l (sp_none l h)
  | some p =>
    obtain ⟨a, b⟩ := p
    obtain ⟨rfl, h2⟩ := sp_some l a b h
    exact cut_hit32 a b h2

/-! ### as text -/
def parP (s : ByteArray) : ByteArray × Int × Int := match sp s.data.toList with
  | some (a, b) => match readO (mk b) with
    | some q => if rightB (mk a) (q : Int) = true then (mk a, (q : Int), 0) else (⟨#[]⟩, 0, 3)
    | none => (⟨#[]⟩, 0, 3)
  | none => (⟨#[]⟩, 0, 3)
theorem par_print (n : ByteArray) (r : Nat) (h : rightB n (r : Int) = true) : parP (printP n r).1 = (n, (r : Int), 0) := by
  have hr := (rightB_parts h).2
  have e : (printP n r).1.data.toList = n.data.toList ++ 32 :: (rightsS r).data.toList := by
    unfold printP
    rw [if_pos h]
    simp
  unfold parP
  rw [e, sp_hit _ _ (right_nospace h)]
  simp only
  rw [mk_of, mk_of, said_read ⟨r, by omega⟩]
  simp only
  rw [if_pos h]
theorem print_par (s n : ByteArray) (r : Int) (h : parP s = (n, r, 0)) : 0 ≤ r ∧ r < 32 ∧ printP n r.toNat = (s, 0) := by
  unfold parP at h
  cases hs : sp s.data.toList with
  | none => rw [hs] at h; simp only [Prod.mk.injEq] at h; omega
  | some p =>
    obtain ⟨a, b⟩ := p
    rw [hs] at h
    simp only at h
    cases hq : readO (mk b) with
    | none => rw [hq] at h; simp only [Prod.mk.injEq] at h; omega
    | some q =>
      rw [hq] at h
      simp only at h
      obtain ⟨hq1, hq2⟩ := read_said _ _ hq
      by_cases hr : rightB (mk a) (q : Int) = true
      · rw [if_pos hr] at h
        simp only [Prod.mk.injEq] at h
        obtain ⟨rfl, rfl, -⟩ := h
        refine ⟨by omega, by omega, ?_⟩
        unfold printP
        rw [show ((q : Int)).toNat = q from rfl, if_pos hr, hq2]
        have e := (sp_some _ _ _ hs).1
        rw [← mk_of s, e, ← mk_of (mk a ++ ⟨#[32]⟩ ++ mk b)]
        simp [mk_list]
      · rw [if_neg hr] at h
        simp only [Prod.mk.injEq] at h
        omega
theorem print_size (n : ByteArray) (r : Nat) : (printP n r).1.size ≤ 85 := by
  unfold printP
  split
  · rename_i h
    have h1 := (rightB_parts h).1
    have h2 := rightsS_size r
    simp only [ByteArray.size_append]
    show n.size + 1 + (rightsS r).size ≤ 85
    omega
  · exact Nat.zero_le _

/-! ### as bytes -/
def encL (n : ByteArray) (r : Nat) : List UInt8 := UInt8.ofNat r :: UInt8.ofNat n.size :: n.data.toList
def decP (l : List UInt8) : ByteArray × Int × Int := match l with
  | a :: b :: t => if b.toNat = t.length ∧ rightB (mk t) (a.toNat : Int) = true then (mk t, (a.toNat : Int), 0) else (⟨#[]⟩, 0, 3)
  | _ => (⟨#[]⟩, 0, 3)
theorem dec_enc (n : ByteArray) (r : Nat) (h : rightB n (r : Int) = true) : decP (encL n r) = (n, (r : Int), 0) := by
  obtain ⟨h1, h2⟩ := rightB_parts h
  unfold decP encL
  have e1 : (UInt8.ofNat n.size).toNat = n.data.toList.length := by
    rw [UInt8.toNat_ofNat_of_lt' (by show n.size < 256; omega)]
    rfl
  have e2 : (UInt8.ofNat r).toNat = r := UInt8.toNat_ofNat_of_lt' (by show r < 256; omega)
  simp only
  rw [e2, mk_of, if_pos ⟨e1, h⟩]
theorem enc_dec (l : List UInt8) (n : ByteArray) (r : Int) (h : decP l = (n, r, 0)) : 0 ≤ r ∧ r < 32 ∧ rightB n r = true ∧ encL n r.toNat = l := by
  unfold decP at h
  split at h
  · rename_i a b t
    by_cases hc : b.toNat = t.length ∧ rightB (mk t) (a.toNat : Int) = true
    · rw [if_pos hc] at h
      simp only [Prod.mk.injEq] at h
      obtain ⟨rfl, rfl, -⟩ := h
      have := (rightB_parts hc.2).2
      refine ⟨by omega, by omega, hc.2, ?_⟩
      unfold encL
      rw [mk_list, mk_size, ← hc.1, show ((a.toNat : Int)).toNat = a.toNat from rfl, UInt8.ofNat_toNat, UInt8.ofNat_toNat]
    · rw [if_neg hc] at h
      simp only [Prod.mk.injEq] at h
      omega
  · simp only [Prod.mk.injEq] at h
    omega
theorem encL_length (n : ByteArray) (r : Nat) : (encL n r).length = n.size + 2 := rfl
end Go.Proofs.YtlaplonmbnncaaaDoor
