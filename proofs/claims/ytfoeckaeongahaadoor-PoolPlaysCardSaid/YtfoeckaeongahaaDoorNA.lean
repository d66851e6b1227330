/- Names as plain lists: labels, what stands between slashes, what is split, what is joined. No program in sight. -/
import Derived.Test.YtfoeckaeongahaaDoorBase
import Derived.Lib.MapLaws
import Derived.Lib.IndexMore
import Derived.Lib.Join
namespace Go.Proofs.YtfoeckaeongahaaDoor
open Go.RowKit

/-- May a rune stand in a label? -/
def letterB (r : Nat) : Bool := decide ((97 ≤ r ∧ r ≤ 122) ∨ (48 ≤ r ∧ r ≤ 57) ∨ (945 ≤ r ∧ r ≤ 969))
def labG (s : ByteArray) : Nat → Nat → Nat → Bool
  | 0, _, _ => false
  | f + 1, pos, n => if pos < s.size then (if n < 6 ∧ letterB (Utf8.decode s pos).1 = true then labG s f (pos + (Utf8.decode s pos).2) (n + 1) else false) else decide (0 < n)
/-- May a text be a label? -/
def label (s : ByteArray) : Bool := labG s (s.size + 1) 0 0

/-- A letter takes one byte or two, and none of them is a slash. -/
theorem letter_shape (s : ByteArray) (pos : Nat) (h : pos < s.size) (hl : letterB (Utf8.decode s pos).1 = true) :
    1 ≤ (Utf8.decode s pos).2 ∧ (Utf8.decode s pos).2 ≤ 2 ∧ pos + (Utf8.decode s pos).2 ≤ s.size ∧ ∀ j, pos ≤ j → j < pos + (Utf8.decode s pos).2 → (s.data.toList.getD j 0).toNat ≠ 47 := by
  have hlen : s.data.toList.length = s.size := rfl
  rw [Lib.decode_N] at hl ⊢
  rw [hlen] at hl ⊢
  have hl' := of_decide_eq_true hl
  rcases Lib.decodeN_shape (s.size - pos) (s.data.toList.getD pos 0).toNat (s.data.toList.getD (pos + 1) 0).toNat (s.data.toList.getD (pos + 2) 0).toNat (s.data.toList.getD (pos + 3) 0).toNat with ⟨c, e⟩ | ⟨a1, a2, a3, av, e⟩ | ⟨a1, a2, a3, a4, av, aw, e⟩ | ⟨a1, a2, a3, a4, a5, av, aw, e⟩ | e
  · rw [e] at hl' ⊢
    simp only at hl' ⊢
    refine ⟨by omega, by omega, by omega, fun j h1 h2 => ?_⟩
    obtain rfl : j = pos := by omega
    omega
  · rw [e] at hl' ⊢
    simp only at hl' ⊢
    refine ⟨by omega, by omega, by omega, fun j h1 h2 => ?_⟩
    rcases (by omega : j = pos ∨ j = pos + 1) with rfl | rfl <;> omega
  · rw [e] at hl'
    simp only at hl'
    omega
  · rw [e] at hl'
    simp only at hl'
    omega
  · rw [e] at hl'
    simp only at hl'
    omega
theorem labG_facts (s : ByteArray) : ∀ f pos n, labG s f pos n = true → pos ≤ s.size → n ≤ 6 →
    s.size ≤ pos + 2 * (6 - n) ∧ (n = 0 → pos < s.size) ∧ ∀ j, pos ≤ j → j < s.size → (s.data.toList.getD j 0).toNat ≠ 47
  | 0, _, _, h, _, _ => by cases h
  | f + 1, pos, n, h, hp, hn => by
    unfold labG at h
    split at h
    · rename_i hlt
      split at h
      · rename_i hc
        obtain ⟨k1, k2, k3, k4⟩ := letter_shape s pos hlt hc.2
        obtain ⟨r1, r2, r3⟩ := labG_facts s f _ _ h k3 (by omega)
        refine ⟨by omega, fun _ => hlt, fun j h1 h2 => ?_⟩
        by_cases hj : j < pos + (Utf8.decode s pos).2
        · exact k4 j h1 hj
        · exact r3 j (by omega) h2
      · cases h
    · have := of_decide_eq_true h
      exact ⟨by omega, by omega, fun j h1 h2 => by omega⟩
/-- A label has one byte at least and twelve at most, and no slash. -/
theorem label_facts (s : ByteArray) (h : label s = true) : 1 ≤ s.size ∧ s.size ≤ 12 ∧ (47 : UInt8) ∉ s.data.toList := by
  obtain ⟨h1, h2, h3⟩ := labG_facts s _ _ _ h (Nat.zero_le _) (by decide)
  refine ⟨h2 rfl, by omega, fun hm => ?_⟩
  obtain ⟨j, hj, e⟩ := List.getElem_of_mem hm
  refine h3 j (Nat.zero_le _) hj ?_
  rw [List.getD, List.getElem?_eq_getElem hj, e]
  rfl

/-! ### what stands between slashes -/
def pieces : List UInt8 → List (List UInt8)
  | [] => [[]]
  | c :: t => if c = 47 then [] :: pieces t else ((c :: (pieces t).headD []) :: (pieces t).tail)
theorem pieces_ne (l : List UInt8) : pieces l ≠ [] := by cases l <;> unfold pieces <;> (try split) <;> simp
theorem pieces_none : ∀ l : List UInt8, (47 : UInt8) ∉ l → pieces l = [l]
  | [], _ => rfl
  | c :: t, h => by
    have hc : c ≠ 47 := fun e => h (by rw [e]; exact List.mem_cons_self ..)
    have ih := pieces_none t (fun k => h (List.mem_cons_of_mem _ k))
    unfold pieces
    rw [if_neg hc, ih]
    rfl
theorem pieces_hit : ∀ a b : List UInt8, (47 : UInt8) ∉ a → pieces (a ++ 47 :: b) = a :: pieces b
  | [], b, _ => by rw [List.nil_append]; rfl
  | c :: t, b, h => by
    have hc : c ≠ 47 := fun e => h (by rw [e]; exact List.mem_cons_self ..)
    have ih := pieces_hit t b (fun k => h (List.mem_cons_of_mem _ k))
    rw [List.cons_append]
    show (if c = 47 then _ else _) = _
    rw [if_neg hc, ih]
    rfl
/-- Joined again. -/
def joinS : List (List UInt8) → List UInt8
  | [] => []
  | [a] => a
  | a :: b :: t => a ++ 47 :: joinS (b :: t)
theorem joinS_pieces : ∀ l : List UInt8, joinS (pieces l) = l
  | [] => rfl
  | c :: t => by
    have ih := joinS_pieces t
    have hne := pieces_ne t
    unfold pieces
    cases hp : pieces t with
    | nil => exact absurd hp hne
    | cons h r =>
      rw [hp] at ih
      split
      · rename_i hc
        rw [hc]
        show [] ++ 47 :: joinS (h :: r) = _
        rw [ih]
        rfl
      · cases r with
        | nil => exact congrArg (c :: ·) ih
        | cons h2 r2 => exact congrArg (c :: ·) ih
theorem pieces_joinS : ∀ ls : List (List UInt8), ls ≠ [] → (∀ l ∈ ls, (47 : UInt8) ∉ l) → pieces (joinS ls) = ls
  | [], h, _ => absurd rfl h
  | [a], _, h => pieces_none a (h a (List.mem_cons_self ..))
  | a :: b :: t, _, h => by
    show pieces (a ++ 47 :: joinS (b :: t)) = _
    rw [pieces_hit _ _ (h a (List.mem_cons_self ..)), pieces_joinS (b :: t) (by simp) (fun l hl => h l (List.mem_cons_of_mem _ hl))]
theorem pieces_noslash : ∀ l : List UInt8, ∀ p ∈ pieces l, (47 : UInt8) ∉ p
  | [], p, hp => by
    obtain rfl := List.mem_singleton.1 hp
    exact List.not_mem_nil
  | c :: t, p, hp => by
    have ih := pieces_noslash t
    unfold pieces at hp
    split at hp
    · rcases List.mem_cons.1 hp with rfl | hp
      · exact List.not_mem_nil
      · exact ih p hp
    · rename_i hc
      cases hq : pieces t with
      | nil => exact absurd hq (pieces_ne t)
      | cons h r =>
        rw [hq] at hp ih
        rcases List.mem_cons.1 hp with rfl | hp
        · intro hm
          rcases List.mem_cons.1 hm with e | hm
          · exact hc e.symm
          · exact ih h (List.mem_cons_self ..) hm
        · exact ih p (List.mem_cons_of_mem _ hp)
/-- strings.Cut at a slash. -/
theorem cut_none (l : List UInt8) (h : (47 : UInt8) ∉ l) : Lib.cut l [47] = (l, [], false) := by
  unfold Lib.cut
  rw [Lib.index_one]
  have : Lib.indexByte l 47 = -1 := by
    induction l with
    | nil => rfl
    | cons c t ih =>
      have hc : (c == 47) = false := beq_eq_false_iff_ne.2 (fun e => h (by rw [e]; exact List.mem_cons_self ..))
      have := ih (fun k => h (List.mem_cons_of_mem _ k))
      simp [Lib.indexByte, hc, this]
  rw [this, if_neg (by decide)]
theorem indexByte_hit : ∀ a b : List UInt8, (47 : UInt8) ∉ a → Lib.indexByte (a ++ 47 :: b) 47 = a.length
  | [], b, _ => rfl
  | c :: t, b, h => by
    have hc : (c == 47) = false := beq_eq_false_iff_ne.2 (fun e => h (by rw [e]; exact List.mem_cons_self ..))
    have := indexByte_hit t b (fun k => h (List.mem_cons_of_mem _ k))
    rw [List.cons_append]
    unfold Lib.indexByte
    rw [this, if_neg (by simp [hc])]
    have h2 : ((t.length : Int) == -1) = false := beq_eq_false_iff_ne.2 (by omega)
    simp [h2]
theorem cut_hit (a b : List UInt8) (h : (47 : UInt8) ∉ a) : Lib.cut (a ++ 47 :: b) [47] = (a, b, true) := by
  unfold Lib.cut
  rw [Lib.index_one, indexByte_hit a b h, if_pos (by omega)]
  simp
/-- What a list without its first piece says: 'Cut' takes off just that. -/
theorem cut_joinS (p : List UInt8) (r : List (List UInt8)) (h : (47 : UInt8) ∉ p) : (Lib.cut (joinS (p :: r)) [47]).1 = p ∧ (Lib.cut (joinS (p :: r)) [47]).2.1 = joinS r := by
  cases r with
  | nil => rw [show joinS [p] = p from rfl, cut_none p h]; exact ⟨rfl, rfl⟩
  | cons q t => rw [show joinS (p :: q :: t) = p ++ 47 :: joinS (q :: t) from rfl, cut_hit _ _ h]; exact ⟨rfl, rfl⟩

/-! ### what is split -/
def mk (l : List UInt8) : ByteArray := ⟨l.toArray⟩
theorem mk_list (l : List UInt8) : (mk l).data.toList = l := by simp [mk]
theorem mk_of (s : ByteArray) : mk s.data.toList = s := by cases s; simp [mk]
theorem mk_size (l : List UInt8) : (mk l).size = l.length := by simp [mk, ByteArray.size]
theorem mk_inj (a b : List UInt8) (h : mk a = mk b) : a = b := by rw [← mk_list a, h, mk_list]
/-- A name's labels, if it is one. -/
def splitO (s : ByteArray) : Option (List ByteArray) :=
  if s.data.toList = [47] then some []
  else if s.data.toList.head? = some 47 ∧ ((pieces (s.data.toList.drop 1)).map mk).all label = true ∧ (pieces (s.data.toList.drop 1)).length ≤ 6 then some ((pieces (s.data.toList.drop 1)).map mk) else none
theorem label_nil : label (mk []) = false := by decide
theorem splitO_labels (s : ByteArray) (l : List ByteArray) (h : splitO s = some l) : l.all label = true ∧ l.length ≤ 6 := by
  unfold splitO at h
  split at h
  · obtain rfl := Option.some.inj h
    exact ⟨rfl, by decide⟩
  · split at h
    · rename_i hc
      obtain rfl := Option.some.inj h
      exact ⟨hc.2.1, by rw [List.length_map]; exact hc.2.2⟩
    · cases h
/-- The name of some labels. -/
def nameOf (l : List ByteArray) : ByteArray := mk (47 :: joinS (l.map fun x => x.data.toList))
theorem map_mk (l : List ByteArray) : (l.map fun x => x.data.toList).map mk = l := by
  induction l with
  | nil => rfl
  | cons a t ih => rw [List.map_cons, List.map_cons, mk_of, ih]
theorem map_list (l : List (List UInt8)) : (l.map mk).map (fun x => x.data.toList) = l := by
  induction l with
  | nil => rfl
  | cons a t ih => rw [List.map_cons, List.map_cons, mk_list, ih]
/-- What is joined is split again. -/
theorem splitO_nameOf (l : List ByteArray) (h : l.all label = true) (h6 : l.length ≤ 6) : splitO (nameOf l) = some l := by
  cases hl : l with
  | nil => rfl
  | cons a t =>
    rw [← hl]
    have hne : l.map (fun x => x.data.toList) ≠ [] := by rw [hl]; simp
    have hp : pieces (joinS (l.map fun x => x.data.toList)) = l.map (fun x => x.data.toList) := pieces_joinS _ hne (fun x hx => by
      obtain ⟨y, hy, rfl⟩ := List.mem_map.1 hx
      exact (label_facts y (List.all_eq_true.1 h y hy)).2.2)
    have h1 : (nameOf l).data.toList = 47 :: joinS (l.map fun x => x.data.toList) := mk_list _
    unfold splitO
    rw [h1, List.drop_one, List.tail_cons, hp, map_mk]
    rw [if_neg]
    · rw [if_pos ⟨rfl, h, by rw [List.length_map]; exact h6⟩]
    · intro e
      have e2 : joinS (l.map fun x => x.data.toList) = [] := List.tail_eq_of_cons_eq e
      rw [e2] at hp
      rw [hl] at hp h
      have e3 : a.data.toList = [] := by
        have := congrArg (fun x => x.headD [1]) hp
        exact this.symm
      have e4 := (label_facts a (List.all_eq_true.1 h a (List.mem_cons_self ..))).1
      have e5 : a.data.toList.length = a.size := rfl
      rw [e3] at e5
      have e6 : (0 : Nat) = a.size := e5
      omega
/-- What was split is joined again. -/
theorem nameOf_splitO (s : ByteArray) (l : List ByteArray) (h : splitO s = some l) : nameOf l = s := by
  unfold splitO at h
  split at h
  · rename_i hs
    obtain rfl := Option.some.inj h
    rw [← mk_of s, hs]
    rfl
  · split at h
    · rename_i hc
      obtain rfl := Option.some.inj h
      unfold nameOf
      rw [map_list, joinS_pieces]
      obtain ⟨h1, -, -⟩ := hc
      conv => rhs; rw [← mk_of s]
      cases hs : s.data.toList with
      | nil => rw [hs] at h1; cases h1
      | cons c t =>
        rw [hs] at h1
        obtain rfl : c = 47 := Option.some.inj h1
        rfl
    · cases h
theorem joinS_size : ∀ l : List ByteArray, l.all label = true → (joinS (l.map fun x => x.data.toList)).length ≤ 13 * l.length
  | [], _ => by simp [joinS]
  | [a], h => by
    have h1 := (label_facts a (List.all_eq_true.1 h a (List.mem_cons_self ..))).2.1
    have h2 : a.data.toList.length = a.size := rfl
    show a.data.toList.length ≤ 13 * 1
    omega
  | a :: b :: t, h => by
    have h1 := (label_facts a (List.all_eq_true.1 h a (List.mem_cons_self ..))).2.1
    have h2 : a.data.toList.length = a.size := rfl
    have h3 := joinS_size (b :: t) (List.all_eq_true.2 fun x hx => List.all_eq_true.1 h x (List.mem_cons_of_mem _ hx))
    show (a.data.toList ++ 47 :: joinS ((b :: t).map fun x => x.data.toList)).length ≤ _
    rw [List.length_append, List.length_cons]
    simp only [List.length_cons] at h3 ⊢
    omega
/-- A name is never longer than 79 bytes. -/
theorem splitO_size (s : ByteArray) (l : List ByteArray) (h : splitO s = some l) : s.size ≤ 79 := by
  obtain ⟨h1, h2⟩ := splitO_labels s l h
  have h3 := joinS_size l h1
  rw [← nameOf_splitO s l h]
  unfold nameOf
  rw [mk_size, List.length_cons]
  omega
end Go.Proofs.YtfoeckaeongahaaDoor
