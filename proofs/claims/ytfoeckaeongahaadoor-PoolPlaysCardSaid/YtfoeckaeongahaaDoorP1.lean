/- The pool: its state, how it lies in memory. -/
import Derived.Test.YtfoeckaeongahaaDoorN5
import Derived.Test.YtfoeckaeongahaaDoorPlan
namespace Go.Proofs.YtfoeckaeongahaaDoor
open Go.RowKit Go.Shelf
set_option maxRecDepth 100000

/-! ### cells told by a function -/
def AF (g : Nat → Value) (n : Nat) : Array Value := Array.ofFn (n := n) fun k => g k.val
theorem AF_size (g : Nat → Value) (n : Nat) : (AF g n).size = n := by simp [AF]
theorem AF_get {g : Nat → Value} {n i : Nat} (h : i < n) : (AF g n)[i]? = some (g i) := by
  unfold AF
  rw [Array.getElem?_eq_getElem (by simpa using h)]
  simp
theorem AF_eq {g g' : Nat → Value} {n : Nat} (h : ∀ k, k < n → g k = g' k) : AF g n = AF g' n := by
  unfold AF
  exact congrArg Array.ofFn (funext fun k => h k.val k.isLt)
def upd {α : Type} (g : Nat → α) (i : Nat) (v : α) : Nat → α := fun k => if k = i then v else g k
theorem AF_set (g : Nat → Value) (n i : Nat) (v : Value) : (AF g n).setIfInBounds i v = AF (upd g i v) n := by
  apply Array.ext_getElem?
  intro k
  rw [Array.getElem?_setIfInBounds]
  by_cases hk : k < n
  · rw [AF_get hk, AF_get hk, AF_size]
    unfold upd
    by_cases hik : i = k
    · rw [if_pos hik, if_pos hik.symm, if_pos (by omega)]
    · rw [if_neg hik, if_neg (fun e => hik e.symm)]
  · have e1 : (AF g n)[k]? = none := Array.getElem?_eq_none (by rw [AF_size]; omega)
    have e2 : (AF (upd g i v) n)[k]? = none := Array.getElem?_eq_none (by rw [AF_size]; omega)
    rw [e1, e2]
    split
    · rw [AF_size, if_neg (by omega)]
    · rfl

/-- The walk is held at the operation that writes temporary k: what is to be shown is a parameter that no rule rewrites. -/
structure Box (p : Prop) where
  one : Unit
structure Held (p : Prop) (b : Box p) : Prop where
  out : p
theorem stopAt {P : Program} {ops : Array Oper} {rest : List Oper} {o : Oper} {a : Act} {w : World} {Q : Exit → Act → World → Prop} (k : Nat) (_h : o.dst = some k) (g : Held (wpList P ops Q (o :: rest) a w) ⟨()⟩) : wpList P ops Q (o :: rest) a w := g.out

theorem wrap64_s (n : Int) (h : -9223372036854775808 ≤ n ∧ n ≤ 9223372036854775807) : wrap64 n = n := by unfold wrap64; omega

/-! ### the state -/
structure PSt where
  own : Nat → Nat
  gn : Nat → ByteArray
  gr : Nat → Int
  quota : Nat → Int
  count : Nat → Int
  ev : List (Int × Int × Int)
def poolG (fv ev : Value) (S : PSt) : Nat → Value := fun k => if k = 0 then fv else if k < 7 then .int .i64 (S.quota (k - 1)) else if k < 13 then .int .i64 (S.count (k - 7)) else ev
def frG (S : PSt) : Nat → Value := fun k => if k % 3 = 0 then .int .u8 (S.own (k / 3) : Int) else if k % 3 = 1 then .string (S.gn (k / 3)) else .int .u8 (S.gr (k / 3))
def evV (l : List (Int × Int × Int)) : List Value := l.flatMap fun x => [.int .u8 x.1, .int .u8 x.2.1, .int .u8 x.2.2]
theorem evV_length (l : List (Int × Int × Int)) : (evV l).length = l.length * 3 := by
  unfold evV
  induction l with
  | nil => rfl
  | cons x t ih => rw [List.flatMap_cons, List.length_append, ih]; simp; omega
theorem evV_snoc (l : List (Int × Int × Int)) (x : Int × Int × Int) : evV (l ++ [x]) = evV l ++ [.int .u8 x.1, .int .u8 x.2.1, .int .u8 x.2.2] := by
  unfold evV
  rw [List.flatMap_append]
  rfl
def frV (fb cap : Nat) : Value := .slice (some ⟨fb, 0, none⟩) 8 cap
structure PIc (cap : Nat) (w : World) (pb fb : Nat) (S : PSt) : Prop where
  pool : ∃ v, Row w 34 3 v S.ev.length (evV S.ev) ∧ Blk w pb 67 (AF (poolG (frV fb cap) v S) 14)
  fr : ∃ g, Blk w fb 73 (AF g (cap * 3)) ∧ ∀ k, k < 24 → g k = frG S k
  big : 8 ≤ cap
  few : cap ≤ maxLen
/-- A pool of eight frames lies at pb, its frames at fb; it tells S. -/
def PI (w : World) (pb fb : Nat) (S : PSt) : Prop := ∃ cap, PIc cap w pb fb S
def TwoBlk (p f : Nat) : Nat → Prop := fun b => b = p ∨ b = f
theorem PI.ltP {w : World} {pb fb : Nat} {S : PSt} (h : PI w pb fb S) : pb < w.heap.size := by
  obtain ⟨cap, h⟩ := h
  obtain ⟨v, -, hb⟩ := h.pool
  exact hb.lt
theorem PI.ltF {w : World} {pb fb : Nat} {S : PSt} (h : PI w pb fb S) : fb < w.heap.size := by
  obtain ⟨cap, h⟩ := h
  obtain ⟨g, hb, -⟩ := h.fr
  exact hb.lt
theorem PIc.ne {cap : Nat} {w : World} {pb fb : Nat} {S : PSt} (h : PIc cap w pb fb S) : pb ≠ fb := by
  obtain ⟨v, -, hb⟩ := h.pool
  obtain ⟨g, hf, -⟩ := h.fr
  exact hb.ne_ hf (by decide)
theorem PI.ne {w : World} {pb fb : Nat} {S : PSt} (h : PI w pb fb S) : pb ≠ fb := h.choose_spec.ne
theorem PI.kept {w w' : World} {pb fb : Nat} {S : PSt} {G : Nat → Prop} (h : PI w pb fb S) (hk : Kept G w w') (hp : ¬ G pb) (hf : ¬ G fb) (hr : ∀ b cs, Blk w b 34 cs → ¬ G b) : PI w' pb fb S := by
  obtain ⟨cap, h⟩ := h
  obtain ⟨v, hr', hb⟩ := h.pool
  obtain ⟨g, hg, hge⟩ := h.fr
  exact ⟨cap, ⟨v, hr'.kept hk hr, hb.kept hk hp⟩, ⟨g, hg.kept hk hf, hge⟩, h.big, h.few⟩
theorem PI.keptNo {w w' : World} {pb fb : Nat} {S : PSt} (h : PI w pb fb S) (hk : Kept NoBlk w w') : PI w' pb fb S := h.kept hk (fun e => e) (fun e => e) (fun _ _ _ e => e)
/-- The cells of the pool. -/
theorem PI.cells {w : World} {pb fb : Nat} {S : PSt} (h : PI w pb fb S) : (∃ cap, 8 ≤ cap ∧ w.cell? ⟨pb, 0, none⟩ = some (frV fb cap)) ∧ (∀ e, e < 6 → w.cell? ⟨pb, 1 + e, none⟩ = some (.int .i64 (S.quota e))) ∧ (∀ e, e < 6 → w.cell? ⟨pb, 7 + e, none⟩ = some (.int .i64 (S.count e))) ∧
    ∃ v, Row w 34 3 v S.ev.length (evV S.ev) ∧ w.cell? ⟨pb, 13, none⟩ = some v := by
  obtain ⟨cap, h⟩ := h
  obtain ⟨v, hr, hb⟩ := h.pool
  refine ⟨⟨cap, h.big, ?_⟩, fun e he => ?_, fun e he => ?_, v, hr, ?_⟩
  · rw [hb.cell, AF_get (by omega)]; rfl
  · rw [hb.cell, AF_get (by omega)]
    unfold poolG
    rw [if_neg (by omega), if_pos (by omega), show 1 + e - 1 = e by omega]
  · rw [hb.cell, AF_get (by omega)]
    unfold poolG
    rw [if_neg (by omega), if_neg (by omega), if_pos (by omega), show 7 + e - 7 = e by omega]
  · rw [hb.cell, AF_get (by omega)]; rfl
theorem PI.frame {w : World} {pb fb : Nat} {S : PSt} (h : PI w pb fb S) (i : Nat) (hi : i < 8) : w.cell? ⟨fb, i * 3, none⟩ = some (.int .u8 (S.own i : Int)) ∧ w.cell? ⟨fb, i * 3 + 1, none⟩ = some (.string (S.gn i)) ∧ w.cell? ⟨fb, i * 3 + 2, none⟩ = some (.int .u8 (S.gr i)) := by
  obtain ⟨cap, h⟩ := h
  obtain ⟨g, hg, hge⟩ := h.fr
  have hb := h.big
  refine ⟨?_, ?_, ?_⟩ <;> rw [hg.cell, AF_get (by omega), hge _ (by omega)] <;> unfold frG
  · rw [if_pos (by omega), show i * 3 / 3 = i by omega]
  · rw [if_neg (by omega), if_pos (by omega), show (i * 3 + 1) / 3 = i by omega]
  · rw [if_neg (by omega), if_neg (by omega), show (i * 3 + 2) / 3 = i by omega]
theorem PI.frozen {w : World} {pb fb : Nat} {S : PSt} (h : PI w pb fb S) : (∀ i, w.frozen? ⟨pb, i, none⟩ = false) ∧ (∀ i, w.frozen? ⟨fb, i, none⟩ = false) := by
  obtain ⟨cap, h⟩ := h
  obtain ⟨v, hr, hb⟩ := h.pool
  obtain ⟨g, hg, -⟩ := h.fr
  exact ⟨hb.frozen, hg.frozen⟩

/-! ### what is stored -/
theorem poolG_quota (fv ev : Value) (S : PSt) (e : Nat) (he : e < 6) (n : Int) : upd (poolG fv ev S) (1 + e) (.int .i64 n) = poolG fv ev { S with quota := upd S.quota e n } := by
  funext k
  unfold poolG upd
  dsimp only
  by_cases hk : k = 1 + e
  · rw [if_pos hk, if_neg (by omega), if_pos (by omega)]
    rw [if_pos (by omega)]
  · rw [if_neg hk]
    by_cases h0 : k = 0
    · rw [if_pos h0, if_pos h0]
    · rw [if_neg h0, if_neg h0]
      rw [if_neg (show ¬ k - 1 = e by omega)]
theorem poolG_count (fv ev : Value) (S : PSt) (e : Nat) (he : e < 6) (n : Int) : upd (poolG fv ev S) (7 + e) (.int .i64 n) = poolG fv ev { S with count := upd S.count e n } := by
  funext k
  unfold poolG upd
  dsimp only
  by_cases hk : k = 7 + e
  · rw [if_pos hk, if_neg (by omega), if_neg (by omega), if_pos (by omega)]
    rw [if_pos (by omega)]
  · rw [if_neg hk]
    by_cases h0 : k = 0
    · rw [if_pos h0, if_pos h0]
    · rw [if_neg h0, if_neg h0]
      by_cases h7 : k < 7
      · rw [if_pos h7, if_pos h7]
      · rw [if_neg h7, if_neg h7]
        rw [if_neg (show ¬ k - 7 = e by omega)]
theorem poolG_ev (fv ev v : Value) (S : PSt) : AF (upd (poolG fv ev S) 13 v) 14 = AF (poolG fv v S) 14 := AF_eq fun k hk => by
  unfold poolG upd
  dsimp only
  by_cases h : k = 13
  · rw [if_pos h, if_neg (by omega), if_neg (by omega), if_neg (by omega)]
  · rw [if_neg h]
    by_cases h0 : k = 0
    · rw [if_pos h0, if_pos h0]
    · rw [if_neg h0, if_neg h0]
      by_cases h7 : k < 7
      · rw [if_pos h7, if_pos h7]
      · rw [if_neg h7, if_neg h7, if_pos (by omega), if_pos (by omega)]
theorem poolG_same (fv ev : Value) (S S' : PSt) (h1 : S.quota = S'.quota) (h2 : S.count = S'.count) : poolG fv ev S = poolG fv ev S' := by
  unfold poolG
  rw [h1, h2]
theorem frG_own (S : PSt) (i : Nat) (m : Nat) : upd (frG S) (i * 3) (.int .u8 (m : Int)) = frG { S with own := upd S.own i m } := by
  funext k
  unfold frG upd
  dsimp only
  by_cases hk : k = i * 3
  · rw [if_pos hk, if_pos (by omega)]
    rw [if_pos (by omega)]
  · rw [if_neg hk]
    by_cases h0 : k % 3 = 0
    · rw [if_pos h0, if_pos h0, if_neg (by omega)]
    · rw [if_neg h0, if_neg h0]
theorem frG_guard (S : PSt) (i : Nat) (n : ByteArray) (r : Int) : upd (upd (frG S) (i * 3 + 1) (.string n)) (i * 3 + 2) (.int .u8 r) = frG { S with gn := upd S.gn i n, gr := upd S.gr i r } := by
  funext k
  unfold frG upd
  dsimp only
  by_cases h2 : k = i * 3 + 2
  · rw [if_pos h2, if_neg (by omega), if_neg (by omega)]
    rw [if_pos (by omega)]
  · rw [if_neg h2]
    by_cases h1 : k = i * 3 + 1
    · rw [if_pos h1, if_neg (by omega), if_pos (by omega)]
      rw [if_pos (by omega)]
    · rw [if_neg h1]
      by_cases h0 : k % 3 = 0
      · rw [if_pos h0, if_pos h0]
      · rw [if_neg h0, if_neg h0]
        by_cases h3 : k % 3 = 1
        · rw [if_pos h3, if_pos h3, if_neg (by omega)]
        · rw [if_neg h3, if_neg h3, if_neg (by omega)]
theorem frG_same (S S' : PSt) (h1 : S.own = S'.own) (h2 : S.gn = S'.gn) (h3 : S.gr = S'.gr) : frG S = frG S' := by
  unfold frG
  rw [h1, h2, h3]
/-! ### the memory turned -/
theorem PI.drew {w : World} {pb fb : Nat} {S : PSt} (h : PI w pb fb S) : PI w.drew pb fb S := h.keptNo (Kept.refl _ w).drew
theorem row_far {w : World} {pb : Nat} {cs : Array Value} {v : Value} {n t : Nat} {xs : List Value} (h : Row w 34 3 v n xs) (hb : Blk w pb t cs) (ht : t ≠ 34) (i : Nat) (u : Value) : Row (w.setCell ⟨pb, i, none⟩ u) 34 3 v n xs :=
  h.kept (Kept.setCell (G := OneBlk pb) (Kept.refl _ w) oneHit _) (fun _ _ hb2 hg => (hb.ne_ hb2 ht) hg.symm)
theorem upd_agree {g g' : Nat → Value} {n : Nat} (h : ∀ k, k < n → g k = g' k) (i : Nat) (v : Value) : ∀ k, k < n → upd g i v k = upd g' i v k := fun k hk => by
  unfold upd
  split
  · rfl
  · exact h k hk
theorem PI.setOwn {w : World} {pb fb : Nat} {S : PSt} (h : PI w pb fb S) (i m : Nat) : PI (w.setCell ⟨fb, i * 3, none⟩ (.int .u8 (m : Int))) pb fb { S with own := upd S.own i m } := by
  obtain ⟨cap, h⟩ := h
  obtain ⟨v, hr, hb⟩ := h.pool
  obtain ⟨g, hg, hge⟩ := h.fr
  refine ⟨cap, ⟨v, row_far hr hg (by decide) _ _, ?_⟩, ⟨upd g (i * 3) (.int .u8 (m : Int)), ?_, ?_⟩, h.big, h.few⟩
  · exact Blk.cast (hb.far h.ne _) (congrArg (fun g => AF g 14) (poolG_same _ _ _ _ rfl rfl))
  · exact Blk.cast (hg.set_ (i * 3) _) (by rw [AF_set])
  · rw [← frG_own]
    exact upd_agree hge _ _
theorem PI.setGuard {w : World} {pb fb : Nat} {S : PSt} (h : PI w pb fb S) (i : Nat) (n : ByteArray) (r : Int) : PI ((w.setCell ⟨fb, i * 3 + 1, none⟩ (.string n)).setCell ⟨fb, i * 3 + 2, none⟩ (.int .u8 r)) pb fb { S with gn := upd S.gn i n, gr := upd S.gr i r } := by
  obtain ⟨cap, h⟩ := h
  obtain ⟨v, hr, hb⟩ := h.pool
  obtain ⟨g, hg, hge⟩ := h.fr
  have f1 := hg.set_ (i * 3 + 1) (.string n)
  refine ⟨cap, ⟨v, row_far (row_far hr hg (by decide) _ _) f1 (by decide) _ _, ?_⟩, ⟨upd (upd g (i * 3 + 1) (.string n)) (i * 3 + 2) (.int .u8 r), ?_, ?_⟩, h.big, h.few⟩
  · exact Blk.cast ((hb.far h.ne _).far h.ne _) (congrArg (fun g => AF g 14) (poolG_same _ _ _ _ rfl rfl))
  · exact Blk.cast (f1.set_ (i * 3 + 2) _) (by rw [AF_set, AF_set])
  · rw [← frG_guard]
    exact upd_agree (upd_agree hge _ _) _ _
theorem PI.setCount {w : World} {pb fb : Nat} {S : PSt} (h : PI w pb fb S) (e : Nat) (he : e < 6) (n : Int) : PI (w.setCell ⟨pb, 7 + e, none⟩ (.int .i64 n)) pb fb { S with count := upd S.count e n } := by
  obtain ⟨cap, h⟩ := h
  obtain ⟨v, hr, hb⟩ := h.pool
  obtain ⟨g, hg, hge⟩ := h.fr
  refine ⟨cap, ⟨v, row_far hr hb (by decide) _ _, ?_⟩, ⟨g, hg.far (fun k => h.ne k.symm) _, ?_⟩, h.big, h.few⟩
  · exact Blk.cast (hb.set_ (7 + e) _) (by rw [AF_set, poolG_count _ _ _ _ he])
  · exact hge
theorem PI.setQuota {w : World} {pb fb : Nat} {S : PSt} (h : PI w pb fb S) (e : Nat) (he : e < 6) (n : Int) : PI (w.setCell ⟨pb, 1 + e, none⟩ (.int .i64 n)) pb fb { S with quota := upd S.quota e n } := by
  obtain ⟨cap, h⟩ := h
  obtain ⟨v, hr, hb⟩ := h.pool
  obtain ⟨g, hg, hge⟩ := h.fr
  refine ⟨cap, ⟨v, row_far hr hb (by decide) _ _, ?_⟩, ⟨g, hg.far (fun k => h.ne k.symm) _, ?_⟩, h.big, h.few⟩
  · exact Blk.cast (hb.set_ (1 + e) _) (by rw [AF_set, poolG_quota _ _ _ _ he])
  · exact hge
theorem twoP {p f i n : Nat} {s : Option Nat} : TwoBlk p f (⟨p, i, s⟩ : Addr).block ∨ n ≤ (⟨p, i, s⟩ : Addr).block := .inl (.inl rfl)
theorem twoF {p f i n : Nat} {s : Option Nat} : TwoBlk p f (⟨f, i, s⟩ : Addr).block ∨ n ≤ (⟨f, i, s⟩ : Addr).block := .inl (.inr rfl)
theorem Kept.toTwo {w w' : World} {p f : Nat} (h : Kept (OneBlk p) w w') : Kept (TwoBlk p f) w w' := h.weaken fun _ _ e => .inl e
theorem Kept.noTwo {w w' : World} {p f : Nat} (h : Kept NoBlk w w') : Kept (TwoBlk p f) w w' := h.weaken fun _ _ e => e.elim

/-! ### bits -/
def clr (m e : Nat) : Nat := if m.testBit e then m - 2 ^ e else m
theorem or_own_ : ∀ m : Fin 64, ∀ e : Fin 6, bits .or .u8 ((m.val : Nat) : Int) ((2 : Int) ^ e.val % 256) = ((m.val ||| 2 ^ e.val : Nat) : Int) := by decide +kernel
theorem or_own (m e : Nat) (hm : m < 64) (he : e < 6) : bits .or .u8 (m : Int) ((2 : Int) ^ e % 256) = ((m ||| 2 ^ e : Nat) : Int) := or_own_ ⟨m, hm⟩ ⟨e, he⟩
theorem clr_own_ : ∀ m : Fin 64, ∀ e : Fin 6, bits .andNot .u8 ((m.val : Nat) : Int) ((2 : Int) ^ e.val % 256) = ((clr m.val e.val : Nat) : Int) := by decide +kernel
theorem clr_own (m e : Nat) (hm : m < 64) (he : e < 6) : bits .andNot .u8 (m : Int) ((2 : Int) ^ e % 256) = ((clr m e : Nat) : Int) := clr_own_ ⟨m, hm⟩ ⟨e, he⟩
theorem or_lt_ : ∀ m : Fin 64, ∀ e : Fin 6, (m.val ||| 2 ^ e.val) < 64 ∧ (m.val ||| 2 ^ e.val) ≠ 0 ∧ clr m.val e.val < 64 := by decide +kernel
theorem or_bit_ : ∀ m : Fin 64, ∀ e k : Fin 6, (m.val ||| 2 ^ e.val).testBit k.val = (decide (k.val = e.val) || m.val.testBit k.val) ∧ (clr m.val e.val).testBit k.val = (!decide (k.val = e.val) && m.val.testBit k.val) := by decide +kernel
end Go.Proofs.YtfoeckaeongahaaDoor
