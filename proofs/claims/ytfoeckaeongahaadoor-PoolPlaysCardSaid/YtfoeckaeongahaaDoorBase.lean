/- Words for memory that all walks of this seat use: blocks known whole, slices that read as rows, the frame of a law's row. -/
import Derived.WalkKit
import Derived.ProofKit
import Derived.Lib.Hide
import Derived.OpenShut
import Derived.Deep.Slices
import Derived.Deep.Draws
import Derived.Deep.RegionHeld3
import Derived.Deep.RegionLawGrows
import Derived.Deep.AppendLies
import Derived.Deep.QuietTactic
import Derived.BigQuiet
import Derived.WalkLawsBesides
import Derived.StillTailTactics
import Derived.Test.YtfoeckaeongahaaDoorRows
namespace Go.Proofs.YtfoeckaeongahaaDoor
open Go.RowKit Go.WideShapes Go.ChangeShapes

/-- Block g is just the cells cs of element type t, none frozen. -/
def Blk (w : World) (g : Nat) (t : TypeId) (cs : Array Value) : Prop := w.heap[g]? = some (.cells cs t (0, 0))

/-- Of what was there only blocks in G may have turned. -/
structure Kept (G : Nat → Prop) (w w' : World) : Prop where
  os : w'.os = w.os
  tape : w'.tape = w.tape
  output : w'.output = w.output
  size : w.heap.size ≤ w'.heap.size
  block : ∀ k, k < w.heap.size → ¬ G k → w'.heap[k]? = w.heap[k]?

def NoBlk : Nat → Prop := fun _ => False
def OneBlk (g : Nat) : Nat → Prop := fun k => k = g

section
variable {w w' w'' : World} {g : Nat} {t : TypeId} {cs : Array Value} {G H : Nat → Prop}
theorem Blk.lt (h : Blk w g t cs) : g < w.heap.size := by
  rcases Nat.lt_or_ge g w.heap.size with hlt | hge
  · exact hlt
  · unfold Blk at h; rw [Array.getElem?_eq_none hge] at h; cases h
theorem Blk.cell (h : Blk w g t cs) (i : Nat) : w.cell? ⟨g, i, none⟩ = cs[i]? := cell_of_row w g i cs t (0, 0) h
theorem Blk.frozen (h : Blk w g t cs) (i : Nat) : w.frozen? ⟨g, i, none⟩ = false := by
  unfold Blk at h
  simp [World.frozen?, h]
theorem Blk.new (w : World) (t : TypeId) (cs : Array Value) : Blk (w.alloc (.cells cs t)) w.heap.size t cs := heap_alloc_new w _
theorem Blk.new_at {n : Nat} (w : World) (t : TypeId) (cs : Array Value) (h : n = w.heap.size) : Blk (w.alloc (.cells cs t)) n t cs := h ▸ Blk.new w t cs
theorem Blk.drew (h : Blk w g t cs) : Blk w.drew g t cs := h
theorem Blk.drewN (h : Blk w g t cs) (n : Nat) : Blk (w.drewN n) g t cs := h
theorem Blk.alloc (h : Blk w g t cs) (o : Obj) : Blk (w.alloc o) g t cs := (Below.heap_alloc w o g h.lt).trans h
theorem Blk.set_ (h : Blk w g t cs) (i : Nat) (u : Value) : Blk (w.setCell ⟨g, i, none⟩ u) g t (cs.setIfInBounds i u) := by
  unfold Blk at h ⊢
  simp [World.setCell, Array.getElem?_modify, h]
theorem Blk.far (h : Blk w g t cs) {p : Addr} (hp : g ≠ p.block) (u : Value) : Blk (w.setCell p u) g t cs := (Below.heap_setCell w p u g hp).trans h
theorem Blk.kept (h : Blk w g t cs) (hk : Kept G w w') (hg : ¬ G g) : Blk w' g t cs := (hk.block g h.lt hg).trans h
theorem Blk.ne_ {g' : Nat} {t' : TypeId} {cs' : Array Value} (h : Blk w g t cs) (h' : Blk w g' t' cs') (hne : t ≠ t') : g ≠ g' := by
  rintro rfl
  unfold Blk at h h'
  rw [h] at h'
  injection h' with h'
  injection h' with _ ht
  exact hne ht
theorem Blk.same {cs' : Array Value} (h : Blk w g t cs) (h' : Blk w g t cs') : cs = cs' := by
  unfold Blk at h h'
  rw [h] at h'
  injection h' with h'
  injection h' with e

theorem Kept.refl (G : Nat → Prop) (w : World) : Kept G w w := ⟨rfl, rfl, rfl, Nat.le_refl _, fun _ _ _ => rfl⟩
theorem Kept.trans (h : Kept G w w') (k : Kept G w' w'') : Kept G w w'' :=
  ⟨k.os.trans h.os, k.tape.trans h.tape, k.output.trans h.output, Nat.le_trans h.size k.size,
   fun i hi hg => (k.block i (Nat.lt_of_lt_of_le hi h.size) hg).trans (h.block i hi hg)⟩
theorem Kept.weaken (h : Kept G w w') (hGH : ∀ k, k < w.heap.size → G k → H k) : Kept H w w' :=
  ⟨h.os, h.tape, h.output, h.size, fun i hi hn => h.block i hi (fun hG => hn (hGH i hi hG))⟩
theorem Kept.drew (h : Kept G w w') : Kept G w w'.drew := ⟨h.os, h.tape, h.output, h.size, h.block⟩
theorem Kept.drewN (h : Kept G w w') (n : Nat) : Kept G w (w'.drewN n) := ⟨h.os, h.tape, h.output, h.size, h.block⟩
theorem Kept.alloc (h : Kept G w w') (o : Obj) : Kept G w (w'.alloc o) :=
  ⟨h.os, h.tape, h.output, Nat.le_trans h.size (by simp), fun i hi hne => (Below.heap_alloc w' o i (Nat.lt_of_lt_of_le hi h.size)).trans (h.block i hi hne)⟩
theorem Kept.setCell (h : Kept G w w') {p : Addr} (hp : G p.block ∨ w.heap.size ≤ p.block) (u : Value) : Kept G w (w'.setCell p u) :=
  ⟨h.os, h.tape, h.output, by simpa [World.setCell] using h.size, fun i hi hne => (Below.heap_setCell w' p u i (by
    rintro rfl
    rcases hp with hp | hp
    · exact hne hp
    · omega)).trans (h.block i hi hne)⟩
theorem Kept.grown (h : Kept G w w') {row : Option Nat} (hg : w'.grownBy w'' row) (hr : ∀ k, row = some k → G k ∨ w.heap.size ≤ k) : Kept G w w'' :=
  ⟨hg.os.trans h.os, hg.tape.trans h.tape, hg.output.trans h.output, Nat.le_trans h.size hg.size,
   fun i hi hne => (hg.block i (Nat.lt_of_lt_of_le hi h.size) (fun e => by rcases hr i e.symm with q | q; exact hne q; omega)).trans (h.block i hi hne)⟩
theorem Kept.below (h : Kept NoBlk w w') : Below w.heap.size w w' := ⟨h.os, h.tape, h.output, h.size, fun k hk => h.block k hk (fun e => e)⟩
theorem Kept.of_below (h : Below w.heap.size w w') : Kept NoBlk w w' := ⟨h.os, h.tape, h.output, h.size, fun k hk _ => h.block k hk⟩
/-- What turned blocks that were not there at the beginning turned nothing of the beginning. -/
theorem Kept.fresh (h : Kept NoBlk w w') (k : Kept G w' w'') (hG : ∀ b, G b → w.heap.size ≤ b) : Kept NoBlk w w'' :=
  ⟨k.os.trans h.os, k.tape.trans h.tape, k.output.trans h.output, Nat.le_trans h.size k.size,
   fun i hi hg => (k.block i (Nat.lt_of_lt_of_le hi h.size) (fun e => by have := hG i e; omega)).trans (h.block i hi hg)⟩
theorem Kept.cell (h : Kept G w w') {p : Addr} (hp : p.block < w.heap.size) (hg : ¬ G p.block) : w'.cell? p = w.cell? p := World.cell?_of_block (w := w) (h.block p.block hp hg)
theorem Kept.frozen (h : Kept G w w') {p : Addr} (hp : p.block < w.heap.size) (hg : ¬ G p.block) : w'.frozen? p = w.frozen? p := World.frozen?_of_block (w := w) (h.block p.block hp hg)
end

theorem oneHit {g i n : Nat} {s : Option Nat} : OneBlk g (⟨g, i, s⟩ : Addr).block ∨ n ≤ (⟨g, i, s⟩ : Addr).block := Or.inl rfl
theorem newHit {G : Nat → Prop} {b i n : Nat} {s : Option Nat} (h : n ≤ b) : G (⟨b, i, s⟩ : Addr).block ∨ n ≤ (⟨b, i, s⟩ : Addr).block := Or.inr h
theorem Blk.cast {w : World} {g : Nat} {t : TypeId} {cs cs' : Array Value} (h : Blk w g t cs) (e : cs = cs') : Blk w g t cs' := e ▸ h

/-- The slice value v holds n elements of m cells each, of element type t: the cells xs. -/
def Row (w : World) (t : TypeId) (m : Nat) (v : Value) (n : Nat) (xs : List Value) : Prop :=
  xs.length = n * m ∧ ((v = .slice none 0 0 ∧ n = 0) ∨
    ∃ b off cap cur, v = .slice (some ⟨b, off, none⟩) n cap ∧ Blk w b t cur ∧ n ≤ cap ∧ cap ≤ maxLen ∧ off + n * m ≤ cur.size ∧ (cur.toList.drop off).take (n * m) = xs)

section
variable {w w' : World} {t : TypeId} {m n : Nat} {v : Value} {xs : List Value} {G : Nat → Prop}
theorem Row.nil (w : World) (t : TypeId) (m : Nat) : Row w t m (.slice none 0 0) 0 [] := ⟨by simp, .inl ⟨rfl, rfl⟩⟩
theorem Row.kept (h : Row w t m v n xs) (hk : Kept G w w') (hg : ∀ b cs, Blk w b t cs → ¬ G b) : Row w' t m v n xs := by
  obtain ⟨hl, h | ⟨b, off, cap, cur, hv, hb, r⟩⟩ := h
  · exact ⟨hl, .inl h⟩
  · exact ⟨hl, .inr ⟨b, off, cap, cur, hv, hb.kept hk (hg b cur hb), r⟩⟩
theorem Row.of_own {base : Nat} (h : w.ownsRow base t m v n xs) : Row w t m v n xs := by
  obtain ⟨hl, h | ⟨g, cap, cur, hv, _, hg, hn, hm, hs, ht⟩⟩ := h
  · exact ⟨hl, .inl h⟩
  · exact ⟨hl, .inr ⟨g, 0, cap, cur, hv, hg, hn, hm, by rw [hs]; have := Nat.mul_le_mul_right m hn; omega, by simpa using ht⟩⟩
/-- The value written out, and each of its cells. -/
theorem Row.form (h : Row w t m v n xs) : ∃ A cap, v = .slice A n cap ∧ n ≤ cap ∧ cap ≤ maxLen ∧ (A = none → n = 0 ∧ cap = 0) ∧
    (∀ b, A = some b → b.spot = none ∧ ∃ cs, Blk w b.block t cs) ∧ ∀ b, A = some b → ∀ j u, xs[j]? = some u → w.cell? (b.add j) = some u := by
  obtain ⟨hl, ⟨hv, hn⟩ | ⟨b, off, cap, cur, hv, hb, hn, hm, hs, ht⟩⟩ := h
  · subst hn
    exact ⟨none, 0, hv, Nat.le_refl _, by simp [maxLen], fun _ => ⟨rfl, rfl⟩, fun b e => (by cases e), fun b e => (by cases e)⟩
  · refine ⟨some ⟨b, off, none⟩, cap, hv, hn, hm, fun e => (by cases e), fun a e => ?_, fun a e j u hu => ?_⟩
    · cases e
      exact ⟨rfl, cur, hb⟩
    · cases e
      have hadd : (⟨b, off, none⟩ : Addr).add j = ⟨b, off + j, none⟩ := by unfold Addr.add; split <;> simp_all
      rw [hadd, hb.cell _, ← Array.getElem?_toList]
      rw [← ht, List.getElem?_take, List.getElem?_drop] at hu
      split at hu
      · exact hu
      · cases hu
/-- The block and the place where a row of some elements lies. -/
theorem Row.place (h : Row w t m v n xs) (hn : 0 < n) : ∃ b off cap, v = .slice (some ⟨b, off, none⟩) n cap ∧ n ≤ cap ∧ cap ≤ maxLen ∧ b < w.heap.size ∧ (∃ cs, Blk w b t cs) ∧ ∀ j u, xs[j]? = some u → w.cell? ⟨b, off + j, none⟩ = some u := by
  obtain ⟨A, cap, hv, h1, h2, hA, hb, hc⟩ := h.form
  cases A with
  | none => have := (hA rfl).1; omega
  | some a =>
    obtain ⟨hsp, cs, hB⟩ := hb a rfl
    obtain ⟨b, off, sp⟩ := a
    obtain rfl : sp = none := hsp
    refine ⟨b, off, cap, hv, h1, h2, hB.lt, ⟨cs, hB⟩, fun j u hu => ?_⟩
    have hadd : (⟨b, off, none⟩ : Addr).add j = ⟨b, off + j, none⟩ := by unfold Addr.add; split <;> simp_all
    have := hc _ rfl j u hu
    rwa [hadd] at this
end

theorem Row.new {w : World} {t : TypeId} {m k : Nat} {cs : Array Value} {b : Nat} (hB : Blk w b t cs) (hs : cs.size = k * m) (hk : k ≤ maxLen) : Row w t m (.slice (some ⟨b, 0, none⟩) k k) k cs.toList :=
  ⟨by simpa using hs, .inr ⟨b, 0, k, cs, rfl, hB, Nat.le_refl _, hk, by omega, by rw [← hs]; exact List.take_of_length_le (by simp)⟩⟩
theorem Row.clip {w : World} {t : TypeId} {m n cap : Nat} {A : Option Addr} {xs : List Value} (h : Row w t m (.slice A n cap) n xs) : Row w t m (.slice A n n) n xs := by
  obtain ⟨hl, ⟨hv, hn⟩ | ⟨b, off, c, cur, hv, hb, hn, hm, hs, ht⟩⟩ := h
  · subst hn
    injection hv with h1 h2 h3
    subst h1
    exact ⟨hl, .inl ⟨rfl, rfl⟩⟩
  · injection hv with h1 h2 h3
    subst h1
    exact ⟨hl, .inr ⟨b, off, n, cur, rfl, hb, Nat.le_refl _, by omega, hs, ht⟩⟩
/-- What a row holds is fixed by its value. -/
theorem Row.same {w : World} {t : TypeId} {m n : Nat} {v : Value} {xs ys : List Value} (h : Row w t m v n xs) (h' : Row w t m v n ys) : xs = ys := by
  obtain ⟨hl, ⟨hv, hn⟩ | ⟨b, off, c, cur, hv, hb, hn, hm, hs, ht⟩⟩ := h <;> obtain ⟨hl', ⟨hv', hn'⟩ | ⟨b', off', c', cur', hv', hb', hn'', hm', hs', ht'⟩⟩ := h'
  · subst hn
    have e1 : xs = [] := List.eq_nil_of_length_eq_zero (by simpa using hl)
    have e2 : ys = [] := List.eq_nil_of_length_eq_zero (by simpa using hl')
    rw [e1, e2]
  · rw [hv] at hv'; simp at hv'
  · rw [hv'] at hv; simp at hv
  · rw [hv] at hv'
    injection hv' with e1 e2 e3
    injection e1 with e1
    injection e1 with e4 e5 e6
    subst e4 e5
    obtain rfl := hb.same hb'
    rw [← ht, ← ht']
/-- The row without its first n0 elements. -/
theorem Row.drop {w : World} {t : TypeId} {m n k : Nat} {b off cap : Nat} {xs : List Value} (h : Row w t m (.slice (some ⟨b, off, none⟩) (n + k) cap) (n + k) xs) :
    Row w t m (.slice (some ⟨b, off + n * m, none⟩) k (cap - n)) k (xs.drop (n * m)) := by
  obtain ⟨hl, ⟨hv, hn⟩ | ⟨b', off', c, cur, hv, hb, hn, hm, hs, ht⟩⟩ := h
  · cases hv
  · injection hv with h1 h2 h3
    injection h1 with h1
    injection h1 with h4 h5 h6
    subst h4 h5 h3
    rw [Nat.add_mul] at hl hs ht
    refine ⟨by simp [hl], .inr ⟨b, off + n * m, cap - n, cur, rfl, hb, by omega, by omega, by omega, ?_⟩⟩
    rw [← ht, List.drop_take, List.drop_drop]
    congr 1
    omega

theorem own_none (w : World) (base : Nat) (t : TypeId) (m : Nat) : w.ownsRow base t m (.slice none 0 0) 0 [] := World.ownsRow_nil w base t m
theorem own_new {w : World} {t : TypeId} {m b base : Nat} (hB : Blk w b t #[]) (hb : base ≤ b) : w.ownsRow base t m (.slice (some ⟨b, 0, none⟩) 0 0) 0 [] :=
  ⟨by simp, .inr ⟨b, 0, #[], rfl, hb, hB, Nat.le_refl _, by simp [maxLen], by simp, by simp⟩⟩
theorem own_kept {w w' : World} {base : Nat} {t : TypeId} {m n : Nat} {v : Value} {xs : List Value} {G : Nat → Prop} (h : w.ownsRow base t m v n xs) (hk : Kept G w w') (hg : ∀ b, base ≤ b → ¬ G b) : w'.ownsRow base t m v n xs := by
  obtain ⟨hl, h | ⟨g, cap, cur, hv, hb, hgg, r⟩⟩ := h
  · exact ⟨hl, .inl h⟩
  · exact ⟨hl, .inr ⟨g, cap, cur, hv, hb, Blk.kept hgg hk (hg g hb), r⟩⟩

/-! ### append: a row that must grow moves to a new block; a row of the call's own takes it. -/
section
variable {P : Program}
theorem Row.src {w : World} {t : TypeId} {m k c : Nat} {B : Option Addr} {news : List Value} (h : Row w t m (.slice B k c) k news) (hk : 0 < k) :
    ∃ ad, B = some ad ∧ news.length = k * m ∧ ∀ j u, news[j]? = some u → w.cell? (ad.add j) = some u := by
  obtain ⟨A, cap, hv, _, _, hA, _, hc⟩ := h.form
  injection hv with h1 h2 h3
  subst h1
  cases B with
  | none => have := (hA rfl).1; omega
  | some ad => exact ⟨ad, rfl, h.1, hc ad rfl⟩

theorem infoParts {e : TypeId} {size bytes : Nat} (hI : (P.info? e).map (fun i => (i.zero.map (·.cells.size), i.size, i.bytes)) = some (some size, size, bytes)) :
    ∃ i z, P.info? e = some i ∧ i.zero = some z ∧ i.size = size ∧ i.bytes = bytes ∧ z.cells.size = size := by
  obtain ⟨i, hi, h⟩ := Option.map_eq_some_iff.1 hI
  simp only [Prod.mk.injEq] at h
  obtain ⟨z, hz, hzs⟩ := Option.map_eq_some_iff.1 h.1
  exact ⟨i, z, hi, hz, h.2.1, h.2.2, hzs⟩

theorem wp_append_grow {o : Oper} {a : Act} {w : World} {K : Act → World → Prop} {Q : Exit → Act → World → Prop} (s x : Operand) (t : TypeId) (ho : o.op = .call { callee := .builtin .append, args := #[s, x], argTypes := #[t, t] })
    (e : TypeId) (size bytes : Nat) (h1 : P.underlying t = some (.slice e)) (hI : (P.info? e).map (fun i => (i.zero.map (·.cells.size), i.size, i.bytes)) = some (some size, size, bytes)) (hsz : 0 < size)
    (A : Option Addr) (n cap : Nat) (xs : List Value) (hs : a.eval s = .slice A n cap) (hr : Row w e size (.slice A n cap) n xs)
    (B : Option Addr) (k c : Nat) (news : List Value) (hx : a.eval x = .slice B k c) (hr2 : Row w e size (.slice B k c) k news) (hone : news.all (·.oneCell') = true)
    (hfull : cap < n + k) (b1 : n + k ≤ maxLen) (b2 : (n + k) * bytes ≤ 140737488355328)
    (h : ∀ g' cap' w', Row w' e size (.slice (some ⟨g', 0, none⟩) (n + k) cap') (n + k) (xs ++ news) → w.heap.size ≤ g' → g' < w'.heap.size → Kept NoBlk w w' → K (a.put o.dst (.slice (some ⟨g', 0, none⟩) (n + k) cap')) w') : o.wp P a w K Q := by
  obtain ⟨i, z, hi, hz, hz1, hz2, hz3⟩ := infoParts hI
  obtain ⟨A', cp, hv, hnc, _, hA, _, hcells⟩ := hr.form
  injection hv with q1 q2 q3
  subst q1; subst q3
  obtain ⟨ad, rfl, hnl, hnews⟩ := hr2.src (by omega)
  have key : ∀ v' w', (Builtin.append_ #[t, t] o.type #[.slice A n cap, .slice (some ad) k c]).run P w = .ok v' w' → w'.ownsRow w.heap.size e size v' (n + k) (xs ++ news) → w.grownBy w' none → o.wp P a w K Q := by
    intro v' w' hrun r1 r2
    obtain ⟨g', cap', rfl, hg1, hg2⟩ : ∃ g' cap', v' = .slice (some ⟨g', 0, none⟩) (n + k) cap' ∧ w.heap.size ≤ g' ∧ g' < w'.heap.size := by
      rcases r1.2 with ⟨_, h⟩ | ⟨g', cap', cur, h, hb, hg, _⟩
      · omega
      · exact ⟨g', cap', h, hb, Blk.lt hg⟩
    unfold Oper.wp
    simp [execOp, ho, resolve, invoke, builtin, hs, hx, hrun, Result.andThen]
    exact h _ _ _ (Row.of_own r1) hg1 hg2 ((Kept.refl _ _).grown r2 (fun k e => by cases e))
  cases A with
  | some b =>
    obtain ⟨v', w', hrun, r1, r2⟩ := run_append_arg_grows (P := P) w t o.type e i z size bytes h1 hi hz hz1 hz2 hz3 hsz b n cap xs hr.1 (hcells b rfl) ad k c news hnl hnews hfull b1 b2
    exact key _ _ hrun r1 r2
  | none =>
    obtain ⟨rfl, rfl⟩ := hA rfl
    obtain rfl : xs = [] := List.eq_nil_of_length_eq_zero (by simpa using hr.1)
    obtain ⟨v', w', hrun, r1, r2, _⟩ := run_append_own (P := P) w w.heap.size t o.type e i z size bytes h1 hi hz hz1 hz2 hz3 hsz (.slice none 0 0) 0 [] (World.ownsRow_nil w _ e size) ad k c news hnl hnews (fun u hu => List.all_eq_true.1 hone u hu) b1 b2 (Nat.le_refl _)
    exact key _ _ hrun r1 r2

theorem wpList_append_grow {ops : Array Oper} {rest : List Oper} {o : Oper} {a : Act} {w : World} {Q : Exit → Act → World → Prop} (hgd : o.guard = none) (s x : Operand) (t : TypeId) (ho : o.op = .call { callee := .builtin .append, args := #[s, x], argTypes := #[t, t] })
    (e : TypeId) (size bytes : Nat) (h1 : P.underlying t = some (.slice e)) (hI : (P.info? e).map (fun i => (i.zero.map (·.cells.size), i.size, i.bytes)) = some (some size, size, bytes)) (hsz : 0 < size)
    (A : Option Addr) (n cap : Nat) (xs : List Value) (hs : a.eval s = .slice A n cap) (hr : Row w e size (.slice A n cap) n xs)
    (B : Option Addr) (k c : Nat) (news : List Value) (hx : a.eval x = .slice B k c) (hr2 : Row w e size (.slice B k c) k news) (hone : news.all (·.oneCell') = true)
    (hfull : cap < n + k) (b1 : n + k ≤ maxLen) (b2 : (n + k) * bytes ≤ 140737488355328)
    (h : ∀ g' cap' w', Row w' e size (.slice (some ⟨g', 0, none⟩) (n + k) cap') (n + k) (xs ++ news) → w.heap.size ≤ g' → g' < w'.heap.size → Kept NoBlk w w' → wpList P ops Q rest (a.put o.dst (.slice (some ⟨g', 0, none⟩) (n + k) cap')) w') : wpList P ops Q (o :: rest) a w :=
  wpList_plain hgd fun _ hK => wp_append_grow s x t ho e size bytes h1 hI hsz A n cap xs hs hr B k c news hx hr2 hone hfull b1 b2 fun g' cap' w' r1 r2 r3 r4 => hK _ _ (h g' cap' w' r1 r2 r3 r4)

theorem step_append_grow {ops : Array Oper} {o : Oper} {a : Act} {w : World} {K : Act → World → Prop} {Q : Exit → Act → World → Prop} {E : Prop} (hgd : o.guard = none) (s x : Operand) (t : TypeId) (ho : o.op = .call { callee := .builtin .append, args := #[s, x], argTypes := #[t, t] })
    (e : TypeId) (size bytes : Nat) (h1 : P.underlying t = some (.slice e)) (hI : (P.info? e).map (fun i => (i.zero.map (·.cells.size), i.size, i.bytes)) = some (some size, size, bytes)) (hsz : 0 < size)
    (A : Option Addr) (n cap : Nat) (xs : List Value) (hs : a.eval s = .slice A n cap) (hr : Row w e size (.slice A n cap) n xs)
    (B : Option Addr) (k c : Nat) (news : List Value) (hx : a.eval x = .slice B k c) (hr2 : Row w e size (.slice B k c) k news) (hone : news.all (·.oneCell') = true)
    (hfull : cap < n + k) (b1 : n + k ≤ maxLen) (b2 : (n + k) * bytes ≤ 140737488355328)
    (h : ∀ g' cap' w', Row w' e size (.slice (some ⟨g', 0, none⟩) (n + k) cap') (n + k) (xs ++ news) → w.heap.size ≤ g' → g' < w'.heap.size → Kept NoBlk w w' → K (a.put o.dst (.slice (some ⟨g', 0, none⟩) (n + k) cap')) w') :
    if Region.wanted o (yielded ops a.tmps) = true then Oper.wp P o a w K Q else E := by
  have hw : Region.wanted o (yielded ops a.tmps) = true := by simp [Region.wanted, hgd]
  rw [if_pos hw]
  exact wp_append_grow s x t ho e size bytes h1 hI hsz A n cap xs hs hr B k c news hx hr2 hone hfull b1 b2 h

theorem wp_append_own1 {o : Oper} {a : Act} {w : World} {K : Act → World → Prop} {Q : Exit → Act → World → Prop} (s x : Operand) (t : TypeId) (ho : o.op = .call { callee := .builtin .append, args := #[s, x], argTypes := #[t, t] })
    (e : TypeId) (size bytes : Nat) (h1 : P.underlying t = some (.slice e)) (hI : (P.info? e).map (fun i => (i.zero.map (·.cells.size), i.size, i.bytes)) = some (some size, size, bytes)) (hsz : 0 < size)
    (base : Nat) (v : Value) (n : Nat) (xs : List Value) (hs : a.eval s = v) (hown : w.ownsRow base e size v n xs)
    (B : Option Addr) (k c : Nat) (news : List Value) (hx : a.eval x = .slice B k c) (hr2 : Row w e size (.slice B k c) k news) (hone : news.all (·.oneCell') = true)
    (b1 : n + k ≤ maxLen) (b2 : (n + k) * bytes ≤ 140737488355328) (hbase : base ≤ w.heap.size)
    (h : ∀ A' cap' w', w'.ownsRow base e size (.slice A' (n + k) cap') (n + k) (xs ++ news) → Kept (fun b => v.ownBlock = some b) w w' → K (a.put o.dst (.slice A' (n + k) cap')) w') : o.wp P a w K Q := by
  obtain ⟨i, z, hi, hz, hz1, hz2, hz3⟩ := infoParts hI
  have key : ∀ v' w', (Builtin.append_ #[t, t] o.type #[v, .slice B k c]).run P w = .ok v' w' → w'.ownsRow base e size v' (n + k) (xs ++ news) → w.grownBy w' v.ownBlock → o.wp P a w K Q := by
    intro v' w' hrun r1 r2
    obtain ⟨A', cap', rfl⟩ : ∃ A' cap', v' = .slice A' (n + k) cap' := by
      rcases r1.2 with ⟨h, h0⟩ | ⟨g', cap', cur, h, _⟩
      · exact ⟨none, 0, by rw [h, h0]⟩
      · exact ⟨_, cap', h⟩
    unfold Oper.wp
    simp [execOp, ho, resolve, invoke, builtin, hs, hx, hrun, Result.andThen]
    exact h _ _ _ r1 ((Kept.refl _ _).grown r2 (fun b e => .inl e))
  rcases Nat.eq_zero_or_pos k with rfl | hk
  · obtain rfl : news = [] := List.eq_nil_of_length_eq_zero (by simpa using hr2.1)
    obtain ⟨A2, cap2, hv2, _, hm2, hA2, _, _⟩ := hr2.form
    injection hv2 with q1 q2 q3
    subst q1; subst q3
    have hrun : (Builtin.append_ #[t, t] o.type #[v, .slice B 0 c]).run P w = .ok v w := by
      rcases hown.2 with ⟨rfl, rfl⟩ | ⟨g, cap, cur, rfl, _, _, hnc, _⟩
      · cases B <;> simp [Builtin.append_, run_underlying h1, sizeOf, typeInfo, hi, Builtin.lenOf, Builtin.firstCells, loadCells, loadCellsFrom]
      · cases B <;> simp [Builtin.append_, run_underlying h1, sizeOf, typeInfo, hi, Builtin.lenOf, Builtin.firstCells, hnc, storeCells, loadCells, loadCellsFrom]
    exact key _ _ hrun (by simpa using hown) (World.grownBy.refl w _)
  · obtain ⟨ad, rfl, hnl, hnews⟩ := hr2.src hk
    obtain ⟨v', w', hrun, r1, r2, _⟩ := run_append_own (P := P) w base t o.type e i z size bytes h1 hi hz hz1 hz2 hz3 hsz v n xs hown ad k c news hnl hnews (fun u hu => List.all_eq_true.1 hone u hu) b1 b2 hbase
    exact key _ _ hrun r1 r2

theorem wp_append_mine {o : Oper} {a : Act} {w : World} {K : Act → World → Prop} {Q : Exit → Act → World → Prop} (s x : Operand) (t : TypeId) (ho : o.op = .call { callee := .builtin .append, args := #[s, x], argTypes := #[t, t] })
    (e : TypeId) (size bytes : Nat) (h1 : P.underlying t = some (.slice e)) (hI : (P.info? e).map (fun i => (i.zero.map (·.cells.size), i.size, i.bytes)) = some (some size, size, bytes)) (hsz : 0 < size)
    (base : Nat) (v : Value) (n : Nat) (xs : List Value) (hs : a.eval s = v) (hown : w.ownsRow base e size v n xs)
    (B : Option Addr) (k c : Nat) (news : List Value) (hx : a.eval x = .slice B k c) (hr2 : Row w e size (.slice B k c) k news) (hone : news.all (·.oneCell') = true)
    (b1 : n + k ≤ maxLen) (b2 : (n + k) * bytes ≤ 140737488355328) (hbase : base ≤ w.heap.size)
    (h : ∀ A' cap' w', w'.ownsRow base e size (.slice A' (n + k) cap') (n + k) (xs ++ news) → Kept (fun b => base ≤ b) w w' → K (a.put o.dst (.slice A' (n + k) cap')) w') : o.wp P a w K Q :=
  wp_append_own1 s x t ho e size bytes h1 hI hsz base v n xs hs hown B k c news hx hr2 hone b1 b2 hbase fun A' cap' w' r1 r2 => h A' cap' w' r1 (r2.weaken fun b _ hb => (hown.lt b hb).1)

theorem wpList_append_mine {ops : Array Oper} {rest : List Oper} {o : Oper} {a : Act} {w : World} {Q : Exit → Act → World → Prop} (hgd : o.guard = none) (s x : Operand) (t : TypeId) (ho : o.op = .call { callee := .builtin .append, args := #[s, x], argTypes := #[t, t] })
    (e : TypeId) (size bytes : Nat) (h1 : P.underlying t = some (.slice e)) (hI : (P.info? e).map (fun i => (i.zero.map (·.cells.size), i.size, i.bytes)) = some (some size, size, bytes)) (hsz : 0 < size)
    (base : Nat) (v : Value) (n : Nat) (xs : List Value) (hs : a.eval s = v) (hown : w.ownsRow base e size v n xs)
    (B : Option Addr) (k c : Nat) (news : List Value) (hx : a.eval x = .slice B k c) (hr2 : Row w e size (.slice B k c) k news) (hone : news.all (·.oneCell') = true)
    (b1 : n + k ≤ maxLen) (b2 : (n + k) * bytes ≤ 140737488355328) (hbase : base ≤ w.heap.size)
    (h : ∀ A' cap' w', w'.ownsRow base e size (.slice A' (n + k) cap') (n + k) (xs ++ news) → Kept (fun b => base ≤ b) w w' → wpList P ops Q rest (a.put o.dst (.slice A' (n + k) cap')) w') : wpList P ops Q (o :: rest) a w :=
  wpList_plain hgd fun _ hK => wp_append_mine s x t ho e size bytes h1 hI hsz base v n xs hs hown B k c news hx hr2 hone b1 b2 hbase fun A' cap' w' r1 r2 => hK _ _ (h A' cap' w' r1 r2)

theorem step_append_mine {ops : Array Oper} {o : Oper} {a : Act} {w : World} {K : Act → World → Prop} {Q : Exit → Act → World → Prop} {E : Prop} (hgd : o.guard = none) (s x : Operand) (t : TypeId) (ho : o.op = .call { callee := .builtin .append, args := #[s, x], argTypes := #[t, t] })
    (e : TypeId) (size bytes : Nat) (h1 : P.underlying t = some (.slice e)) (hI : (P.info? e).map (fun i => (i.zero.map (·.cells.size), i.size, i.bytes)) = some (some size, size, bytes)) (hsz : 0 < size)
    (base : Nat) (v : Value) (n : Nat) (xs : List Value) (hs : a.eval s = v) (hown : w.ownsRow base e size v n xs)
    (B : Option Addr) (k c : Nat) (news : List Value) (hx : a.eval x = .slice B k c) (hr2 : Row w e size (.slice B k c) k news) (hone : news.all (·.oneCell') = true)
    (b1 : n + k ≤ maxLen) (b2 : (n + k) * bytes ≤ 140737488355328) (hbase : base ≤ w.heap.size)
    (h : ∀ A' cap' w', w'.ownsRow base e size (.slice A' (n + k) cap') (n + k) (xs ++ news) → Kept (fun b => base ≤ b) w w' → K (a.put o.dst (.slice A' (n + k) cap')) w') :
    if Region.wanted o (yielded ops a.tmps) = true then Oper.wp P o a w K Q else E := by
  have hw : Region.wanted o (yielded ops a.tmps) = true := by simp [Region.wanted, hgd]
  rw [if_pos hw]
  exact wp_append_mine s x t ho e size bytes h1 hI hsz base v n xs hs hown B k c news hx hr2 hone b1 b2 hbase h
theorem step_append_own1 {ops : Array Oper} {o : Oper} {a : Act} {w : World} {K : Act → World → Prop} {Q : Exit → Act → World → Prop} {E : Prop} (hgd : o.guard = none) (s x : Operand) (t : TypeId) (ho : o.op = .call { callee := .builtin .append, args := #[s, x], argTypes := #[t, t] })
    (e : TypeId) (size bytes : Nat) (h1 : P.underlying t = some (.slice e)) (hI : (P.info? e).map (fun i => (i.zero.map (·.cells.size), i.size, i.bytes)) = some (some size, size, bytes)) (hsz : 0 < size)
    (base : Nat) (v : Value) (n : Nat) (xs : List Value) (hs : a.eval s = v) (hown : w.ownsRow base e size v n xs)
    (B : Option Addr) (k c : Nat) (news : List Value) (hx : a.eval x = .slice B k c) (hr2 : Row w e size (.slice B k c) k news) (hone : news.all (·.oneCell') = true)
    (b1 : n + k ≤ maxLen) (b2 : (n + k) * bytes ≤ 140737488355328) (hbase : base ≤ w.heap.size)
    (h : ∀ A' cap' w', w'.ownsRow base e size (.slice A' (n + k) cap') (n + k) (xs ++ news) → Kept (fun b => v.ownBlock = some b) w w' → K (a.put o.dst (.slice A' (n + k) cap')) w') :
    if Region.wanted o (yielded ops a.tmps) = true then Oper.wp P o a w K Q else E := by
  have hw : Region.wanted o (yielded ops a.tmps) = true := by simp [Region.wanted, hgd]
  rw [if_pos hw]
  exact wp_append_own1 s x t ho e size bytes h1 hI hsz base v n xs hs hown B k c news hx hr2 hone b1 b2 hbase h
end

/-! ### A store of many cells into a block that is known whole: what it comes to, and no word of how. -/
section
variable {P : Program}
theorem Kept.setRow (w : World) (g : Nat) (cs : Array Value) : Kept (OneBlk g) w (w.setRow g cs) :=
  ⟨rfl, rfl, rfl, by simp, fun k _ hk => setRow_other w g k cs (fun e => hk e)⟩

theorem wp_store_blk {o : Oper} {a : Act} {w : World} {K : Act → World → Prop} {Q : Exit → Act → World → Prop} (x y : Operand) (T : TypeId) (ho : o.op = .store T x y)
    (g off : Nat) (t : TypeId) (cs : Array Value) (hB : Blk w g t cs) (hx : a.eval x = .pointer (some ⟨g, off, none⟩)) (vs : Array Value) (hy : (a.eval y).cells = vs)
    (hi : (P.info? T).map (·.size) = some vs.size) (hfit : off + vs.size ≤ cs.size) (h1 : vs.toList.all (·.oneCell') = true)
    (h : ∀ w', Blk w' g t (cs.toList.take off ++ vs.toList ++ cs.toList.drop (off + vs.size)).toArray → Kept (OneBlk g) w w' → K (a.put o.dst undef) w') : o.wp P a w K Q := by
  obtain ⟨i, hi, hs⟩ := Option.map_eq_some_iff.1 hi
  have hrun := run_storeCells_at (P := P) g off t vs.toList 0 cs w hB (by simpa using hfit) (fun v hv => List.all_eq_true.1 h1 v hv)
  have hr : (storeVar T ⟨g, off, none⟩ (a.eval y)).run P w = .ok () (w.setRow g (cs.toList.take off ++ vs.toList ++ cs.toList.drop (off + vs.size)).toArray) := by
    simp only [Nat.add_zero, Array.length_toList] at hrun
    simp [storeVar, hy, sizeOf, typeInfo, hi, hs, hrun]
  unfold Oper.wp execOp
  simp only [ho, hx, Instr.storeAt, Instr.sureAddr, Sem.run_bind, Sem.run_pure, Result.andThen_ok, hr]
  exact h _ (setRow_heap w g cs _ t _ hB) (Kept.setRow w g _)

theorem wpList_store_blk {ops : Array Oper} {rest : List Oper} {o : Oper} {a : Act} {w : World} {Q : Exit → Act → World → Prop} (hgd : o.guard = none) (x y : Operand) (T : TypeId) (ho : o.op = .store T x y)
    (g off : Nat) (t : TypeId) (cs : Array Value) (hB : Blk w g t cs) (hx : a.eval x = .pointer (some ⟨g, off, none⟩)) (vs : Array Value) (hy : (a.eval y).cells = vs)
    (hi : (P.info? T).map (·.size) = some vs.size) (hfit : off + vs.size ≤ cs.size) (h1 : vs.toList.all (·.oneCell') = true)
    (h : ∀ w', Blk w' g t (cs.toList.take off ++ vs.toList ++ cs.toList.drop (off + vs.size)).toArray → Kept (OneBlk g) w w' → wpList P ops Q rest (a.put o.dst undef) w') : wpList P ops Q (o :: rest) a w :=
  wpList_plain hgd fun _ hK => wp_store_blk x y T ho g off t cs hB hx vs hy hi hfit h1 fun w' h2 h3 => hK _ _ (h w' h2 h3)

theorem step_store_blk {ops : Array Oper} {o : Oper} {a : Act} {w : World} {K : Act → World → Prop} {Q : Exit → Act → World → Prop} {E : Prop} (hgd : o.guard = none) (x y : Operand) (T : TypeId) (ho : o.op = .store T x y)
    (g off : Nat) (t : TypeId) (cs : Array Value) (hB : Blk w g t cs) (hx : a.eval x = .pointer (some ⟨g, off, none⟩)) (vs : Array Value) (hy : (a.eval y).cells = vs)
    (hi : (P.info? T).map (·.size) = some vs.size) (hfit : off + vs.size ≤ cs.size) (h1 : vs.toList.all (·.oneCell') = true)
    (h : ∀ w', Blk w' g t (cs.toList.take off ++ vs.toList ++ cs.toList.drop (off + vs.size)).toArray → Kept (OneBlk g) w w' → K (a.put o.dst undef) w') :
    if Region.wanted o (yielded ops a.tmps) = true then Oper.wp P o a w K Q else E := by
  have hw : Region.wanted o (yielded ops a.tmps) = true := by simp [Region.wanted, hgd]
  rw [if_pos hw]
  exact wp_store_blk x y T ho g off t cs hB hx vs hy hi hfit h1 h
end

/-! ### The row of a law: true, and nothing that was there has turned. -/
section
variable {H : Type} {enc : TypeId × Value → H} {P : Program}
theorem post_of_below {f : Func} {s : ChangeSpec} {apart fresh handsOn again : Bool} {W W' : World} {args : Array Value} {v : Value} {ds gs : List (DataW H)} {before pa pv : List MemPlace}
    (hW : DataW.Whole enc P f.params.toList s.vars apart W args.toList ds gs before)
    (hres : ∀ (b : Nat) (sp : Nat → Bool) (hd : Bool), DataW.TrodAll enc P W' b sp hd f.resultTypes.toList (v.resultList f.resultTypes.size) (s.fn H (ds ++ gs)).results [])
    (hargs : ∀ sp : Nat → Bool, (∀ p ∈ before, sp p.block = true) → DataW.TrodAll enc P W' 0 sp true f.params.toList args.toList (s.fn H (ds ++ gs)).args pa)
    (hvars : ∀ sp : Nat → Bool, (∀ p ∈ before, sp p.block = true) → DataW.TrodVars enc P W' sp s.vars (s.fn H (ds ++ gs)).vars pv)
    (hps : before = pa ++ pv) (hb : Below W.heap.size W W')
    (hok : ∀ (j : Nat) (t : TypeId) (r : Value), f.resultTypes[j]? = some t → (v.resultList f.resultTypes.size)[j]? = some r → Value.okWide P W' .any 0 t r) :
    s.post enc P f apart fresh handsOn again W args v W' := by
  have hlt : ∀ p ∈ before, p.block < W.heap.size := fun p hp => hW.lt p hp
  have hold : ∀ p ∈ before, (fun b => decide (b < W.heap.size)) p.block = true := fun p hp => by simpa using hlt p hp
  refine ⟨ds, gs, before, [], pa, pv, hW, hres _ _ _, hargs _ hold, hvars _ hold, World.keptBut_mono (fun p hp => ⟨hp, ?_⟩) (hb.frame (· ∈ before)), fun _ => ?_⟩
  · rw [hps, List.mem_append] at hp
    exact Or.inr hp
  · obtain ⟨_, _, _, _, _, hz, hn⟩ := hW
    refine ⟨hok, _, _, ([] ++ pa) ++ pv, ⟨[] ++ pa, pv, trodAll_append (hargs _ (fun _ _ => rfl)) (hres _ _ _), hvars _ (fun _ _ => rfl), rfl, ?_, ?_⟩, ?_⟩
    · intro b off hp
      have hin : MemPlace.cell b off ∈ before := by rw [hps]; simpa using hp
      rw [hb.frozen (hlt _ hin)]
      exact hz b off hin
    · intro ha
      have := hn ha
      rw [hps] at this
      simpa using this
    · intro p hp _
      rw [hps]
      simpa using hp

/-- The arguments read behind a call that turned nothing as they read ahead of it. -/
theorem trodAll_below (hl : laidOutB P = true) {W W' : World} (hb : Below W.heap.size W W') :
    ∀ (ts : List TypeId) (vs : List Value) (ds : List (DataW H)) (ps : List MemPlace), (∀ t ∈ ts, P.readableRec t = true ∧ t < P.types.size) → (∀ x ∈ ps, x.block < W.heap.size) →
      DataW.TrodAll enc P W 0 (fun _ => true) true ts vs ds ps → ∀ sp : Nat → Bool, (∀ x ∈ ps, sp x.block = true) → DataW.TrodAll enc P W' 0 sp true ts vs ds ps
  | [], [], [], ps, _, _, h, _, _ => h
  | t :: ts, v :: vs, d :: ds, ps, ht, hlt, h, sp, hsp => by
    obtain ⟨p, q, h1, h2, rfl⟩ := h
    refine ⟨p, q, ?_, trodAll_below hl hb ts vs ds q (fun t h => ht t (List.mem_cons_of_mem _ h)) (fun x hx => hlt x (List.mem_append_right _ hx)) h2 sp (fun x hx => hsp x (List.mem_append_right _ hx)), rfl⟩
    exact WideElems.Trod_stays hl (ht t (List.mem_cons_self ..)).1 (ht t (List.mem_cons_self ..)).2 h1 (fun x hx => hb.same (hlt x (List.mem_append_left _ hx))) (fun x hx => hsp x (List.mem_append_left _ hx))
  | [], [], _ :: _, _, _, _, h, _, _ => h.elim
  | [], _ :: _, _, _, _, _, h, _, _ => h.elim
  | _ :: _, [], _, _, _, _, h, _, _ => h.elim
  | _ :: _, _ :: _, [], _, _, _, h, _, _ => h.elim
end

theorem Tryd.own : ownKnob Tryd.prog.godebug = none := by kernel_rfl
theorem Tryd.laidOut : laidOutB Tryd.prog = true := by kernel_rfl

set_option maxRecDepth 100000 in
/-- THE ROW's LAST STEP FOR A LAW: the call answers true, and nothing that was there has turned. -/
theorem law_post {H : Type} {enc : TypeId × Value → H} {f : Func} {s : ChangeSpec} {W W' : World} {args : Array Value} {ds gs : List (DataW H)} {before : List MemPlace}
    (hvs : s.vars = []) (hW : DataW.Whole enc Tryd.prog f.params.toList s.vars false W args.toList ds gs before)
    (hts : ∀ t ∈ f.params.toList, Tryd.prog.readableRec t = true ∧ t < Tryd.prog.types.size)
    {tb : TypeId} (hrt : f.resultTypes = #[tb]) (hbool : Tryd.prog.underlying tb = some .bool)
    (hspec : (s.fn H ds).results = [.lit (.bool true)] ∧ (s.fn H ds).args = ds ∧ (s.fn H ds).vars = [])
    (hb : Below W.heap.size W W') : s.post enc Tryd.prog f false true false false W args (.bool true) W' := by
  have hW' := hW
  obtain ⟨p, q, hA, hV, hbf, hfz, hnd⟩ := hW
  rw [hvs] at hV
  obtain ⟨hgs, hq⟩ : gs = [] ∧ q = [] := by
    cases gs with
    | nil => exact ⟨rfl, hV⟩
    | cons a b => exact (hV : False).elim
  subst hgs; subst hq
  have hlt : ∀ x ∈ before, x.block < W.heap.size := fun x hx => hW'.lt x hx
  have hbp : before = p := by rw [hbf]; simp
  subst hbp
  refine post_of_below (pa := before) (pv := []) hW' (fun b sp hd => ?_) (fun sp hsp => ?_) (fun sp _ => ?_) (by simp) hb ?_
  · rw [List.append_nil, hspec.1, hrt]
    exact trodAll_cons_mk (shut_bool hbool _) trodAll_mk0
  · rw [List.append_nil, hspec.2.1]
    exact trodAll_below Tryd.laidOut hb _ _ _ _ hts hlt hA sp hsp
  · rw [List.append_nil, hspec.2.2, hvs]
    rfl
  · exact ok_one (f := f) hrt rfl (okWide_bool_mk hbool _)
end Go.Proofs.YtfoeckaeongahaaDoor
