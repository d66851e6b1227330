/- A map at a block, by what it holds key by key: look-up, store, delete, a copy. Elements are integers. -/
import Derived.Test.YtmbgbhhdjobbnaaBase
import Derived.Maps.OwnSet
namespace Go.Proofs.Ytmbgbhhdjobbnaa
open Go.RowKit Go.Maps

/-- The type of a map: T its own number, K its key's, E its element's (of the integer kind q); key: how a key of the proof's is a value, ok: which are keys. -/
structure MapTy (P : Program) (T K E : TypeId) (q : IntKind) {α : Type} (key : α → Value) (ok : α → Prop) : Prop where
  law : Keyed P K
  ut : P.underlying T = some (.map K E)
  ue : P.underlying E = some (.int q)
  hz : ∀ w, (zeroValue E).run P w = .ok (.int q 0) w
  hkey : ∀ a, ok a → ∃ kl, keyOf P K (key a) = some kl
  inj : ∀ a b, ok a → ok b → key a = key b → a = b

def MapOf (P : Program) (K E : TypeId) (q : IntKind) {α : Type} (key : α → Value) (ok : α → Prop) (w : World) (m n : Nat) (M : α → Option Int) : Prop :=
  ∃ D : DataW Unit, w.ownsMap P K (plainElem P E) m n D ∧ ∀ a, ok a → ∀ kl, keyOf P K (key a) = some kl → Maps.has D kl = (M a).isSome ∧ D.atKey kl (.lit (.int q 0)) = .lit (.int q ((M a).getD 0))

section
variable {P : Program} {T K E : TypeId} {q : IntKind} {α : Type} {key : α → Value} {ok : α → Prop} {w : World} {m n : Nat} {M : α → Option Int}

theorem MapOf.made (w : World) (M : α → Option Int) (hM : ∀ a, ok a → M a = none) : MapOf P K E q key ok (w.alloc (.map #[] 0)) w.heap.size 0 M := by
  refine ⟨.map [], World.ownsMap_made _ _ _ _, fun a ha kl _ => ?_⟩
  rw [hM a ha]
  exact ⟨rfl, rfl⟩

theorem MapOf.lt (h : MapOf P K E q key ok w m n M) : m < w.heap.size := by
  obtain ⟨D, h, _⟩ := h
  exact h.lt

theorem MapOf.mono (h : MapOf P K E q key ok w m n M) {n' : Nat} (hn : n ≤ n') : MapOf P K E q key ok w m n' M := by
  obtain ⟨D, h, r⟩ := h
  exact ⟨D, h.mono hn, r⟩

theorem MapOf.congr (h : MapOf P K E q key ok w m n M) {M' : α → Option Int} (hM : ∀ a, ok a → M' a = M a) : MapOf P K E q key ok w m n M' := by
  obtain ⟨D, h, r⟩ := h
  exact ⟨D, h, fun a ha kl hkl => by rw [hM a ha]; exact r a ha kl hkl⟩

theorem MapOf.kept {w' : World} {G : Nat → Prop} (h : MapOf P K E q key ok w m n M) (hk : Kept G w w') (hg : ¬ G m) : MapOf P K E q key ok w' m n M := by
  have hlt := h.lt
  obtain ⟨D, ⟨es, clock, hb, r1⟩, r⟩ := h
  exact ⟨D, ⟨es, clock, (hk.block m hlt hg).trans hb, r1⟩, r⟩

/-- A map's block is no row's block. -/
theorem MapOf.ne (h : MapOf P K E q key ok w m n M) {g : Nat} {t : TypeId} {cs : Array Value} (hB : Blk w g t cs) : m ≠ g := by
  rintro rfl
  obtain ⟨D, ⟨es, clock, hb, _⟩, _⟩ := h
  unfold Blk at hB
  rw [hb] at hB
  cases hB

theorem MapOf.look (h : MapOf P K E q key ok w m n M) (Y : MapTy P T K E q key ok) {a : α} (ha : ok a) :
    (Instr.lookup T (.map (some m)) (key a) true).run P w = .ok (.tuple #[.int q ((M a).getD 0), .bool (M a).isSome]) w := by
  obtain ⟨D, h, r⟩ := h
  obtain ⟨kl, hkl⟩ := Y.hkey a ha
  obtain ⟨v, ps, hrun, hv⟩ := h.look_ok Y.law Y.ut (Y.hz w) (plainElem_int Y.ue (by cases q <;> decide)) hkl
  obtain ⟨r1, r2⟩ := r a ha kl hkl
  rw [r2] at hv
  obtain ⟨c, rfl, hc, _⟩ := plainElem_int_inv Y.ue hv
  simp only [Prod.mk.injEq] at hc
  have hc1 := hc.1
  injection hc1 with hc1
  injection hc1 with _ hc1
  rw [hrun, r1, hc1]

theorem MapOf.look1 (h : MapOf P K E q key ok w m n M) (Y : MapTy P T K E q key ok) {a : α} (ha : ok a) :
    (Instr.lookup T (.map (some m)) (key a) false).run P w = .ok (.int q ((M a).getD 0)) w := by
  obtain ⟨D, h, r⟩ := h
  obtain ⟨kl, hkl⟩ := Y.hkey a ha
  obtain ⟨c, hrun, hat, _⟩ := h.lookup_int Y.law Y.ut Y.ue (Y.hz w) hkl
  rw [(r a ha kl hkl).2] at hat
  injection hat with hc1
  injection hc1 with _ hc1
  rw [hrun, hc1]

theorem kept_turned {w w' : World} {b : Nat} (h : w.grownBy w' (some b)) : Kept (OneBlk b) w w' := (Kept.refl _ w).grown h (fun k e => by cases e; exact .inl rfl)

theorem MapOf.put (h : MapOf P K E q key ok w m n M) (Y : MapTy P T K E q key ok) (hn : n < maxLen) {a : α} (ha : ok a) {x : Int} (hx : (Lit.int q x).wf = true) {M' : α → Option Int} (h1 : M' a = some x) (h2 : ∀ b, ok b → b ≠ a → M' b = M b) :
    ∃ w', (Instr.mapUpdate T (.map (some m)) (key a) (.int q x)).run P w = .ok () w' ∧ MapOf P K E q key ok w' m (n + 1) M' ∧ Kept (OneBlk m) w w' := by
  obtain ⟨D, h, r⟩ := h
  obtain ⟨kl, hkl⟩ := Y.hkey a ha
  obtain ⟨w', hrun, hown, hg⟩ := h.update Y.law Y.ut hn hkl (plainElem_int (H := Unit) Y.ue hx)
  refine ⟨w', hrun, ⟨_, hown, fun b hb kb hkb => ?_⟩, kept_turned hg⟩
  have hD : IsMap D := by obtain ⟨es, clock, _, _, _, rfl⟩ := h; exact ⟨_, rfl⟩
  by_cases e : b = a
  · subst e
    obtain rfl : kl = kb := by rw [hkl] at hkb; exact Option.some.inj hkb
    rw [h1]
    exact ⟨has_put_same hD (Y.law.key hkl) _, atKey_put_same hD (Y.law.key hkl) _ _⟩
  · have hne : kb ≠ kl := by
      rintro rfl
      exact e (Y.inj _ _ hb ha (Y.law.inj hkb hkl))
    rw [h2 b hb e]
    obtain ⟨r1, r2⟩ := r b hb kb hkb
    exact ⟨(has_put_other hne _).trans r1, (atKey_put_other hne _ _).trans r2⟩

theorem MapOf.del (h : MapOf P K E q key ok w m n M) (Y : MapTy P T K E q key ok) {a : α} (ha : ok a) {M' : α → Option Int} (h1 : M' a = none) (h2 : ∀ b, ok b → b ≠ a → M' b = M b) (ty : TypeId) :
    ∃ w', (Builtin.delete_ #[T, K] ty #[.map (some m), key a]).run P w = .ok (.tuple #[]) w' ∧ MapOf P K E q key ok w' m n M' ∧ Kept (OneBlk m) w w' := by
  obtain ⟨D, h, r⟩ := h
  obtain ⟨kl, hkl⟩ := Y.hkey a ha
  obtain ⟨w', hrun, hown, hg⟩ := h.drop Y.law Y.ut hkl ty
  refine ⟨w', hrun, ⟨_, hown, fun b hb kb hkb => ?_⟩, kept_turned hg.grown⟩
  by_cases e : b = a
  · subst e
    obtain rfl : kl = kb := by rw [hkl] at hkb; exact Option.some.inj hkb
    rw [h1]
    exact ⟨has_del_same, atKey_del_same _⟩
  · have hne : kb ≠ kl := by
      rintro rfl
      exact e (Y.inj _ _ hb ha (Y.law.inj hkb hkl))
    rw [h2 b hb e]
    obtain ⟨r1, r2⟩ := r b hb kb hkb
    exact ⟨(has_del_other hne).trans r1, (atKey_del_other hne _).trans r2⟩

/-- Its entries once more, in a new block. -/
theorem MapOf.copy (h : MapOf P K E q key ok w m n M) : ∃ es clock, w.heap[m]? = some (.map es clock) ∧ MapOf P K E q key ok (w.alloc (.map es clock)) w.heap.size n M := by
  obtain ⟨D, ⟨es, clock, hb, r1⟩, r⟩ := h
  exact ⟨es, clock, hb, D, ⟨es, clock, (MapKept.heap_alloc w _).1, r1⟩, r⟩
end
end Go.Proofs.Ytmbgbhhdjobbnaa
