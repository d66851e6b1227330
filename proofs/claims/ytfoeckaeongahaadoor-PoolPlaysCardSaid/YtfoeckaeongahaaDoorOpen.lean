/- Arguments opened: structs of plain leaves (integers, bools, strings), nested, with arrays; slices of them. -/
import Derived.Test.YtfoeckaeongahaaDoorBase
import Derived.Deep.Fields
namespace Go.Proofs.YtfoeckaeongahaaDoor
open Go.RowKit Go.WideShapes Go.ChangeShapes Go.Deep

inductive LeafK where
  | int (k : IntKind)
  | bool
  | string

def leafOk : LeafK → Value → Prop
  | .int k, v => ∃ n, v = .int k n ∧ (Lit.int k n).wf = true
  | .bool, v => ∃ b, v = .bool b
  | .string, v => ∃ s, v = .string s ∧ s.size ≤ maxLen

def Leaves (ks : List LeafK) (cs : List Value) : Prop := ks.length = cs.length ∧ ∀ (i : Nat) k, ks[i]? = some k → ∃ v, cs[i]? = some v ∧ leafOk k v

def Flat (P : Program) (t : TypeId) (ks : List LeafK) : Prop :=
  P.cellsOf t = ks.length ∧ ∀ (H : Type) (enc : TypeId × Value → H) (w : World) (base : Nat) (spare : Nat → Bool) (held : Bool) (fuel : Nat) (cs : List Value) (x : DataW H × List MemPlace), DataW.trod enc P w base spare held fuel t cs = some x → Leaves ks cs

section
variable {P : Program}
theorem leaves_one {k : LeafK} {v : Value} (h : leafOk k v) : Leaves [k] [v] := by
  refine ⟨rfl, fun i k' hk => ?_⟩
  match i, hk with
  | 0, hk => simp at hk; subst hk; exact ⟨v, rfl, h⟩

theorem flat_int {t : TypeId} {k : IntKind} (ht : P.underlying t = some (.int k)) (hc : P.cellsOf t = 1) : Flat P t [.int k] :=
  ⟨hc, fun H enc w base spare held fuel cs x h => by obtain ⟨n, rfl, _, hw⟩ := DataW.trod_int ht h; exact leaves_one ⟨n, rfl, hw⟩⟩
theorem flat_bool {t : TypeId} (ht : P.underlying t = some .bool) (hc : P.cellsOf t = 1) : Flat P t [.bool] :=
  ⟨hc, fun H enc w base spare held fuel cs x h => by
    cases fuel with
    | zero => simp [DataW.trod] at h
    | succ n =>
      unfold DataW.trod at h
      rw [ht] at h
      split at h <;> simp_all
      exact leaves_one ⟨_, rfl⟩⟩
theorem flat_string {t : TypeId} (ht : P.underlying t = some .string) (hc : P.cellsOf t = 1) : Flat P t [.string] :=
  ⟨hc, fun H enc w base spare held fuel cs x h => by
    cases fuel with
    | zero => simp [DataW.trod] at h
    | succ n =>
      unfold DataW.trod at h
      rw [ht] at h
      split at h <;> simp_all
      exact leaves_one ⟨_, rfl, h.1⟩⟩

theorem leaves_append {ks ks' : List LeafK} {cs cs' : List Value} (h : Leaves ks cs) (h' : Leaves ks' cs') : Leaves (ks ++ ks') (cs ++ cs') := by
  refine ⟨by simp [h.1, h'.1], fun i k hk => ?_⟩
  by_cases hi : i < ks.length
  · rw [List.getElem?_append_left hi] at hk
    obtain ⟨v, hv, ho⟩ := h.2 i k hk
    exact ⟨v, by rw [List.getElem?_append_left (by rw [← h.1]; exact hi)]; exact hv, ho⟩
  · rw [List.getElem?_append_right (by omega)] at hk
    obtain ⟨v, hv, ho⟩ := h'.2 _ k hk
    exact ⟨v, by rw [List.getElem?_append_right (by rw [← h.1]; omega), ← h.1]; exact hv, ho⟩

/-- Cells that are cut into pieces, each of which holds its leaves. -/
theorem leaves_cut (kss : List (List LeafK)) (cs : List Value) : ∀ i, i ≤ kss.length → (∀ j ks, kss[j]? = some ks → Leaves ks ((cs.drop (kss.take j).flatten.length).take ks.length)) → cs.length = kss.flatten.length → Leaves (kss.take i).flatten (cs.take (kss.take i).flatten.length)
  | 0, _, _, _ => by simp [Leaves]
  | i + 1, hi, h, hl => by
    have ih := leaves_cut kss cs i (by omega) h hl
    have hki : kss[i]? = some (kss[i]'(by omega)) := List.getElem?_eq_getElem (by omega)
    have h1 := h i _ hki
    have e : kss.take (i + 1) = kss.take i ++ [kss[i]'(by omega)] := by rw [List.take_succ_eq_append_getElem (by omega)]
    have e2 : (kss.take (i + 1)).flatten = (kss.take i).flatten ++ kss[i]'(by omega) := by rw [e, List.flatten_append, List.flatten_cons, List.flatten_nil, List.append_nil]
    rw [e2, List.length_append, List.take_add]
    exact leaves_append ih h1

theorem flat_array {t e : TypeId} {n : Nat} {ks : List LeafK} (ht : P.underlying t = some (.array n e)) (he : Flat P e ks) (hc : P.cellsOf t = (List.replicate n ks).flatten.length) : Flat P t (List.replicate n ks).flatten :=
  ⟨hc, fun H enc w base spare held fuel cs x h => by
    obtain ⟨xs, m, _, _, hl, hxl, hg⟩ := DataW.trod_array ht h
    have := leaves_cut (List.replicate n ks) cs n (by simp) (fun j ks' hj => ?_) (by rw [hl, hc])
    · rw [List.take_of_length_le (l := List.replicate n ks) (by simp), List.take_of_length_le (by rw [hl, hc]; exact Nat.le_refl _)] at this
      exact this
    · have hjn : j < n := by have := (List.getElem?_eq_some_iff.1 hj).1; simpa using this
      have hks : ks' = ks := by rw [List.getElem?_replicate] at hj; simp [hjn] at hj; exact hj.symm
      subst hks
      have h1 := hg j hjn
      rw [he.1, List.getElem?_eq_getElem (by omega)] at h1
      have e1 : ((List.replicate n ks').take j).flatten.length = j * ks'.length := by
        rw [List.take_replicate, Nat.min_eq_left (by omega)]
        simp
      rw [e1]
      exact he.2 H enc w base spare held m _ _ h1⟩

theorem flat_struct {t : TypeId} {fs : Array Field} {kss : List (List LeafK)} (ht : P.underlying t = some (.struct fs)) (hc : P.cellsOf t = kss.flatten.length) (hn : fs.size = kss.length)
    (hf : ∀ i f ks, fs[i]? = some f → kss[i]? = some ks → Flat P f.type ks ∧ f.offset = (kss.take i).flatten.length) : Flat P t kss.flatten :=
  ⟨hc, fun H enc w base spare held fuel cs x h => by
    obtain ⟨xs, m, _, _, hl, hxl, hg⟩ := DataW.trod_struct ht h
    have := leaves_cut kss cs kss.length (Nat.le_refl _) (fun j ks hj => ?_) (by rw [hl, hc])
    · rw [List.take_of_length_le (Nat.le_refl _), List.take_of_length_le (by rw [hl, hc]; exact Nat.le_refl _)] at this
      exact this
    · have hjn : j < kss.length := (List.getElem?_eq_some_iff.1 hj).1
      have hfj : fs[j]? = some (fs[j]'(by omega)) := Array.getElem?_eq_getElem (by omega)
      obtain ⟨h1, h2⟩ := hf j _ ks hfj hj
      have h3 := hg j _ hfj
      rw [h1.1, h2, List.getElem?_eq_getElem (by omega)] at h3
      exact h1.2 H enc w base spare held m _ _ h3⟩

theorem wf_u8 {n : Int} (h : (Lit.int .u8 n).wf = true) : 0 ≤ n ∧ n ≤ 255 := by simpa [Lit.wf, IntKind.min, IntKind.max, IntKind.signed, IntKind.bits] using h
theorem wf_u16 {n : Int} (h : (Lit.int .u16 n).wf = true) : 0 ≤ n ∧ n ≤ 65535 := by simpa [Lit.wf, IntKind.min, IntKind.max, IntKind.signed, IntKind.bits] using h
theorem wf_u32 {n : Int} (h : (Lit.int .u32 n).wf = true) : 0 ≤ n ∧ n ≤ 4294967295 := by simpa [Lit.wf, IntKind.min, IntKind.max, IntKind.signed, IntKind.bits] using h
theorem wf_i64 {n : Int} (h : (Lit.int .i64 n).wf = true) : -9223372036854775808 ≤ n ∧ n ≤ 9223372036854775807 := by simpa [Lit.wf, IntKind.min, IntKind.max, IntKind.signed, IntKind.bits] using h
theorem wf_i16 {n : Int} (h : (Lit.int .i16 n).wf = true) : -32768 ≤ n ∧ n ≤ 32767 := by simpa [Lit.wf, IntKind.min, IntKind.max, IntKind.signed, IntKind.bits] using h

/-- A slice of such structs: each element's leaves, at a plain address. -/
def SliceOf (w : World) (ks : List LeafK) (A : Option Addr) (n : Nat) : Prop :=
  0 < n → ∃ b off, A = some ⟨b, off, none⟩ ∧ b < w.heap.size ∧ ∀ i, i < n → ∀ j k, ks[j]? = some k → ∃ v, w.cell? ⟨b, off + i * ks.length + j, none⟩ = some v ∧ leafOk k v

theorem slice_open {H : Type} {enc : TypeId × Value → H} {w : World} {base : Nat} {held : Bool} {t e : TypeId} {v : Value} {d : DataW H} {p : List MemPlace} {r : Reach} {b0 : Nat} {ks : List LeafK} (ht : P.underlying t = some (.slice e)) (he : Flat P e ks) (hpos : 0 < ks.length)
    (hv : Value.okWide P w r b0 t v) (h : DataW.Trod enc P w base (fun _ => true) held t v d p) : ∃ A n cap, v = .slice A n cap ∧ n ≤ cap ∧ cap ≤ maxLen ∧ (A = none → n = 0 ∧ cap = 0) ∧ SliceOf w ks A n := by
  obtain ⟨A, n, cap, rfl⟩ := okWide_slice ht hv
  obtain ⟨fuel, hf⟩ := h
  rcases open_slice ht hf with ⟨hcs, _⟩ | ⟨a, len, cap', m, fu, D, Pl, hcs, hb, hl, hm, hmm, _, hel⟩
  · simp [Value.cells] at hcs
    obtain ⟨rfl, rfl, rfl⟩ := hcs
    exact ⟨none, 0, 0, rfl, Nat.le_refl _, by simp [maxLen], fun _ => ⟨rfl, rfl⟩, fun h => absurd h (by omega)⟩
  · simp [Value.cells] at hcs
    obtain ⟨rfl, rfl, rfl⟩ := hcs
    refine ⟨some a, n, cap, rfl, hl, hm, (fun e => by cases e), fun hn => ?_⟩
    have hm' : m = cap := by simpa using hmm
    obtain ⟨b, off, spot⟩ := a
    have hcell : ∀ i, i < n → ∀ j, j < ks.length → ∃ v, w.cell? ((⟨b, off, spot⟩ : Addr).add (i * ks.length + j)) = some v ∧ ∀ k, ks[j]? = some k → leafOk k v := by
      intro i hi j hj
      obtain ⟨cs', h1, h2⟩ := hel i (by omega)
      rw [he.1] at h1
      obtain ⟨_, hcl, hat⟩ := World.cells?_some h1
      have hlv := he.2 H enc w base (fun _ => true) held fu cs' _ h2
      obtain ⟨v, hv1, hv2⟩ := hlv.2 j _ (List.getElem?_eq_getElem hj)
      refine ⟨v, ?_, fun k hk => ?_⟩
      · rw [← Go.Deep.add_add, hat j hj]; exact hv1
      · rw [List.getElem?_eq_getElem hj] at hk
        injection hk with hk
        subst hk
        exact hv2
    have hspot : spot = none := by
      obtain ⟨v, hv, _⟩ := hcell 0 hn 0 hpos
      simpa [Addr.add] using World.cell?_spot hv
    subst hspot
    have hadd : ∀ x, (⟨b, off, none⟩ : Addr).add x = ⟨b, off + x, none⟩ := fun x => by rw [Go.WideShapes.add_plain]
    refine ⟨b, off, rfl, ?_, fun i hi j k hk => ?_⟩
    · obtain ⟨v, hv, _⟩ := hcell 0 hn 0 hpos
      rw [hadd] at hv
      exact World.block_lt_of_cell? w _ hv
    · have hj : j < ks.length := (List.getElem?_eq_some_iff.1 hk).1
      obtain ⟨v, hv, ho⟩ := hcell i hi j hj
      rw [hadd, ← Nat.add_assoc] at hv
      exact ⟨v, hv, ho k hk⟩

/-- Such a struct by value. -/
theorem agg_open {H : Type} {enc : TypeId × Value → H} {w : World} {base : Nat} {spare : Nat → Bool} {held : Bool} {t : TypeId} {fs : Array Field} {v : Value} {d : DataW H} {p : List MemPlace} {r : Reach} {b0 : Nat} {ks : List LeafK} (ht : P.underlying t = some (.struct fs)) (he : Flat P t ks)
    (hv : Value.okWide P w r b0 t v) (h : DataW.Trod enc P w base spare held t v d p) : ∃ cs : List Value, v = .agg cs.toArray ∧ Leaves ks cs := by
  obtain ⟨cs, rfl, hsz⟩ := okWide_struct ht hv
  obtain ⟨fuel, hf⟩ := h
  exact ⟨cs.toList, by simp, he.2 H enc w base spare held fuel _ _ hf⟩
end
end Go.Proofs.YtfoeckaeongahaaDoor
