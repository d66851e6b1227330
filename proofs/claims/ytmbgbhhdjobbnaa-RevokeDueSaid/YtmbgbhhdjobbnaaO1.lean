/- The arguments of revoke's laws, opened. -/
import Derived.Test.YtmbgbhhdjobbnaaOpen
import Derived.Test.YtmbgbhhdjobbnaaM1
namespace Go.Proofs.Ytmbgbhhdjobbnaa
open Go.RowKit Go.WideShapes Go.ChangeShapes Go.Deep

def deedKs : List LeafK := [.int .i64, .int .i64, .int .i64, .int .u8, .int .u8]
theorem flat3 : Flat Try.prog 3 [.int .i64] := flat_int Try.underlying3 (by kernel_rfl)
theorem flat5 : Flat Try.prog 5 [.int .u8] := flat_int Try.underlying5 (by kernel_rfl)
theorem flat4 : Flat Try.prog 4 [.bool] := flat_bool Try.underlying4 (by kernel_rfl)
theorem flat43 : Flat Try.prog 43 deedKs := by
  refine flat_struct (kss := [[.int .i64], [.int .i64], [.int .i64], [.int .u8], [.int .u8]]) Try.underlying43 (by kernel_rfl) (by rfl) fun i f ks hf hk => ?_
  match i, hf, hk with
  | 0, hf, hk => simp at hf hk; subst hf; subst hk; exact ⟨flat3, rfl⟩
  | 1, hf, hk => simp at hf hk; subst hf; subst hk; exact ⟨flat3, rfl⟩
  | 2, hf, hk => simp at hf hk; subst hf; subst hk; exact ⟨flat3, rfl⟩
  | 3, hf, hk => simp at hf hk; subst hf; subst hk; exact ⟨flat5, rfl⟩
  | 4, hf, hk => simp at hf hk; subst hf; subst hk; exact ⟨flat5, rfl⟩

theorem isDeeds_of {w : World} {A : Option Addr} {n : Nat} (h : SliceOf w deedKs A n) : IsDeeds w A n := by
  intro hn
  obtain ⟨b, off, hA, hb, hd⟩ := h hn
  refine ⟨b, off, hA, hb, fun i hi => ?_⟩
  have hd' := hd i hi
  obtain ⟨v0, h0, k, rfl, _⟩ := hd' 0 _ rfl
  obtain ⟨v1, h1, now, rfl, _⟩ := hd' 1 _ rfl
  obtain ⟨v2, h2, within, rfl, _⟩ := hd' 2 _ rfl
  obtain ⟨v3, h3, e, rfl, hw3⟩ := hd' 3 _ rfl
  obtain ⟨v4, h4, f, rfl, hw4⟩ := hd' 4 _ rfl
  exact ⟨k, now, within, e, f, (wf_u8 hw3).1, (wf_u8 hw4).1, h0, h1, h2, h3, h4⟩

theorem deed_of {cs : List Value} (h : Leaves deedKs cs) : ∃ k now within e f, ((0 : Int) ≤ e ∧ e ≤ 255) ∧ ((0 : Int) ≤ f ∧ f ≤ 255) ∧ Value.agg cs.toArray = deedV k now within e f := by
  obtain ⟨hl, h⟩ := h
  match cs, hl with
  | [c0, c1, c2, c3, c4], _ =>
    obtain ⟨v0, h0, q0, rfl, _⟩ := h 0 _ rfl
    obtain ⟨v1, h1, q1, rfl, _⟩ := h 1 _ rfl
    obtain ⟨v2, h2, q2, rfl, _⟩ := h 2 _ rfl
    obtain ⟨v3, h3, q3, rfl, hw3⟩ := h 3 _ rfl
    obtain ⟨v4, h4, q4, rfl, hw4⟩ := h 4 _ rfl
    simp at h0 h1 h2 h3 h4
    subst h0 h1 h2 h3 h4
    exact ⟨q0, q1, q2, q3, q4, wf_u8 hw3, wf_u8 hw4, rfl⟩

theorem leaf_open {P : Program} {H : Type} {enc : TypeId × Value → H} {w : World} {base : Nat} {spare : Nat → Bool} {held : Bool} {t : TypeId} {v : Value} {d : DataW H} {p : List MemPlace} {k : LeafK} (he : Flat P t [k])
    (hone : v.cells = #[v]) (h : DataW.Trod enc P w base spare held t v d p) : leafOk k v := by
  obtain ⟨fuel, hf⟩ := h
  have := he.2 H enc w base spare held fuel _ _ hf
  rw [hone] at this
  obtain ⟨v', h1, h2⟩ := this.2 0 k rfl
  simp at h1
  rwa [h1]
end Go.Proofs.Ytmbgbhhdjobbnaa
