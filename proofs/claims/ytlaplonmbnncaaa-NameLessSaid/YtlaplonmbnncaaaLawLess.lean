/- For every capability, how it is restricted, and a guard embrasurelaw02.NameLess answers true, and its arguments read behind the call as they read before. No condition. -/
import Derived.Test.YtlaplonmbnncaaaM2
import Derived.Test.YtlaplonmbnncaaaO1
namespace Go.Proofs.Ytlaplonmbnncaaa
open Go.RowKit Go.WideShapes Go.ChangeShapes Go.ChangeAt

set_option maxRecDepth 100000 in
theorem nameLess_lifted (os : Os) (started : os.Started) (H : Type) (enc : TypeId × Value → H) :
    ReturnsInHanded {} Try.checked os 4 .any (Rows.nameLessSpec.pre6 enc Try.prog Try.f4 Rows.nameLessRow.domain false) (Rows.nameLessSpec.post enc Try.prog Try.f4 false true false false) := by
  refine returnsInHanded_of_change (C := Try.checked) Try.own started (by kernel_rfl) Try.func4
    (ChangeSpec.witness6 (enc := enc) (C := Try.checked) false ⟨#[], #[.agg #[.string ⟨#[]⟩, .int .u8 0], .int .u8 0, .agg #[.string ⟨#[]⟩, .int .u8 0]], []⟩ 8 (by kernel_rfl) (by kernel_rfl) (by kernel_rfl) (by kernel_rfl)) ?_
  intro W base args ds gs before hval0 hW _ _
  have hval : ∀ (j : Nat) t v, Try.f4.params[j]? = some t → args[j]? = some v → Value.okWide Try.prog W .any base t v := hval0
  have hW' := hW
  obtain ⟨p, q, hA0, _, _, _, _⟩ := hW
  have hA : DataW.TrodAll enc Try.prog W 0 (fun _ => true) true Try.f4.params.toList args.toList ds p := hA0
  rw [Try.params4] at hA hval
  obtain ⟨v0, vs0, d0, ds0, p0, q0, hargs, hds, rfl, h0, t0⟩ := trodAll_cons hA
  obtain ⟨v1, vs1, d1, ds1, p1, q1, rfl, rfl, rfl, h1, t1⟩ := trodAll_cons t0
  obtain ⟨v2, vs2, d2, ds2, p2, q2, rfl, rfl, rfl, h2, t2⟩ := trodAll_cons t1
  obtain ⟨rfl, rfl, rfl⟩ := trodAll_nil t2
  obtain rfl : args = #[v0, v1, v2] := by cases args; simp_all
  obtain ⟨cs0, rfl, hl0⟩ := agg_open Try.underlying23 flat23 (hval 0 23 v0 rfl rfl) h0
  obtain ⟨n0, r0, hs0, hn0, ha0, hb0⟩ := cap_of hl0
  rw [hs0] at hW' ⊢
  obtain ⟨e1, rfl, rfl, _, hw1⟩ := open_int Try.underlying5 (hval 1 5 v1 rfl rfl) h1
  obtain ⟨cs2, rfl, hl2⟩ := agg_open Try.underlying23 flat23 (hval 2 23 v2 rfl rfl) h2
  obtain ⟨n2, r2, hs2, hn2, ha2, hb2⟩ := cap_of hl2
  rw [hs2] at hW' ⊢
  subst hds
  refine (lawLess_any W n0 n2 r0 e1 r2 hn0 hn2 ha0 (u8_of hw1).1 ha2).mono fun e W' ⟨he, hk⟩ => ?_
  subst he
  exact ⟨_, rfl, law_post rfl hW' (by rw [Try.params4]; decide +kernel) (show Try.f4.resultTypes = #[4] by kernel_rfl) Try.underlying4 ⟨rfl, rfl, rfl⟩ hk.below⟩

theorem nameLess_holds : Rows.NameLessSaid :=
  OpenClaim.holds_of_wide 4 Try.f4 rfl rfl rfl rfl rfl rfl rfl ⟨rfl, rfl, rfl, rfl, rfl⟩ rfl rfl rfl rfl rfl (by kernel_rfl) Try.func4 (by kernel_rfl)
    (of_decide_eq_true (by kernel_rfl)) (by unfold Func.isWrapper; first | (rw [if_pos (by decide +kernel)]; kernel_rfl) | (rw [if_neg (by decide +kernel)]; exact ⟨rfl, rfl⟩))
    (fun os started H enc _ => nameLess_lifted os started H enc)
end Go.Proofs.Ytlaplonmbnncaaa
