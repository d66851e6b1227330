/- For every list of deeds, every deed and every set of registers embrasurelaw14.AreaReturns answers true, and its arguments read behind the call as they read before. No condition. -/
import Derived.Test.YtbggdimkfkdhmaaM4
import Derived.Test.YtbggdimkfkdhmaaO2
namespace Go.Proofs.Ytbggdimkfkdhmaa
open Go.RowKit Go.WideShapes Go.ChangeShapes Go.ChangeAt

set_option maxRecDepth 100000 in
theorem areaReturns_lifted (os : Os) (started : os.Started) (H : Type) (enc : TypeId × Value → H) :
    ReturnsInHanded {} Try.checked os 5 .any (Rows.areaReturnsSpec.pre6 enc Try.prog Try.f5 Rows.areaReturnsRow.domain false) (Rows.areaReturnsSpec.post enc Try.prog Try.f5 false true false false) := by
  refine returnsInHanded_of_change (C := Try.checked) Try.own started (by kernel_rfl) Try.func5
    (ChangeSpec.witness6 (enc := enc) (C := Try.checked) false ⟨#[], #[.slice none 0 0, .agg #[.int .i64 0, .int .u8 0, .int .u16 0, .int .u16 0, .int .u16 0, .int .u16 0, .int .u16 0, .int .u16 0, .int .u16 0, .int .u16 0, .int .u16 0, .int .u16 0], .agg #[.int .u16 0, .int .u16 0, .int .u16 0, .int .u16 0, .int .u16 0, .int .u16 0, .int .u16 0, .int .u16 0, .int .u16 0]], []⟩ 8 (by kernel_rfl) (by kernel_rfl) (by kernel_rfl) (by kernel_rfl)) ?_
  intro W base args ds gs before hval0 hW _ _
  have hval : ∀ (j : Nat) t v, Try.f5.params[j]? = some t → args[j]? = some v → Value.okWide Try.prog W .any base t v := hval0
  have hW' := hW
  obtain ⟨p, q, hA0, _, _, _, _⟩ := hW
  have hA : DataW.TrodAll enc Try.prog W 0 (fun _ => true) true Try.f5.params.toList args.toList ds p := hA0
  rw [Try.params5] at hA hval
  obtain ⟨v0, vs0, d0, ds0, p0, q0, hargs, hds, rfl, h0, r0⟩ := trodAll_cons hA
  obtain ⟨v1, vs1, d1, ds1, p1, q1, rfl, rfl, rfl, h1, r1⟩ := trodAll_cons r0
  obtain ⟨v2, vs2, d2, ds2, p2, q2, rfl, rfl, rfl, h2, r2⟩ := trodAll_cons r1
  obtain ⟨rfl, rfl, rfl⟩ := trodAll_nil r2
  obtain rfl : args = #[v0, v1, v2] := by cases args; simp_all
  obtain ⟨A0, n0, cap0, rfl, _, _, _, hsl0⟩ := slice_open Try.underlying22 flat39 (by decide) (hval 0 22 v0 rfl rfl) h0
  obtain ⟨cs1, rfl, hl1⟩ := agg_open Try.underlying39 flat39 (hval 1 39 v1 rfl rfl) h1
  obtain ⟨dn1, dk1, dx1, dq1, hk1, hs1⟩ := deed_of hl1
  rw [hs1] at hW' ⊢
  obtain ⟨cs2, rfl, hl2⟩ := agg_open Try.underlying31 flat31 (hval 2 31 v2 rfl rfl) h2
  obtain ⟨s2, hs2⟩ := regs_of hl2
  rw [hs2] at hW' ⊢
  subst hds
  refine (returns_any W A0 n0 cap0 (isDeeds_of hsl0) dn1 dk1 dx1 dq1 hk1 s2).mono fun e W' ⟨he, hk⟩ => ?_
  subst he
  exact ⟨_, rfl, law_post rfl hW' (by rw [Try.params5]; decide +kernel) (show Try.f5.resultTypes = #[4] by kernel_rfl) Try.underlying4 ⟨rfl, rfl, rfl⟩ hk.below⟩

theorem areaReturns_holds : Rows.AreaReturnsSaid :=
  OpenClaim.holds_of_wide 5 Try.f5 rfl rfl rfl rfl rfl rfl rfl ⟨rfl, rfl, rfl, rfl, rfl⟩ rfl rfl rfl rfl rfl (by kernel_rfl) Try.func5 (by kernel_rfl)
    (of_decide_eq_true (by kernel_rfl)) (by unfold Func.isWrapper; first | (rw [if_pos (by decide +kernel)]; kernel_rfl) | (rw [if_neg (by decide +kernel)]; exact ⟨rfl, rfl⟩))
    (fun os started H enc _ => areaReturns_lifted os started H enc)
end Go.Proofs.Ytbggdimkfkdhmaa
