/- For every set of registers and every list of deeds embrasurelaw14.AreaPlays answers true, and its arguments read behind the call as they read before. No condition. -/
import Derived.Test.YtbggdimkfkdhmaaM1
import Derived.Test.YtbggdimkfkdhmaaO2
namespace Go.Proofs.Ytbggdimkfkdhmaa
open Go.RowKit Go.WideShapes Go.ChangeShapes Go.ChangeAt

set_option maxRecDepth 100000 in
theorem areaPlays_lifted (os : Os) (started : os.Started) (H : Type) (enc : TypeId × Value → H) :
    ReturnsInHanded {} Try.checked os 6 .any (Rows.areaPlaysSpec.pre6 enc Try.prog Try.f6 Rows.areaPlaysRow.domain false) (Rows.areaPlaysSpec.post enc Try.prog Try.f6 false true false false) := by
  refine returnsInHanded_of_change (C := Try.checked) Try.own started (by kernel_rfl) Try.func6
    (ChangeSpec.witness6 (enc := enc) (C := Try.checked) false ⟨#[], #[.agg #[.int .u16 0, .int .u16 0, .int .u16 0, .int .u16 0, .int .u16 0, .int .u16 0, .int .u16 0, .int .u16 0, .int .u16 0], .slice none 0 0], []⟩ 8 (by kernel_rfl) (by kernel_rfl) (by kernel_rfl) (by kernel_rfl)) ?_
  intro W base args ds gs before hval0 hW _ _
  have hval : ∀ (j : Nat) t v, Try.f6.params[j]? = some t → args[j]? = some v → Value.okWide Try.prog W .any base t v := hval0
  have hW' := hW
  obtain ⟨p, q, hA0, _, _, _, _⟩ := hW
  have hA : DataW.TrodAll enc Try.prog W 0 (fun _ => true) true Try.f6.params.toList args.toList ds p := hA0
  rw [Try.params6] at hA hval
  obtain ⟨v0, vs0, d0, ds0, p0, q0, hargs, hds, rfl, h0, r0⟩ := trodAll_cons hA
  obtain ⟨v1, vs1, d1, ds1, p1, q1, rfl, rfl, rfl, h1, r1⟩ := trodAll_cons r0
  obtain ⟨rfl, rfl, rfl⟩ := trodAll_nil r1
  obtain rfl : args = #[v0, v1] := by cases args; simp_all
  obtain ⟨cs0, rfl, hl0⟩ := agg_open Try.underlying31 flat31 (hval 0 31 v0 rfl rfl) h0
  obtain ⟨s0, hs0⟩ := regs_of hl0
  rw [hs0] at hW' ⊢
  obtain ⟨A1, n1, cap1, rfl, _, _, _, hsl1⟩ := slice_open Try.underlying22 flat39 (by decide) (hval 1 22 v1 rfl rfl) h1
  subst hds
  refine (plays_any W s0 A1 n1 cap1 (isDeeds_of hsl1)).mono fun e W' ⟨he, hk⟩ => ?_
  subst he
  exact ⟨_, rfl, law_post rfl hW' (by rw [Try.params6]; decide +kernel) (show Try.f6.resultTypes = #[4] by kernel_rfl) Try.underlying4 ⟨rfl, rfl, rfl⟩ hk.below⟩

theorem areaPlays_holds : Rows.AreaPlaysSaid :=
  OpenClaim.holds_of_wide 6 Try.f6 rfl rfl rfl rfl rfl rfl rfl ⟨rfl, rfl, rfl, rfl, rfl⟩ rfl rfl rfl rfl rfl (by kernel_rfl) Try.func6 (by kernel_rfl)
    (of_decide_eq_true (by kernel_rfl)) (by unfold Func.isWrapper; first | (rw [if_pos (by decide +kernel)]; kernel_rfl) | (rw [if_neg (by decide +kernel)]; exact ⟨rfl, rfl⟩))
    (fun os started H enc _ => areaPlays_lifted os started H enc)
end Go.Proofs.Ytbggdimkfkdhmaa
