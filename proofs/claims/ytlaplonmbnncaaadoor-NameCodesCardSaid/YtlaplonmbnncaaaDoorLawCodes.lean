/- For every capability, bytes and text embrasurelaw02.NameCodes answers true, and its arguments read behind the call as they read before. Its condition: the library's tables unicode/utf8.first and acceptRanges read when the call begins as the program's text lays them; the card ties them to that text. -/
import Derived.Test.YtlaplonmbnncaaaDoorM5
import Derived.Test.YtlaplonmbnncaaaDoorO5
import Derived.Test.YtlaplonmbnncaaaDoorCards
import Derived.Test.YtlaplonmbnncaaaDoorTie
import Derived.Lib.LaidIn
import Derived.Lib.LaidU8T
import Derived.Deep.DeepHandedRow
import Derived.Deep.DeepWitnessRowRef
import Derived.SizedLaws
import Derived.SevenTiedAt
import Derived.ChangeMaps5
namespace Go.Proofs.YtlaplonmbnncaaaDoor
open Go.RowKit Go.WideShapes Go.ChangeShapes Go.ChangeAt Go.Lib

noncomputable def laidWorldCodes (os : Os) : World :=
  let w0 := World.holding Tryd.prog os ⟨#[], #[], []⟩
  let put (h : Array Obj) (g : Nat) (cs : Array Value) : Array Obj := h.modify g fun
    | .cells _ t frozen => .cells cs t frozen
    | o => o
  let h1 := put w0.heap 0 (Lib.firstTab.map fun z => Value.int .u8 z).toArray
  let h2 := put h1 1 ((List.range 16).flatMap fun i => [Value.int .u8 (Lib.accLo i), Value.int .u8 (Lib.accHi i)]).toArray
  { w0 with heap := h2 }
set_option maxRecDepth 100000 in
theorem laid_metCodes (os : Os) (args : Array Value) : laidMet Tryd.prog Rows.nameCodesRow.laid ((laidWorldCodes os).forCall (fun _ _ => 0) ⟨#[], args, []⟩).memory :=
  (LaidIn.of_run (l := [("unicode/utf8.acceptRanges", Lib.acceptData), ("unicode/utf8.first", Lib.firstData)]) [1, 0] 8 (by kernel_rfl) (by kernel_rfl) (by kernel_rfl) (by kernel_rfl)).met
set_option maxRecDepth 100000 in
theorem witnessCodes (os : Os) {H : Type} (enc : TypeId × Value → H) :
    (OpenSpec.ofChange Rows.nameCodesSpec).preRow enc Tryd.prog Tryd.f7 Rows.nameCodesRow.domain false Rows.nameCodesRow.laid ((laidWorldCodes os).forCall (fun _ _ => 0) ⟨#[], #[.agg #[.string ⟨#[]⟩, .int .u8 0], .slice none 0 0, .string ⟨#[]⟩], []⟩).memory #[.agg #[.string ⟨#[]⟩, .int .u8 0], .slice none 0 0, .string ⟨#[]⟩] := by
  have hw : (DataW.whole enc Tryd.prog ((laidWorldCodes os).forCall (fun _ _ => 0) ⟨#[], #[.agg #[.string ⟨#[]⟩, .int .u8 0], .slice none 0 0, .string ⟨#[]⟩], []⟩).memory Tryd.f7.params.toList (OpenSpec.ofChange Rows.nameCodesSpec).vars false #[.agg #[.string ⟨#[]⟩, .int .u8 0], .slice none 0 0, .string ⟨#[]⟩].toList 8).map (fun x => (x.1, x.2.1)) =
      some ([.agg [.lit (.string []), .lit (.int .u8 0)], .nil, .lit (.string [])], []) := by kernel_rfl
  obtain ⟨⟨x1, x2, x3⟩, hx, hx1⟩ := Option.map_eq_some_iff.1 hw
  simp only [Prod.mk.injEq] at hx1
  obtain ⟨rfl, rfl⟩ := hx1
  exact OpenSpec.preRow_of_cond 8 hx (by kernel_rfl) (fun k hk => by cases hk) (by kernel_rfl) (laid_metCodes os _)

set_option maxRecDepth 100000 in
set_option maxHeartbeats 2000000 in
theorem nameCodes_lifted (os : Os) (started : os.Started) (H : Type) (enc : TypeId × Value → H) (F : Stop.Interp) :
    ReturnsInHanded {} Tryd.checked os 7 .any ((OpenSpec.ofChange Rows.nameCodesSpec).preRow enc Tryd.prog Tryd.f7 Rows.nameCodesRow.domain false Rows.nameCodesRow.laid) (((OpenSpec.ofChange Rows.nameCodesSpec).at F).post enc Tryd.prog Tryd.f7 false true false false) := by
  refine returnsInHanded_of_row (C := Tryd.checked) (s := OpenSpec.ofChange Rows.nameCodesSpec) Tryd.own started (by kernel_rfl) Tryd.func7
    (witness_row_atRef (enc := enc) (C := Tryd.checked) false (laidWorldCodes os) #[.agg #[.string ⟨#[]⟩, .int .u8 0], .slice none 0 0, .string ⟨#[]⟩] rfl (by kernel_rfl) (by kernel_rfl) (by kernel_rfl) (witnessCodes os enc)) ?_
  intro W base args ds gs before hval0 hW _ _ _ hL _ _
  have hval : ∀ (j : Nat) t v, Tryd.f7.params[j]? = some t → args[j]? = some v → Value.okWide Tryd.prog W .any base t v := hval0
  have hW' : DataW.Whole enc Tryd.prog Tryd.f7.params.toList Rows.nameCodesSpec.vars false W args.toList ds gs before := hW
  obtain ⟨p, q, hA0, hV0, _, _, _⟩ := hW
  have hA : DataW.TrodAll enc Tryd.prog W 0 (fun _ => true) true Tryd.f7.params.toList args.toList ds p := hA0
  rw [Tryd.params7] at hA hval
  obtain ⟨v0, vs0, d0, ds0, p0, q0, hargs, hds, rfl, h0, r0⟩ := trodAll_cons hA
  obtain ⟨v1, vs1, d1, ds1, p1, q1, rfl, rfl, rfl, h1, r1⟩ := trodAll_cons r0
  obtain ⟨v2, vs2, d2, ds2, p2, q2, rfl, rfl, rfl, h2, r2⟩ := trodAll_cons r1
  obtain ⟨rfl, rfl, rfl⟩ := trodAll_nil r2
  obtain rfl : args = #[v0, v1, v2] := by cases args; simp_all
  obtain ⟨cs0, rfl, hl0⟩ := agg_open Tryd.underlying34 flat34 (hval 0 34 v0 rfl rfl) h0
  obtain ⟨n0, R0, hs0, hn0, ha0, hb0⟩ := cap_of hl0
  rw [hs0] at hW' ⊢
  obtain ⟨A1, k1, cap1, rfl, hl1, hm1, _, hsl1⟩ := slice_open Tryd.underlying47 flat5 (by decide) (hval 1 47 v1 rfl rfl) h1
  obtain ⟨l1, hc1⟩ := bytes_of hsl1 hl1 hm1
  obtain ⟨s2, rfl, rfl, _, hw2⟩ := Go.ChangeMaps.open_string Tryd.underlying9 (hval 2 9 v2 rfl rfl) h2
  subst hds
  have htab : Tabs W :=
    utf8Tabs_of_readsT (U8Types.of260 Tryd.lays260) ⟨by kernel_rfl, by kernel_rfl, by kernel_rfl, by kernel_rfl, by kernel_rfl, by kernel_rfl, by kernel_rfl⟩ (Lib.laidMet.reads hL (.tail _ (.head _))) (Lib.laidMet.reads hL (.head _))
  refine (lawCodes_any W n0 R0 _ l1 s2 hn0 ha0 hb0 hc1 hw2 htab).mono fun e W' ⟨he, hk⟩ => ?_
  subst he
  exact ⟨_, rfl, law_post (s := Rows.nameCodesSpec) rfl hW' (by rw [Tryd.params7]; decide +kernel) (show Tryd.f7.resultTypes = #[4] by kernel_rfl) Tryd.underlying4 ⟨rfl, rfl, rfl⟩ hk.below⟩

set_option maxRecDepth 100000 in
theorem nameCodes_over : Rows.NameCodesSaid :=
  OpenClaim.holds_of_cond 7 Tryd.f7 rfl rfl rfl rfl rfl rfl rfl ⟨rfl, rfl, rfl, rfl, rfl⟩ rfl rfl rfl rfl rfl (by kernel_rfl) Tryd.func7 (by kernel_rfl)
    (of_decide_eq_true (by kernel_rfl)) (by unfold Func.isWrapper; rw [if_neg (of_decide_eq_false (by kernel_rfl))]; exact ⟨rfl, rfl⟩)
    (fun os started H enc _ F0 => by rw [OpenClaim.pre_eq_preRow]; exact nameCodes_lifted os started H enc F0)

set_option maxRecDepth 100000 in
theorem nameCodes_holds : Rows.NameCodesCardSaid :=
  Claim7.holds_tied_plain_at .later [] [.data, .pinned] true (true, "ecbe6d9813a5d7aaca7a2cc4b1273456703fd10625bdf5d1ac954e5d0f63312b") false
    nameCodes_over (fun _ h => by cases h) (by kernel_rfl) (fun _ h => by cases h) nameCodes_row_tie rfl ⟨rfl, rfl⟩ (by kernel_rfl) rfl
    (fun f fn hf hfn => by
      obtain rfl : f = 7 := Option.some.inj ((show Tryd.prog.funcNamed "embrasure/embrasurelaw02.NameCodes" = some 7 by kernel_rfl).symm.trans hf) |>.symm
      obtain rfl : fn = Tryd.f7 := (Option.some.inj (Tryd.func7.symm.trans hfn)).symm
      exact ⟨by kernel_rfl, fun j t ht => by
        rw [Tryd.params7] at ht
        rcases j with _ | _ | _ | j
        · obtain rfl : 34 = t := by simpa using ht
          kernel_rfl
        · obtain rfl : 47 = t := by simpa using ht
          kernel_rfl
        · obtain rfl : 9 = t := by simpa using ht
          kernel_rfl
        · simp at ht⟩)
    (by kernel_rfl)
end Go.Proofs.YtlaplonmbnncaaaDoor
