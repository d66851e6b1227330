/- The program's revoke: Ask, where it asks. -/
import Derived.Test.YtmbgbhhdjobbnaaB3
namespace Go.Proofs.Ytmbgbhhdjobbnaa
open Go.RowKit Go.Maps

def askSt (S : St) (e f u : Int) : St := { S with op := S.op ++ [(e, f, u)], cnt := S.cnt + 1 }
theorem look_snoc (l : List (Int × Int × Int)) (e f u : Int) (h : (lookOp l (e, f)).isSome = false) : lookOp (l ++ [(e, f, u)]) (e, f) = some u := by
  have h' : l.find? (fun x => x.1 == e && x.2.1 == f) = none := by
    simpa [lookOp, Option.isSome_map] using h
  simp [lookOp, List.find?_append, h']
theorem look_snoc_other (l : List (Int × Int × Int)) (e f u : Int) (b : Int × Int) (h : b ≠ (e, f)) : lookOp (l ++ [(e, f, u)]) b = lookOp l b := by
  have : (e == b.1 && f == b.2) = false := by
    cases hh : (e == b.1 && f == b.2) with
    | false => rfl
    | true =>
      simp at hh
      exact absurd (Prod.ext hh.1.symm hh.2.symm) h
  simp [lookOp, List.find?_append, this]

set_option maxHeartbeats 2000000 in
theorem ask_ok (w : World) (g m : Nat) (S : St) (v : Value) (r : Nat → Value) (h : IsB w g m S v r) (e f now within : Int) (ha : askOk e f now within) (hex : (lookOp S.op (e, f)).isSome = false) (hlen : S.op.length < 8) (hcnt : S.cnt < 1000000) :
   Calls Try.prog 18 #[.pointer (some ⟨g, 0, none⟩), .int .u8 e, .int .u8 f, .int .i64 now, .int .i64 within] w fun x w' => x = .returned (.int .i64 0) ∧ ∃ v', IsB w' g m (askSt S e f (now + within)) v' r ∧ Kept (TwoBlk g m) w w' := by
  have hc := h.blk.cell
  have hlt := h.blk.lt
  obtain ⟨A, cap, hv, _, _, _, _, _⟩ := h.row.form
  rw [hv] at hc
  simp only [arrB] at hc
  have hL := fun w1 (hK : Kept NoBlk w w1) => (h.map.kept hK (fun e => e)).look mapTy (a := (e, f)) (by unfold askOk at ha; unfold okK; simp only; omega)
  unfold keyK at hL
  rw [hex] at hL
  have HL := Lib.hid hL
  have hkey := Lib.hid (fun w1 u => keyOf_any w1 e f u)
  have H := Lib.hid h
  obtain ⟨⟨a1, a2⟩, ⟨a3, a4⟩, ⟨a5, a6⟩, a7, a8⟩ := ha
  have hex' := hex
  clear h hL hv hex
  go_enter Try.func18, Try.ntmps18
  go_wp2
  refine wp_region_plan (by kernel_rfl) (.q 0 <| .q 1 <| .q 2 <| .q 3 <| .q 4 <| .e 5 [0, 1, 2, 3] <| .e 6 [] <| .q 7 <| .q 8 <| .q 9 <| .q 10 <| .q 11 <| .nil) (by kernel_rfl) (by kernel_rfl) ?_
  repeat (refine plan_q rfl (fun K hK => ?_); go_simp; refine hK _ ?_; clear hK K)
  refine plan_e rfl (fun K hK => ?_)
  go_simp
  refine (hkey.out _ _).mono ?_
  rintro e' w1 ⟨rfl, hK1⟩
  have hk1 : Kept NoBlk w w1 := Kept.trans (by repeat (with_reducible first | exact Kept.refl _ _ | apply Kept.drew | apply Kept.drewN | apply Kept.alloc | exact oneHit | apply Kept.setCell)) hK1
  have hBX := Blk.kept (Blk.drew (Blk.new w 37 _)) hK1 (fun e => e)
  have hbx := hBX.cell
  have HBX := Lib.hid hBX
  clear hBX
  have H1 := H.out.kept hk1
  have hc1 := H1.blk.cell
  have hf1 := H1.blk.frozen
  have hlt1 := H1.blk.lt
  obtain ⟨A1, cap1, hv1, hle1, hmx1, _, _, _⟩ := H1.row.form
  rw [hv1] at hc1
  simp only [arrB] at hc1
  have hL1 := HL.out w1 hk1
  have HH1 := Lib.hid H1
  have hr1 := H1.row
  rw [hv1] at hr1
  have HR1 := Lib.hid hr1.clip
  have hclip := Lib.hid (fun w2 => clip33 w2 A1 S.op.length cap1 hle1 hmx1)
  have HK1 := Lib.hid hk1
  clear H1 hr1
  have hl8 : ¬ (S.op.length : Int) = 8 := by omega
  refine hK _ _ (by (repeat (refine stab_cons rfl ?_ ?_; focus (go_simp; done))); exact stab_nil) ?_
  clear hK K
  unfold keyK
  refine plan_e rfl (fun K hK => ?_)
  go_simp
  refine hK _ _ stab_nil ?_
  clear hK K
  repeat (refine plan_q rfl (fun K hK => ?_); go_simp; refine hK _ ?_; clear hK K)
  refine plan_nil ?_
  go_wp2
  refine wp_region_plan (by kernel_rfl) (.q 0 <| .q 1 <| .q 2 <| .q 3 <| .q 4 <| .q 5 <| .q 6 <| .e 7 [0, 1, 2, 3, 4, 5] <| .e 8 [0] <| .q 9 <| .q 10 <| .e 11 [] <| .nil) (by kernel_rfl) (by kernel_rfl) ?_
  repeat (refine plan_q rfl (fun K hK => ?_); go_simp; refine hK _ ?_; clear hK K)
  refine plan_q rfl (fun K hK => ?_)
  go_simp
  refine ⟨_, (hclip.out _).mono (fun _ _ h => ⟨h.1, h.2.symm⟩), hK _ ?_⟩
  clear hK K
  repeat (refine plan_q rfl (fun K hK => ?_); go_simp; refine hK _ ?_; clear hK K)
  refine plan_e rfl (fun K hK => ?_)
  go_simp
  refine hK _ _ (by (repeat (refine stab_cons rfl ?_ ?_; focus (first | (go_simp; done) | (go_simp; exact (hclip.out _).mono (fun _ _ h => ⟨h.1, h.2.symm⟩))))); exact stab_nil) ?_
  clear hK K
  refine plan_e rfl (fun K hK => ?_)
  refine step_append_grow rfl (.tmp 66) (.tmp 68) 33 rfl 37 3 16 Try.underlying33 Try.sz37 (by decide) A1 S.op.length S.op.length (asks S.op) rfl (HR1.out.kept (G := NoBlk) (by repeat (with_reducible first | exact Kept.refl _ _ | apply Kept.drew | apply Kept.drewN | apply Kept.alloc | exact oneHit | apply Kept.setCell)) (fun _ _ _ e => e)) (some ⟨w1.heap.size, 0, none⟩) 1 1 [.int .u8 e, .int .u8 f, .int .i64 (now + within)] rfl (Row.new (Blk.drew (Blk.new _ _ _)) (by simp) (by simp [maxLen])) rfl (by omega) (by simp only [maxLen]; omega) (by omega) ?_
  intro g' cap' w2 hr2 hg2 hg2' hK2
  have hk2 : Kept NoBlk w1 w2 := Kept.trans (by repeat (with_reducible first | exact Kept.refl _ _ | apply Kept.drew | apply Kept.drewN | apply Kept.alloc | exact oneHit | apply Kept.setCell)) hK2
  have H2 := HH1.out.kept hk2
  have hc2 := H2.blk.cell
  have hf2 := H2.blk.frozen
  have hlt2 := H2.blk.lt
  rw [hv1] at hc2
  simp only [arrB] at hc2
  have HH2 := Lib.hid H2
  clear H2
  refine hK _ _ (by (repeat (refine stab_cons rfl ?_ ?_; focus (go_simp; done))); exact stab_nil) ?_
  clear hK K
  repeat (refine plan_q rfl (fun K hK => ?_); go_simp; refine hK _ ?_; clear hK K)
  refine plan_e rfl (fun K hK => ?_)
  go_simp
  refine hK _ _ stab_nil ?_
  clear hK K
  refine plan_nil ?_
  obtain ⟨v3, hv3⟩ : ∃ v3, v3 = Value.slice (some ⟨g', 0, none⟩) (S.op.length + 1) cap' := ⟨_, rfl⟩
  have hB3 : Blk (w2.setCell ⟨g, 0, none⟩ v3) g 60 (arrB v3 m r) := Blk.cast (HH2.out.blk.set_ 0 v3) rfl
  have hk3 : Kept (OneBlk g) w2 (w2.setCell ⟨g, 0, none⟩ v3) := (Kept.refl _ _).setCell oneHit _
  rw [← hv3]
  generalize w2.setCell ⟨g, 0, none⟩ v3 = w3 at *
  have hmg := HH2.out.map.ne HH2.out.blk
  have hM3 := HH2.out.map.kept hk3 hmg
  have hr3 := hr2.kept hk3 (fun b cs hb e => hb.ne_ HH2.out.blk (by decide) e)
  have hl3 := fun i hi => (HH2.out.lost i hi).kept hk3 (fun b cs hb e => hb.ne_ HH2.out.blk (by decide) e)
  have hc3 := hB3.cell
  have hf3 := hB3.frozen
  have hlt3 := hB3.lt
  simp only [arrB] at hc3
  have hBX3 := Blk.kept (Blk.kept HBX.out hk2 (fun e => e)) hk3 (fun e => (HBX.out.kept hk2 (fun e => e)).ne_ HH2.out.blk (by decide) e)
  have hbx3 := hBX3.cell
  have HBX3 := Lib.hid hBX3
  clear hBX3
  have HB3 := Lib.hid hB3
  have HM3 := Lib.hid hM3
  have HR3 := Lib.hid hr3
  have HL3 := Lib.hid hl3
  clear hB3 hM3 hr3 hl3
  go_wp2
  refine wp_region_plan (by kernel_rfl) (.q 0 <| .q 1 <| .q 2 <| .q 3 <| .q 4 <| .q 6 <| .q 7 <| .e 5 [0, 1, 2, 3, 6, 7] <| .e 8 [] <| .nil) (by kernel_rfl) (by kernel_rfl) ?_
  repeat (refine plan_q rfl (fun K hK => ?_); go_simp; refine hK _ ?_; clear hK K)
  refine plan_e rfl (fun K hK => ?_)
  go_simp
  refine (hkey.out _ _).mono ?_
  rintro e' w4 ⟨rfl, hK4⟩
  have hk4 : Kept NoBlk w3 w4 := Kept.trans (by repeat (with_reducible first | exact Kept.refl _ _ | apply Kept.drew | apply Kept.drewN | apply Kept.alloc | exact oneHit | apply Kept.setCell)) hK4
  have hB4 := HB3.out.kept hk4 (fun e => e)
  have hc4 := hB4.cell
  have hf4 := hB4.frozen
  have hlt4 := hB4.lt
  simp only [arrB] at hc4
  have hbx4 := (HBX3.out.kept hk4 (fun e => e)).cell
  have hM4 := HM3.out.kept hk4 (fun e => e)
  obtain ⟨w5, hrun, hM5, hK5⟩ := hM4.put mapTy (by unfold maxLen; omega) (a := (e, f)) (x := now + within) (M' := lookOp (S.op ++ [(e, f, now + within)])) (by unfold okK; simp only; omega) (by simp [Lit.wf, show IntKind.i64.min = -9223372036854775808 from rfl, show IntKind.i64.max = 9223372036854775807 from rfl]; omega) (look_snoc _ _ _ _ (by simpa using hex')) (fun b _ hb => look_snoc_other _ _ _ _ b hb)
  unfold keyK at hrun
  have HB4 := Lib.hid hB4
  have HM5 := Lib.hid hM5
  have HM4 := Lib.hid hM4
  clear hB4 hM5 hM4
  refine hK _ _ (by (repeat (refine stab_cons rfl ?_ ?_; focus (go_simp; done))); exact stab_nil) ?_
  clear hK K
  unfold keyK
  refine plan_e rfl (fun K hK => ?_)
  go_simp
  refine hK _ _ stab_nil ?_
  clear hK K
  refine plan_nil ?_
  go_wp2
  go_ret
  have hw : ∀ {a b : World}, Kept NoBlk a b → Kept (TwoBlk g m) a b := fun h => h.weaken (fun _ _ e => e.elim)
  refine ⟨rfl, ⟨v3, ⟨HB4.out.kept hK5 (fun e => hmg e.symm), ?_, fun i hi => ?_, HM5.out⟩⟩, ?_⟩
  · have h3 := HR3.out
    rw [← hv3] at h3
    have h4 := (h3.kept hk4 (fun _ _ _ e => e)).kept hK5 (fun b cs hb e => HM4.out.ne hb e.symm)
    have e1 : (askSt S e f (now + within)).op.length = S.op.length + 1 := by simp [askSt]
    have e2 : asks (askSt S e f (now + within)).op = asks S.op ++ [.int .u8 e, .int .u8 f, .int .i64 (now + within)] := by simp [askSt, asks, askCells]
    rw [e1, e2]
    exact h4
  · exact ((HL3.out i hi).kept hk4 (fun _ _ _ e => e)).kept hK5 (fun b cs hb e => HM4.out.ne hb e.symm)
  · exact ((((hw hk1).trans (hw hk2)).trans (hk3.weaken (fun _ _ e => .inl e))).trans (hw hk4)).trans (hK5.weaken (fun _ _ e => .inr e))
end Go.Proofs.Ytmbgbhhdjobbnaa
