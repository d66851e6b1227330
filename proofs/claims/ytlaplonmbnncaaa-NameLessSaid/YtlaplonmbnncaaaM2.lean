/- What is derived, or restricted: NameLess, walked. -/
import Derived.Test.YtlaplonmbnncaaaM0
import Derived.Test.YtlaplonmbnncaaaPlan
namespace Go.Proofs.Ytlaplonmbnncaaa
open Go.RowKit Go.Shelf
set_option maxRecDepth 100000

def restrP (n : ByteArray) (r q : Int) : ByteArray × Int × Int := if rightB n r = true ∧ q ≤ 31 then (n, bits .and .u8 r q, 0) else (⟨#[]⟩, 0, 3)
theorem restr_out (n : ByteArray) (r q : Int) : restrV n r q = outV (restrP n r q) := by
  unfold restrV restrP outV
  split <;> rfl
theorem and_bits : ∀ a b : Fin 32, 0 ≤ bits .and .u8 ((a.val : Nat) : Int) ((b.val : Nat) : Int) ∧ bits .and .u8 ((a.val : Nat) : Int) ((b.val : Nat) : Int) ≤ 31 ∧ subN (bits .and .u8 ((a.val : Nat) : Int) ((b.val : Nat) : Int)).toNat a.val = true := by decide +kernel
theorem and_int (a b : Int) (a0 : 0 ≤ a) (a1 : a ≤ 31) (b0 : 0 ≤ b) (b1 : b ≤ 31) : 0 ≤ bits .and .u8 a b ∧ bits .and .u8 a b ≤ 31 ∧ subN (bits .and .u8 a b).toNat a.toNat = true := by
  obtain ⟨a, rfl⟩ := Int.eq_ofNat_of_zero_le a0
  obtain ⟨b, rfl⟩ := Int.eq_ofNat_of_zero_le b0
  exact and_bits ⟨a, by omega⟩ ⟨b, by omega⟩
/-- What was restricted opens less. -/
theorem restr_less (n : ByteArray) (r q : Int) (g : ByteArray) (s : Int) (r0 : 0 ≤ r) (q0 : 0 ≤ q) (s0 : 0 ≤ s) (h : (restrP n r q).2.2 = 0) (k : opensB (restrP n r q).1 (restrP n r q).2.1 g s = true) : opensB n r g s = true := by
  unfold restrP at h k
  by_cases hc : rightB n r = true ∧ q ≤ 31
  · rw [if_pos hc] at k
    simp only at k
    obtain ⟨a0, a1, a2⟩ := and_int r q r0 (rightB_parts hc.1).2 q0 hc.2
    obtain ⟨-, k2, k3, k4⟩ := (opens_iff _ _ _ _ a0 s0).1 k
    exact (opens_iff _ _ _ _ r0 s0).2 ⟨hc.1, k2, sub_trans k3 a2, k4⟩
  · rw [if_neg hc] at h
    cases h
theorem restr_size (n : ByteArray) (r q : Int) (h : n.size ≤ 300) : (restrP n r q).1.size ≤ 300 := by
  unfold restrP
  split
  · exact h
  · exact Nat.zero_le _
theorem child_ok (n s : ByteArray) (h : (childP n s).2 = 0) : ∃ l, splitO n = some l ∧ label s = true ∧ splitO (childP n s).1 = some (l ++ [s]) := by
  unfold childP at h ⊢
  cases hn : splitO n with
  | none => rw [hn] at h; cases h
  | some l =>
    rw [hn] at h
    simp only at h ⊢
    by_cases hs : label s = true
    · rw [if_pos hs] at h ⊢
      by_cases h6 : 6 < l.length + 1
      · rw [if_pos h6] at h
        cases h
      · rw [if_neg h6]
        refine ⟨l, rfl, hs, splitO_nameOf _ ?_ ?_⟩
        · rw [List.all_append, (splitO_labels n l hn).1, List.all_cons, hs]
          rfl
        · rw [List.length_append, List.length_singleton]
          omega
    · rw [if_neg hs] at h
      cases h
theorem derive_less (n : ByteArray) (r : Int) (z g : ByteArray) (s : Int) (r0 : 0 ≤ r) (s0 : 0 ≤ s) (h : (deriveP n r z).2.2 = 0) (k : opensB (deriveP n r z).1 (deriveP n r z).2.1 g s = true) : opensB n r g s = true := by
  unfold deriveP at h k
  by_cases h1 : rightB n r = false ∨ label z = false
  · rw [if_pos h1] at h
    cases h
  rw [if_neg h1] at h k
  by_cases h2 : bits .and .u8 r 8 = 0
  · rw [if_pos h2] at h
    cases h
  rw [if_neg h2] at h k
  by_cases h3 : (childP n z).2 = 0
  · rw [if_pos h3] at h k
    simp only at k
    obtain ⟨l, hl, -, hc⟩ := child_ok n z h3
    obtain ⟨-, k2, k3, k4⟩ := (opens_iff _ _ _ _ r0 s0).1 k
    have hr : rightB n r = true := by
      cases hb : rightB n r
      · exact absurd (.inl hb) h1
      · rfl
    exact (opens_iff _ _ _ _ r0 s0).2 ⟨hr, k2, k3, above_trans ((above_iff _ _).2 ⟨l, [z], hl, hc⟩) k4⟩
  · rw [if_neg h3] at h
    exact absurd h h3
theorem derive_size (n : ByteArray) (r : Int) (z : ByteArray) : (deriveP n r z).1.size ≤ 300 := by
  unfold deriveP
  split
  · exact Nat.zero_le _
  split
  · exact Nat.zero_le _
  split
  · rename_i h
    obtain ⟨l, -, -, hc⟩ := child_ok n z h
    have := splitO_size _ _ hc
    simp only
    omega
  · exact Nat.zero_le _

/-- Four capabilities in boxes. -/
structure Quad (W : World) (b0 b1 b2 b3 : Nat) (m1 m2 m3 m4 : ByteArray) (r1 r2 r3 r4 : Int) : Prop where
  a : Blk W b0 23 (capC m1 r1)
  b : Blk W b1 23 (capC m2 r2)
  c : Blk W b2 23 (capC m3 r3)
  d : Blk W b3 23 (capC m4 r4)
theorem Quad.kept {W W' : World} {b0 b1 b2 b3 : Nat} {m1 m2 m3 m4 : ByteArray} {r1 r2 r3 r4 : Int} (h : Quad W b0 b1 b2 b3 m1 m2 m3 m4 r1 r2 r3 r4) (hk : Kept NoBlk W W') : Quad W' b0 b1 b2 b3 m1 m2 m3 m4 r1 r2 r3 r4 :=
  ⟨h.a.kept hk (fun e => e), h.b.kept hk (fun e => e), h.c.kept hk (fun e => e), h.d.kept hk (fun e => e)⟩
def TrueKept' (w : World) (e : Ending) (w' : World) : Prop := e = .returned (.bool true) ∧ Kept NoBlk w w'
set_option maxHeartbeats 4000000 in
theorem lawLess_any (w : World) (n1 n2 : ByteArray) (r1 q r2 : Int) (h1 : n1.size ≤ maxLen) (h2 : n2.size ≤ maxLen) (p1 : 0 ≤ r1) (p3 : 0 ≤ q) (p2 : 0 ≤ r2) :
    Calls Try.prog 4 #[capV n1 r1, .int .u8 q, capV n2 r2] w (TrueKept' w) := by
  have S1 := Lib.hid (fun w => short_any w n1 h1)
  have S2 := Lib.hid (fun w => short_any w n2 h2)
  have z1 := cut300_size n1
  have z2 := cut300_size n2
  generalize cut300 n1 = m1 at *
  generalize cut300 n2 = m2 at *
  have HL := Lib.hid (fun w => live_any w)
  have HR := Lib.hid (fun w => restrict_any w m1 r1 q (by omega))
  have HD := Lib.hid (fun w => derive_any w m1 r1 ⟨#[122]⟩ (by omega))
  rw [restr_out] at HR
  have x1 := restr_size m1 r1 q z1
  have x2 := derive_size m1 r1 ⟨#[122]⟩
  have F1 := Lib.hid (restr_less m1 r1 q m2 r2 p1 p3 p2)
  have F2 := Lib.hid (derive_less m1 r1 ⟨#[122]⟩ m2 r2 p1 p2)
  unfold outV at HR HD
  generalize (restrP m1 r1 q).1 = an at *
  generalize (restrP m1 r1 q).2.1 = ar at *
  generalize (restrP m1 r1 q).2.2 = ae at *
  generalize (deriveP m1 r1 ⟨#[122]⟩).1 = bn at *
  generalize (deriveP m1 r1 ⟨#[122]⟩).2.1 = br at *
  generalize (deriveP m1 r1 ⟨#[122]⟩).2.2 = bf at *
  have HO := Lib.hid (fun (w : World) => (⟨opens_any w an ar m2 r2 (by omega) (by omega), opens_any w m1 r1 m2 r2 (by omega) (by omega), opens_any w bn br m2 r2 (by omega) (by omega)⟩ : _ ∧ _ ∧ _))
  generalize opensB an ar m2 r2 = oa at *
  generalize opensB m1 r1 m2 r2 = oc at *
  generalize opensB bn br m2 r2 = ob at *
  clear z1 z2 x1 x2 h1 h2 p1 p2 p3
  unfold capV at HO HR HD ⊢
  go_enter Try.func4, Try.ntmps4
  go_wp2
  refine wp_region_plan (by kernel_rfl) (.q 0 <| .q 1 <| .q 2 <| .q 3 <| .q 4 <| .q 5 <| .q 6 <| .e 7 [] <| .q 8 <| .e 9 [] <| .nil) (by kernel_rfl) (by kernel_rfl) ?_
  repeat (refine plan_q rfl (fun K hK => ?_); go_simp; refine hK _ ?_; clear hK K)
  refine plan_q rfl (fun K hK => ?_)
  go_simp
  refine ⟨_, (S1.out _).mono (fun _ _ h => ⟨h.1, h.2.symm⟩), hK _ ?_⟩
  clear hK K
  repeat (refine plan_q rfl (fun K hK => ?_); go_simp; refine hK _ ?_; clear hK K)
  refine plan_q rfl (fun K hK => ?_)
  go_simp
  refine ⟨_, (S2.out _).mono (fun _ _ h => ⟨h.1, h.2.symm⟩), hK _ ?_⟩
  clear hK K
  repeat (refine plan_q rfl (fun K hK => ?_); go_simp; refine hK _ ?_; clear hK K)
  refine plan_e rfl (fun K hK => ?_)
  go_simp
  refine hK _ _ (by (repeat (refine stab_cons rfl ?_ ?_; focus (go_simp; done))); exact stab_nil) ?_
  clear hK K
  repeat (refine plan_q rfl (fun K hK => ?_); go_simp; refine hK _ ?_; clear hK K)
  refine plan_e rfl (fun K hK => ?_)
  go_simp
  refine hK _ _ (by (repeat (refine stab_cons rfl ?_ ?_; focus (go_simp; done))); exact stab_nil) ?_
  clear hK K
  refine plan_nil ?_
  clear S1 S2
  have q0 : Blk (((w.alloc (.cells #[.string m1, .int .u8 r1] 23)).alloc (.cells #[.string m2, .int .u8 r2] 23)).drew) w.heap.size 23 (capC m1 r1) := ((Blk.new w 23 _).alloc _).drew
  have q1 : Blk (((w.alloc (.cells #[.string m1, .int .u8 r1] 23)).alloc (.cells #[.string m2, .int .u8 r2] 23)).drew) (w.heap.size + 1) 23 (capC m2 r2) := (Blk.new_at (n := w.heap.size + 1) _ 23 _ (by simp)).drew
  have hk : Kept NoBlk w (((w.alloc (.cells #[.string m1, .int .u8 r1] 23)).alloc (.cells #[.string m2, .int .u8 r2] 23)).drew) := (((Kept.refl _ _).alloc _).alloc _).drew
  generalize (((w.alloc (.cells #[.string m1, .int .u8 r1] 23)).alloc (.cells #[.string m2, .int .u8 r2] 23)).drew) = W at *
  obtain ⟨a0, a1⟩ := cap_cells q0
  have Q0 := Lib.hid q0
  have Q1 := Lib.hid q1
  have HK := Lib.hid hk
  clear q0 q1 hk
  go_wp2_with fail
  refine (HR.out _).mono ?_
  rintro e w1 ⟨rfl, hk1⟩
  have q0 := (Q0.out.kept hk1 (fun e => e)).alloc (.cells (capC an ar) 23)
  have q1 := (Q1.out.kept hk1 (fun e => e)).alloc (.cells (capC an ar) 23)
  have q2 := Blk.new w1 23 (capC an ar)
  have hk := (HK.out.trans hk1).alloc (.cells (capC an ar) 23)
  obtain ⟨d0, d1⟩ := cap_cells (Q0.out.kept hk1 (fun e => e))
  have hlt := (Q0.out.kept hk1 (fun e => e)).lt
  have QA := Lib.hid q0
  have QB := Lib.hid q1
  have QC := Lib.hid q2
  have HKA := Lib.hid hk
  unfold capC at QA QB QC HKA
  clear q0 q1 q2 hk hk1 Q0 Q1 HK a0 a1
  go_wp2_with fail
  refine (HD.out _).mono ?_
  rintro e w2 ⟨rfl, hk2⟩
  have hT : Quad (w2.alloc (.cells (capC bn br) 23)) w.heap.size (w.heap.size + 1) w1.heap.size w2.heap.size m1 m2 an bn r1 r2 ar br :=
    ⟨(QA.out.kept hk2 (fun e => e)).alloc _, (QB.out.kept hk2 (fun e => e)).alloc _, (QC.out.kept hk2 (fun e => e)).alloc _, Blk.new _ _ _⟩
  have hk := (HKA.out.trans hk2).alloc (.cells (capC bn br) 23)
  obtain ⟨d0, d1⟩ := cap_cells hT.a
  obtain ⟨f0, f1⟩ := cap_cells hT.b
  obtain ⟨g0, g1⟩ := cap_cells hT.c
  obtain ⟨i0, i1⟩ := cap_cells hT.d
  have HT := Lib.hid hT
  have HK := Lib.hid hk
  unfold capC at HT HK d0 d1 f0 f1 g0 g1 i0 i1
  clear hT hk hk2 QA QB QC HKA HR HD
  by_cases ha : ae = 0
  · subst ha
    go_wp2_with fail
    refine ((HO.out _).1).mono ?_
    rintro e w3 ⟨rfl, hk⟩
    have HK3 := Lib.hid (HK.out.trans hk)
    have hT2 := HT.out.kept hk
    obtain ⟨d0, d1⟩ := cap_cells hT2.a
    obtain ⟨f0, f1⟩ := cap_cells hT2.b
    obtain ⟨g0, g1⟩ := cap_cells hT2.c
    obtain ⟨i0, i1⟩ := cap_cells hT2.d
    have HT3 := Lib.hid hT2
    clear hk hT2
    cases oa with
    | false =>
      go_wp2_with fail
      refine (HL.out _).mono ?_
      rintro e w3l ⟨rfl, hk⟩
      have HK3l := Lib.hid (HK3.out.trans hk)
      have hT2 := HT3.out.kept hk
      obtain ⟨d0, d1⟩ := cap_cells hT2.a
      obtain ⟨f0, f1⟩ := cap_cells hT2.b
      obtain ⟨g0, g1⟩ := cap_cells hT2.c
      obtain ⟨i0, i1⟩ := cap_cells hT2.d
      have HT3l := Lib.hid hT2
      clear hk hT2
      by_cases hf : bf = 0
      · subst hf
        go_wp2_with fail
        refine ((HO.out _).2.2).mono ?_
        rintro e w3b ⟨rfl, hk⟩
        have HK3b := Lib.hid (HK3l.out.trans hk)
        have hT2 := HT3l.out.kept hk
        obtain ⟨d0, d1⟩ := cap_cells hT2.a
        obtain ⟨f0, f1⟩ := cap_cells hT2.b
        obtain ⟨g0, g1⟩ := cap_cells hT2.c
        obtain ⟨i0, i1⟩ := cap_cells hT2.d
        have HT3b := Lib.hid hT2
        clear hk hT2
        cases ob with
        | false =>
          go_wp2
          go_ret
          exact ⟨by simp, HK3b.out⟩
        | true =>
          obtain rfl : oc = true := F2.out (by simp) (by simp)
          go_wp2_with fail
          refine ((HO.out _).2.1).mono ?_
          rintro e w3c ⟨rfl, hk⟩
          have HK3c := Lib.hid (HK3b.out.trans hk)
          have hT2 := HT3b.out.kept hk
          obtain ⟨d0, d1⟩ := cap_cells hT2.a
          obtain ⟨f0, f1⟩ := cap_cells hT2.b
          obtain ⟨g0, g1⟩ := cap_cells hT2.c
          obtain ⟨i0, i1⟩ := cap_cells hT2.d
          have HT3c := Lib.hid hT2
          clear hk hT2
          go_wp2
          go_ret
          exact ⟨by simp, HK3c.out⟩
      · have hf' : (bf != 0) = true := bne_iff_ne.2 hf
        clear hf
        go_wp2
        go_ret
        exact ⟨by simp, HK3l.out⟩
    | true =>
      obtain rfl : oc = true := F1.out (by simp) (by simp)
      go_wp2_with fail
      refine ((HO.out _).2.1).mono ?_
      rintro e w4 ⟨rfl, hk⟩
      have HK4 := Lib.hid (HK3.out.trans hk)
      have hT2 := HT3.out.kept hk
      obtain ⟨d0, d1⟩ := cap_cells hT2.a
      obtain ⟨f0, f1⟩ := cap_cells hT2.b
      obtain ⟨g0, g1⟩ := cap_cells hT2.c
      obtain ⟨i0, i1⟩ := cap_cells hT2.d
      have HT4 := Lib.hid hT2
      clear hk hT2
      go_wp2_with fail
      refine (HL.out _).mono ?_
      rintro e w4l ⟨rfl, hk⟩
      have HK4l := Lib.hid (HK4.out.trans hk)
      have hT2 := HT4.out.kept hk
      obtain ⟨d0, d1⟩ := cap_cells hT2.a
      obtain ⟨f0, f1⟩ := cap_cells hT2.b
      obtain ⟨g0, g1⟩ := cap_cells hT2.c
      obtain ⟨i0, i1⟩ := cap_cells hT2.d
      have HT4l := Lib.hid hT2
      clear hk hT2
      by_cases hf : bf = 0
      · subst hf
        go_wp2_with fail
        refine ((HO.out _).2.2).mono ?_
        rintro e w4b ⟨rfl, hk⟩
        have HK4b := Lib.hid (HK4l.out.trans hk)
        have hT2 := HT4l.out.kept hk
        obtain ⟨d0, d1⟩ := cap_cells hT2.a
        obtain ⟨f0, f1⟩ := cap_cells hT2.b
        obtain ⟨g0, g1⟩ := cap_cells hT2.c
        obtain ⟨i0, i1⟩ := cap_cells hT2.d
        have HT4b := Lib.hid hT2
        clear hk hT2
        cases ob with
        | false =>
          go_wp2
          go_ret
          exact ⟨by simp, HK4b.out⟩
        | true =>
          go_wp2_with fail
          refine ((HO.out _).2.1).mono ?_
          rintro e w4c ⟨rfl, hk⟩
          have HK4c := Lib.hid (HK4b.out.trans hk)
          have hT2 := HT4b.out.kept hk
          obtain ⟨d0, d1⟩ := cap_cells hT2.a
          obtain ⟨f0, f1⟩ := cap_cells hT2.b
          obtain ⟨g0, g1⟩ := cap_cells hT2.c
          obtain ⟨i0, i1⟩ := cap_cells hT2.d
          have HT4c := Lib.hid hT2
          clear hk hT2
          go_wp2
          go_ret
          exact ⟨by simp, HK4c.out⟩
      · have hf' : (bf != 0) = true := bne_iff_ne.2 hf
        clear hf
        go_wp2
        go_ret
        exact ⟨by simp, HK4l.out⟩
  · have ha' : (ae == 0) = false := beq_eq_false_iff_ne.2 ha
    clear ha
    go_wp2_with fail
    refine (HL.out _).mono ?_
    rintro e w2l ⟨rfl, hk⟩
    have HKl := Lib.hid (HK.out.trans hk)
    have hT2 := HT.out.kept hk
    obtain ⟨d0, d1⟩ := cap_cells hT2.a
    obtain ⟨f0, f1⟩ := cap_cells hT2.b
    obtain ⟨g0, g1⟩ := cap_cells hT2.c
    obtain ⟨i0, i1⟩ := cap_cells hT2.d
    have HTl := Lib.hid hT2
    clear hk hT2
    by_cases hf : bf = 0
    · subst hf
      go_wp2_with fail
      refine ((HO.out _).2.2).mono ?_
      rintro e w2b ⟨rfl, hk⟩
      have HKb := Lib.hid (HKl.out.trans hk)
      have hT2 := HTl.out.kept hk
      obtain ⟨d0, d1⟩ := cap_cells hT2.a
      obtain ⟨f0, f1⟩ := cap_cells hT2.b
      obtain ⟨g0, g1⟩ := cap_cells hT2.c
      obtain ⟨i0, i1⟩ := cap_cells hT2.d
      have HTb := Lib.hid hT2
      clear hk hT2
      cases ob with
      | false =>
        go_wp2
        go_ret
        exact ⟨by simp, HKb.out⟩
      | true =>
        obtain rfl : oc = true := F2.out (by simp) (by simp)
        go_wp2_with fail
        refine ((HO.out _).2.1).mono ?_
        rintro e w2c ⟨rfl, hk⟩
        have HKc := Lib.hid (HKb.out.trans hk)
        have hT2 := HTb.out.kept hk
        obtain ⟨d0, d1⟩ := cap_cells hT2.a
        obtain ⟨f0, f1⟩ := cap_cells hT2.b
        obtain ⟨g0, g1⟩ := cap_cells hT2.c
        obtain ⟨i0, i1⟩ := cap_cells hT2.d
        have HTc := Lib.hid hT2
        clear hk hT2
        go_wp2
        go_ret
        exact ⟨by simp, HKc.out⟩
    · have hf' : (bf != 0) = true := bne_iff_ne.2 hf
      clear hf
      go_wp2
      go_ret
      exact ⟨by simp, HKl.out⟩
end Go.Proofs.Ytlaplonmbnncaaa
