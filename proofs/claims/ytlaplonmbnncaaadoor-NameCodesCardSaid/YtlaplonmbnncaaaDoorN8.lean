/- The program's names: Derive. -/
import Derived.Test.YtlaplonmbnncaaaDoorN7
namespace Go.Proofs.YtlaplonmbnncaaaDoor
open Go.RowKit Go.Shelf
set_option maxRecDepth 100000

/-- A name below, or the error. -/
def childP (n s : ByteArray) : ByteArray × Int := match splitO n with
  | some l => if label s = true then (if 6 < l.length + 1 then (⟨#[]⟩, 4) else (nameOf (l ++ [s]), 0)) else (⟨#[]⟩, 3)
  | none => (⟨#[]⟩, 3)
theorem childV_eq (n s : ByteArray) : childV n s = .tuple #[.string (childP n s).1, .int .i64 (childP n s).2] := by
  unfold childV childP
  cases hs : splitO n with
  | none => rfl
  | some l =>
    simp only
    by_cases hb : label s = true
    · rw [if_pos hb, if_pos hb]
      have hall : (l ++ [s]).all label = true := by rw [List.all_append, (splitO_labels n l hs).1, List.all_cons, hb]; rfl
      unfold joinV
      rw [List.length_append, List.length_singleton, hall]
      by_cases h6 : 6 < l.length + 1
      · rw [if_pos h6, if_pos h6]
      · rw [if_neg h6, if_neg h6, if_neg (by decide)]
    · rw [if_neg hb, if_neg hb]
theorem child_pair (w : World) (n s : ByteArray) (hn : n.size ≤ 1000) : Calls Tryd.prog 30 #[.string n, .string s] w fun e w' => e = .returned (.tuple #[.string (childP n s).1, .int .i64 (childP n s).2]) ∧ Kept NoBlk w w' := by
  rw [← childV_eq]
  exact child_any w n s hn
/-- What Derive hands back: the name, the rights, the error. -/
def deriveP (n : ByteArray) (r : Int) (s : ByteArray) : ByteArray × Int × Int :=
  if rightB n r = false ∨ label s = false then (⟨#[]⟩, 0, 3) else if bits .and .u8 r 8 = 0 then (⟨#[]⟩, 0, 7) else if (childP n s).2 = 0 then ((childP n s).1, r, 0) else (⟨#[]⟩, 0, (childP n s).2)
def outV (p : ByteArray × Int × Int) : Value := .tuple #[capV p.1 p.2.1, .int .i64 p.2.2]
set_option maxHeartbeats 2000000 in
theorem derive_any (w : World) (n : ByteArray) (r : Int) (s : ByteArray) (hn : n.size ≤ 1000) : Calls Tryd.prog 17 #[capV n r, .string s] w fun e w' => e = .returned (outV (deriveP n r s)) ∧ Kept NoBlk w w' := by
  have H1 := Lib.hid (fun w => right_any w n r hn)
  have H2 := Lib.hid (fun w => label_any w s)
  have H3 := Lib.hid (fun w => child_pair w n s hn)
  obtain ⟨V, hV⟩ : ∃ V, deriveP n r s = V := ⟨_, rfl⟩
  rw [hV]
  unfold deriveP at hV
  generalize rightB n r = b1 at *
  generalize label s = b2 at *
  generalize (childP n s).1 = t at *
  generalize (childP n s).2 = c at *
  have HV := Lib.hid hV.symm
  clear hV
  unfold capV at H1 ⊢
  have hb0 : Blk ((w.alloc (.cells (capC n r) 34)).alloc (.cells (capC ⟨#[]⟩ 0) 34)) w.heap.size 34 (capC n r) := (Blk.new _ _ _).alloc _
  have hb1 : Blk ((w.alloc (.cells (capC n r) 34)).alloc (.cells (capC ⟨#[]⟩ 0) 34)) (w.heap.size + 1) 34 (capC ⟨#[]⟩ 0) := Blk.new_at _ _ _ (by simp)
  have hk0 : Kept NoBlk w ((w.alloc (.cells (capC n r) 34)).alloc (.cells (capC ⟨#[]⟩ 0) 34)) := ((Kept.refl _ _).alloc _).alloc _
  have HB0 := Lib.hid hb0
  have HB1 := Lib.hid hb1
  have HK0 := Lib.hid hk0
  clear hb0 hb1 hk0
  unfold capC at HB0 HB1 HK0
  have hlo : w.heap.size ≤ w.heap.size + 1 := by omega
  have FIN : Hid (∀ (w1 : World) (n' : ByteArray) (r' : Int), Blk w1 (w.heap.size + 1) 34 (capC ⟨#[]⟩ 0) → Kept NoBlk w w1 →
      Hid (((w1.setCell ⟨w.heap.size + 1, 0, none⟩ (.string n')).setCell ⟨w.heap.size + 1, 1, none⟩ (.int .u8 r')).cell? ⟨w.heap.size + 1, 0, none⟩ = some (.string n')) ∧
      Hid (((w1.setCell ⟨w.heap.size + 1, 0, none⟩ (.string n')).setCell ⟨w.heap.size + 1, 1, none⟩ (.int .u8 r')).cell? ⟨w.heap.size + 1, 1, none⟩ = some (.int .u8 r')) ∧
      Hid (Kept NoBlk w ((w1.setCell ⟨w.heap.size + 1, 0, none⟩ (.string n')).setCell ⟨w.heap.size + 1, 1, none⟩ (.int .u8 r')))) :=
    Lib.hid fun w1 n' r' h1 h2 => by
      obtain ⟨z0, z1⟩ := cap_cells (cap_stored (n' := n') (r' := r') h1)
      exact ⟨Lib.hid z0, Lib.hid z1, Lib.hid ((h2.setCell (newHit hlo) _).setCell (newHit hlo) _)⟩
  go_enter Tryd.func17, Tryd.ntmps17
  go_wp2_with fail
  refine (H1.out _).mono ?_
  rintro e w1 ⟨rfl, hk1⟩
  have HK1 := Lib.hid (HK0.out.trans hk1)
  have q0 := HB0.out.kept hk1 (fun e => e)
  have q1 := HB1.out.kept hk1 (fun e => e)
  obtain ⟨a0, a1⟩ := cap_cells q0
  obtain ⟨c0, c1⟩ := cap_cells q1
  have fr := q1.frozen
  have Q0 := Lib.hid q0
  have Q1 := Lib.hid q1
  clear hk1 q0 q1 HB0 HB1 HK0
  cases b1 with
  | false =>
    obtain ⟨Z0, Z1, ZK⟩ := FIN.out w1 ⟨#[]⟩ 0 Q1.out HK1.out
    have HV2 : Hid (V = (⟨#[]⟩, 0, 3)) := Lib.hid (by rw [HV.out, if_pos (.inl rfl)])
    go_wp2
    refine bodyPost_ret (v := .tuple #[.agg #[.string ⟨#[]⟩, .int .u8 0], .int .i64 3]) (by simp [results, Tryd.f17, go_sem, Z0.out, Z1.out]) rfl ⟨by rw [HV2.out]; rfl, ZK.out⟩
  | true =>
    clear c0 c1 fr a0 a1
    go_wp2_with fail
    refine (H2.out _).mono ?_
    rintro e w2 ⟨rfl, hk2⟩
    have HK2 := Lib.hid (HK1.out.trans hk2)
    have q0 := Q0.out.kept hk2 (fun e => e)
    have q1 := Q1.out.kept hk2 (fun e => e)
    obtain ⟨a0, a1⟩ := cap_cells q0
    obtain ⟨c0, c1⟩ := cap_cells q1
    have fr := q1.frozen
    have P0 := Lib.hid q0
    have P1 := Lib.hid q1
    clear hk2 q0 q1 Q0 Q1 HK1
    cases b2 with
    | false =>
      obtain ⟨Z0, Z1, ZK⟩ := FIN.out w2 ⟨#[]⟩ 0 P1.out HK2.out
      have HV2 : Hid (V = (⟨#[]⟩, 0, 3)) := Lib.hid (by rw [HV.out, if_pos (.inr rfl)])
      go_wp2
      refine bodyPost_ret (v := .tuple #[.agg #[.string ⟨#[]⟩, .int .u8 0], .int .i64 3]) (by simp [results, Tryd.f17, go_sem, Z0.out, Z1.out]) rfl ⟨by rw [HV2.out]; rfl, ZK.out⟩
    | true =>
      generalize hd : bits .and .u8 r 8 = d at *
      by_cases h0 : d = 0
      · have HV2 : Hid (V = (⟨#[]⟩, 0, 7)) := Lib.hid (by rw [HV.out, if_neg (by simp), if_pos h0])
        subst h0
        obtain ⟨Z0, Z1, ZK⟩ := FIN.out w2 ⟨#[]⟩ 0 P1.out HK2.out
        go_wp2
        refine bodyPost_ret (v := .tuple #[.agg #[.string ⟨#[]⟩, .int .u8 0], .int .i64 7]) (by simp [results, Tryd.f17, go_sem, Z0.out, Z1.out]) rfl ⟨by rw [HV2.out]; rfl, ZK.out⟩
      · have h0' : (d == 0) = false := beq_eq_false_iff_ne.2 h0
        have HV2 : Hid (V = if c = 0 then (t, r, 0) else (⟨#[]⟩, 0, c)) := Lib.hid (by rw [HV.out, if_neg (by simp), if_neg h0])
        clear h0 c0 c1 fr
        go_wp2_with fail
        refine (H3.out _).mono ?_
        rintro e w3 ⟨rfl, hk3⟩
        have HK3 := Lib.hid (HK2.out.trans hk3)
        have q0 := P0.out.kept hk3 (fun e => e)
        have q1 := P1.out.kept hk3 (fun e => e)
        obtain ⟨d0, d1⟩ := cap_cells q0
        obtain ⟨c0, c1⟩ := cap_cells q1
        have fr := q1.frozen
        have P1 := Lib.hid q1
        clear hk3 q0 q1 P0 a0 a1 HK2
        by_cases hc : c = 0
        · have HV3 : Hid (V = (t, r, 0)) := Lib.hid (by rw [HV2.out, if_pos hc])
          subst hc
          obtain ⟨Z0, Z1, ZK⟩ := FIN.out w3 t r P1.out HK3.out
          go_wp2
          refine bodyPost_ret (v := .tuple #[.agg #[.string t, .int .u8 r], .int .i64 0]) (by simp [results, Tryd.f17, go_sem, Z0.out, Z1.out]) rfl ⟨by rw [HV3.out]; rfl, ZK.out⟩
        · have HV3 : Hid (V = (⟨#[]⟩, 0, c)) := Lib.hid (by rw [HV2.out, if_neg hc])
          have hc' : (c != 0) = true := bne_iff_ne.2 hc
          clear hc
          obtain ⟨Z0, Z1, ZK⟩ := FIN.out w3 ⟨#[]⟩ 0 P1.out HK3.out
          go_wp2
          refine bodyPost_ret (v := .tuple #[.agg #[.string ⟨#[]⟩, .int .u8 0], .int .i64 c]) (by simp [results, Tryd.f17, go_sem, Z0.out, Z1.out]) rfl ⟨by rw [HV3.out]; rfl, ZK.out⟩
end Go.Proofs.YtlaplonmbnncaaaDoor
