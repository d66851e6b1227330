/- The program's names: Encode. -/
import Derived.Test.YtlaplonmbnncaaaDoorE0
import Derived.Lib.AppendStr
namespace Go.Proofs.YtlaplonmbnncaaaDoor
open Go.RowKit Go.Shelf
set_option maxRecDepth 100000

/-- A slice value that holds bytes. -/
def CellsB (w : World) (v : Value) (l : List UInt8) : Prop := ∃ A cap, v = .slice A l.length cap ∧ l.length ≤ cap ∧ cap ≤ maxLen ∧
  (0 < l.length → ∃ b o, A = some ⟨b, o, none⟩ ∧ b < w.heap.size ∧ ∀ k (hk : k < l.length), w.cell? ⟨b, o + k, none⟩ = some (.int .u8 (l[k].toNat : Int)))
theorem CellsB.nil (w : World) : CellsB w (.slice none 0 0) [] := ⟨none, 0, rfl, Nat.le_refl _, Nat.zero_le _, fun h => absurd h (by decide)⟩
theorem CellsB.kept {w w' : World} {v : Value} {l : List UInt8} (h : CellsB w v l) (hk : Kept NoBlk w w') : CellsB w' v l := by
  obtain ⟨A, cap, h1, h2, h3, h4⟩ := h
  refine ⟨A, cap, h1, h2, h3, fun h0 => ?_⟩
  obtain ⟨b, o, e, hb, hc⟩ := h4 h0
  exact ⟨b, o, e, Nat.lt_of_lt_of_le hb hk.size, fun k hk' => by rw [hk.cell (p := ⟨b, o + k, none⟩) hb (fun e => e)]; exact hc k hk'⟩
theorem CellsB.of_row {w : World} {v : Value} {l : List UInt8} (h : Row w 5 1 v l.length (byteV l)) : CellsB w v l := by
  obtain ⟨A, cap, hv, h1, h2, hA, -, -⟩ := h.form
  refine ⟨A, cap, hv, h1, h2, fun h0 => ?_⟩
  obtain ⟨b, o, c, e1, -, -, hbl, -, hbc⟩ := h.place h0
  rw [hv] at e1
  injection e1 with e1 _ e2
  refine ⟨b, o, e1, hbl, fun k hk => hbc k _ ?_⟩
  unfold byteV
  rw [List.getElem?_map, List.getElem?_eq_getElem hk]
  rfl
theorem CellsB.length_le {w : World} {v : Value} {l : List UInt8} (h : CellsB w v l) : l.length ≤ maxLen := by
  obtain ⟨A, cap, -, h1, h2, -⟩ := h
  omega
/-- 'string(b)'. -/
theorem conv_cells {w : World} {v : Value} {l : List UInt8} (h : CellsB w v l) : (convert 47 9 v).run Tryd.prog w = .ok (.string (mk l)) w := by
  obtain ⟨A, cap, rfl, h1, h2, h3⟩ := h
  cases A with
  | some a =>
    refine run_convert_bytes_back (P := Tryd.prog) w 47 9 5 a cap l Tryd.underlying47 Tryd.underlying5 Tryd.underlying9 fun j hj => ?_
    obtain ⟨b, o, e, hb, hc⟩ := h3 (by omega)
    cases e
    have hadd : (⟨b, o, none⟩ : Addr).add j = ⟨b, o + j, none⟩ := by unfold Addr.add; split <;> simp_all
    rw [hadd]
    exact hc j hj
  | none =>
    have h0 : l = [] := by
      rcases Nat.eq_zero_or_pos l.length with h | h
      · exact List.eq_nil_of_length_eq_zero h
      · obtain ⟨b, o, e, -⟩ := h3 h
        cases e
    subst h0
    have := run_convert_bytes_string (P := Tryd.prog) w 47 9 5 none 0 cap Tryd.underlying47 Tryd.underlying5 Tryd.underlying9
    simp only [List.length_nil]
    rw [this]
    simp [Conv.bytesToString]
    rfl
theorem Tryd.szBz : (Tryd.prog.info? 5).map (fun i => (i.zero, i.size, i.bytes)) = some (some (.int .u8 0), 1, 1) := by kernel_rfl
theorem infoB : ∃ i : TypeInfo, Tryd.prog.info? 5 = some i ∧ i.zero = some (.int .u8 0) ∧ i.size = 1 ∧ i.bytes = 1 := by
  obtain ⟨i, hi, h⟩ := Option.map_eq_some_iff.1 Tryd.szBz
  simp only [Prod.mk.injEq] at h
  exact ⟨i, hi, h.1, h.2.1, h.2.2⟩
/-- The walk is held at the operation that writes temporary k: what is to be shown is a parameter that no rule rewrites. -/
structure Box (p : Prop) where
  one : Unit
structure Held (p : Prop) (b : Box p) : Prop where
  out : p
theorem stopAt {P : Program} {ops : Array Oper} {rest : List Oper} {o : Oper} {a : Act} {w : World} {Q : Exit → Act → World → Prop} (k : Nat) (_h : o.dst = some k) (g : Held (wpList P ops Q (o :: rest) a w) ⟨()⟩) : wpList P ops Q (o :: rest) a w := g.out
theorem conv8 (n : Nat) (h : n < 256) : IntKind.u8.wrap (n : Int) = (n : Int) := by
  rw [IntKind.wrap_u8]
  omega
theorem u8_nat (n : Nat) (h : n < 256) : ((UInt8.ofNat n).toNat : Int) = (n : Int) := by
  rw [UInt8.toNat_ofNat_of_lt' (by show n < 256; omega)]
set_option maxHeartbeats 4000000 in
theorem encode_any (w : World) (n : ByteArray) (r : Nat) (hn : n.size ≤ 1000) (hr : r < 256) : Calls Tryd.prog 36 #[capV n (r : Int)] w fun e w' => Kept NoBlk w w' ∧
    ((rightB n (r : Int) = true ∧ ∃ v, e = .returned (.tuple #[v, .int .i64 0]) ∧ CellsB w' v (encL n r)) ∨
     (rightB n (r : Int) = false ∧ e = .returned (.tuple #[.slice none 0 0, .int .i64 3]))) := by
  have H1 := Lib.hid (fun w => right_any w n r hn)
  cases hb : rightB n r with
  | false =>
    rw [hb] at H1
    clear hb
    unfold capV at H1 ⊢
    go_enter Tryd.func36, Tryd.ntmps36
    go_wp2_with fail
    refine (H1.out _).mono ?_
    rintro e w1 ⟨rfl, hk1⟩
    go_wp2
    go_ret2
    exact ⟨Kept.trans ((Kept.refl _ _).alloc _) hk1, .inr ⟨trivial, rfl⟩⟩
  | true =>
    obtain ⟨h79, h31⟩ := rightB_parts hb
    rw [hb] at H1
    have hb0 : Blk (w.alloc (.cells (capC n r) 34)) w.heap.size 34 (capC n r) := Blk.new _ _ _
    have HB0 := Lib.hid hb0
    have HK0 : Hid (Kept NoBlk w (w.alloc (.cells (capC n r) 34))) := Lib.hid ((Kept.refl _ _).alloc _)
    have HE : Hid (byteV (encL n r) = [.int .u8 (r : Int), .int .u8 (n.size : Int)] ++ Lib.strCells n) := Lib.hid (by
      unfold byteV encL Lib.strCells
      rw [List.map_cons, List.map_cons, u8_nat r hr, u8_nat n.size (by omega)]
      rfl)
    have hc8 := conv8 n.size (by omega)
    clear hb hb0
    unfold capV at H1 ⊢
    unfold capC at HB0 HK0
    obtain ⟨i0, z0, hi, hz, hz1, hz2, hz3⟩ := infoParts Tryd.szB
    have hmk : ∀ W : World, ∃ M : Array Value, (Instr.makeSlice 47 (.int .i64 0) (.int .i64 (2 + (n.size : Int)))).run Tryd.prog W = .ok (.slice (some ⟨W.heap.size, 0, none⟩) 0 (2 + n.size)) (W.alloc (.cells M 5)) ∧ (W.alloc (.cells M 5)).ownsRow W.heap.size 5 1 (.slice (some ⟨W.heap.size, 0, none⟩) 0 (2 + n.size)) 0 [] := fun W => by
      have e := run_makeSlice (P := Tryd.prog) W 47 5 i0 z0 Tryd.underlying47 hi hz .i64 .i64 0 (2 + (n.size : Int)) (by omega) (by omega) (by rw [hz1]; omega) (by rw [hz2]; omega) (by omega)
      obtain ⟨w', e', ho, -⟩ := run_make_own (P := Tryd.prog) W W.heap.size 47 5 i0 z0 1 Tryd.underlying47 hi hz hz1 .i64 .i64 (2 + n.size) (by rw [hz2]; omega) (by simp only [maxLen]; omega) (Nat.le_refl _)
      rw [show ((2 + n.size : Nat) : Int) = 2 + (n.size : Int) by omega, e] at e'
      rw [show (2 + (n.size : Int)).toNat = 2 + n.size by omega] at e e'
      injection e' with e1 e2
      subst e2
      exact ⟨_, e, ho⟩
    clear hi hz hz1 hz2 hz3
    have HMK := Lib.hid hmk
    clear hmk
    go_enter Tryd.func36, Tryd.ntmps36
    go_wp2_with fail
    refine (H1.out _).mono ?_
    rintro e w1 ⟨rfl, hk1⟩
    have HK1 := Lib.hid (HK0.out.trans hk1)
    have q0 := HB0.out.kept hk1 (fun e => e)
    obtain ⟨a0, a1⟩ := cap_cells q0
    have hs1 := HK1.out.size
    have hlt := q0.lt
    have Q0 := Lib.hid q0
    clear hk1 q0 HB0 HK0
    obtain ⟨M, hm, hown⟩ := HMK.out w1
    have q1 := Q0.out.alloc (.cells M 5)
    obtain ⟨b0, b1⟩ := cap_cells q1
    have HO := Lib.hid hown
    clear hown q1
    obtain ⟨i1, k1, k2, k3, k4⟩ := infoB
    have KI := Lib.hid (And.intro k1 (And.intro k2 (And.intro k3 k4)))
    clear k1 k2 k3 k4
    go_wp2_with (refine stopAt 21 rfl ?_)
    refine Held.mk ?_
    refine wpList_append_mine rfl (.tmp 13) (.tmp 20) 47 rfl 5 1 1 Tryd.underlying47 Tryd.szB (by decide) w1.heap.size (.slice (some ⟨w1.heap.size, 0, none⟩) 0 (2 + n.size)) 0 [] rfl (own_kept (G := NoBlk) HO.out ((Kept.refl _ _).alloc _) (fun _ _ e => e)) (some ⟨w1.heap.size + 1, 0, none⟩) 2 2 [.int .u8 (r : Int), .int .u8 (n.size : Int)] rfl (Row.new (Blk.new_at _ _ _ (by simp)) rfl (by simp [maxLen])) rfl (by simp only [maxLen]; omega) (by omega) (by simp; omega) ?_
    intro A' cap' w3 hown3 hK3
    have q3 := ((Q0.out.alloc (.cells M 5)).alloc (.cells #[.int .u8 (r : Int), .int .u8 (n.size : Int)] 5)).kept hK3 (by show ¬ (w1.heap.size ≤ w.heap.size); omega)
    obtain ⟨c0, c1⟩ := cap_cells q3
    have lt3 := q3.lt
    have HO3 := Lib.hid hown3
    have HK3 := Lib.hid (Kept.fresh HK1.out (Kept.trans (((Kept.refl (fun b => w1.heap.size ≤ b) _).alloc (.cells M 5)).alloc _) hK3) (fun b e => by have := HK1.out.size; omega))
    have hs3 : w1.heap.size ≤ w3.heap.size := (Kept.trans (((Kept.refl (fun b => w1.heap.size ≤ b) _).alloc (.cells M 5)).alloc _) hK3).size
    clear hown3 hK3 q3 a0 a1 b0 b1 hm HO Q0
    go_wp2_with (refine stopAt 25 rfl ?_)
    refine Held.mk ?_
    refine Lib.wpList_append_own_string _ rfl (.tmp 22) (.tmp 24) 47 9 rfl w1.heap.size 5 i1 Tryd.underlying47 Tryd.underlying9 KI.out.1 KI.out.2.1 KI.out.2.2.1 KI.out.2.2.2 (.slice A' 2 cap') 2 _ rfl HO3.out n rfl (by simp only [maxLen]; omega) (by omega) hs3 ?_
    intro v4 w4 hown4 hg4 _
    have HK4 := Lib.hid (HK3.out.grown hg4 (fun k e => .inr (by have := HK1.out.size; have := (HO3.out.lt k e).1; omega)))
    have HO4 := Lib.hid hown4
    clear hown4 hg4
    go_wp2
    go_ret2
    have HX : Hid (CellsB w4 v4 (encL n r)) := Lib.hid (CellsB.of_row (Row.of_own (base := w1.heap.size) (by
      have h := HO4.out
      rw [HE.out, encL_length, Nat.add_comm]
      exact h)))
    exact ⟨HK4.out, .inl ⟨trivial, _, rfl, HX.out⟩⟩
end Go.Proofs.YtlaplonmbnncaaaDoor
