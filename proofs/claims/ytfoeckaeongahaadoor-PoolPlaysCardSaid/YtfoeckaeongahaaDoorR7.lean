/- The pool: are numbers, are events the same. -/
import Derived.Test.YtfoeckaeongahaaDoorM1
import Derived.Lib.AppendStr
namespace Go.Proofs.YtfoeckaeongahaaDoor
open Go.RowKit Go.Shelf
set_option maxRecDepth 100000

def mkN (l : List Nat) : ByteArray := mk (l.map UInt8.ofNat)
theorem conv_nums {w : World} {base : Nat} {v : Value} {l : List Nat} (h : w.ownsRow base 5 1 v l.length (numV l)) (hs : ∀ x ∈ l, x < 256) : (convert 37 9 v).run Tryd.prog w = .ok (.string (mkN l)) w := by
  obtain ⟨A, cap, rfl, hc⟩ := nums_form h
  cases A with
  | some a =>
    have hl : l.length = (l.map UInt8.ofNat).length := by simp
    rw [hl]
    refine run_convert_bytes_back (P := Tryd.prog) w 37 9 5 a cap (l.map UInt8.ofNat) Tryd.underlying37 Tryd.underlying5 Tryd.underlying9 fun j hj => ?_
    have hj' : j < l.length := by simpa using hj
    obtain ⟨g, e, -, -, hcc⟩ := hc (by omega)
    cases e
    have hadd : (⟨g, 0, none⟩ : Addr).add j = ⟨g, j, none⟩ := by unfold Addr.add; split <;> simp_all
    rw [hadd, hcc j hj']
    have hx := hs _ (List.getElem_mem hj')
    simp [UInt8.toNat_ofNat_of_lt' (show l[j] < UInt8.size from hx)]
  | none =>
    have h0 : l = [] := by
      rcases Nat.eq_zero_or_pos l.length with h | h
      · exact List.eq_nil_of_length_eq_zero h
      · obtain ⟨g, e, -⟩ := hc h
        cases e
    subst h0
    have := run_convert_bytes_string (P := Tryd.prog) w 37 9 5 none 0 cap Tryd.underlying37 Tryd.underlying5 Tryd.underlying9
    simp only [List.length_nil]
    rw [this]
    simp [Conv.bytesToString]
    rfl
theorem same8_any (w : World) (b1 b2 : Nat) (u v : Value) (l : List Nat) (hu : w.ownsRow b1 5 1 u l.length (numV l)) (hv : w.ownsRow b2 5 1 v l.length (numV l)) (hs : ∀ x ∈ l, x < 256) : Calls Tryd.prog 43 #[u, v] w fun x w' => x = .returned (.bool true) ∧ w = w' := by
  have h1 := conv_nums hu hs
  have h2 := conv_nums hv hs
  clear hu hv
  generalize mkN l = s at *
  go_enter Tryd.func43, Tryd.ntmps43
  go_wp2
  go_ret
  exact ⟨by simp, rfl⟩
theorem evV_at (l : List (Int × Int × Int)) : ∀ (i : Nat) (hi : i < l.length), (evV l)[i * 3]? = some (.int .u8 l[i].1) ∧ (evV l)[i * 3 + 1]? = some (.int .u8 l[i].2.1) ∧ (evV l)[i * 3 + 2]? = some (.int .u8 l[i].2.2) := by
  induction l with
  | nil => intro i hi; cases hi
  | cons x t ih =>
    intro i hi
    have e : evV (x :: t) = [.int .u8 x.1, .int .u8 x.2.1, .int .u8 x.2.2] ++ evV t := by unfold evV; rw [List.flatMap_cons]
    cases i with
    | zero => rw [e]; exact ⟨rfl, rfl, rfl⟩
    | succ i =>
      obtain ⟨h1, h2, h3⟩ := ih i (by simpa using hi)
      rw [e]
      refine ⟨?_, ?_, ?_⟩
      · rw [List.getElem?_append_right (by simp; omega)]
        rw [show (i + 1) * 3 - [Value.int .u8 x.1, .int .u8 x.2.1, .int .u8 x.2.2].length = i * 3 by simp; omega]
        exact h1
      · rw [List.getElem?_append_right (by simp; omega)]
        rw [show (i + 1) * 3 + 1 - [Value.int .u8 x.1, .int .u8 x.2.1, .int .u8 x.2.2].length = i * 3 + 1 by simp; omega]
        exact h2
      · rw [List.getElem?_append_right (by simp; omega)]
        rw [show (i + 1) * 3 + 2 - [Value.int .u8 x.1, .int .u8 x.2.1, .int .u8 x.2.2].length = i * 3 + 2 by simp; omega]
        exact h3
/-- A slice of its own that holds events, cell by cell. -/
theorem evs_form {w : World} {base : Nat} {v : Value} {l : List (Int × Int × Int)} (h : w.ownsRow base 34 3 v l.length (evV l)) : ∃ A cap, v = .slice A l.length cap ∧ (0 < l.length → ∃ g, A = some ⟨g, 0, none⟩ ∧ base ≤ g ∧ g < w.heap.size ∧ ∀ i (hi : i < l.length), w.cell? ⟨g, i * 3, none⟩ = some (.int .u8 l[i].1) ∧ w.cell? ⟨g, i * 3 + 1, none⟩ = some (.int .u8 l[i].2.1) ∧ w.cell? ⟨g, i * 3 + 2, none⟩ = some (.int .u8 l[i].2.2)) := by
  obtain ⟨hl, ⟨rfl, h0⟩ | ⟨g, cap, cur, rfl, hg, hb, hn, hm, hs, ht⟩⟩ := h
  · exact ⟨none, 0, by rw [h0], fun h => by omega⟩
  · refine ⟨_, cap, rfl, fun h0 => ⟨g, rfl, hg, Blk.lt (show Blk w g 34 cur from hb), fun i hi => ?_⟩⟩
    obtain ⟨a, b, c⟩ := evV_at l i hi
    have key : ∀ j, j < l.length * 3 → w.cell? ⟨g, j, none⟩ = (evV l)[j]? := fun j hj => by
      rw [Blk.cell (show Blk w g 34 cur from hb)]
      have e : (cur.toList.take (l.length * 3))[j]? = (evV l)[j]? := by rw [ht]
      rw [List.getElem?_take, if_pos hj, Array.getElem?_toList] at e
      exact e
    rw [key _ (by omega), key _ (by omega), key _ (by omega)]
    exact ⟨a, b, c⟩
theorem idx_ev (w : World) (g N cap i : Nat) (h : i < N) : (Instr.indexAt 30 (.slice (some ⟨g, 0, none⟩) N cap) (.int .i64 (i : Int))).run Tryd.prog w = .ok (.pointer (some ⟨g, i * 3, none⟩)) w := by
  have h1 : (0 : Int) ≤ (i : Int) ∧ (i : Int) < (N : Int) := by omega
  rw [run_indexAt_slice (P := Tryd.prog) w 30 _ N cap .i64 (i : Int) (by kernel_rfl), if_pos h1, show Tryd.prog.elem 30 = 34 by kernel_rfl]
  simp [go_sem, Addr.add]
  omega
theorem run_neq_ev (w : World) (a b c : Int) : (binOp .neq 34 (.agg #[.int .u8 a, .int .u8 b, .int .u8 c]) (.agg #[.int .u8 a, .int .u8 b, .int .u8 c])).run Tryd.prog w = .ok (.bool false) w := by
  simp [go_sem]
theorem run_neqGuard_ev (w : World) (o1 o2 : Operand) (a b c : Int) : (eqGuard .neq 34 o1 o2 (.agg #[.int .u8 a, .int .u8 b, .int .u8 c]) (.agg #[.int .u8 a, .int .u8 b, .int .u8 c])).run Tryd.prog w = .ok () w :=
  run_eqGuard_agg w .neq 34 o1 o2 _ _ (by kernel_rfl)
set_option maxHeartbeats 2000000 in
theorem sameEv_any (w : World) (b1 b2 : Nat) (u v : Value) (l : List (Int × Int × Int)) (hu : w.ownsRow b1 34 3 u l.length (evV l)) (hv : w.ownsRow b2 34 3 v l.length (evV l)) (hl : l.length ≤ 1000000) : Calls Tryd.prog 48 #[u, v] w fun x w' => x = .returned (.bool true) ∧ Kept NoBlk w w' := by
  obtain ⟨A, c1, rfl, ha⟩ := evs_form hu
  obtain ⟨B, c2, rfl, hb⟩ := evs_form hv
  have hE1 := fun w => run_neq_ev w
  have hE2 := fun w => run_neqGuard_ev w
  clear hu hv
  go_enter Tryd.func48, Tryd.ntmps48
  go_wp2
  go_loopw [5] (fun iv wr => ∃ i : Nat, i ≤ l.length ∧ iv = .int .i64 i ∧ Hid (Kept NoBlk w wr)) (fun iv _ => l.length - (intOf iv).toNat)
  case atStart => exact ⟨0, by omega, rfl, Lib.hid (Kept.refl _ _)⟩
  case round =>
    obtain ⟨i, hi, rfl, HK⟩ := hrel
    by_cases hlt : i < l.length
    · have hlt' : (i : Int) < (l.length : Int) := by omega
      obtain ⟨g, rfl, -, g2, hc⟩ := ha (by omega)
      obtain ⟨k, rfl, -, k2, hd⟩ := hb (by omega)
      obtain ⟨x0, x1, x2⟩ := hc i hlt
      obtain ⟨y0, y1, y2⟩ := hd i hlt
      have kg : ∀ j, wr.cell? ⟨g, j, none⟩ = w.cell? ⟨g, j, none⟩ := fun j => HK.out.cell (p := ⟨g, j, none⟩) g2 (fun e => e)
      have kk : ∀ j, wr.cell? ⟨k, j, none⟩ = w.cell? ⟨k, j, none⟩ := fun j => HK.out.cell (p := ⟨k, j, none⟩) k2 (fun e => e)
      rw [← kg] at x0 x1 x2
      rw [← kk] at y0 y1 y2
      have hx := fun w => idx_ev w g l.length c1 i hlt
      have hy := fun w => idx_ev w k l.length c2 i hlt
      have HKd := Lib.hid HK.out.drew
      clear kg kk hc hd ha hb
      go_wp2
      refine wp_region_plan (by kernel_rfl) (.q 0 <| .q 1 <| .q 2 <| .q 3 <| .q 4 <| .q 5 <| .q 6 <| .q 7 <| .q 8 <| .nil) (by kernel_rfl) (by kernel_rfl) ?_
      repeat (refine plan_q rfl (fun K hK => ?_); go_simp; refine hK _ ?_; clear hK K)
      refine plan_nil ?_
      go_wp2
      go_roundw
      case rel => exact ⟨i + 1, by omega, by go_num, HKd⟩
      case measure => simp [intOf]; omega
    · have hlt' : ¬ (i : Int) < (l.length : Int) := by omega
      clear ha hb
      go_wp2
      go_ret
      exact ⟨rfl, HK.out⟩
end Go.Proofs.YtfoeckaeongahaaDoor
