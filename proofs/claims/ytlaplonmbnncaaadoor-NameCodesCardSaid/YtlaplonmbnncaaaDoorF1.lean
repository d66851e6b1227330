/- The reference's Encode. -/
import Derived.Test.YtlaplonmbnncaaaDoorD11
import Derived.Test.YtlaplonmbnncaaaDoorE1
namespace Go.Proofs.YtlaplonmbnncaaaDoor
open Go.RowKit Go.Shelf
set_option maxRecDepth 100000

theorem own_lit {w : World} {t : TypeId} {m k b base : Nat} {cs : Array Value} (hB : Blk w b t cs) (hb : base ≤ b) (hs : cs.size = k * m) (hk : k ≤ maxLen) : w.ownsRow base t m (.slice (some ⟨b, 0, none⟩) k k) k cs.toList :=
  ⟨by simpa using hs, .inr ⟨b, k, cs, rfl, hb, hB, Nat.le_refl _, hk, hs, by rw [← hs]; exact List.take_of_length_le (by simp)⟩⟩
set_option maxHeartbeats 4000000 in
theorem rencode_any (w : World) (n : ByteArray) (r : Nat) (hn : n.size ≤ 1000) (hr : r < 256) (hT : Tabs w) : Calls Tryd.prog 37 #[capV n (r : Int)] w fun e w' => Kept NoBlk w w' ∧
    ((rightB n (r : Int) = true ∧ ∃ v, e = .returned (.tuple #[v, .int .i64 0]) ∧ CellsB w' v (encL n r)) ∨
     (rightB n (r : Int) = false ∧ e = .returned (.tuple #[.slice none 0 0, .int .i64 3]))) := by
  have H1 := Lib.hid (fun w hT => rright_any w n r hn hT)
  have HT := Lib.hid (hT.kept ((Kept.refl NoBlk w).alloc (.cells (capC n r) 34)))
  clear hT
  cases hb : rightB n r with
  | false =>
    rw [hb] at H1
    clear hb
    unfold capV at H1 ⊢
    unfold capC at HT
    go_enter Tryd.func37, Tryd.ntmps37
    go_wp2_with fail
    refine (H1.out _ HT.out).mono ?_
    rintro e w1 ⟨rfl, hk1⟩
    go_wp2
    go_ret2
    exact ⟨Kept.trans ((Kept.refl _ _).alloc _) hk1, .inr ⟨trivial, rfl⟩⟩
  | true =>
    obtain ⟨h79, h31⟩ := rightB_parts hb
    rw [hb] at H1
    have hb0 : Blk (w.alloc (.cells (capC n r) 34)) w.heap.size 34 (capC n r) := Blk.new _ _ _
    have HB0 := Lib.hid hb0
    have HK0 : Hid (Kept NoBlk w (w.alloc (.cells (capC n r) 34))) := Lib.hid ((Kept.refl _ _).alloc _)
    have HE : Hid (byteV (encL n r) = [.int .u8 (r : Int), .int .u8 (n.size : Int)] ++ Lib.strCells n) := Lib.hid (by
      unfold byteV encL Lib.strCells
      rw [List.map_cons, List.map_cons, u8_nat r hr, u8_nat n.size (by omega)]
      rfl)
    have hc8 := conv8 n.size (by omega)
    clear hb hb0
    unfold capV at H1 ⊢
    unfold capC at HB0 HK0 HT
    go_enter Tryd.func37, Tryd.ntmps37
    go_wp2_with fail
    refine (H1.out _ HT.out).mono ?_
    rintro e w1 ⟨rfl, hk1⟩
    have HK1 := Lib.hid (HK0.out.trans hk1)
    have q0 := HB0.out.kept hk1 (fun e => e)
    obtain ⟨a0, a1⟩ := cap_cells q0
    have hs1 := HK1.out.size
    have hlt := q0.lt
    have Q0 := Lib.hid q0
    clear hk1 q0 HB0 HK0
    have hdom := own_lit (m := 1) (k := 2) (cs := #[.int .u8 (r : Int), .int .u8 (n.size : Int)]) (Blk.new w1 5 #[.int .u8 (r : Int), .int .u8 (n.size : Int)]) (Nat.le_refl _) rfl (by simp [maxLen])
    have HO3 := Lib.hid hdom
    have q3 := Q0.out.alloc (.cells #[.int .u8 (r : Int), .int .u8 (n.size : Int)] 5)
    obtain ⟨c0, c1⟩ := cap_cells q3
    have lt3 := q3.lt
    have HK3 := Lib.hid (HK1.out.alloc (.cells #[.int .u8 (r : Int), .int .u8 (n.size : Int)] 5))
    obtain ⟨i1, k1, k2, k3, k4⟩ := infoB
    have KI := Lib.hid (And.intro k1 (And.intro k2 (And.intro k3 k4)))
    clear k1 k2 k3 k4 q3 hdom Q0
    go_wp2_with (refine stopAt 16 rfl ?_)
    refine Held.mk ?_
    refine Lib.wpList_append_own_string _ rfl (.tmp 13) (.tmp 15) 47 9 rfl w1.heap.size 5 i1 Tryd.underlying47 Tryd.underlying9 KI.out.1 KI.out.2.1 KI.out.2.2.1 KI.out.2.2.2 (.slice (some ⟨w1.heap.size, 0, none⟩) 2 2) 2 _ rfl HO3.out n rfl (by simp only [maxLen]; omega) (by omega) (by simp) ?_
    intro v4 w4 hown4 hg4 _
    have HK4 := Lib.hid (HK3.out.grown hg4 (fun k e => .inr (by have := HK1.out.size; have := (HO3.out.lt k e).1; omega)))
    have HO4 := Lib.hid hown4
    clear hown4 hg4
    go_wp2
    go_ret2
    have HX : Hid (CellsB w4 v4 (encL n r)) := Lib.hid (CellsB.of_row (Row.of_own (base := w1.heap.size) (by
      have h := HO4.out
      rw [HE.out, encL_length, Nat.add_comm]
      exact h)))
    exact ⟨HK4.out, .inl ⟨trivial, _, rfl, HX.out⟩⟩
end Go.Proofs.YtlaplonmbnncaaaDoor
