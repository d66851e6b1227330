/- The program's words: what 'live' comes to. -/
import Derived.Test.YtkdojdcfakjjfaaDoorBase
import Derived.Test.YtkdojdcfakjjfaaDoorPlan
import Derived.Test.YtkdojdcfakjjfaaDoorShelf
import Derived.Laws.RangeAny
import Derived.Laws.IdiomStrings
import Derived.Laws.BitsAllLaws
namespace Go.Proofs.YtkdojdcfakjjfaaDoor
open Go.RowKit
set_option maxRecDepth 100000

theorem value_49 (w : World) : Calls Tryd.prog 51 #[.int .i32 49, .int .i64 10] w fun e w' => e = .returned (.tuple #[.int .i64 1, .bool true]) ∧ w = w' := by
  go_enter Tryd.func51, Tryd.ntmps51
  go_wp2
  go_ret2
  exact ⟨rfl, rfl⟩

theorem number_1 (w : World) : Calls Tryd.prog 43 #[.string ⟨#[49]⟩, .int .i64 10, .int .i64 5] w fun e w' => e = .returned (.tuple #[.int .i64 1, .bool true]) ∧ Kept NoBlk w w' := by
  have hn0 : ∀ ty, (Instr.next (.pointer (some ⟨w.heap.size, 0, none⟩)) true ty).run Tryd.prog (w.iter ⟨#[49]⟩ 0) = .ok (.tuple #[.bool true, .int .i64 0, .int .i32 49]) (w.iter ⟨#[49]⟩ 1) := fun ty => run_next_ascii w ⟨#[49]⟩ 0 ty (by decide) (by decide)
  have hn1 : ∀ ty, (Instr.next (.pointer (some ⟨w.heap.size, 0, none⟩)) true ty).run Tryd.prog (w.iter ⟨#[49]⟩ 1) = .ok (.tuple #[.bool false]) (w.iter ⟨#[49]⟩ 1) := fun ty => run_next_end w ⟨#[49]⟩ 1 ty (by decide)
  go_enter Tryd.func43, Tryd.ntmps43
  go_wp2
  refine wp_loop_rounds 2 ?_
  rw [rounds_succ]
  go_wp2_with fail
  refine (value_49 _).mono ?_
  rintro e w1 ⟨rfl, rfl⟩
  go_wp2
  rw [rounds_succ]
  go_wp2
  go_ret2
  exact ⟨rfl, (Kept.refl NoBlk w).alloc _⟩

theorem from_neg (w : World) : Calls Tryd.prog 10 #[.int .i64 (-1)] w fun e w' => e = .returned (.tuple #[.int .u16 65535, .bool true]) ∧ w = w' := by
  go_enter Tryd.func10, Tryd.ntmps10
  go_wp2
  go_ret2
  exact ⟨rfl, rfl⟩
theorem decimal_1 (w : World) : Calls Tryd.prog 45 #[.string ⟨#[45, 49]⟩] w fun e w' => e = .returned (.tuple #[.int .u16 65535, .bool true]) ∧ Kept NoBlk w w' := by
  go_enter Tryd.func45, Tryd.ntmps45
  go_wp2_with fail
  refine (number_1 _).mono ?_
  rintro e w1 ⟨rfl, hK⟩
  go_wp2_with fail
  refine (from_neg _).mono ?_
  rintro e w2 ⟨rfl, rfl⟩
  go_wp2
  go_ret2
  exact ⟨rfl, hK⟩
theorem parse_1 (w : World) : Calls Tryd.prog 12 #[.string ⟨#[45, 49]⟩] w fun e w' => e = .returned (.tuple #[.int .u16 65535, .int .i64 0]) ∧ Kept NoBlk w w' := by
  go_enter Tryd.func12, Tryd.ntmps12
  go_wp2_with fail
  refine (decimal_1 _).mono ?_
  rintro e w1 ⟨rfl, hK⟩
  go_wp2
  go_ret2
  exact ⟨rfl, hK⟩

/-- The library's two tables, as its text lays them. -/
def Tabs (w : World) : Prop := Lib.Utf8Tabs (Tryd.laysValid_ren.g 3) (Tryd.laysValid_ren.g 4) w

theorem Tabs.kept {w w' : World} (h : Tabs w) (hk : Kept NoBlk w w') : Tabs w' := by
  have key : ∀ (p : Addr) (v : Value), w.cell? p = some v → w'.cell? p = some v := fun p v hv => by
    obtain ⟨b, o, s⟩ := p
    rw [hk.cell (World.block_lt_of_cell? w _ hv) (fun e => e)]
    exact hv
  exact ⟨fun c hc => key _ _ (h.1 c hc), fun i hi => ⟨key _ _ (h.2 i hi).1, key _ _ (h.2 i hi).2⟩⟩

theorem quoted_1 (w : World) (hT : Tabs w) : Calls Tryd.prog 44 #[.string ⟨#[39, 195, 164, 39]⟩] w fun e w' => e = .returned (.tuple #[.int .u16 228, .bool true]) ∧ Kept NoBlk w w' := by
  have cV : Calls Tryd.prog 52 #[.string ⟨#[195, 164]⟩] w _ := Any.utf8_ValidString Tryd.laysValid ⟨#[195, 164]⟩ w (by decide) hT
  have hv : Lib.validD (⟨#[195, 164]⟩ : ByteArray).data.toList = true := by decide
  rw [hv] at cV
  have cR := fun w => Tryd.utf8_RuneCountInString ⟨#[195, 164]⟩ w (by decide)
  have hr : (Lib.runeCount ⟨#[195, 164]⟩ : Int) = 1 := by decide
  go_enter Tryd.func44, Tryd.ntmps44
  go_wp2_with fail
  refine cV.mono ?_
  rintro e w1 ⟨rfl, hb⟩
  go_wp2_with fail
  refine (cR _).mono ?_
  rintro e w2 ⟨rfl, pos, rfl⟩
  rw [hr]
  have hE : (⟨#[39, 195, 164, 39]⟩ : ByteArray).extract 1 3 = ⟨#[195, 164]⟩ := by decide
  rw [hE]
  have hn0 : ∀ (w : World) (ty : TypeId), (Instr.next (.pointer (some ⟨w.heap.size, 0, none⟩)) true ty).run Tryd.prog (w.iter ⟨#[195, 164]⟩ 0) = .ok (.tuple #[.bool true, .int .i64 0, .int .i32 228]) (w.iter ⟨#[195, 164]⟩ 2) := fun w ty => run_next_any w ⟨#[195, 164]⟩ 0 ty (by decide)
  have hn := hn0 (w1.iter ⟨#[195, 164]⟩ pos)
  go_wp2
  refine wp_loop_rounds 1 ?_
  rw [rounds_succ]
  go_wp2
  go_ret2
  exact ⟨rfl, ((Kept.of_below hb).alloc _).alloc _⟩
theorem parse_2 (w : World) (hT : Tabs w) : Calls Tryd.prog 12 #[.string ⟨#[39, 195, 164, 39]⟩] w fun e w' => e = .returned (.tuple #[.int .u16 228, .int .i64 0]) ∧ Kept NoBlk w w' := by
  go_enter Tryd.func12, Tryd.ntmps12
  go_wp2_with fail
  refine (quoted_1 _ hT).mono ?_
  rintro e w1 ⟨rfl, hK⟩
  go_wp2
  go_ret2
  exact ⟨rfl, hK⟩
theorem add_any (w : World) (a b : Int) (ha : 0 ≤ a ∧ a ≤ 65535) (hb : 0 ≤ b ∧ b ≤ 65535) : Calls Tryd.prog 23 #[.int .u16 a, .int .u16 b] w fun e w' => e = .returned (.tuple #[.int .u16 ((a + b) % 65536), .bool (decide ((a + b) % 65536 < a))]) ∧ w = w' := by
  obtain ⟨h0, h1⟩ := ha
  obtain ⟨h2, h3⟩ := hb
  go_enter Tryd.func23, Tryd.ntmps23
  go_wp2
  go_ret2
  exact ⟨by simp [IntKind.wrap_u16], rfl⟩
/-- A digit in hex, as a byte. -/
def nib (n : Int) : Int := if n < 10 then 48 + n else 87 + n
theorem nibble_any (w : World) (n : Int) (h0 : 0 ≤ n) (h1 : n ≤ 15) : Calls Tryd.prog 46 #[.int .u16 n] w fun e w' => e = .returned (.int .u8 (nib n)) ∧ w = w' := by
  unfold nib
  by_cases h : n < 10
  · rw [if_pos h]
    go_enter Tryd.func46, Tryd.ntmps46
    go_wp2
    go_ret
    exact ⟨rfl, rfl⟩
  · rw [if_neg h]
    go_enter Tryd.func46, Tryd.ntmps46
    go_wp2
    go_ret
    exact ⟨rfl, rfl⟩
theorem u16_in (n : Int) (h0 : 0 ≤ n) (h1 : n < 2 ^ 16) : IntKind.u16.wrap n = n := by
  rw [IntKind.wrap_u16]
  omega
theorem and15 (x : Int) (h0 : 0 ≤ x) (h1 : x ≤ 65535) : bits .and .u16 x 15 = x % 16 := by
  have h := bits_mask .u16 16 (by decide) u16_in 4 (by decide) x (by omega) (by omega)
  have e : ((2 : Int) ^ 4 - 1) = 15 := by decide
  have e2 : ((2 : Int) ^ 4) = 16 := by decide
  rw [e, e2] at h
  exact h
theorem conv4 (w : World) (b : Nat) (c0 c1 c2 c3 : Int) (h0 : w.cell? ⟨b, 0, none⟩ = some (.int .u8 c0)) (h1 : w.cell? ⟨b, 1, none⟩ = some (.int .u8 c1)) (h2 : w.cell? ⟨b, 2, none⟩ = some (.int .u8 c2)) (h3 : w.cell? ⟨b, 3, none⟩ = some (.int .u8 c3)) :
    (convert 53 9 (.slice (some ⟨b, 0, none⟩) 4 4)).run Tryd.prog w = .ok (.string ⟨#[UInt8.ofNat c0.toNat, UInt8.ofNat c1.toNat, UInt8.ofNat c2.toNat, UInt8.ofNat c3.toNat]⟩) w := by
  rw [run_convert_bytes_string w 53 9 5 _ 4 4 Tryd.underlying53 Tryd.underlying5 Tryd.underlying9]
  have hl := run_loadCells_list (P := Tryd.prog) w ⟨b, 0, none⟩ [.int .u8 c0, .int .u8 c1, .int .u8 c2, .int .u8 c3] (fun j u hj => by
    match j, hj with
    | 0, hj => simp at hj; subst hj; exact h0
    | 1, hj => simp at hj; subst hj; exact h1
    | 2, hj => simp at hj; subst hj; exact h2
    | 3, hj => simp at hj; subst hj; exact h3)
  exact run_bytesToString w ⟨b, 0, none⟩ 4 4 [c0, c1, c2, c3] hl

def hexOf (a : Int) : ByteArray := ⟨#[UInt8.ofNat (nib (a / 4096 % 16)).toNat, UInt8.ofNat (nib (a / 256 % 16)).toNat, UInt8.ofNat (nib (a / 16 % 16)).toNat, UInt8.ofNat (nib (a % 16)).toNat]⟩
set_option maxHeartbeats 1000000 in
theorem hex_any (w : World) (a : Int) (ha : 0 ≤ a) (hb : a ≤ 65535) : Calls Tryd.prog 13 #[.int .u16 a] w fun e w' => e = .returned (.string (hexOf a)) ∧ Kept NoBlk w w' := by
  have m1 := and15 (a / 4096) (by omega) (by omega)
  have m2 := and15 (a / 256) (by omega) (by omega)
  have m3 := and15 (a / 16) (by omega) (by omega)
  have m4 := and15 a (by omega) (by omega)
  have n1 := fun w => nibble_any w (a / 4096 % 16) (by omega) (by omega)
  have n2 := fun w => nibble_any w (a / 256 % 16) (by omega) (by omega)
  have n3 := fun w => nibble_any w (a / 16 % 16) (by omega) (by omega)
  have n4 := fun w => nibble_any w (a % 16) (by omega) (by omega)
  have N1 := Lib.hid n1
  have N2 := Lib.hid n2
  have N3 := Lib.hid n3
  have N4 := Lib.hid n4
  clear n1 n2 n3 n4
  unfold hexOf
  generalize nib (a / 4096 % 16) = r1 at *
  generalize nib (a / 256 % 16) = r2 at *
  generalize nib (a / 16 % 16) = r3 at *
  generalize nib (a % 16) = r4 at *
  go_enter Tryd.func13, Tryd.ntmps13
  go_wp2
  refine wp_loop_rounds 5 ?_
  rw [rounds_succ]
  go_wp2_with fail
  refine (N1.out _).mono ?_
  rintro e w1 ⟨rfl, rfl⟩
  go_wp2
  rw [rounds_succ]
  go_wp2_with fail
  refine (N2.out _).mono ?_
  rintro e w1 ⟨rfl, rfl⟩
  go_wp2
  rw [rounds_succ]
  go_wp2_with fail
  refine (N3.out _).mono ?_
  rintro e w1 ⟨rfl, rfl⟩
  go_wp2
  rw [rounds_succ]
  go_wp2_with fail
  refine (N4.out _).mono ?_
  rintro e w1 ⟨rfl, rfl⟩
  have hc := (Blk.new w 51 #[.int .u8 r1, .int .u8 r2, .int .u8 r3, .int .u8 r4]).cell
  have hcv := conv4 (w.alloc (.cells #[.int .u8 r1, .int .u8 r2, .int .u8 r3, .int .u8 r4] 51)) w.heap.size r1 r2 r3 r4 (hc 0) (hc 1) (hc 2) (hc 3)
  go_wp2
  rw [rounds_succ]
  go_wp2
  go_ret
  exact ⟨rfl, (Kept.refl NoBlk w).alloc _⟩

set_option maxHeartbeats 1000000 in
theorem live_any (w : World) (hT : Tabs w) : Calls Tryd.prog 15 #[] w fun e w' => e = .returned (.bool true) ∧ Kept NoBlk w w' := by
  have hx : hexOf 6699 = ⟨#[49, 97, 50, 98]⟩ := by decide
  go_enter Tryd.func15, Tryd.ntmps15
  go_wp2_with fail
  refine (add_any _ 65535 2 (by omega) (by omega)).mono ?_
  rintro e w1 ⟨rfl, rfl⟩
  go_wp2_with fail
  refine (parse_1 _).mono ?_
  rintro e w1 ⟨rfl, hK1⟩
  go_wp2_with fail
  refine (parse_2 _ (hT.kept hK1)).mono ?_
  rintro e w2 ⟨rfl, hK2⟩
  go_wp2_with fail
  refine (hex_any _ 6699 (by omega) (by omega)).mono ?_
  rw [hx]
  rintro e w3 ⟨rfl, hK3⟩
  go_wp2
  go_ret
  exact ⟨rfl, (hK1.trans hK2).trans hK3⟩
end Go.Proofs.YtkdojdcfakjjfaaDoor
