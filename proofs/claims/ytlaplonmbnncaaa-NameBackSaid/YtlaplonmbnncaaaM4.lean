/- NameBack, walked. -/
import Derived.Test.YtlaplonmbnncaaaE3
import Derived.Test.YtlaplonmbnncaaaPlan
import Derived.Test.YtlaplonmbnncaaaM0
namespace Go.Proofs.Ytlaplonmbnncaaa
open Go.RowKit Go.Shelf
set_option maxRecDepth 100000

theorem run_neq_cap (w : World) (n : ByteArray) (r : Int) : (binOp .neq 23 (.agg #[.string n, .int .u8 r]) (.agg #[.string n, .int .u8 r])).run Try.prog w = .ok (.bool false) w := by
  simp [go_sem]
theorem run_neqGuard_cap (w : World) (o1 o2 : Operand) (n : ByteArray) (r : Int) : (eqGuard .neq 23 o1 o2 (.agg #[.string n, .int .u8 r]) (.agg #[.string n, .int .u8 r])).run Try.prog w = .ok () w :=
  run_eqGuard_agg w .neq 23 o1 o2 _ _ (by kernel_rfl)
/-- Capabilities in boxes. -/
def Boxes (W : World) (L : List (Nat × ByteArray × Int)) : Prop := ∀ x ∈ L, Blk W x.1 23 (capC x.2.1 x.2.2)
theorem Boxes.kept {W W' : World} {L : List (Nat × ByteArray × Int)} (h : Boxes W L) (hk : Kept NoBlk W W') : Boxes W' L := fun x hx => (h x hx).kept hk (fun e => e)
theorem Boxes.more {W : World} {L : List (Nat × ByteArray × Int)} (h : Boxes W L) (n : ByteArray) (r : Int) : Boxes (W.alloc (.cells (capC n r) 23)) ((W.heap.size, n, r) :: L) := fun x hx => by
  cases hx with
  | head => exact Blk.new W 23 (capC n r)
  | tail _ hx => exact (h x hx).alloc _
set_option maxHeartbeats 4000000 in
theorem back_000 (w : World) (n s m t n2 n3 : ByteArray) (r r2 r3 e2 e3 : Int) (lb : List UInt8) (vb : Value) (hB : CellsB w vb lb)
    (S1 : ∀ w : World, Calls Try.prog 7 #[.string n] w fun e w' => e = .returned (.string m) ∧ w = w') (S2 : ∀ w : World, Calls Try.prog 7 #[.string s] w fun e w' => e = .returned (.string t) ∧ w = w')
    (HL : ∀ w : World, Calls Try.prog 9 #[] w fun e w' => e = .returned (.bool true) ∧ Kept NoBlk w w')
    (HE : ∀ w : World, Calls Try.prog 17 #[.agg #[.string m, .int .u8 r]] w fun e w' => Kept NoBlk w w' ∧ e = .returned (.tuple #[.slice none 0 0, .int .i64 3])) (HX : ∀ (w : World), CellsB w vb lb → Calls Try.prog 18 #[vb] w fun e w' => e = .returned (.tuple #[.agg #[.string n2, .int .u8 r2], .int .i64 e2]) ∧ Kept NoBlk w w') (he2 : (e2 == 0) = false) (HZ : ∀ w : World, Calls Try.prog 20 #[.string t] w fun e w' => e = .returned (.tuple #[.agg #[.string n3, .int .u8 r3], .int .i64 e3]) ∧ Kept NoBlk w w') (he3 : (e3 != 0) = true) :
    Calls Try.prog 6 #[.agg #[.string n, .int .u8 r], vb, .string s] w fun e w' => e = .returned (.bool true) ∧ Kept NoBlk w w' := by
  have S1_ := Lib.hid S1
  have S2_ := Lib.hid S2
  have HL_ := Lib.hid HL
  have HE_ := Lib.hid HE
  have HX_ := Lib.hid HX
  have HZ_ := Lib.hid HZ
  have hB_ := Lib.hid hB
  clear S1 S2 HL hB HE HX HZ
  have hb0 : Blk (w.alloc (.cells (capC m r) 23)) w.heap.size 23 (capC m r) := Blk.new w 23 (capC m r)
  have hk0 : Kept NoBlk w (w.alloc (.cells (capC m r) 23)) := (Kept.refl _ _).alloc _
  have HC0 := Lib.hid (hB_.out.kept hk0)
  have HB0 : Hid (Boxes (w.alloc (.cells (capC m r) 23)) [(w.heap.size, m, r)]) := Lib.hid (fun x hx => by
    simp only [List.mem_cons, List.mem_nil_iff, or_false] at hx
    rcases hx with rfl
    exact hb0)
  have HK0 := Lib.hid hk0
  clear hb0 hk0 hB_
  unfold capC at HC0 HB0 HK0
  go_enter Try.func6, Try.ntmps6
  go_wp2_with fail
  refine (S1_.out _).mono ?_
  rintro e w1 ⟨rfl, rfl⟩
  go_wp2_with fail
  refine (S2_.out _).mono ?_
  rintro e w1 ⟨rfl, rfl⟩
  go_wp2_with fail
  refine (HE_.out _).mono ?_
  rintro e w1 ⟨hk, rfl⟩
  have HCX := HC0.out.kept hk
  have HKX := HK0.out.trans hk
  have HBX := HB0.out.kept hk
  have HC1 := Lib.hid HCX
  have HK1 := Lib.hid HKX
  have HB1 := Lib.hid HBX
  clear hk HCX HKX HBX HC0 HK0 HB0 
  go_wp2_with fail
  refine (HX_.out _ HC1.out).mono ?_
  rintro e w2 ⟨rfl, hk⟩
  have HCX := HC1.out.kept hk
  have HKX := HK1.out.trans hk
  have HBX := HB1.out.kept hk
  have HC2 := Lib.hid (HCX.kept ((Kept.refl NoBlk _).alloc (.cells (capC n2 r2) 23)))
  have HK2 := Lib.hid (HKX.alloc (.cells (capC n2 r2) 23))
  have HB2 := Lib.hid (HBX.more n2 r2)
  unfold capC at HC2 HK2 HB2
  clear hk HCX HKX HBX HC1 HK1 HB1 
  go_wp2_with fail
  refine (HZ_.out _).mono ?_
  rintro e w3 ⟨rfl, hk⟩
  have HCX := HC2.out.kept hk
  have HKX := HK2.out.trans hk
  have HBX := HB2.out.kept hk
  have HC3 := Lib.hid (HCX.kept ((Kept.refl NoBlk _).alloc (.cells (capC n3 r3) 23)))
  have HK3 := Lib.hid (HKX.alloc (.cells (capC n3 r3) 23))
  have HB3 := Lib.hid (HBX.more n3 r3)
  unfold capC at HC3 HK3 HB3
  clear hk HCX HKX HBX HC2 HK2 HB2 
  go_wp2_with fail
  refine (HL_.out _).mono ?_
  rintro e w4 ⟨rfl, hk⟩
  have HCX := HC3.out.kept hk
  have HKX := HK3.out.trans hk
  have HBX := HB3.out.kept hk
  have HC4 := Lib.hid HCX
  have HK4 := Lib.hid HKX
  have HB4 := Lib.hid HBX
  clear hk HCX HKX HBX HC3 HK3 HB3 
  go_wp2
  go_ret
  exact ⟨by simp, HK4.out⟩
set_option maxHeartbeats 4000000 in
theorem back_001 (w : World) (n s m t n2 n3 : ByteArray) (r r2 r3 e2 : Int) (lb : List UInt8) (vb : Value) (hB : CellsB w vb lb)
    (S1 : ∀ w : World, Calls Try.prog 7 #[.string n] w fun e w' => e = .returned (.string m) ∧ w = w') (S2 : ∀ w : World, Calls Try.prog 7 #[.string s] w fun e w' => e = .returned (.string t) ∧ w = w')
    (HL : ∀ w : World, Calls Try.prog 9 #[] w fun e w' => e = .returned (.bool true) ∧ Kept NoBlk w w')
    (HE : ∀ w : World, Calls Try.prog 17 #[.agg #[.string m, .int .u8 r]] w fun e w' => Kept NoBlk w w' ∧ e = .returned (.tuple #[.slice none 0 0, .int .i64 3])) (HX : ∀ (w : World), CellsB w vb lb → Calls Try.prog 18 #[vb] w fun e w' => e = .returned (.tuple #[.agg #[.string n2, .int .u8 r2], .int .i64 e2]) ∧ Kept NoBlk w w') (he2 : (e2 == 0) = false) (HZ : ∀ w : World, Calls Try.prog 20 #[.string t] w fun e w' => e = .returned (.tuple #[.agg #[.string n3, .int .u8 r3], .int .i64 0]) ∧ Kept NoBlk w w') (HW : ∀ w : World, Calls Try.prog 19 #[.agg #[.string n3, .int .u8 r3]] w fun e w' => e = .returned (.tuple #[.string t, .int .i64 0]) ∧ Kept NoBlk w w') :
    Calls Try.prog 6 #[.agg #[.string n, .int .u8 r], vb, .string s] w fun e w' => e = .returned (.bool true) ∧ Kept NoBlk w w' := by
  have S1_ := Lib.hid S1
  have S2_ := Lib.hid S2
  have HL_ := Lib.hid HL
  have HE_ := Lib.hid HE
  have HX_ := Lib.hid HX
  have HZ_ := Lib.hid HZ
  have HW_ := Lib.hid HW
  have hB_ := Lib.hid hB
  clear S1 S2 HL hB HE HX HZ HW
  have hb0 : Blk (w.alloc (.cells (capC m r) 23)) w.heap.size 23 (capC m r) := Blk.new w 23 (capC m r)
  have hk0 : Kept NoBlk w (w.alloc (.cells (capC m r) 23)) := (Kept.refl _ _).alloc _
  have HC0 := Lib.hid (hB_.out.kept hk0)
  have HB0 : Hid (Boxes (w.alloc (.cells (capC m r) 23)) [(w.heap.size, m, r)]) := Lib.hid (fun x hx => by
    simp only [List.mem_cons, List.mem_nil_iff, or_false] at hx
    rcases hx with rfl
    exact hb0)
  have HK0 := Lib.hid hk0
  clear hb0 hk0 hB_
  unfold capC at HC0 HB0 HK0
  go_enter Try.func6, Try.ntmps6
  go_wp2_with fail
  refine (S1_.out _).mono ?_
  rintro e w1 ⟨rfl, rfl⟩
  go_wp2_with fail
  refine (S2_.out _).mono ?_
  rintro e w1 ⟨rfl, rfl⟩
  go_wp2_with fail
  refine (HE_.out _).mono ?_
  rintro e w1 ⟨hk, rfl⟩
  have HCX := HC0.out.kept hk
  have HKX := HK0.out.trans hk
  have HBX := HB0.out.kept hk
  have HC1 := Lib.hid HCX
  have HK1 := Lib.hid HKX
  have HB1 := Lib.hid HBX
  clear hk HCX HKX HBX HC0 HK0 HB0 
  go_wp2_with fail
  refine (HX_.out _ HC1.out).mono ?_
  rintro e w2 ⟨rfl, hk⟩
  have HCX := HC1.out.kept hk
  have HKX := HK1.out.trans hk
  have HBX := HB1.out.kept hk
  have HC2 := Lib.hid (HCX.kept ((Kept.refl NoBlk _).alloc (.cells (capC n2 r2) 23)))
  have HK2 := Lib.hid (HKX.alloc (.cells (capC n2 r2) 23))
  have HB2 := Lib.hid (HBX.more n2 r2)
  unfold capC at HC2 HK2 HB2
  clear hk HCX HKX HBX HC1 HK1 HB1 
  go_wp2_with fail
  refine (HZ_.out _).mono ?_
  rintro e w3 ⟨rfl, hk⟩
  have HCX := HC2.out.kept hk
  have HKX := HK2.out.trans hk
  have HBX := HB2.out.kept hk
  have HC3 := Lib.hid (HCX.kept ((Kept.refl NoBlk _).alloc (.cells (capC n3 r3) 23)))
  have HK3 := Lib.hid (HKX.alloc (.cells (capC n3 r3) 23))
  have HB3 := Lib.hid (HBX.more n3 r3)
  unfold capC at HC3 HK3 HB3
  clear hk HCX HKX HBX HC2 HK2 HB2 
  go_wp2_with fail
  refine (HW_.out _).mono ?_
  rintro e w4 ⟨rfl, hk⟩
  have HCX := HC3.out.kept hk
  have HKX := HK3.out.trans hk
  have HBX := HB3.out.kept hk
  have HC4 := Lib.hid HCX
  have HK4 := Lib.hid HKX
  have HB4 := Lib.hid HBX
  clear hk HCX HKX HBX HC3 HK3 HB3 
  go_wp2_with fail
  refine (HL_.out _).mono ?_
  rintro e w5 ⟨rfl, hk⟩
  have HCX := HC4.out.kept hk
  have HKX := HK4.out.trans hk
  have HBX := HB4.out.kept hk
  have HC5 := Lib.hid HCX
  have HK5 := Lib.hid HKX
  have HB5 := Lib.hid HBX
  clear hk HCX HKX HBX HC4 HK4 HB4 
  go_wp2
  go_ret
  exact ⟨by simp, HK5.out⟩
set_option maxHeartbeats 4000000 in
theorem back_010 (w : World) (n s m t n2 n3 : ByteArray) (r r2 r3 e3 : Int) (lb : List UInt8) (vb : Value) (hB : CellsB w vb lb)
    (S1 : ∀ w : World, Calls Try.prog 7 #[.string n] w fun e w' => e = .returned (.string m) ∧ w = w') (S2 : ∀ w : World, Calls Try.prog 7 #[.string s] w fun e w' => e = .returned (.string t) ∧ w = w')
    (HL : ∀ w : World, Calls Try.prog 9 #[] w fun e w' => e = .returned (.bool true) ∧ Kept NoBlk w w')
    (HE : ∀ w : World, Calls Try.prog 17 #[.agg #[.string m, .int .u8 r]] w fun e w' => Kept NoBlk w w' ∧ e = .returned (.tuple #[.slice none 0 0, .int .i64 3])) (HX : ∀ (w : World), CellsB w vb lb → Calls Try.prog 18 #[vb] w fun e w' => e = .returned (.tuple #[.agg #[.string n2, .int .u8 r2], .int .i64 0]) ∧ Kept NoBlk w w') (HY : ∀ w : World, Calls Try.prog 17 #[.agg #[.string n2, .int .u8 r2]] w fun e w' => Kept NoBlk w w' ∧ ∃ v, e = .returned (.tuple #[v, .int .i64 0]) ∧ CellsB w' v lb) (HZ : ∀ w : World, Calls Try.prog 20 #[.string t] w fun e w' => e = .returned (.tuple #[.agg #[.string n3, .int .u8 r3], .int .i64 e3]) ∧ Kept NoBlk w w') (he3 : (e3 != 0) = true) :
    Calls Try.prog 6 #[.agg #[.string n, .int .u8 r], vb, .string s] w fun e w' => e = .returned (.bool true) ∧ Kept NoBlk w w' := by
  have S1_ := Lib.hid S1
  have S2_ := Lib.hid S2
  have HL_ := Lib.hid HL
  have HE_ := Lib.hid HE
  have HX_ := Lib.hid HX
  have HY_ := Lib.hid HY
  have HZ_ := Lib.hid HZ
  have hB_ := Lib.hid hB
  clear S1 S2 HL hB HE HX HY HZ
  have hb0 : Blk (w.alloc (.cells (capC m r) 23)) w.heap.size 23 (capC m r) := Blk.new w 23 (capC m r)
  have hk0 : Kept NoBlk w (w.alloc (.cells (capC m r) 23)) := (Kept.refl _ _).alloc _
  have HC0 := Lib.hid (hB_.out.kept hk0)
  have HB0 : Hid (Boxes (w.alloc (.cells (capC m r) 23)) [(w.heap.size, m, r)]) := Lib.hid (fun x hx => by
    simp only [List.mem_cons, List.mem_nil_iff, or_false] at hx
    rcases hx with rfl
    exact hb0)
  have HK0 := Lib.hid hk0
  clear hb0 hk0 hB_
  unfold capC at HC0 HB0 HK0
  go_enter Try.func6, Try.ntmps6
  go_wp2_with fail
  refine (S1_.out _).mono ?_
  rintro e w1 ⟨rfl, rfl⟩
  go_wp2_with fail
  refine (S2_.out _).mono ?_
  rintro e w1 ⟨rfl, rfl⟩
  go_wp2_with fail
  refine (HE_.out _).mono ?_
  rintro e w1 ⟨hk, rfl⟩
  have HCX := HC0.out.kept hk
  have HKX := HK0.out.trans hk
  have HBX := HB0.out.kept hk
  have HC1 := Lib.hid HCX
  have HK1 := Lib.hid HKX
  have HB1 := Lib.hid HBX
  clear hk HCX HKX HBX HC0 HK0 HB0 
  go_wp2_with fail
  refine (HX_.out _ HC1.out).mono ?_
  rintro e w2 ⟨rfl, hk⟩
  have HCX := HC1.out.kept hk
  have HKX := HK1.out.trans hk
  have HBX := HB1.out.kept hk
  have HC2 := Lib.hid (HCX.kept ((Kept.refl NoBlk _).alloc (.cells (capC n2 r2) 23)))
  have HK2 := Lib.hid (HKX.alloc (.cells (capC n2 r2) 23))
  have HB2 := Lib.hid (HBX.more n2 r2)
  unfold capC at HC2 HK2 HB2
  clear hk HCX HKX HBX HC1 HK1 HB1 
  go_wp2_with fail
  refine (HY_.out _).mono ?_
  rintro e w3 ⟨hk, v2, rfl, hcv⟩
  have HCX := HC2.out.kept hk
  have HKX := HK2.out.trans hk
  have HBX := HB2.out.kept hk
  have hcc := conv_cells hcv
  have hcd := conv_cells HCX
  clear hcv
  have HC3 := Lib.hid HCX
  have HK3 := Lib.hid HKX
  have HB3 := Lib.hid HBX
  clear hk HCX HKX HBX HC2 HK2 HB2 
  go_wp2_with fail
  refine (HZ_.out _).mono ?_
  rintro e w4 ⟨rfl, hk⟩
  have HCX := HC3.out.kept hk
  have HKX := HK3.out.trans hk
  have HBX := HB3.out.kept hk
  have HC4 := Lib.hid (HCX.kept ((Kept.refl NoBlk _).alloc (.cells (capC n3 r3) 23)))
  have HK4 := Lib.hid (HKX.alloc (.cells (capC n3 r3) 23))
  have HB4 := Lib.hid (HBX.more n3 r3)
  unfold capC at HC4 HK4 HB4
  clear hk HCX HKX HBX HC3 HK3 HB3 hcc hcd
  go_wp2_with fail
  refine (HL_.out _).mono ?_
  rintro e w5 ⟨rfl, hk⟩
  have HCX := HC4.out.kept hk
  have HKX := HK4.out.trans hk
  have HBX := HB4.out.kept hk
  have HC5 := Lib.hid HCX
  have HK5 := Lib.hid HKX
  have HB5 := Lib.hid HBX
  clear hk HCX HKX HBX HC4 HK4 HB4 
  go_wp2
  go_ret
  exact ⟨by simp, HK5.out⟩
set_option maxHeartbeats 4000000 in
theorem back_011 (w : World) (n s m t n2 n3 : ByteArray) (r r2 r3 : Int) (lb : List UInt8) (vb : Value) (hB : CellsB w vb lb)
    (S1 : ∀ w : World, Calls Try.prog 7 #[.string n] w fun e w' => e = .returned (.string m) ∧ w = w') (S2 : ∀ w : World, Calls Try.prog 7 #[.string s] w fun e w' => e = .returned (.string t) ∧ w = w')
    (HL : ∀ w : World, Calls Try.prog 9 #[] w fun e w' => e = .returned (.bool true) ∧ Kept NoBlk w w')
    (HE : ∀ w : World, Calls Try.prog 17 #[.agg #[.string m, .int .u8 r]] w fun e w' => Kept NoBlk w w' ∧ e = .returned (.tuple #[.slice none 0 0, .int .i64 3])) (HX : ∀ (w : World), CellsB w vb lb → Calls Try.prog 18 #[vb] w fun e w' => e = .returned (.tuple #[.agg #[.string n2, .int .u8 r2], .int .i64 0]) ∧ Kept NoBlk w w') (HY : ∀ w : World, Calls Try.prog 17 #[.agg #[.string n2, .int .u8 r2]] w fun e w' => Kept NoBlk w w' ∧ ∃ v, e = .returned (.tuple #[v, .int .i64 0]) ∧ CellsB w' v lb) (HZ : ∀ w : World, Calls Try.prog 20 #[.string t] w fun e w' => e = .returned (.tuple #[.agg #[.string n3, .int .u8 r3], .int .i64 0]) ∧ Kept NoBlk w w') (HW : ∀ w : World, Calls Try.prog 19 #[.agg #[.string n3, .int .u8 r3]] w fun e w' => e = .returned (.tuple #[.string t, .int .i64 0]) ∧ Kept NoBlk w w') :
    Calls Try.prog 6 #[.agg #[.string n, .int .u8 r], vb, .string s] w fun e w' => e = .returned (.bool true) ∧ Kept NoBlk w w' := by
  have S1_ := Lib.hid S1
  have S2_ := Lib.hid S2
  have HL_ := Lib.hid HL
  have HE_ := Lib.hid HE
  have HX_ := Lib.hid HX
  have HY_ := Lib.hid HY
  have HZ_ := Lib.hid HZ
  have HW_ := Lib.hid HW
  have hB_ := Lib.hid hB
  clear S1 S2 HL hB HE HX HY HZ HW
  have hb0 : Blk (w.alloc (.cells (capC m r) 23)) w.heap.size 23 (capC m r) := Blk.new w 23 (capC m r)
  have hk0 : Kept NoBlk w (w.alloc (.cells (capC m r) 23)) := (Kept.refl _ _).alloc _
  have HC0 := Lib.hid (hB_.out.kept hk0)
  have HB0 : Hid (Boxes (w.alloc (.cells (capC m r) 23)) [(w.heap.size, m, r)]) := Lib.hid (fun x hx => by
    simp only [List.mem_cons, List.mem_nil_iff, or_false] at hx
    rcases hx with rfl
    exact hb0)
  have HK0 := Lib.hid hk0
  clear hb0 hk0 hB_
  unfold capC at HC0 HB0 HK0
  go_enter Try.func6, Try.ntmps6
  go_wp2_with fail
  refine (S1_.out _).mono ?_
  rintro e w1 ⟨rfl, rfl⟩
  go_wp2_with fail
  refine (S2_.out _).mono ?_
  rintro e w1 ⟨rfl, rfl⟩
  go_wp2_with fail
  refine (HE_.out _).mono ?_
  rintro e w1 ⟨hk, rfl⟩
  have HCX := HC0.out.kept hk
  have HKX := HK0.out.trans hk
  have HBX := HB0.out.kept hk
  have HC1 := Lib.hid HCX
  have HK1 := Lib.hid HKX
  have HB1 := Lib.hid HBX
  clear hk HCX HKX HBX HC0 HK0 HB0 
  go_wp2_with fail
  refine (HX_.out _ HC1.out).mono ?_
  rintro e w2 ⟨rfl, hk⟩
  have HCX := HC1.out.kept hk
  have HKX := HK1.out.trans hk
  have HBX := HB1.out.kept hk
  have HC2 := Lib.hid (HCX.kept ((Kept.refl NoBlk _).alloc (.cells (capC n2 r2) 23)))
  have HK2 := Lib.hid (HKX.alloc (.cells (capC n2 r2) 23))
  have HB2 := Lib.hid (HBX.more n2 r2)
  unfold capC at HC2 HK2 HB2
  clear hk HCX HKX HBX HC1 HK1 HB1 
  go_wp2_with fail
  refine (HY_.out _).mono ?_
  rintro e w3 ⟨hk, v2, rfl, hcv⟩
  have HCX := HC2.out.kept hk
  have HKX := HK2.out.trans hk
  have HBX := HB2.out.kept hk
  have hcc := conv_cells hcv
  have hcd := conv_cells HCX
  clear hcv
  have HC3 := Lib.hid HCX
  have HK3 := Lib.hid HKX
  have HB3 := Lib.hid HBX
  clear hk HCX HKX HBX HC2 HK2 HB2 
  go_wp2_with fail
  refine (HZ_.out _).mono ?_
  rintro e w4 ⟨rfl, hk⟩
  have HCX := HC3.out.kept hk
  have HKX := HK3.out.trans hk
  have HBX := HB3.out.kept hk
  have HC4 := Lib.hid (HCX.kept ((Kept.refl NoBlk _).alloc (.cells (capC n3 r3) 23)))
  have HK4 := Lib.hid (HKX.alloc (.cells (capC n3 r3) 23))
  have HB4 := Lib.hid (HBX.more n3 r3)
  unfold capC at HC4 HK4 HB4
  clear hk HCX HKX HBX HC3 HK3 HB3 hcc hcd
  go_wp2_with fail
  refine (HW_.out _).mono ?_
  rintro e w5 ⟨rfl, hk⟩
  have HCX := HC4.out.kept hk
  have HKX := HK4.out.trans hk
  have HBX := HB4.out.kept hk
  have HC5 := Lib.hid HCX
  have HK5 := Lib.hid HKX
  have HB5 := Lib.hid HBX
  clear hk HCX HKX HBX HC4 HK4 HB4 
  go_wp2_with fail
  refine (HL_.out _).mono ?_
  rintro e w6 ⟨rfl, hk⟩
  have HCX := HC5.out.kept hk
  have HKX := HK5.out.trans hk
  have HBX := HB5.out.kept hk
  have HC6 := Lib.hid HCX
  have HK6 := Lib.hid HKX
  have HB6 := Lib.hid HBX
  clear hk HCX HKX HBX HC5 HK5 HB5 
  go_wp2
  go_ret
  exact ⟨by simp, HK6.out⟩
set_option maxHeartbeats 4000000 in
theorem back_100 (w : World) (n s m t T n2 n3 : ByteArray) (r r2 r3 e2 e3 : Int) (ll lb : List UInt8) (vb : Value) (hB : CellsB w vb lb)
    (S1 : ∀ w : World, Calls Try.prog 7 #[.string n] w fun e w' => e = .returned (.string m) ∧ w = w') (S2 : ∀ w : World, Calls Try.prog 7 #[.string s] w fun e w' => e = .returned (.string t) ∧ w = w')
    (HL : ∀ w : World, Calls Try.prog 9 #[] w fun e w' => e = .returned (.bool true) ∧ Kept NoBlk w w')
    (HE : ∀ w : World, Calls Try.prog 17 #[.agg #[.string m, .int .u8 r]] w fun e w' => Kept NoBlk w w' ∧ ∃ v, e = .returned (.tuple #[v, .int .i64 0]) ∧ CellsB w' v ll) (HD : ∀ (w : World) (v : Value), CellsB w v ll → Calls Try.prog 18 #[v] w fun e w' => e = .returned (.tuple #[.agg #[.string m, .int .u8 r], .int .i64 0]) ∧ Kept NoBlk w w') (HP : ∀ w : World, Calls Try.prog 19 #[.agg #[.string m, .int .u8 r]] w fun e w' => e = .returned (.tuple #[.string T, .int .i64 0]) ∧ Kept NoBlk w w') (HR : ∀ w : World, Calls Try.prog 20 #[.string T] w fun e w' => e = .returned (.tuple #[.agg #[.string m, .int .u8 r], .int .i64 0]) ∧ Kept NoBlk w w') (HX : ∀ (w : World), CellsB w vb lb → Calls Try.prog 18 #[vb] w fun e w' => e = .returned (.tuple #[.agg #[.string n2, .int .u8 r2], .int .i64 e2]) ∧ Kept NoBlk w w') (he2 : (e2 == 0) = false) (HZ : ∀ w : World, Calls Try.prog 20 #[.string t] w fun e w' => e = .returned (.tuple #[.agg #[.string n3, .int .u8 r3], .int .i64 e3]) ∧ Kept NoBlk w w') (he3 : (e3 != 0) = true) :
    Calls Try.prog 6 #[.agg #[.string n, .int .u8 r], vb, .string s] w fun e w' => e = .returned (.bool true) ∧ Kept NoBlk w w' := by
  have S1_ := Lib.hid S1
  have S2_ := Lib.hid S2
  have HL_ := Lib.hid HL
  have HE_ := Lib.hid HE
  have HD_ := Lib.hid HD
  have HP_ := Lib.hid HP
  have HR_ := Lib.hid HR
  have HX_ := Lib.hid HX
  have HZ_ := Lib.hid HZ
  have hB_ := Lib.hid hB
  clear S1 S2 HL hB HE HD HP HR HX HZ
  have hb0 : Blk (w.alloc (.cells (capC m r) 23)) w.heap.size 23 (capC m r) := Blk.new w 23 (capC m r)
  have hk0 : Kept NoBlk w (w.alloc (.cells (capC m r) 23)) := (Kept.refl _ _).alloc _
  have HC0 := Lib.hid (hB_.out.kept hk0)
  have HB0 : Hid (Boxes (w.alloc (.cells (capC m r) 23)) [(w.heap.size, m, r)]) := Lib.hid (fun x hx => by
    simp only [List.mem_cons, List.mem_nil_iff, or_false] at hx
    rcases hx with rfl
    exact hb0)
  have HK0 := Lib.hid hk0
  clear hb0 hk0 hB_
  unfold capC at HC0 HB0 HK0
  go_enter Try.func6, Try.ntmps6
  go_wp2_with fail
  refine (S1_.out _).mono ?_
  rintro e w1 ⟨rfl, rfl⟩
  go_wp2_with fail
  refine (S2_.out _).mono ?_
  rintro e w1 ⟨rfl, rfl⟩
  go_wp2_with fail
  refine (HE_.out _).mono ?_
  rintro e w1 ⟨hk, v, rfl, hcv⟩
  have HCX := HC0.out.kept hk
  have HKX := HK0.out.trans hk
  have HBX := HB0.out.kept hk
  have HV := Lib.hid hcv
  clear hcv
  have HC1 := Lib.hid HCX
  have HK1 := Lib.hid HKX
  have HB1 := Lib.hid HBX
  clear hk HCX HKX HBX HC0 HK0 HB0 
  go_wp2_with fail
  refine (HD_.out _ _ HV.out).mono ?_
  rintro e w2 ⟨rfl, hk⟩
  have HCX := HC1.out.kept hk
  have HKX := HK1.out.trans hk
  have HBX := HB1.out.kept hk
  obtain ⟨a20, d20⟩ := cap_cells (HBX (w.heap.size, m, r) (by simp))
  have l20 := (HBX (w.heap.size, m, r) (by simp)).lt
  have HC2 := Lib.hid (HCX.kept ((Kept.refl NoBlk _).alloc (.cells (capC m r) 23)))
  have HK2 := Lib.hid (HKX.alloc (.cells (capC m r) 23))
  have HB2 := Lib.hid (HBX.more m r)
  unfold capC at HC2 HK2 HB2
  clear hk HCX HKX HBX HC1 HK1 HB1 
  go_wp2_with fail
  refine (HP_.out _).mono ?_
  rintro e w3 ⟨rfl, hk⟩
  have HCX := HC2.out.kept hk
  have HKX := HK2.out.trans hk
  have HBX := HB2.out.kept hk
  have HC3 := Lib.hid HCX
  have HK3 := Lib.hid HKX
  have HB3 := Lib.hid HBX
  clear hk HCX HKX HBX HC2 HK2 HB2 a20 d20 l20
  go_wp2_with fail
  refine (HR_.out _).mono ?_
  rintro e w4 ⟨rfl, hk⟩
  have HCX := HC3.out.kept hk
  have HKX := HK3.out.trans hk
  have HBX := HB3.out.kept hk
  obtain ⟨a40, d40⟩ := cap_cells (HBX (w.heap.size, m, r) (by simp))
  have l40 := (HBX (w.heap.size, m, r) (by simp)).lt
  obtain ⟨a41, d41⟩ := cap_cells (HBX (w2.heap.size, m, r) (by simp))
  have l41 := (HBX (w2.heap.size, m, r) (by simp)).lt
  have HC4 := Lib.hid (HCX.kept ((Kept.refl NoBlk _).alloc (.cells (capC m r) 23)))
  have HK4 := Lib.hid (HKX.alloc (.cells (capC m r) 23))
  have HB4 := Lib.hid (HBX.more m r)
  unfold capC at HC4 HK4 HB4
  clear hk HCX HKX HBX HC3 HK3 HB3 
  have hE1 := fun w => run_neq_cap w
  have hE2 := fun w => run_neqGuard_cap w
  go_wp2_with fail
  refine (HX_.out _ HC4.out).mono ?_
  rintro e w5 ⟨rfl, hk⟩
  have HCX := HC4.out.kept hk
  have HKX := HK4.out.trans hk
  have HBX := HB4.out.kept hk
  have HC5 := Lib.hid (HCX.kept ((Kept.refl NoBlk _).alloc (.cells (capC n2 r2) 23)))
  have HK5 := Lib.hid (HKX.alloc (.cells (capC n2 r2) 23))
  have HB5 := Lib.hid (HBX.more n2 r2)
  unfold capC at HC5 HK5 HB5
  clear hk HCX HKX HBX HC4 HK4 HB4 a40 d40 l40 a41 d41 l41
  go_wp2_with fail
  refine (HZ_.out _).mono ?_
  rintro e w6 ⟨rfl, hk⟩
  have HCX := HC5.out.kept hk
  have HKX := HK5.out.trans hk
  have HBX := HB5.out.kept hk
  have HC6 := Lib.hid (HCX.kept ((Kept.refl NoBlk _).alloc (.cells (capC n3 r3) 23)))
  have HK6 := Lib.hid (HKX.alloc (.cells (capC n3 r3) 23))
  have HB6 := Lib.hid (HBX.more n3 r3)
  unfold capC at HC6 HK6 HB6
  clear hk HCX HKX HBX HC5 HK5 HB5 
  go_wp2_with fail
  refine (HL_.out _).mono ?_
  rintro e w7 ⟨rfl, hk⟩
  have HCX := HC6.out.kept hk
  have HKX := HK6.out.trans hk
  have HBX := HB6.out.kept hk
  have HC7 := Lib.hid HCX
  have HK7 := Lib.hid HKX
  have HB7 := Lib.hid HBX
  clear hk HCX HKX HBX HC6 HK6 HB6 
  go_wp2
  go_ret
  exact ⟨by simp, HK7.out⟩
set_option maxHeartbeats 4000000 in
theorem back_101 (w : World) (n s m t T n2 n3 : ByteArray) (r r2 r3 e2 : Int) (ll lb : List UInt8) (vb : Value) (hB : CellsB w vb lb)
    (S1 : ∀ w : World, Calls Try.prog 7 #[.string n] w fun e w' => e = .returned (.string m) ∧ w = w') (S2 : ∀ w : World, Calls Try.prog 7 #[.string s] w fun e w' => e = .returned (.string t) ∧ w = w')
    (HL : ∀ w : World, Calls Try.prog 9 #[] w fun e w' => e = .returned (.bool true) ∧ Kept NoBlk w w')
    (HE : ∀ w : World, Calls Try.prog 17 #[.agg #[.string m, .int .u8 r]] w fun e w' => Kept NoBlk w w' ∧ ∃ v, e = .returned (.tuple #[v, .int .i64 0]) ∧ CellsB w' v ll) (HD : ∀ (w : World) (v : Value), CellsB w v ll → Calls Try.prog 18 #[v] w fun e w' => e = .returned (.tuple #[.agg #[.string m, .int .u8 r], .int .i64 0]) ∧ Kept NoBlk w w') (HP : ∀ w : World, Calls Try.prog 19 #[.agg #[.string m, .int .u8 r]] w fun e w' => e = .returned (.tuple #[.string T, .int .i64 0]) ∧ Kept NoBlk w w') (HR : ∀ w : World, Calls Try.prog 20 #[.string T] w fun e w' => e = .returned (.tuple #[.agg #[.string m, .int .u8 r], .int .i64 0]) ∧ Kept NoBlk w w') (HX : ∀ (w : World), CellsB w vb lb → Calls Try.prog 18 #[vb] w fun e w' => e = .returned (.tuple #[.agg #[.string n2, .int .u8 r2], .int .i64 e2]) ∧ Kept NoBlk w w') (he2 : (e2 == 0) = false) (HZ : ∀ w : World, Calls Try.prog 20 #[.string t] w fun e w' => e = .returned (.tuple #[.agg #[.string n3, .int .u8 r3], .int .i64 0]) ∧ Kept NoBlk w w') (HW : ∀ w : World, Calls Try.prog 19 #[.agg #[.string n3, .int .u8 r3]] w fun e w' => e = .returned (.tuple #[.string t, .int .i64 0]) ∧ Kept NoBlk w w') :
    Calls Try.prog 6 #[.agg #[.string n, .int .u8 r], vb, .string s] w fun e w' => e = .returned (.bool true) ∧ Kept NoBlk w w' := by
  have S1_ := Lib.hid S1
  have S2_ := Lib.hid S2
  have HL_ := Lib.hid HL
  have HE_ := Lib.hid HE
  have HD_ := Lib.hid HD
  have HP_ := Lib.hid HP
  have HR_ := Lib.hid HR
  have HX_ := Lib.hid HX
  have HZ_ := Lib.hid HZ
  have HW_ := Lib.hid HW
  have hB_ := Lib.hid hB
  clear S1 S2 HL hB HE HD HP HR HX HZ HW
  have hb0 : Blk (w.alloc (.cells (capC m r) 23)) w.heap.size 23 (capC m r) := Blk.new w 23 (capC m r)
  have hk0 : Kept NoBlk w (w.alloc (.cells (capC m r) 23)) := (Kept.refl _ _).alloc _
  have HC0 := Lib.hid (hB_.out.kept hk0)
  have HB0 : Hid (Boxes (w.alloc (.cells (capC m r) 23)) [(w.heap.size, m, r)]) := Lib.hid (fun x hx => by
    simp only [List.mem_cons, List.mem_nil_iff, or_false] at hx
    rcases hx with rfl
    exact hb0)
  have HK0 := Lib.hid hk0
  clear hb0 hk0 hB_
  unfold capC at HC0 HB0 HK0
  go_enter Try.func6, Try.ntmps6
  go_wp2_with fail
  refine (S1_.out _).mono ?_
  rintro e w1 ⟨rfl, rfl⟩
  go_wp2_with fail
  refine (S2_.out _).mono ?_
  rintro e w1 ⟨rfl, rfl⟩
  go_wp2_with fail
  refine (HE_.out _).mono ?_
  rintro e w1 ⟨hk, v, rfl, hcv⟩
  have HCX := HC0.out.kept hk
  have HKX := HK0.out.trans hk
  have HBX := HB0.out.kept hk
  have HV := Lib.hid hcv
  clear hcv
  have HC1 := Lib.hid HCX
  have HK1 := Lib.hid HKX
  have HB1 := Lib.hid HBX
  clear hk HCX HKX HBX HC0 HK0 HB0 
  go_wp2_with fail
  refine (HD_.out _ _ HV.out).mono ?_
  rintro e w2 ⟨rfl, hk⟩
  have HCX := HC1.out.kept hk
  have HKX := HK1.out.trans hk
  have HBX := HB1.out.kept hk
  obtain ⟨a20, d20⟩ := cap_cells (HBX (w.heap.size, m, r) (by simp))
  have l20 := (HBX (w.heap.size, m, r) (by simp)).lt
  have HC2 := Lib.hid (HCX.kept ((Kept.refl NoBlk _).alloc (.cells (capC m r) 23)))
  have HK2 := Lib.hid (HKX.alloc (.cells (capC m r) 23))
  have HB2 := Lib.hid (HBX.more m r)
  unfold capC at HC2 HK2 HB2
  clear hk HCX HKX HBX HC1 HK1 HB1 
  go_wp2_with fail
  refine (HP_.out _).mono ?_
  rintro e w3 ⟨rfl, hk⟩
  have HCX := HC2.out.kept hk
  have HKX := HK2.out.trans hk
  have HBX := HB2.out.kept hk
  have HC3 := Lib.hid HCX
  have HK3 := Lib.hid HKX
  have HB3 := Lib.hid HBX
  clear hk HCX HKX HBX HC2 HK2 HB2 a20 d20 l20
  go_wp2_with fail
  refine (HR_.out _).mono ?_
  rintro e w4 ⟨rfl, hk⟩
  have HCX := HC3.out.kept hk
  have HKX := HK3.out.trans hk
  have HBX := HB3.out.kept hk
  obtain ⟨a40, d40⟩ := cap_cells (HBX (w.heap.size, m, r) (by simp))
  have l40 := (HBX (w.heap.size, m, r) (by simp)).lt
  obtain ⟨a41, d41⟩ := cap_cells (HBX (w2.heap.size, m, r) (by simp))
  have l41 := (HBX (w2.heap.size, m, r) (by simp)).lt
  have HC4 := Lib.hid (HCX.kept ((Kept.refl NoBlk _).alloc (.cells (capC m r) 23)))
  have HK4 := Lib.hid (HKX.alloc (.cells (capC m r) 23))
  have HB4 := Lib.hid (HBX.more m r)
  unfold capC at HC4 HK4 HB4
  clear hk HCX HKX HBX HC3 HK3 HB3 
  have hE1 := fun w => run_neq_cap w
  have hE2 := fun w => run_neqGuard_cap w
  go_wp2_with fail
  refine (HX_.out _ HC4.out).mono ?_
  rintro e w5 ⟨rfl, hk⟩
  have HCX := HC4.out.kept hk
  have HKX := HK4.out.trans hk
  have HBX := HB4.out.kept hk
  have HC5 := Lib.hid (HCX.kept ((Kept.refl NoBlk _).alloc (.cells (capC n2 r2) 23)))
  have HK5 := Lib.hid (HKX.alloc (.cells (capC n2 r2) 23))
  have HB5 := Lib.hid (HBX.more n2 r2)
  unfold capC at HC5 HK5 HB5
  clear hk HCX HKX HBX HC4 HK4 HB4 a40 d40 l40 a41 d41 l41
  go_wp2_with fail
  refine (HZ_.out _).mono ?_
  rintro e w6 ⟨rfl, hk⟩
  have HCX := HC5.out.kept hk
  have HKX := HK5.out.trans hk
  have HBX := HB5.out.kept hk
  have HC6 := Lib.hid (HCX.kept ((Kept.refl NoBlk _).alloc (.cells (capC n3 r3) 23)))
  have HK6 := Lib.hid (HKX.alloc (.cells (capC n3 r3) 23))
  have HB6 := Lib.hid (HBX.more n3 r3)
  unfold capC at HC6 HK6 HB6
  clear hk HCX HKX HBX HC5 HK5 HB5 
  go_wp2_with fail
  refine (HW_.out _).mono ?_
  rintro e w7 ⟨rfl, hk⟩
  have HCX := HC6.out.kept hk
  have HKX := HK6.out.trans hk
  have HBX := HB6.out.kept hk
  have HC7 := Lib.hid HCX
  have HK7 := Lib.hid HKX
  have HB7 := Lib.hid HBX
  clear hk HCX HKX HBX HC6 HK6 HB6 
  go_wp2_with fail
  refine (HL_.out _).mono ?_
  rintro e w8 ⟨rfl, hk⟩
  have HCX := HC7.out.kept hk
  have HKX := HK7.out.trans hk
  have HBX := HB7.out.kept hk
  have HC8 := Lib.hid HCX
  have HK8 := Lib.hid HKX
  have HB8 := Lib.hid HBX
  clear hk HCX HKX HBX HC7 HK7 HB7 
  go_wp2
  go_ret
  exact ⟨by simp, HK8.out⟩
set_option maxHeartbeats 4000000 in
theorem back_110 (w : World) (n s m t T n2 n3 : ByteArray) (r r2 r3 e3 : Int) (ll lb : List UInt8) (vb : Value) (hB : CellsB w vb lb)
    (S1 : ∀ w : World, Calls Try.prog 7 #[.string n] w fun e w' => e = .returned (.string m) ∧ w = w') (S2 : ∀ w : World, Calls Try.prog 7 #[.string s] w fun e w' => e = .returned (.string t) ∧ w = w')
    (HL : ∀ w : World, Calls Try.prog 9 #[] w fun e w' => e = .returned (.bool true) ∧ Kept NoBlk w w')
    (HE : ∀ w : World, Calls Try.prog 17 #[.agg #[.string m, .int .u8 r]] w fun e w' => Kept NoBlk w w' ∧ ∃ v, e = .returned (.tuple #[v, .int .i64 0]) ∧ CellsB w' v ll) (HD : ∀ (w : World) (v : Value), CellsB w v ll → Calls Try.prog 18 #[v] w fun e w' => e = .returned (.tuple #[.agg #[.string m, .int .u8 r], .int .i64 0]) ∧ Kept NoBlk w w') (HP : ∀ w : World, Calls Try.prog 19 #[.agg #[.string m, .int .u8 r]] w fun e w' => e = .returned (.tuple #[.string T, .int .i64 0]) ∧ Kept NoBlk w w') (HR : ∀ w : World, Calls Try.prog 20 #[.string T] w fun e w' => e = .returned (.tuple #[.agg #[.string m, .int .u8 r], .int .i64 0]) ∧ Kept NoBlk w w') (HX : ∀ (w : World), CellsB w vb lb → Calls Try.prog 18 #[vb] w fun e w' => e = .returned (.tuple #[.agg #[.string n2, .int .u8 r2], .int .i64 0]) ∧ Kept NoBlk w w') (HY : ∀ w : World, Calls Try.prog 17 #[.agg #[.string n2, .int .u8 r2]] w fun e w' => Kept NoBlk w w' ∧ ∃ v, e = .returned (.tuple #[v, .int .i64 0]) ∧ CellsB w' v lb) (HZ : ∀ w : World, Calls Try.prog 20 #[.string t] w fun e w' => e = .returned (.tuple #[.agg #[.string n3, .int .u8 r3], .int .i64 e3]) ∧ Kept NoBlk w w') (he3 : (e3 != 0) = true) :
    Calls Try.prog 6 #[.agg #[.string n, .int .u8 r], vb, .string s] w fun e w' => e = .returned (.bool true) ∧ Kept NoBlk w w' := by
  have S1_ := Lib.hid S1
  have S2_ := Lib.hid S2
  have HL_ := Lib.hid HL
  have HE_ := Lib.hid HE
  have HD_ := Lib.hid HD
  have HP_ := Lib.hid HP
  have HR_ := Lib.hid HR
  have HX_ := Lib.hid HX
  have HY_ := Lib.hid HY
  have HZ_ := Lib.hid HZ
  have hB_ := Lib.hid hB
  clear S1 S2 HL hB HE HD HP HR HX HY HZ
  have hb0 : Blk (w.alloc (.cells (capC m r) 23)) w.heap.size 23 (capC m r) := Blk.new w 23 (capC m r)
  have hk0 : Kept NoBlk w (w.alloc (.cells (capC m r) 23)) := (Kept.refl _ _).alloc _
  have HC0 := Lib.hid (hB_.out.kept hk0)
  have HB0 : Hid (Boxes (w.alloc (.cells (capC m r) 23)) [(w.heap.size, m, r)]) := Lib.hid (fun x hx => by
    simp only [List.mem_cons, List.mem_nil_iff, or_false] at hx
    rcases hx with rfl
    exact hb0)
  have HK0 := Lib.hid hk0
  clear hb0 hk0 hB_
  unfold capC at HC0 HB0 HK0
  go_enter Try.func6, Try.ntmps6
  go_wp2_with fail
  refine (S1_.out _).mono ?_
  rintro e w1 ⟨rfl, rfl⟩
  go_wp2_with fail
  refine (S2_.out _).mono ?_
  rintro e w1 ⟨rfl, rfl⟩
  go_wp2_with fail
  refine (HE_.out _).mono ?_
  rintro e w1 ⟨hk, v, rfl, hcv⟩
  have HCX := HC0.out.kept hk
  have HKX := HK0.out.trans hk
  have HBX := HB0.out.kept hk
  have HV := Lib.hid hcv
  clear hcv
  have HC1 := Lib.hid HCX
  have HK1 := Lib.hid HKX
  have HB1 := Lib.hid HBX
  clear hk HCX HKX HBX HC0 HK0 HB0 
  go_wp2_with fail
  refine (HD_.out _ _ HV.out).mono ?_
  rintro e w2 ⟨rfl, hk⟩
  have HCX := HC1.out.kept hk
  have HKX := HK1.out.trans hk
  have HBX := HB1.out.kept hk
  obtain ⟨a20, d20⟩ := cap_cells (HBX (w.heap.size, m, r) (by simp))
  have l20 := (HBX (w.heap.size, m, r) (by simp)).lt
  have HC2 := Lib.hid (HCX.kept ((Kept.refl NoBlk _).alloc (.cells (capC m r) 23)))
  have HK2 := Lib.hid (HKX.alloc (.cells (capC m r) 23))
  have HB2 := Lib.hid (HBX.more m r)
  unfold capC at HC2 HK2 HB2
  clear hk HCX HKX HBX HC1 HK1 HB1 
  go_wp2_with fail
  refine (HP_.out _).mono ?_
  rintro e w3 ⟨rfl, hk⟩
  have HCX := HC2.out.kept hk
  have HKX := HK2.out.trans hk
  have HBX := HB2.out.kept hk
  have HC3 := Lib.hid HCX
  have HK3 := Lib.hid HKX
  have HB3 := Lib.hid HBX
  clear hk HCX HKX HBX HC2 HK2 HB2 a20 d20 l20
  go_wp2_with fail
  refine (HR_.out _).mono ?_
  rintro e w4 ⟨rfl, hk⟩
  have HCX := HC3.out.kept hk
  have HKX := HK3.out.trans hk
  have HBX := HB3.out.kept hk
  obtain ⟨a40, d40⟩ := cap_cells (HBX (w.heap.size, m, r) (by simp))
  have l40 := (HBX (w.heap.size, m, r) (by simp)).lt
  obtain ⟨a41, d41⟩ := cap_cells (HBX (w2.heap.size, m, r) (by simp))
  have l41 := (HBX (w2.heap.size, m, r) (by simp)).lt
  have HC4 := Lib.hid (HCX.kept ((Kept.refl NoBlk _).alloc (.cells (capC m r) 23)))
  have HK4 := Lib.hid (HKX.alloc (.cells (capC m r) 23))
  have HB4 := Lib.hid (HBX.more m r)
  unfold capC at HC4 HK4 HB4
  clear hk HCX HKX HBX HC3 HK3 HB3 
  have hE1 := fun w => run_neq_cap w
  have hE2 := fun w => run_neqGuard_cap w
  go_wp2_with fail
  refine (HX_.out _ HC4.out).mono ?_
  rintro e w5 ⟨rfl, hk⟩
  have HCX := HC4.out.kept hk
  have HKX := HK4.out.trans hk
  have HBX := HB4.out.kept hk
  have HC5 := Lib.hid (HCX.kept ((Kept.refl NoBlk _).alloc (.cells (capC n2 r2) 23)))
  have HK5 := Lib.hid (HKX.alloc (.cells (capC n2 r2) 23))
  have HB5 := Lib.hid (HBX.more n2 r2)
  unfold capC at HC5 HK5 HB5
  clear hk HCX HKX HBX HC4 HK4 HB4 a40 d40 l40 a41 d41 l41
  go_wp2_with fail
  refine (HY_.out _).mono ?_
  rintro e w6 ⟨hk, v2, rfl, hcv⟩
  have HCX := HC5.out.kept hk
  have HKX := HK5.out.trans hk
  have HBX := HB5.out.kept hk
  have hcc := conv_cells hcv
  have hcd := conv_cells HCX
  clear hcv
  have HC6 := Lib.hid HCX
  have HK6 := Lib.hid HKX
  have HB6 := Lib.hid HBX
  clear hk HCX HKX HBX HC5 HK5 HB5 
  go_wp2_with fail
  refine (HZ_.out _).mono ?_
  rintro e w7 ⟨rfl, hk⟩
  have HCX := HC6.out.kept hk
  have HKX := HK6.out.trans hk
  have HBX := HB6.out.kept hk
  have HC7 := Lib.hid (HCX.kept ((Kept.refl NoBlk _).alloc (.cells (capC n3 r3) 23)))
  have HK7 := Lib.hid (HKX.alloc (.cells (capC n3 r3) 23))
  have HB7 := Lib.hid (HBX.more n3 r3)
  unfold capC at HC7 HK7 HB7
  clear hk HCX HKX HBX HC6 HK6 HB6 hcc hcd
  go_wp2_with fail
  refine (HL_.out _).mono ?_
  rintro e w8 ⟨rfl, hk⟩
  have HCX := HC7.out.kept hk
  have HKX := HK7.out.trans hk
  have HBX := HB7.out.kept hk
  have HC8 := Lib.hid HCX
  have HK8 := Lib.hid HKX
  have HB8 := Lib.hid HBX
  clear hk HCX HKX HBX HC7 HK7 HB7 
  go_wp2
  go_ret
  exact ⟨by simp, HK8.out⟩
set_option maxHeartbeats 4000000 in
theorem back_111 (w : World) (n s m t T n2 n3 : ByteArray) (r r2 r3 : Int) (ll lb : List UInt8) (vb : Value) (hB : CellsB w vb lb)
    (S1 : ∀ w : World, Calls Try.prog 7 #[.string n] w fun e w' => e = .returned (.string m) ∧ w = w') (S2 : ∀ w : World, Calls Try.prog 7 #[.string s] w fun e w' => e = .returned (.string t) ∧ w = w')
    (HL : ∀ w : World, Calls Try.prog 9 #[] w fun e w' => e = .returned (.bool true) ∧ Kept NoBlk w w')
    (HE : ∀ w : World, Calls Try.prog 17 #[.agg #[.string m, .int .u8 r]] w fun e w' => Kept NoBlk w w' ∧ ∃ v, e = .returned (.tuple #[v, .int .i64 0]) ∧ CellsB w' v ll) (HD : ∀ (w : World) (v : Value), CellsB w v ll → Calls Try.prog 18 #[v] w fun e w' => e = .returned (.tuple #[.agg #[.string m, .int .u8 r], .int .i64 0]) ∧ Kept NoBlk w w') (HP : ∀ w : World, Calls Try.prog 19 #[.agg #[.string m, .int .u8 r]] w fun e w' => e = .returned (.tuple #[.string T, .int .i64 0]) ∧ Kept NoBlk w w') (HR : ∀ w : World, Calls Try.prog 20 #[.string T] w fun e w' => e = .returned (.tuple #[.agg #[.string m, .int .u8 r], .int .i64 0]) ∧ Kept NoBlk w w') (HX : ∀ (w : World), CellsB w vb lb → Calls Try.prog 18 #[vb] w fun e w' => e = .returned (.tuple #[.agg #[.string n2, .int .u8 r2], .int .i64 0]) ∧ Kept NoBlk w w') (HY : ∀ w : World, Calls Try.prog 17 #[.agg #[.string n2, .int .u8 r2]] w fun e w' => Kept NoBlk w w' ∧ ∃ v, e = .returned (.tuple #[v, .int .i64 0]) ∧ CellsB w' v lb) (HZ : ∀ w : World, Calls Try.prog 20 #[.string t] w fun e w' => e = .returned (.tuple #[.agg #[.string n3, .int .u8 r3], .int .i64 0]) ∧ Kept NoBlk w w') (HW : ∀ w : World, Calls Try.prog 19 #[.agg #[.string n3, .int .u8 r3]] w fun e w' => e = .returned (.tuple #[.string t, .int .i64 0]) ∧ Kept NoBlk w w') :
    Calls Try.prog 6 #[.agg #[.string n, .int .u8 r], vb, .string s] w fun e w' => e = .returned (.bool true) ∧ Kept NoBlk w w' := by
  have S1_ := Lib.hid S1
  have S2_ := Lib.hid S2
  have HL_ := Lib.hid HL
  have HE_ := Lib.hid HE
  have HD_ := Lib.hid HD
  have HP_ := Lib.hid HP
  have HR_ := Lib.hid HR
  have HX_ := Lib.hid HX
  have HY_ := Lib.hid HY
  have HZ_ := Lib.hid HZ
  have HW_ := Lib.hid HW
  have hB_ := Lib.hid hB
  clear S1 S2 HL hB HE HD HP HR HX HY HZ HW
  have hb0 : Blk (w.alloc (.cells (capC m r) 23)) w.heap.size 23 (capC m r) := Blk.new w 23 (capC m r)
  have hk0 : Kept NoBlk w (w.alloc (.cells (capC m r) 23)) := (Kept.refl _ _).alloc _
  have HC0 := Lib.hid (hB_.out.kept hk0)
  have HB0 : Hid (Boxes (w.alloc (.cells (capC m r) 23)) [(w.heap.size, m, r)]) := Lib.hid (fun x hx => by
    simp only [List.mem_cons, List.mem_nil_iff, or_false] at hx
    rcases hx with rfl
    exact hb0)
  have HK0 := Lib.hid hk0
  clear hb0 hk0 hB_
  unfold capC at HC0 HB0 HK0
  go_enter Try.func6, Try.ntmps6
  go_wp2_with fail
  refine (S1_.out _).mono ?_
  rintro e w1 ⟨rfl, rfl⟩
  go_wp2_with fail
  refine (S2_.out _).mono ?_
  rintro e w1 ⟨rfl, rfl⟩
  go_wp2_with fail
  refine (HE_.out _).mono ?_
  rintro e w1 ⟨hk, v, rfl, hcv⟩
  have HCX := HC0.out.kept hk
  have HKX := HK0.out.trans hk
  have HBX := HB0.out.kept hk
  have HV := Lib.hid hcv
  clear hcv
  have HC1 := Lib.hid HCX
  have HK1 := Lib.hid HKX
  have HB1 := Lib.hid HBX
  clear hk HCX HKX HBX HC0 HK0 HB0 
  go_wp2_with fail
  refine (HD_.out _ _ HV.out).mono ?_
  rintro e w2 ⟨rfl, hk⟩
  have HCX := HC1.out.kept hk
  have HKX := HK1.out.trans hk
  have HBX := HB1.out.kept hk
  obtain ⟨a20, d20⟩ := cap_cells (HBX (w.heap.size, m, r) (by simp))
  have l20 := (HBX (w.heap.size, m, r) (by simp)).lt
  have HC2 := Lib.hid (HCX.kept ((Kept.refl NoBlk _).alloc (.cells (capC m r) 23)))
  have HK2 := Lib.hid (HKX.alloc (.cells (capC m r) 23))
  have HB2 := Lib.hid (HBX.more m r)
  unfold capC at HC2 HK2 HB2
  clear hk HCX HKX HBX HC1 HK1 HB1 
  go_wp2_with fail
  refine (HP_.out _).mono ?_
  rintro e w3 ⟨rfl, hk⟩
  have HCX := HC2.out.kept hk
  have HKX := HK2.out.trans hk
  have HBX := HB2.out.kept hk
  have HC3 := Lib.hid HCX
  have HK3 := Lib.hid HKX
  have HB3 := Lib.hid HBX
  clear hk HCX HKX HBX HC2 HK2 HB2 a20 d20 l20
  go_wp2_with fail
  refine (HR_.out _).mono ?_
  rintro e w4 ⟨rfl, hk⟩
  have HCX := HC3.out.kept hk
  have HKX := HK3.out.trans hk
  have HBX := HB3.out.kept hk
  obtain ⟨a40, d40⟩ := cap_cells (HBX (w.heap.size, m, r) (by simp))
  have l40 := (HBX (w.heap.size, m, r) (by simp)).lt
  obtain ⟨a41, d41⟩ := cap_cells (HBX (w2.heap.size, m, r) (by simp))
  have l41 := (HBX (w2.heap.size, m, r) (by simp)).lt
  have HC4 := Lib.hid (HCX.kept ((Kept.refl NoBlk _).alloc (.cells (capC m r) 23)))
  have HK4 := Lib.hid (HKX.alloc (.cells (capC m r) 23))
  have HB4 := Lib.hid (HBX.more m r)
  unfold capC at HC4 HK4 HB4
  clear hk HCX HKX HBX HC3 HK3 HB3 
  have hE1 := fun w => run_neq_cap w
  have hE2 := fun w => run_neqGuard_cap w
  go_wp2_with fail
  refine (HX_.out _ HC4.out).mono ?_
  rintro e w5 ⟨rfl, hk⟩
  have HCX := HC4.out.kept hk
  have HKX := HK4.out.trans hk
  have HBX := HB4.out.kept hk
  have HC5 := Lib.hid (HCX.kept ((Kept.refl NoBlk _).alloc (.cells (capC n2 r2) 23)))
  have HK5 := Lib.hid (HKX.alloc (.cells (capC n2 r2) 23))
  have HB5 := Lib.hid (HBX.more n2 r2)
  unfold capC at HC5 HK5 HB5
  clear hk HCX HKX HBX HC4 HK4 HB4 a40 d40 l40 a41 d41 l41
  go_wp2_with fail
  refine (HY_.out _).mono ?_
  rintro e w6 ⟨hk, v2, rfl, hcv⟩
  have HCX := HC5.out.kept hk
  have HKX := HK5.out.trans hk
  have HBX := HB5.out.kept hk
  have hcc := conv_cells hcv
  have hcd := conv_cells HCX
  clear hcv
  have HC6 := Lib.hid HCX
  have HK6 := Lib.hid HKX
  have HB6 := Lib.hid HBX
  clear hk HCX HKX HBX HC5 HK5 HB5 
  go_wp2_with fail
  refine (HZ_.out _).mono ?_
  rintro e w7 ⟨rfl, hk⟩
  have HCX := HC6.out.kept hk
  have HKX := HK6.out.trans hk
  have HBX := HB6.out.kept hk
  have HC7 := Lib.hid (HCX.kept ((Kept.refl NoBlk _).alloc (.cells (capC n3 r3) 23)))
  have HK7 := Lib.hid (HKX.alloc (.cells (capC n3 r3) 23))
  have HB7 := Lib.hid (HBX.more n3 r3)
  unfold capC at HC7 HK7 HB7
  clear hk HCX HKX HBX HC6 HK6 HB6 hcc hcd
  go_wp2_with fail
  refine (HW_.out _).mono ?_
  rintro e w8 ⟨rfl, hk⟩
  have HCX := HC7.out.kept hk
  have HKX := HK7.out.trans hk
  have HBX := HB7.out.kept hk
  have HC8 := Lib.hid HCX
  have HK8 := Lib.hid HKX
  have HB8 := Lib.hid HBX
  clear hk HCX HKX HBX HC7 HK7 HB7 
  go_wp2_with fail
  refine (HL_.out _).mono ?_
  rintro e w9 ⟨rfl, hk⟩
  have HCX := HC8.out.kept hk
  have HKX := HK8.out.trans hk
  have HBX := HB8.out.kept hk
  have HC9 := Lib.hid HCX
  have HK9 := Lib.hid HKX
  have HB9 := Lib.hid HBX
  clear hk HCX HKX HBX HC8 HK8 HB8 
  go_wp2
  go_ret
  exact ⟨by simp, HK9.out⟩
theorem lawBack_any (w : World) (n : ByteArray) (r0 : Int) (vb : Value) (lb : List UInt8) (s : ByteArray) (hn : n.size ≤ maxLen) (h0 : 0 ≤ r0) (h1 : r0 < 256) (hb : CellsB w vb lb) (hs : s.size ≤ maxLen) : Calls Try.prog 6 #[capV n r0, vb, .string s] w (TrueKept w) := by
  obtain ⟨r, rfl⟩ := Int.eq_ofNat_of_zero_le h0
  have hr : r < 256 := by omega
  have S1 := fun w => short_any w n hn
  have S2 := fun w => short_any w s hs
  have HL := fun w => live_any w
  have hm : (cut300 n).size ≤ 1000 := by have := cut300_size n; omega
  have ht : (cut300 s).size ≤ 1000 := by have := cut300_size s; omega
  generalize cut300 n = m at *
  generalize cut300 s = t at *
  obtain ⟨n2, r2, e2, h2⟩ : ∃ n2 r2 e2, decP lb = (n2, r2, e2) := ⟨_, _, _, rfl⟩
  obtain ⟨n3, r3, e3, h3⟩ : ∃ n3 r3 e3, parP t = (n3, r3, e3) := ⟨_, _, _, rfl⟩
  have HX := fun w h => decode_any w vb lb h
  have HZ := fun w => parse_any w t ht
  rw [h2] at HX
  rw [h3] at HZ
  have HEt : rightB m (r : Int) = true → ∀ w : World, Calls Try.prog 17 #[.agg #[.string m, .int .u8 (r : Int)]] w fun e w' => Kept NoBlk w w' ∧ ∃ v, e = .returned (.tuple #[v, .int .i64 0]) ∧ CellsB w' v (encL m r) := fun hb w =>
    (encode_any w m r hm hr).mono fun e w' ⟨hk, h⟩ => ⟨hk, by
      rcases h with ⟨-, v, h⟩ | ⟨h, -⟩
      · exact ⟨v, h⟩
      · rw [hb] at h; cases h⟩
  have HEf : rightB m (r : Int) = false → ∀ w : World, Calls Try.prog 17 #[.agg #[.string m, .int .u8 (r : Int)]] w fun e w' => Kept NoBlk w w' ∧ e = .returned (.tuple #[.slice none 0 0, .int .i64 3]) := fun hb w =>
    (encode_any w m r hm hr).mono fun e w' ⟨hk, h⟩ => ⟨hk, by
      rcases h with ⟨h, -⟩ | ⟨-, h⟩
      · rw [hb] at h; cases h
      · exact h⟩
  have HD : rightB m (r : Int) = true → ∀ (w : World) (v : Value), CellsB w v (encL m r) → Calls Try.prog 18 #[v] w fun e w' => e = .returned (.tuple #[.agg #[.string m, .int .u8 (r : Int)], .int .i64 0]) ∧ Kept NoBlk w w' := fun hb w v hv => by
    have := decode_any w v _ hv
    rw [dec_enc m r hb] at this
    exact this
  have HP : rightB m (r : Int) = true → ∀ w : World, Calls Try.prog 19 #[.agg #[.string m, .int .u8 (r : Int)]] w fun e w' => e = .returned (.tuple #[.string (printP m r).1, .int .i64 0]) ∧ Kept NoBlk w w' := fun hb w => by
    have := print_any w m r hm hr
    rw [show (printP m r).2 = 0 by unfold printP; rw [if_pos hb]] at this
    exact this
  have HR : rightB m (r : Int) = true → ∀ w : World, Calls Try.prog 20 #[.string (printP m r).1] w fun e w' => e = .returned (.tuple #[.agg #[.string m, .int .u8 (r : Int)], .int .i64 0]) ∧ Kept NoBlk w w' := fun hb w => by
    have := parse_any w (printP m r).1 (by have := print_size m r; omega)
    rw [par_print m r hb] at this
    exact this
  have HY : e2 = 0 → ∀ w : World, Calls Try.prog 17 #[.agg #[.string n2, .int .u8 r2]] w fun e w' => Kept NoBlk w w' ∧ ∃ v, e = .returned (.tuple #[v, .int .i64 0]) ∧ CellsB w' v lb := fun he w => by
    subst he
    obtain ⟨p0, p1, pr, pe⟩ := enc_dec lb n2 r2 h2
    obtain ⟨q, rfl⟩ := Int.eq_ofNat_of_zero_le p0
    have p79 := (rightB_parts pr).1
    rw [show ((q : Int)).toNat = q from rfl] at pe
    exact (encode_any w n2 q (by omega) (by omega)).mono fun e w' ⟨hk, h⟩ => ⟨hk, by
      rcases h with ⟨-, v, h⟩ | ⟨h, -⟩
      · rw [pe] at h
        exact ⟨v, h⟩
      · rw [pr] at h; cases h⟩
  have HW : e3 = 0 → ∀ w : World, Calls Try.prog 19 #[.agg #[.string n3, .int .u8 r3]] w fun e w' => e = .returned (.tuple #[.string t, .int .i64 0]) ∧ Kept NoBlk w w' := fun he w => by
    subst he
    obtain ⟨p0, p1, pe⟩ := print_par t n3 r3 h3
    obtain ⟨q, rfl⟩ := Int.eq_ofNat_of_zero_le p0
    rw [show ((q : Int)).toNat = q from rfl] at pe
    have p79 : n3.size ≤ 1000 := by
      by_cases h : rightB n3 (q : Int) = true
      · have := (rightB_parts h).1
        omega
      · have h4 : printP n3 q = (⟨#[]⟩, 3) := by unfold printP; rw [if_neg h]
        rw [h4] at pe
        cases pe
    have := print_any w n3 q p79 (by omega)
    rw [pe] at this
    exact this
  unfold TrueKept
  by_cases he2 : e2 = 0
  · by_cases he3 : e3 = 0
    · subst he2
      subst he3
      cases hb' : rightB m (r : Int) with
      | true => exact back_111 w n s m t _ n2 n3 _ r2 r3 _ lb vb hb S1 S2 HL (HEt hb') (HD hb') (HP hb') (HR hb') HX (HY rfl) HZ (HW rfl)
      | false => exact back_011 w n s m t n2 n3 _ r2 r3 lb vb hb S1 S2 HL (HEf hb') HX (HY rfl) HZ (HW rfl)
    · have ne3 : (e3 != 0) = true := bne_iff_ne.2 he3
      subst he2
      cases hb' : rightB m (r : Int) with
      | true => exact back_110 w n s m t _ n2 n3 _ r2 r3 e3 _ lb vb hb S1 S2 HL (HEt hb') (HD hb') (HP hb') (HR hb') HX (HY rfl) HZ ne3
      | false => exact back_010 w n s m t n2 n3 _ r2 r3 e3 lb vb hb S1 S2 HL (HEf hb') HX (HY rfl) HZ ne3
  · have ne2 : (e2 == 0) = false := beq_eq_false_iff_ne.2 he2
    by_cases he3 : e3 = 0
    · subst he3
      cases hb' : rightB m (r : Int) with
      | true => exact back_101 w n s m t _ n2 n3 _ r2 r3 e2 _ lb vb hb S1 S2 HL (HEt hb') (HD hb') (HP hb') (HR hb') HX ne2 HZ (HW rfl)
      | false => exact back_001 w n s m t n2 n3 _ r2 r3 e2 lb vb hb S1 S2 HL (HEf hb') HX ne2 HZ (HW rfl)
    · have ne3 : (e3 != 0) = true := bne_iff_ne.2 he3
      cases hb' : rightB m (r : Int) with
      | true => exact back_100 w n s m t _ n2 n3 _ r2 r3 e2 e3 _ lb vb hb S1 S2 HL (HEt hb') (HD hb') (HP hb') (HR hb') HX ne2 HZ ne3
      | false => exact back_000 w n s m t n2 n3 _ r2 r3 e2 e3 lb vb hb S1 S2 HL (HEf hb') HX ne2 HZ ne3
end Go.Proofs.Ytlaplonmbnncaaa
