/- NameCodes, walked. -/
import Derived.Test.YtlaplonmbnncaaaDoorF3
import Derived.Test.YtlaplonmbnncaaaDoorD12
namespace Go.Proofs.YtlaplonmbnncaaaDoor
open Go.RowKit Go.Shelf
set_option maxRecDepth 100000

def encE (n : ByteArray) (r : Nat) : Int := if rightB n (r : Int) = true then 0 else 3
def encB (n : ByteArray) (r : Nat) : List UInt8 := if rightB n (r : Int) = true then encL n r else []
theorem encode_two {w' : World} {n : ByteArray} {r : Nat} {e : Ending} (h : (rightB n (r : Int) = true ∧ ∃ v, e = .returned (.tuple #[v, .int .i64 0]) ∧ CellsB w' v (encL n r)) ∨ (rightB n (r : Int) = false ∧ e = .returned (.tuple #[.slice none 0 0, .int .i64 3]))) :
    ∃ v, e = .returned (.tuple #[v, .int .i64 (encE n r)]) ∧ CellsB w' v (encB n r) := by
  unfold encE encB
  rcases h with ⟨hb, v, h1, h2⟩ | ⟨hb, h1⟩
  · rw [if_pos hb, if_pos hb]
    exact ⟨v, h1, h2⟩
  · rw [hb, if_neg (by decide), if_neg (by decide)]
    exact ⟨_, h1, CellsB.nil _⟩
theorem cells_take {w : World} {A : Option Addr} {N cap : Nat} {l : List UInt8} (h : CellsB w (.slice A N cap) l) (h3 : 300 < N) : CellsB w (.slice A 300 cap) (l.take 300) := by
  obtain ⟨A', cap', e, h1, h2, hc⟩ := h
  injection e with e1 e2 e3
  subst e1 e3
  have hl : (l.take 300).length = 300 := by rw [List.length_take]; omega
  refine ⟨A, cap, by rw [hl], by rw [hl]; omega, h2, fun _ => ?_⟩
  obtain ⟨b, o, ea, hb, hcc⟩ := hc (by omega)
  refine ⟨b, o, ea, hb, fun k hk => ?_⟩
  rw [hl] at hk
  rw [hcc k (by omega), List.getElem_take]
set_option maxHeartbeats 8000000 in
theorem codes_few (w : World) (n s m t T n2 n3 : ByteArray) (r r2 r3 e1 e2 e3 e4 : Int) (ll lb : List UInt8) (A : Option Addr) (N cap : Nat) (h300 : N ≤ 300) (hT : Tabs w) (hB : CellsB w (.slice A N cap) lb)
    (S1 : ∀ w : World, Calls Tryd.prog 14 #[.string n] w fun e w' => e = .returned (.string m) ∧ w = w') (S2 : ∀ w : World, Calls Tryd.prog 14 #[.string s] w fun e w' => e = .returned (.string t) ∧ w = w')
    (HL : ∀ w : World, Calls Tryd.prog 11 #[] w fun e w' => e = .returned (.bool true) ∧ Kept NoBlk w w')
    (E1 : ∀ w : World, Calls Tryd.prog 36 #[.agg #[.string m, .int .u8 r]] w fun e w' => Kept NoBlk w w' ∧ ∃ v, e = .returned (.tuple #[v, .int .i64 e1]) ∧ CellsB w' v ll)
    (E2 : ∀ w : World, Tabs w → Calls Tryd.prog 37 #[.agg #[.string m, .int .u8 r]] w fun e w' => Kept NoBlk w w' ∧ ∃ v, e = .returned (.tuple #[v, .int .i64 e1]) ∧ CellsB w' v ll)
    (D1 : ∀ w : World, CellsB w (.slice A N cap) lb → Calls Tryd.prog 38 #[(.slice A N cap)] w fun e w' => e = .returned (.tuple #[.agg #[.string n2, .int .u8 r2], .int .i64 e2]) ∧ Kept NoBlk w w')
    (D2 : ∀ w : World, CellsB w (.slice A N cap) lb → Tabs w → Calls Tryd.prog 39 #[(.slice A N cap)] w fun e w' => e = .returned (.tuple #[.agg #[.string n2, .int .u8 r2], .int .i64 e2]) ∧ Kept NoBlk w w')
    (P1 : ∀ w : World, Calls Tryd.prog 40 #[.agg #[.string m, .int .u8 r]] w fun e w' => e = .returned (.tuple #[.string T, .int .i64 e3]) ∧ Kept NoBlk w w')
    (P2 : ∀ w : World, Tabs w → Calls Tryd.prog 41 #[.agg #[.string m, .int .u8 r]] w fun e w' => e = .returned (.tuple #[.string T, .int .i64 e3]) ∧ Kept NoBlk w w')
    (Q1 : ∀ w : World, Calls Tryd.prog 42 #[.string t] w fun e w' => e = .returned (.tuple #[.agg #[.string n3, .int .u8 r3], .int .i64 e4]) ∧ Kept NoBlk w w')
    (Q2 : ∀ w : World, Tabs w → Calls Tryd.prog 43 #[.string t] w fun e w' => e = .returned (.tuple #[.agg #[.string n3, .int .u8 r3], .int .i64 e4]) ∧ Kept NoBlk w w') :
    Calls Tryd.prog 7 #[.agg #[.string n, .int .u8 r], (.slice A N cap), .string s] w fun e w' => e = .returned (.bool true) ∧ Kept NoBlk w w' := by
  have S1_ := Lib.hid S1
  have S2_ := Lib.hid S2
  have HL_ := Lib.hid HL
  have E1_ := Lib.hid E1
  have E2_ := Lib.hid E2
  have D1_ := Lib.hid D1
  have D2_ := Lib.hid D2
  have P1_ := Lib.hid P1
  have P2_ := Lib.hid P2
  have Q1_ := Lib.hid Q1
  have Q2_ := Lib.hid Q2
  have hB_ := Lib.hid hB
  have hT_ := Lib.hid hT
  clear S1 S2 HL E1 E2 D1 D2 P1 P2 Q1 Q2 hB hT
  have hgt : ¬ (300 : Int) < N := by omega
  have hb0 : Boxes (w.alloc (.cells (capC m r) 34)) [(w.heap.size, m, r)] := fun x hx => by
    simp only [List.mem_cons, List.mem_nil_iff, or_false] at hx
    rcases hx with rfl
    exact Blk.new w 34 (capC m r)
  have HB0 := Lib.hid hb0
  have HK0 : Hid (Kept NoBlk w (w.alloc (.cells (capC m r) 34))) := Lib.hid ((Kept.refl _ _).alloc _)
  have HC0 := Lib.hid (hB_.out.kept HK0.out)
  clear hb0 hB_
  unfold capC at HC0 HB0 HK0
  go_enter Tryd.func7, Tryd.ntmps7
  go_wp2_with fail
  refine (S1_.out _).mono ?_
  rintro e w1 ⟨rfl, rfl⟩
  go_wp2_with fail
  refine (S2_.out _).mono ?_
  rintro e w1 ⟨rfl, rfl⟩
  go_wp2_with fail
  refine (E1_.out _).mono ?_
  rintro e w1 ⟨hk, v1, rfl, hcv⟩
  have HKX := HK0.out.trans hk
  have HBX := HB0.out.kept hk
  obtain ⟨a10, d10⟩ := cap_cells (HBX (w.heap.size, m, r) (by simp))
  have l10 := (HBX (w.heap.size, m, r) (by simp)).lt
  have HCX := HC0.out.kept hk
  have HPX := hcv
  have HC1 := Lib.hid HCX
  have HP1 := Lib.hid HPX
  have HK1 := Lib.hid HKX
  have HB1 := Lib.hid HBX
  clear hk HKX HBX HK0 HB0 HCX HPX HC0 
  clear hcv
  go_wp2_with fail
  refine (E2_.out _ (hT_.out.kept HK1.out)).mono ?_
  rintro e w2 ⟨hk, v2, rfl, hcv⟩
  have HKX := HK1.out.trans hk
  have HBX := HB1.out.kept hk
  have HCX := HC1.out.kept hk
  have HPX := HP1.out.kept hk
  have HQX := hcv
  have HC2 := Lib.hid HCX
  have HP2 := Lib.hid HPX
  have HQ2 := Lib.hid HQX
  have HK2 := Lib.hid HKX
  have HB2 := Lib.hid HBX
  clear hk HKX HBX HK1 HB1 HCX HPX HQX HC1 HP1 a10 d10 l10
  clear hcv
  go_wp2_with fail
  refine (D1_.out _ HC2.out).mono ?_
  rintro e w3 ⟨rfl, hk⟩
  have HKX := HK2.out.trans hk
  have HBX := HB2.out.kept hk
  have HCX := HC2.out.kept hk
  have HPX := HP2.out.kept hk
  have HQX := HQ2.out.kept hk
  have HC3 := Lib.hid (HCX.kept ((Kept.refl NoBlk _).alloc (.cells (capC n2 r2) 34)))
  have HP3 := Lib.hid (HPX.kept ((Kept.refl NoBlk _).alloc (.cells (capC n2 r2) 34)))
  have HQ3 := Lib.hid (HQX.kept ((Kept.refl NoBlk _).alloc (.cells (capC n2 r2) 34)))
  have HK3 := Lib.hid (HKX.alloc (.cells (capC n2 r2) 34))
  have HB3 := Lib.hid (HBX.more n2 r2)
  unfold capC at HK3 HB3 HC3 HP3 HQ3
  clear hk HKX HBX HK2 HB2 HCX HPX HQX HC2 HP2 HQ2 
  go_wp2_with fail
  refine (D2_.out _ HC3.out (hT_.out.kept HK3.out)).mono ?_
  rintro e w4 ⟨rfl, hk⟩
  have HKX := HK3.out.trans hk
  have HBX := HB3.out.kept hk
  obtain ⟨a40, d40⟩ := cap_cells (HBX (w.heap.size, m, r) (by simp))
  have l40 := (HBX (w.heap.size, m, r) (by simp)).lt
  have HCX := HC3.out.kept hk
  have HPX := HP3.out.kept hk
  have HQX := HQ3.out.kept hk
  have HC4 := Lib.hid (HCX.kept ((Kept.refl NoBlk _).alloc (.cells (capC n2 r2) 34)))
  have HP4 := Lib.hid (HPX.kept ((Kept.refl NoBlk _).alloc (.cells (capC n2 r2) 34)))
  have HQ4 := Lib.hid (HQX.kept ((Kept.refl NoBlk _).alloc (.cells (capC n2 r2) 34)))
  have HK4 := Lib.hid (HKX.alloc (.cells (capC n2 r2) 34))
  have HB4 := Lib.hid (HBX.more n2 r2)
  unfold capC at HK4 HB4 HC4 HP4 HQ4
  clear hk HKX HBX HK3 HB3 HCX HPX HQX HC3 HP3 HQ3 
  go_wp2_with fail
  refine (P1_.out _).mono ?_
  rintro e w5 ⟨rfl, hk⟩
  have HKX := HK4.out.trans hk
  have HBX := HB4.out.kept hk
  obtain ⟨a50, d50⟩ := cap_cells (HBX (w.heap.size, m, r) (by simp))
  have l50 := (HBX (w.heap.size, m, r) (by simp)).lt
  have HCX := HC4.out.kept hk
  have HPX := HP4.out.kept hk
  have HQX := HQ4.out.kept hk
  have HC5 := Lib.hid HCX
  have HP5 := Lib.hid HPX
  have HQ5 := Lib.hid HQX
  have HK5 := Lib.hid HKX
  have HB5 := Lib.hid HBX
  clear hk HKX HBX HK4 HB4 HCX HPX HQX HC4 HP4 HQ4 a40 d40 l40
  go_wp2_with fail
  refine (P2_.out _ (hT_.out.kept HK5.out)).mono ?_
  rintro e w6 ⟨rfl, hk⟩
  have HKX := HK5.out.trans hk
  have HBX := HB5.out.kept hk
  have HCX := HC5.out.kept hk
  have HPX := HP5.out.kept hk
  have HQX := HQ5.out.kept hk
  have HC6 := Lib.hid HCX
  have HP6 := Lib.hid HPX
  have HQ6 := Lib.hid HQX
  have HK6 := Lib.hid HKX
  have HB6 := Lib.hid HBX
  clear hk HKX HBX HK5 HB5 HCX HPX HQX HC5 HP5 HQ5 a50 d50 l50
  go_wp2_with fail
  refine (Q1_.out _).mono ?_
  rintro e w7 ⟨rfl, hk⟩
  have HKX := HK6.out.trans hk
  have HBX := HB6.out.kept hk
  have HCX := HC6.out.kept hk
  have HPX := HP6.out.kept hk
  have HQX := HQ6.out.kept hk
  have HC7 := Lib.hid (HCX.kept ((Kept.refl NoBlk _).alloc (.cells (capC n3 r3) 34)))
  have HP7 := Lib.hid (HPX.kept ((Kept.refl NoBlk _).alloc (.cells (capC n3 r3) 34)))
  have HQ7 := Lib.hid (HQX.kept ((Kept.refl NoBlk _).alloc (.cells (capC n3 r3) 34)))
  have HK7 := Lib.hid (HKX.alloc (.cells (capC n3 r3) 34))
  have HB7 := Lib.hid (HBX.more n3 r3)
  unfold capC at HK7 HB7 HC7 HP7 HQ7
  clear hk HKX HBX HK6 HB6 HCX HPX HQX HC6 HP6 HQ6 
  go_wp2_with fail
  refine (Q2_.out _ (hT_.out.kept HK7.out)).mono ?_
  rintro e w8 ⟨rfl, hk⟩
  have HKX := HK7.out.trans hk
  have HBX := HB7.out.kept hk
  have HCX := HC7.out.kept hk
  have HPX := HP7.out.kept hk
  have HQX := HQ7.out.kept hk
  have HC8 := Lib.hid (HCX.kept ((Kept.refl NoBlk _).alloc (.cells (capC n3 r3) 34)))
  have HP8 := Lib.hid (HPX.kept ((Kept.refl NoBlk _).alloc (.cells (capC n3 r3) 34)))
  have HQ8 := Lib.hid (HQX.kept ((Kept.refl NoBlk _).alloc (.cells (capC n3 r3) 34)))
  have HK8 := Lib.hid (HKX.alloc (.cells (capC n3 r3) 34))
  have HB8 := Lib.hid (HBX.more n3 r3)
  unfold capC at HK8 HB8 HC8 HP8 HQ8
  clear hk HKX HBX HK7 HB7 HCX HPX HQX HC7 HP7 HQ7 
  go_wp2_with fail
  refine (HL_.out _).mono ?_
  rintro e w9 ⟨rfl, hk⟩
  have HKX := HK8.out.trans hk
  have HBX := HB8.out.kept hk
  obtain ⟨a90, d90⟩ := cap_cells (HBX (w3.heap.size, n2, r2) (by simp))
  have l90 := (HBX (w3.heap.size, n2, r2) (by simp)).lt
  obtain ⟨a91, d91⟩ := cap_cells (HBX (w4.heap.size, n2, r2) (by simp))
  have l91 := (HBX (w4.heap.size, n2, r2) (by simp)).lt
  obtain ⟨a92, d92⟩ := cap_cells (HBX (w7.heap.size, n3, r3) (by simp))
  have l92 := (HBX (w7.heap.size, n3, r3) (by simp)).lt
  obtain ⟨a93, d93⟩ := cap_cells (HBX (w8.heap.size, n3, r3) (by simp))
  have l93 := (HBX (w8.heap.size, n3, r3) (by simp)).lt
  have HCX := HC8.out.kept hk
  have HPX := HP8.out.kept hk
  have HQX := HQ8.out.kept hk
  have cvHC := conv_cells HCX
  have cvHP := conv_cells HPX
  have cvHQ := conv_cells HQX
  have HC9 := Lib.hid HCX
  have HP9 := Lib.hid HPX
  have HQ9 := Lib.hid HQX
  have HK9 := Lib.hid HKX
  have HB9 := Lib.hid HBX
  clear hk HKX HBX HK8 HB8 HCX HPX HQX HC8 HP8 HQ8 
  have hE1 := fun w => run_eql_cap w
  have hE2 := fun w => run_eqGuard_cap w
  go_wp2
  go_ret
  exact ⟨by simp, HK9.out⟩
set_option maxHeartbeats 8000000 in
theorem codes_cut (w : World) (n s m t T n2 n3 : ByteArray) (r r2 r3 e1 e2 e3 e4 : Int) (ll lb : List UInt8) (A : Option Addr) (N cap : Nat) (hcap : N ≤ cap) (h300 : 300 < N) (hT : Tabs w) (hB : CellsB w (.slice A 300 cap) lb)
    (S1 : ∀ w : World, Calls Tryd.prog 14 #[.string n] w fun e w' => e = .returned (.string m) ∧ w = w') (S2 : ∀ w : World, Calls Tryd.prog 14 #[.string s] w fun e w' => e = .returned (.string t) ∧ w = w')
    (HL : ∀ w : World, Calls Tryd.prog 11 #[] w fun e w' => e = .returned (.bool true) ∧ Kept NoBlk w w')
    (E1 : ∀ w : World, Calls Tryd.prog 36 #[.agg #[.string m, .int .u8 r]] w fun e w' => Kept NoBlk w w' ∧ ∃ v, e = .returned (.tuple #[v, .int .i64 e1]) ∧ CellsB w' v ll)
    (E2 : ∀ w : World, Tabs w → Calls Tryd.prog 37 #[.agg #[.string m, .int .u8 r]] w fun e w' => Kept NoBlk w w' ∧ ∃ v, e = .returned (.tuple #[v, .int .i64 e1]) ∧ CellsB w' v ll)
    (D1 : ∀ w : World, CellsB w (.slice A 300 cap) lb → Calls Tryd.prog 38 #[(.slice A 300 cap)] w fun e w' => e = .returned (.tuple #[.agg #[.string n2, .int .u8 r2], .int .i64 e2]) ∧ Kept NoBlk w w')
    (D2 : ∀ w : World, CellsB w (.slice A 300 cap) lb → Tabs w → Calls Tryd.prog 39 #[(.slice A 300 cap)] w fun e w' => e = .returned (.tuple #[.agg #[.string n2, .int .u8 r2], .int .i64 e2]) ∧ Kept NoBlk w w')
    (P1 : ∀ w : World, Calls Tryd.prog 40 #[.agg #[.string m, .int .u8 r]] w fun e w' => e = .returned (.tuple #[.string T, .int .i64 e3]) ∧ Kept NoBlk w w')
    (P2 : ∀ w : World, Tabs w → Calls Tryd.prog 41 #[.agg #[.string m, .int .u8 r]] w fun e w' => e = .returned (.tuple #[.string T, .int .i64 e3]) ∧ Kept NoBlk w w')
    (Q1 : ∀ w : World, Calls Tryd.prog 42 #[.string t] w fun e w' => e = .returned (.tuple #[.agg #[.string n3, .int .u8 r3], .int .i64 e4]) ∧ Kept NoBlk w w')
    (Q2 : ∀ w : World, Tabs w → Calls Tryd.prog 43 #[.string t] w fun e w' => e = .returned (.tuple #[.agg #[.string n3, .int .u8 r3], .int .i64 e4]) ∧ Kept NoBlk w w') :
    Calls Tryd.prog 7 #[.agg #[.string n, .int .u8 r], (.slice A N cap), .string s] w fun e w' => e = .returned (.bool true) ∧ Kept NoBlk w w' := by
  have S1_ := Lib.hid S1
  have S2_ := Lib.hid S2
  have HL_ := Lib.hid HL
  have E1_ := Lib.hid E1
  have E2_ := Lib.hid E2
  have D1_ := Lib.hid D1
  have D2_ := Lib.hid D2
  have P1_ := Lib.hid P1
  have P2_ := Lib.hid P2
  have Q1_ := Lib.hid Q1
  have Q2_ := Lib.hid Q2
  have hB_ := Lib.hid hB
  have hT_ := Lib.hid hT
  clear S1 S2 HL E1 E2 D1 D2 P1 P2 Q1 Q2 hB hT
  have hgt : (300 : Int) < N := by omega
  have hcc : 300 ≤ cap := by omega
  have hb0 : Boxes (w.alloc (.cells (capC m r) 34)) [(w.heap.size, m, r)] := fun x hx => by
    simp only [List.mem_cons, List.mem_nil_iff, or_false] at hx
    rcases hx with rfl
    exact Blk.new w 34 (capC m r)
  have HB0 := Lib.hid hb0
  have HK0 : Hid (Kept NoBlk w (w.alloc (.cells (capC m r) 34))) := Lib.hid ((Kept.refl _ _).alloc _)
  have HC0 := Lib.hid (hB_.out.kept HK0.out)
  clear hb0 hB_
  unfold capC at HC0 HB0 HK0
  go_enter Tryd.func7, Tryd.ntmps7
  go_wp2_with fail
  refine (S1_.out _).mono ?_
  rintro e w1 ⟨rfl, rfl⟩
  go_wp2_with fail
  refine (S2_.out _).mono ?_
  rintro e w1 ⟨rfl, rfl⟩
  go_wp2_with fail
  refine (E1_.out _).mono ?_
  rintro e w1 ⟨hk, v1, rfl, hcv⟩
  have HKX := HK0.out.trans hk
  have HBX := HB0.out.kept hk
  obtain ⟨a10, d10⟩ := cap_cells (HBX (w.heap.size, m, r) (by simp))
  have l10 := (HBX (w.heap.size, m, r) (by simp)).lt
  have HCX := HC0.out.kept hk
  have HPX := hcv
  have HC1 := Lib.hid HCX
  have HP1 := Lib.hid HPX
  have HK1 := Lib.hid HKX
  have HB1 := Lib.hid HBX
  clear hk HKX HBX HK0 HB0 HCX HPX HC0 
  clear hcv
  go_wp2_with fail
  refine (E2_.out _ (hT_.out.kept HK1.out)).mono ?_
  rintro e w2 ⟨hk, v2, rfl, hcv⟩
  have HKX := HK1.out.trans hk
  have HBX := HB1.out.kept hk
  have HCX := HC1.out.kept hk
  have HPX := HP1.out.kept hk
  have HQX := hcv
  have HC2 := Lib.hid HCX
  have HP2 := Lib.hid HPX
  have HQ2 := Lib.hid HQX
  have HK2 := Lib.hid HKX
  have HB2 := Lib.hid HBX
  clear hk HKX HBX HK1 HB1 HCX HPX HQX HC1 HP1 a10 d10 l10
  clear hcv
  go_wp2_with fail
  refine (D1_.out _ HC2.out).mono ?_
  rintro e w3 ⟨rfl, hk⟩
  have HKX := HK2.out.trans hk
  have HBX := HB2.out.kept hk
  have HCX := HC2.out.kept hk
  have HPX := HP2.out.kept hk
  have HQX := HQ2.out.kept hk
  have HC3 := Lib.hid (HCX.kept ((Kept.refl NoBlk _).alloc (.cells (capC n2 r2) 34)))
  have HP3 := Lib.hid (HPX.kept ((Kept.refl NoBlk _).alloc (.cells (capC n2 r2) 34)))
  have HQ3 := Lib.hid (HQX.kept ((Kept.refl NoBlk _).alloc (.cells (capC n2 r2) 34)))
  have HK3 := Lib.hid (HKX.alloc (.cells (capC n2 r2) 34))
  have HB3 := Lib.hid (HBX.more n2 r2)
  unfold capC at HK3 HB3 HC3 HP3 HQ3
  clear hk HKX HBX HK2 HB2 HCX HPX HQX HC2 HP2 HQ2 
  go_wp2_with fail
  refine (D2_.out _ HC3.out (hT_.out.kept HK3.out)).mono ?_
  rintro e w4 ⟨rfl, hk⟩
  have HKX := HK3.out.trans hk
  have HBX := HB3.out.kept hk
  obtain ⟨a40, d40⟩ := cap_cells (HBX (w.heap.size, m, r) (by simp))
  have l40 := (HBX (w.heap.size, m, r) (by simp)).lt
  have HCX := HC3.out.kept hk
  have HPX := HP3.out.kept hk
  have HQX := HQ3.out.kept hk
  have HC4 := Lib.hid (HCX.kept ((Kept.refl NoBlk _).alloc (.cells (capC n2 r2) 34)))
  have HP4 := Lib.hid (HPX.kept ((Kept.refl NoBlk _).alloc (.cells (capC n2 r2) 34)))
  have HQ4 := Lib.hid (HQX.kept ((Kept.refl NoBlk _).alloc (.cells (capC n2 r2) 34)))
  have HK4 := Lib.hid (HKX.alloc (.cells (capC n2 r2) 34))
  have HB4 := Lib.hid (HBX.more n2 r2)
  unfold capC at HK4 HB4 HC4 HP4 HQ4
  clear hk HKX HBX HK3 HB3 HCX HPX HQX HC3 HP3 HQ3 
  go_wp2_with fail
  refine (P1_.out _).mono ?_
  rintro e w5 ⟨rfl, hk⟩
  have HKX := HK4.out.trans hk
  have HBX := HB4.out.kept hk
  obtain ⟨a50, d50⟩ := cap_cells (HBX (w.heap.size, m, r) (by simp))
  have l50 := (HBX (w.heap.size, m, r) (by simp)).lt
  have HCX := HC4.out.kept hk
  have HPX := HP4.out.kept hk
  have HQX := HQ4.out.kept hk
  have HC5 := Lib.hid HCX
  have HP5 := Lib.hid HPX
  have HQ5 := Lib.hid HQX
  have HK5 := Lib.hid HKX
  have HB5 := Lib.hid HBX
  clear hk HKX HBX HK4 HB4 HCX HPX HQX HC4 HP4 HQ4 a40 d40 l40
  go_wp2_with fail
  refine (P2_.out _ (hT_.out.kept HK5.out)).mono ?_
  rintro e w6 ⟨rfl, hk⟩
  have HKX := HK5.out.trans hk
  have HBX := HB5.out.kept hk
  have HCX := HC5.out.kept hk
  have HPX := HP5.out.kept hk
  have HQX := HQ5.out.kept hk
  have HC6 := Lib.hid HCX
  have HP6 := Lib.hid HPX
  have HQ6 := Lib.hid HQX
  have HK6 := Lib.hid HKX
  have HB6 := Lib.hid HBX
  clear hk HKX HBX HK5 HB5 HCX HPX HQX HC5 HP5 HQ5 a50 d50 l50
  go_wp2_with fail
  refine (Q1_.out _).mono ?_
  rintro e w7 ⟨rfl, hk⟩
  have HKX := HK6.out.trans hk
  have HBX := HB6.out.kept hk
  have HCX := HC6.out.kept hk
  have HPX := HP6.out.kept hk
  have HQX := HQ6.out.kept hk
  have HC7 := Lib.hid (HCX.kept ((Kept.refl NoBlk _).alloc (.cells (capC n3 r3) 34)))
  have HP7 := Lib.hid (HPX.kept ((Kept.refl NoBlk _).alloc (.cells (capC n3 r3) 34)))
  have HQ7 := Lib.hid (HQX.kept ((Kept.refl NoBlk _).alloc (.cells (capC n3 r3) 34)))
  have HK7 := Lib.hid (HKX.alloc (.cells (capC n3 r3) 34))
  have HB7 := Lib.hid (HBX.more n3 r3)
  unfold capC at HK7 HB7 HC7 HP7 HQ7
  clear hk HKX HBX HK6 HB6 HCX HPX HQX HC6 HP6 HQ6 
  go_wp2_with fail
  refine (Q2_.out _ (hT_.out.kept HK7.out)).mono ?_
  rintro e w8 ⟨rfl, hk⟩
  have HKX := HK7.out.trans hk
  have HBX := HB7.out.kept hk
  have HCX := HC7.out.kept hk
  have HPX := HP7.out.kept hk
  have HQX := HQ7.out.kept hk
  have HC8 := Lib.hid (HCX.kept ((Kept.refl NoBlk _).alloc (.cells (capC n3 r3) 34)))
  have HP8 := Lib.hid (HPX.kept ((Kept.refl NoBlk _).alloc (.cells (capC n3 r3) 34)))
  have HQ8 := Lib.hid (HQX.kept ((Kept.refl NoBlk _).alloc (.cells (capC n3 r3) 34)))
  have HK8 := Lib.hid (HKX.alloc (.cells (capC n3 r3) 34))
  have HB8 := Lib.hid (HBX.more n3 r3)
  unfold capC at HK8 HB8 HC8 HP8 HQ8
  clear hk HKX HBX HK7 HB7 HCX HPX HQX HC7 HP7 HQ7 
  go_wp2_with fail
  refine (HL_.out _).mono ?_
  rintro e w9 ⟨rfl, hk⟩
  have HKX := HK8.out.trans hk
  have HBX := HB8.out.kept hk
  obtain ⟨a90, d90⟩ := cap_cells (HBX (w3.heap.size, n2, r2) (by simp))
  have l90 := (HBX (w3.heap.size, n2, r2) (by simp)).lt
  obtain ⟨a91, d91⟩ := cap_cells (HBX (w4.heap.size, n2, r2) (by simp))
  have l91 := (HBX (w4.heap.size, n2, r2) (by simp)).lt
  obtain ⟨a92, d92⟩ := cap_cells (HBX (w7.heap.size, n3, r3) (by simp))
  have l92 := (HBX (w7.heap.size, n3, r3) (by simp)).lt
  obtain ⟨a93, d93⟩ := cap_cells (HBX (w8.heap.size, n3, r3) (by simp))
  have l93 := (HBX (w8.heap.size, n3, r3) (by simp)).lt
  have HCX := HC8.out.kept hk
  have HPX := HP8.out.kept hk
  have HQX := HQ8.out.kept hk
  have cvHC := conv_cells HCX
  have cvHP := conv_cells HPX
  have cvHQ := conv_cells HQX
  have HC9 := Lib.hid HCX
  have HP9 := Lib.hid HPX
  have HQ9 := Lib.hid HQX
  have HK9 := Lib.hid HKX
  have HB9 := Lib.hid HBX
  clear hk HKX HBX HK8 HB8 HCX HPX HQX HC8 HP8 HQ8 
  have hE1 := fun w => run_eql_cap w
  have hE2 := fun w => run_eqGuard_cap w
  go_wp2
  go_ret
  exact ⟨by simp, HK9.out⟩
theorem lawCodes_any (w : World) (n : ByteArray) (r0 : Int) (vb : Value) (lb : List UInt8) (s : ByteArray) (hn : n.size ≤ maxLen) (h0 : 0 ≤ r0) (h1 : r0 < 256) (hb : CellsB w vb lb) (hs : s.size ≤ maxLen) (hT : Tabs w) : Calls Tryd.prog 7 #[capV n r0, vb, .string s] w (TrueKeptJ w) := by
  obtain ⟨r, rfl⟩ := Int.eq_ofNat_of_zero_le h0
  have hr : r < 256 := by omega
  have S1 := fun w => short_any w n hn
  have S2 := fun w => short_any w s hs
  have HL := fun w => live_any w
  have hm : (cut300 n).size ≤ 1000 := by have := cut300_size n; omega
  have ht : (cut300 s).size ≤ 1000 := by have := cut300_size s; omega
  generalize cut300 n = m at *
  generalize cut300 s = t at *
  have E1 := fun w => (encode_any w m r hm hr).mono fun e w' h => (⟨h.1, encode_two h.2⟩ : Kept NoBlk w w' ∧ ∃ v, e = .returned (.tuple #[v, .int .i64 (encE m r)]) ∧ CellsB w' v (encB m r))
  have E2 := fun w hT => (rencode_any w m r hm hr hT).mono fun e w' h => (⟨h.1, encode_two h.2⟩ : Kept NoBlk w w' ∧ ∃ v, e = .returned (.tuple #[v, .int .i64 (encE m r)]) ∧ CellsB w' v (encB m r))
  have P1 := fun w => print_any w m r hm hr
  have P2 := fun w hT => rprint_any w m r hm hr hT
  have Q1 := fun w => parse_any w t ht
  have Q2 := fun w hT => rparse_any w t ht hT
  obtain ⟨A, cap, rfl, c1, -, -⟩ := id hb
  by_cases h3 : 300 < lb.length
  · have hb' := cells_take hb h3
    exact codes_cut w n s m t _ _ _ _ _ _ _ _ _ _ _ _ A _ cap c1 h3 hT hb' S1 S2 HL E1 E2 (fun w h => decode_any w _ _ h) (fun w h hT => rdecode_any w _ _ h (by rw [List.length_take]; omega) hT) P1 P2 Q1 Q2
  · exact codes_few w n s m t _ _ _ _ _ _ _ _ _ _ _ _ A _ cap (by omega) hT hb S1 S2 HL E1 E2 (fun w h => decode_any w _ _ h) (fun w h hT => rdecode_any w _ _ h (by omega) hT) P1 P2 Q1 Q2
end Go.Proofs.YtlaplonmbnncaaaDoor
