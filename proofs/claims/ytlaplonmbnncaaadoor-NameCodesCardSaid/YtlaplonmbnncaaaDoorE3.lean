/- The program's names: Parse. -/
import Derived.Test.YtlaplonmbnncaaaDoorE2
import Derived.Test.YtlaplonmbnncaaaDoorR1
import Derived.Shelf.RegionOpenPlain
import Derived.BigGuard
namespace Go.Proofs.YtlaplonmbnncaaaDoor
open Go.RowKit Go.Shelf
set_option maxRecDepth 100000

section
attribute [local go_sem] Oper.semAt_some
/-- strings.Cut at a space. -/
theorem cut_space (w : World) (l : List UInt8) (hl : l.length ≤ 1000) : Calls Tryd.prog 56 #[.string (mk l), .string ⟨#[32]⟩] w fun e w' => e = .returned (.tuple #[.string (mk (Lib.cut l [32]).1), .string (mk (Lib.cut l [32]).2.1), .bool (Lib.cut l [32]).2.2]) ∧ Kept NoBlk w w' ∧ ∃ n, w' = w.drewN n := by
  have H : Calls Tryd.prog 68 #[.string (mk l), .string ⟨#[32]⟩] w fun e w' => e = .returned (.tuple #[.string (mk (Lib.cut l [32]).1), .string (mk (Lib.cut l [32]).2.1), .bool (Lib.cut l [32]).2.2]) ∧ ∃ n, w' = w.drewN n := by
    have HI := Lib.hid (Tryd.stringslite_Index_one (mk l) 32 w)
    rw [mk_list, ← Lib.index_one] at HI
    rcases Lib.index_spec l [32] with ⟨h1, -⟩ | ⟨i, h1, h2, h3, -⟩
    · have e : Lib.cut l [32] = (l, [], false) := by unfold Lib.cut; rw [h1, if_neg (by decide)]
      rw [e]
      rw [h1] at HI
      go_enter Tryd.func68, Tryd.ntmps68
      go_wp2_with fail
      refine HI.out.mono ?_
      rintro x w1 ⟨rfl, rfl⟩
      go_wp2
      go_ret3
      exact ⟨rfl, 0, rfl⟩
    · have hr := Lib.index_room l [32] (by rw [h1]; omega)
      rw [h1, List.length_singleton] at hr
      have hsz : (mk l).size = l.length := mk_size l
      have e : Lib.cut l [32] = (l.take i, l.drop (i + 1), true) := by
        unfold Lib.cut
        rw [h1, if_pos (by omega)]
        simp
      rw [e]
      rw [h1] at HI
      have c1 : (0 : Int) ≤ i := by omega
      have c2 : (i : Int) ≤ (mk l).size := by omega
      have c3 : (0 : Int) ≤ (i : Int) + 1 := by omega
      have c4 : (i : Int) + 1 ≤ (mk l).size := by omega
      have c5 : (i : Int) ≤ 1000 := by omega
      have e1 : (mk l).extract 0 i = mk (l.take i) := by rw [Lib.extract_eq, mk_list, List.drop_zero, Nat.sub_zero]; rfl
      have e2 : (mk l).extract (i + 1) (mk l).size = mk (l.drop (i + 1)) := extract_mk l (i + 1)
      rw [← e1, ← e2]
      have mixed : Tryd.prog.follows Departure.mixedOrders = true := by kernel_rfl
      clear e e1 e2 h3 hr h2 hsz h1
      generalize mk l = s at *
      go_enter Tryd.func68, Tryd.ntmps68
      go_wp2_with fail
      refine HI.out.mono ?_
      rintro x w1 ⟨rfl, rfl⟩
      go_wp2
      go_region_o
      go_wp2
      go_ret3
      exact ⟨rfl, 1, rfl⟩
  go_enter Tryd.func56, Tryd.ntmps56
  go_wp2_with fail
  refine H.mono ?_
  rintro x w1 ⟨rfl, n, rfl⟩
  go_wp2
  go_ret3
  exact ⟨rfl, (Kept.refl _ _).drewN _, n, rfl⟩
end
set_option maxHeartbeats 2000000 in
/-- No space stands in the text, or what stands behind it is no rights. -/
theorem parse_bad (w : World) (s x y : ByteArray) (ok : Bool) (c g : Int) (hC : ∀ w : World, Calls Tryd.prog 56 #[.string s, .string ⟨#[32]⟩] w fun e w' => e = .returned (.tuple #[.string x, .string y, .bool ok]) ∧ Kept NoBlk w w' ∧ ∃ n, w' = w.drewN n)
    (hR : ∀ w : World, Calls Tryd.prog 57 #[.string y] w fun e w' => e = .returned (.tuple #[.int .u8 c, .int .i64 g]) ∧ Kept NoBlk w w') (hbad : (!ok || (g != 0)) = true) :
    Calls Tryd.prog 42 #[.string s] w fun e w' => e = .returned (outV (⟨#[]⟩, 0, 3)) ∧ Kept NoBlk w w' := by
  have HC := Lib.hid hC
  have HR := Lib.hid hR
  clear hC hR
  unfold outV capV
  have hlo : w.heap.size ≤ w.heap.size := Nat.le_refl _
  have hb0 : Blk (w.alloc (.cells (capC ⟨#[]⟩ 0) 34)) w.heap.size 34 (capC ⟨#[]⟩ 0) := Blk.new _ _ _
  have hk0 : Kept NoBlk w (w.alloc (.cells (capC ⟨#[]⟩ 0) 34)) := (Kept.refl _ _).alloc _
  have HB0 := Lib.hid hb0
  have HK0 := Lib.hid hk0
  clear hb0 hk0
  unfold capC at HB0 HK0
  have FIN : Hid (∀ (w1 : World) (n' : ByteArray) (r' : Int), Blk w1 w.heap.size 34 (capC ⟨#[]⟩ 0) → Kept NoBlk w w1 →
      Hid (((w1.setCell ⟨w.heap.size, 0, none⟩ (.string n')).setCell ⟨w.heap.size, 1, none⟩ (.int .u8 r')).cell? ⟨w.heap.size, 0, none⟩ = some (.string n')) ∧
      Hid (((w1.setCell ⟨w.heap.size, 0, none⟩ (.string n')).setCell ⟨w.heap.size, 1, none⟩ (.int .u8 r')).cell? ⟨w.heap.size, 1, none⟩ = some (.int .u8 r')) ∧
      Hid (Kept NoBlk w ((w1.setCell ⟨w.heap.size, 0, none⟩ (.string n')).setCell ⟨w.heap.size, 1, none⟩ (.int .u8 r')))) :=
    Lib.hid fun w1 n' r' h1 h2 => by
      obtain ⟨z0, z1⟩ := cap_cells (cap_stored (n' := n') (r' := r') h1)
      exact ⟨Lib.hid z0, Lib.hid z1, Lib.hid ((h2.setCell (newHit hlo) _).setCell (newHit hlo) _)⟩
  go_enter Tryd.func42, Tryd.ntmps42
  go_wp2_with fail
  refine (HC.out _).mono ?_
  rintro e w1 ⟨rfl, hk1, -⟩
  have HK1 := Lib.hid (HK0.out.trans hk1)
  have Q1 := Lib.hid (HB0.out.kept hk1 (fun e => e))
  clear hk1 HB0 HK0
  go_wp2_with fail
  refine (HR.out _).mono ?_
  rintro e w2 ⟨rfl, hk2⟩
  have HK2 := Lib.hid (HK1.out.trans hk2)
  have Q2 := Lib.hid (Q1.out.kept hk2 (fun e => e))
  clear hk2 Q1 HK1
  obtain ⟨c0, c1⟩ := cap_cells (Q2.out.alloc (.cells #[.string x, .int .u8 c] 34))
  have fr := (Q2.out.alloc (.cells #[.string x, .int .u8 c] 34)).frozen
  obtain ⟨Z0, Z1, ZK⟩ := FIN.out (w2.alloc (.cells #[.string x, .int .u8 c] 34)) ⟨#[]⟩ 0 (Q2.out.alloc _) (HK2.out.alloc _)
  clear Q2 HK2
  cases ok with
  | false =>
    go_wp2
    refine bodyPost_ret (v := .tuple #[.agg #[.string ⟨#[]⟩, .int .u8 0], .int .i64 3]) (by simp [results, Tryd.f42, go_sem, Z0.out, Z1.out]) rfl ⟨rfl, ZK.out⟩
  | true =>
    have hg : (g != 0) = true := by simpa using hbad
    go_wp2
    refine bodyPost_ret (v := .tuple #[.agg #[.string ⟨#[]⟩, .int .u8 0], .int .i64 3]) (by simp [results, Tryd.f42, go_sem, Z0.out, Z1.out]) rfl ⟨rfl, ZK.out⟩
set_option maxHeartbeats 2000000 in
theorem parse_good (w : World) (s x y : ByteArray) (c : Int) (hx : x.size ≤ 1000) (hC : ∀ w : World, Calls Tryd.prog 56 #[.string s, .string ⟨#[32]⟩] w fun e w' => e = .returned (.tuple #[.string x, .string y, .bool true]) ∧ Kept NoBlk w w' ∧ ∃ n, w' = w.drewN n)
    (hR : ∀ w : World, Calls Tryd.prog 57 #[.string y] w fun e w' => e = .returned (.tuple #[.int .u8 c, .int .i64 0]) ∧ Kept NoBlk w w') :
    Calls Tryd.prog 42 #[.string s] w fun e w' => e = .returned (outV (if rightB x c = true then (x, c, 0) else (⟨#[]⟩, 0, 3))) ∧ Kept NoBlk w w' := by
  have H1 := Lib.hid (fun w => right_any w x c hx)
  generalize rightB x c = br at *
  have HC := Lib.hid hC
  have HR := Lib.hid hR
  clear hC hR
  unfold capV at H1
  unfold outV capV
  have hlo : w.heap.size ≤ w.heap.size := Nat.le_refl _
  have hb0 : Blk (w.alloc (.cells (capC ⟨#[]⟩ 0) 34)) w.heap.size 34 (capC ⟨#[]⟩ 0) := Blk.new _ _ _
  have hk0 : Kept NoBlk w (w.alloc (.cells (capC ⟨#[]⟩ 0) 34)) := (Kept.refl _ _).alloc _
  have HB0 := Lib.hid hb0
  have HK0 := Lib.hid hk0
  clear hb0 hk0
  unfold capC at HB0 HK0
  have FIN : Hid (∀ (w1 : World) (n' : ByteArray) (r' : Int), Blk w1 w.heap.size 34 (capC ⟨#[]⟩ 0) → Kept NoBlk w w1 →
      Hid (((w1.setCell ⟨w.heap.size, 0, none⟩ (.string n')).setCell ⟨w.heap.size, 1, none⟩ (.int .u8 r')).cell? ⟨w.heap.size, 0, none⟩ = some (.string n')) ∧
      Hid (((w1.setCell ⟨w.heap.size, 0, none⟩ (.string n')).setCell ⟨w.heap.size, 1, none⟩ (.int .u8 r')).cell? ⟨w.heap.size, 1, none⟩ = some (.int .u8 r')) ∧
      Hid (Kept NoBlk w ((w1.setCell ⟨w.heap.size, 0, none⟩ (.string n')).setCell ⟨w.heap.size, 1, none⟩ (.int .u8 r')))) :=
    Lib.hid fun w1 n' r' h1 h2 => by
      obtain ⟨z0, z1⟩ := cap_cells (cap_stored (n' := n') (r' := r') h1)
      exact ⟨Lib.hid z0, Lib.hid z1, Lib.hid ((h2.setCell (newHit hlo) _).setCell (newHit hlo) _)⟩
  go_enter Tryd.func42, Tryd.ntmps42
  go_wp2_with fail
  refine (HC.out _).mono ?_
  rintro e w1 ⟨rfl, hk1, -⟩
  have HK1 := Lib.hid (HK0.out.trans hk1)
  have Q1 := Lib.hid (HB0.out.kept hk1 (fun e => e))
  clear hk1 HB0 HK0
  go_wp2_with fail
  refine (HR.out _).mono ?_
  rintro e w2 ⟨rfl, hk2⟩
  have HK2 := Lib.hid (HK1.out.trans hk2)
  have Q2 := Lib.hid (Q1.out.kept hk2 (fun e => e))
  clear hk2 Q1 HK1
  have hs2 := Q2.out.lt
  have Q3 := Lib.hid (Q2.out.alloc (.cells #[.string x, .int .u8 c] 34))
  have Q4 : Hid (Blk (w2.alloc (.cells #[.string x, .int .u8 c] 34)) w2.heap.size 34 (capC x c)) := Lib.hid (Blk.new _ _ _)
  have HK3 := Lib.hid (HK2.out.alloc (.cells #[.string x, .int .u8 c] 34))
  clear Q2 HK2
  go_wp2_with fail
  refine (H1.out _).mono ?_
  rintro e w3 ⟨rfl, hk3⟩
  have q3 := Q3.out.kept hk3 (fun e => e)
  have q4 := Q4.out.kept hk3 (fun e => e)
  have HK4 := HK3.out.trans hk3
  obtain ⟨c0, c1⟩ := cap_cells q3
  obtain ⟨d0, d1⟩ := cap_cells q4
  have fr := q3.frozen
  have fr4 := q4.frozen
  cases br with
  | false =>
    obtain ⟨Z0, Z1, ZK⟩ := FIN.out w3 ⟨#[]⟩ 0 q3 HK4
    clear q3 q4 Q3 Q4 HK3 hk3
    go_wp2
    refine bodyPost_ret (v := .tuple #[.agg #[.string ⟨#[]⟩, .int .u8 0], .int .i64 3]) (by simp [results, Tryd.f42, go_sem, Z0.out, Z1.out]) rfl ⟨rfl, ZK.out⟩
  | true =>
    obtain ⟨Z0, Z1, ZK⟩ := FIN.out w3 x c q3 HK4
    clear q3 q4 Q3 Q4 HK3 hk3
    go_wp2
    refine bodyPost_ret (v := .tuple #[.agg #[.string x, .int .u8 c], .int .i64 0]) (by simp [results, Tryd.f42, go_sem, Z0.out, Z1.out]) rfl ⟨rfl, ZK.out⟩
theorem parse_any (w : World) (s : ByteArray) (hs : s.size ≤ 1000) : Calls Tryd.prog 42 #[.string s] w fun e w' => e = .returned (outV (parP s)) ∧ Kept NoBlk w w' := by
  have hl : s.data.toList.length ≤ 1000 := hs
  have hC := fun w => cut_space w s.data.toList hl
  rw [cut_sp, mk_of] at hC
  unfold parP
  cases hsp : sp s.data.toList with
  | none =>
    rw [hsp] at hC
    simp only at hC ⊢
    exact parse_bad w s _ _ false _ _ hC (fun w => readRights_any w _) rfl
  | some p =>
    obtain ⟨a, b⟩ := p
    rw [hsp] at hC
    simp only at hC ⊢
    have hR := fun w => readRights_any w (mk b)
    unfold readP at hR
    cases hq : readO (mk b) with
    | none =>
      rw [hq] at hR
      simp only at hR ⊢
      exact parse_bad w s _ _ true _ _ hC hR rfl
    | some q =>
      rw [hq] at hR
      simp only at hR ⊢
      have ha : (mk a).size ≤ 1000 := by
        have e := (sp_some _ _ _ hsp).1
        have : s.data.toList.length = a.length + (b.length + 1) := by rw [e]; simp
        rw [mk_size]
        omega
      exact parse_good w s _ _ _ ha hC hR
end Go.Proofs.YtlaplonmbnncaaaDoor
