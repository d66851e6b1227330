/- The program's names: Opens, Restrict; texts cut short. -/
import Derived.Test.YtlaplonmbnncaaaDoorN5
namespace Go.Proofs.YtlaplonmbnncaaaDoor
open Go.RowKit Go.Shelf
set_option maxRecDepth 100000

def capC (n : ByteArray) (r : Int) : Array Value := #[.string n, .int .u8 r]
def opensB (n : ByteArray) (r : Int) (n' : ByteArray) (r' : Int) : Bool := rightB n r && rightB n' r' && (bits .andNot .u8 r' r == 0) && aboveB n n'
theorem cap_cells {w : World} {b : Nat} {n : ByteArray} {r : Int} (h : Blk w b 34 (capC n r)) : w.cell? ⟨b, 0, none⟩ = some (.string n) ∧ w.cell? ⟨b, 1, none⟩ = some (.int .u8 r) := ⟨h.cell 0, h.cell 1⟩
set_option maxHeartbeats 2000000 in
theorem opens_any (w : World) (n : ByteArray) (r : Int) (n' : ByteArray) (r' : Int) (hn : n.size ≤ 1000) (hn' : n'.size ≤ 1000) : Calls Tryd.prog 21 #[capV n r, capV n' r'] w fun e w' => e = .returned (.bool (opensB n r n' r')) ∧ Kept NoBlk w w' := by
  have H1 := Lib.hid (fun w => right_any w n r hn)
  have H2 := Lib.hid (fun w => right_any w n' r' hn')
  have H3 := Lib.hid (fun w => above_any w n n' hn hn')
  have HO : opensB n r n' r' = (rightB n r && rightB n' r' && (bits .andNot .u8 r' r == 0) && aboveB n n') := rfl
  rw [HO]
  clear HO
  generalize rightB n r = b1 at *
  generalize rightB n' r' = b2 at *
  generalize aboveB n n' = b3 at *
  unfold capV at H1 H2 ⊢
  have hb0 : Blk ((w.alloc (.cells (capC n r) 34)).alloc (.cells (capC n' r') 34)) w.heap.size 34 (capC n r) := (Blk.new _ _ _).alloc _
  have hb1 : Blk ((w.alloc (.cells (capC n r) 34)).alloc (.cells (capC n' r') 34)) (w.heap.size + 1) 34 (capC n' r') := Blk.new_at _ _ _ (by simp)
  have hk0 : Kept NoBlk w ((w.alloc (.cells (capC n r) 34)).alloc (.cells (capC n' r') 34)) := ((Kept.refl _ _).alloc _).alloc _
  have HB0 := Lib.hid hb0
  have HB1 := Lib.hid hb1
  have HK0 := Lib.hid hk0
  clear hb0 hb1 hk0
  unfold capC at HB0 HB1 HK0
  go_enter Tryd.func21, Tryd.ntmps21
  go_wp2_with fail
  refine (H1.out _).mono ?_
  rintro e w1 ⟨rfl, hk1⟩
  have HK1 := Lib.hid (HK0.out.trans hk1)
  have q0 := HB0.out.kept hk1 (fun e => e)
  have q1 := HB1.out.kept hk1 (fun e => e)
  obtain ⟨a0, a1⟩ := cap_cells q0
  obtain ⟨c0, c1⟩ := cap_cells q1
  have Q0 := Lib.hid q0
  have Q1 := Lib.hid q1
  clear hk1 q0 q1 HB0 HB1 HK0
  cases b1 with
  | false =>
    go_wp2
    go_ret
    exact ⟨by simp, HK1.out⟩
  | true =>
    go_wp2_with fail
    refine (H2.out _).mono ?_
    rintro e w2 ⟨rfl, hk2⟩
    have HK2 := Lib.hid (HK1.out.trans hk2)
    obtain ⟨d0, d1⟩ := cap_cells (Q0.out.kept hk2 (fun e => e))
    obtain ⟨f0, f1⟩ := cap_cells (Q1.out.kept hk2 (fun e => e))
    clear hk2 Q0 Q1 HK1 a0 a1 c0 c1
    cases b2 with
    | false =>
      go_wp2
      go_ret
      exact ⟨by simp, HK2.out⟩
    | true =>
      generalize hd : bits .andNot .u8 r' r = d at *
      by_cases h0 : d = 0
      · subst h0
        go_wp2_with fail
        refine (H3.out _).mono ?_
        rintro e w3 ⟨rfl, hk3⟩
        have HK3 := Lib.hid (HK2.out.trans hk3)
        clear hk3
        go_wp2
        go_ret
        exact ⟨by simp [hd], HK3.out⟩
      · have h0' : (d == 0) = false := beq_eq_false_iff_ne.2 h0
        clear h0
        go_wp2
        go_ret
        exact ⟨by rw [hd, h0']; simp, HK2.out⟩

def cut300 (s : ByteArray) : ByteArray := if 300 < s.size then s.extract 0 300 else s
theorem cut300_size (s : ByteArray) : (cut300 s).size ≤ 300 := by
  unfold cut300
  split
  · rw [ByteArray.size_extract]; omega
  · omega
theorem short_any (w : World) (s : ByteArray) (hs : s.size ≤ maxLen) : Calls Tryd.prog 14 #[.string s] w fun e w' => e = .returned (.string (cut300 s)) ∧ w = w' := by
  unfold cut300
  have hmax : (s.size : Int) ≤ 9223372036854775807 := by unfold maxLen at hs; omega
  by_cases h : 300 < s.size
  · rw [if_pos h]
    have h' : (300 : Int) < s.size := by omega
    have hsl := fun w => sl_to w s 300 (by omega) (by omega)
    go_enter Tryd.func14, Tryd.ntmps14
    go_wp2
    go_ret
    exact ⟨rfl, rfl⟩
  · rw [if_neg h]
    have h' : (s.size : Int) ≤ 300 := by omega
    go_enter Tryd.func14, Tryd.ntmps14
    go_wp2
    go_ret
    exact ⟨rfl, rfl⟩

/-- What Restrict hands back: a capability, and the error. -/
def restrV (n : ByteArray) (r q : Int) : Value := if rightB n r = true ∧ q ≤ 31 then .tuple #[capV n (bits .and .u8 r q), .int .i64 0] else .tuple #[capV ⟨#[]⟩ 0, .int .i64 3]
theorem cap_stored {w : World} {b : Nat} {n n' : ByteArray} {r r' : Int} (h : Blk w b 34 (capC n r)) : Blk ((w.setCell ⟨b, 0, none⟩ (.string n')).setCell ⟨b, 1, none⟩ (.int .u8 r')) b 34 (capC n' r') :=
  Blk.cast ((h.set_ 0 _).set_ 1 _) (by simp [capC])
set_option maxHeartbeats 1000000 in
theorem restrict_any (w : World) (n : ByteArray) (r q : Int) (hn : n.size ≤ 1000) : Calls Tryd.prog 15 #[capV n r, .int .u8 q] w fun e w' => e = .returned (restrV n r q) ∧ Kept NoBlk w w' := by
  have H1 := Lib.hid (fun w => right_any w n r hn)
  obtain ⟨V, hV⟩ : ∃ V, restrV n r q = V := ⟨_, rfl⟩
  rw [hV]
  unfold restrV at hV
  generalize rightB n r = b1 at *
  have HV := Lib.hid hV.symm
  clear hV
  unfold capV at H1 ⊢
  have hb0 : Blk ((w.alloc (.cells (capC n r) 34)).alloc (.cells (capC ⟨#[]⟩ 0) 34)) w.heap.size 34 (capC n r) := (Blk.new _ _ _).alloc _
  have hb1 : Blk ((w.alloc (.cells (capC n r) 34)).alloc (.cells (capC ⟨#[]⟩ 0) 34)) (w.heap.size + 1) 34 (capC ⟨#[]⟩ 0) := Blk.new_at _ _ _ (by simp)
  have hk0 : Kept NoBlk w ((w.alloc (.cells (capC n r) 34)).alloc (.cells (capC ⟨#[]⟩ 0) 34)) := ((Kept.refl _ _).alloc _).alloc _
  have HB0 := Lib.hid hb0
  have HB1 := Lib.hid hb1
  have HK0 := Lib.hid hk0
  clear hb0 hb1 hk0
  unfold capC at HB0 HB1 HK0
  go_enter Tryd.func15, Tryd.ntmps15
  go_wp2_with fail
  refine (H1.out _).mono ?_
  rintro e w1 ⟨rfl, hk1⟩
  have HK1 := Lib.hid (HK0.out.trans hk1)
  have q0 := HB0.out.kept hk1 (fun e => e)
  have q1 := HB1.out.kept hk1 (fun e => e)
  obtain ⟨a0, a1⟩ := cap_cells q0
  obtain ⟨c0, c1⟩ := cap_cells q1
  have fr := q1.frozen
  have Q1 := Lib.hid q1
  clear hk1 q0 q1 HB0 HB1 HK0
  have hlo : w.heap.size ≤ w.heap.size + 1 := by omega
  cases b1 with
  | false =>
    obtain ⟨z0, z1⟩ := cap_cells (cap_stored (n' := ⟨#[]⟩) (r' := 0) Q1.out)
    have Z0 := Lib.hid z0
    have Z1 := Lib.hid z1
    clear z0 z1
    go_wp2
    refine bodyPost_ret (v := .tuple #[.agg #[.string ⟨#[]⟩, .int .u8 0], .int .i64 3]) (by simp [results, Tryd.f15, go_sem, Z0.out, Z1.out]) rfl ⟨by rw [HV.out, if_neg (by simp)]; rfl, (HK1.out.setCell (newHit hlo) _).setCell (newHit hlo) _⟩
  | true =>
    by_cases hq : q ≤ 31
    · obtain ⟨z0, z1⟩ := cap_cells (cap_stored (n' := n) (r' := bits .and .u8 r q) Q1.out)
      have Z0 := Lib.hid z0
      have Z1 := Lib.hid z1
      clear z0 z1
      go_wp2
      refine bodyPost_ret (v := .tuple #[.agg #[.string n, .int .u8 (bits .and .u8 r q)], .int .i64 0]) (by simp [results, Tryd.f15, go_sem, Z0.out, Z1.out]) rfl ⟨by rw [HV.out, if_pos ⟨trivial, hq⟩]; rfl, (HK1.out.setCell (newHit hlo) _).setCell (newHit hlo) _⟩
    · have hq' : 31 < q := by omega
      obtain ⟨z0, z1⟩ := cap_cells (cap_stored (n' := ⟨#[]⟩) (r' := 0) Q1.out)
      have Z0 := Lib.hid z0
      have Z1 := Lib.hid z1
      clear z0 z1
      go_wp2
      refine bodyPost_ret (v := .tuple #[.agg #[.string ⟨#[]⟩, .int .u8 0], .int .i64 3]) (by simp [results, Tryd.f15, go_sem, Z0.out, Z1.out]) rfl ⟨by rw [HV.out, if_neg (fun h => absurd h.2 (by omega))]; rfl, (HK1.out.setCell (newHit hlo) _).setCell (newHit hlo) _⟩
end Go.Proofs.YtlaplonmbnncaaaDoor
