/- The program's names: Print; what must be whatever is asked. -/
import Derived.Test.YtlaplonmbnncaaaDoorN9
namespace Go.Proofs.YtlaplonmbnncaaaDoor
open Go.RowKit Go.Shelf
set_option maxRecDepth 100000

def printP (n : ByteArray) (r : Nat) : ByteArray × Int := if rightB n r = true then (n ++ ⟨#[32]⟩ ++ rightsS r, 0) else (⟨#[]⟩, 3)
theorem rightsS_size (r : Nat) : (rightsS r).size ≤ 5 := by
  have := rightsTo_len r 5
  unfold rightsS
  split
  · decide
  · rw [mk_size]; exact this
theorem rightB_parts {n : ByteArray} {r : Int} (h : rightB n r = true) : n.size ≤ 79 ∧ r ≤ 31 := by
  unfold rightB at h
  rw [Bool.and_eq_true] at h
  obtain ⟨l, hl⟩ := Option.isSome_iff_exists.1 h.1
  exact ⟨splitO_size n l hl, of_decide_eq_true h.2⟩
set_option maxHeartbeats 2000000 in
theorem print_any (w : World) (n : ByteArray) (r : Nat) (hn : n.size ≤ 1000) (hr : r < 256) : Calls Tryd.prog 40 #[capV n (r : Int)] w fun e w' => e = .returned (.tuple #[.string (printP n r).1, .int .i64 (printP n r).2]) ∧ Kept NoBlk w w' := by
  have H1 := Lib.hid (fun w => right_any w n r hn)
  have H2 := Lib.hid (fun w => rights_any w r hr)
  obtain ⟨V, hV⟩ : ∃ V, printP n r = V := ⟨_, rfl⟩
  rw [hV]
  unfold printP at hV
  cases hb : rightB n r with
  | false =>
    rw [hb] at hV H1
    rw [if_neg (by decide)] at hV
    subst hV
    clear H2 hb
    unfold capV at H1 ⊢
    go_enter Tryd.func40, Tryd.ntmps40
    go_wp2_with fail
    refine (H1.out _).mono ?_
    rintro e w1 ⟨rfl, hk1⟩
    go_wp2
    go_ret2
    exact ⟨rfl, Kept.trans ((Kept.refl _ _).alloc _) hk1⟩
  | true =>
    obtain ⟨h79, h31⟩ := rightB_parts hb
    have hrs := rightsS_size r
    rw [hb] at hV H1
    rw [if_pos rfl] at hV
    have hrp : rightsP r = (rightsS r, 0) := by unfold rightsP; rw [if_neg (by omega)]
    rw [hrp] at H2
    have HV := Lib.hid hV.symm
    have hsz1 : (n ++ (⟨#[32]⟩ : ByteArray)).size = n.size + 1 := by rw [ByteArray.size_append]; rfl
    have hsz1' : (n ++ (⟨#[32]⟩ : ByteArray)).size ≤ 80 := by omega
    clear hV hb hrp h31
    generalize rightsS r = rs at *
    unfold capV at H1 ⊢
    have hb0 : Blk (w.alloc (.cells (capC n r) 34)) w.heap.size 34 (capC n r) := Blk.new _ _ _
    have HB0 := Lib.hid hb0
    have HK0 : Hid (Kept NoBlk w (w.alloc (.cells (capC n r) 34))) := Lib.hid ((Kept.refl _ _).alloc _)
    clear hb0
    unfold capC at HB0 HK0
    go_enter Tryd.func40, Tryd.ntmps40
    go_wp2_with fail
    refine (H1.out _).mono ?_
    rintro e w1 ⟨rfl, hk1⟩
    have HK1 := Lib.hid (HK0.out.trans hk1)
    have q0 := HB0.out.kept hk1 (fun e => e)
    obtain ⟨a0, a1⟩ := cap_cells q0
    have Q0 := Lib.hid q0
    clear hk1 q0 HB0 HK0
    go_wp2_with fail
    refine (H2.out _).mono ?_
    rintro e w2 ⟨rfl, hk2⟩
    have HK2 := Lib.hid (HK1.out.trans hk2)
    obtain ⟨d0, d1⟩ := cap_cells (Q0.out.kept hk2 (fun e => e))
    clear hk2 a0 a1
    generalize hm : n ++ (⟨#[32]⟩ : ByteArray) = m at *
    go_wp2
    go_ret2
    exact ⟨by rw [HV.out]; rfl, HK2.out⟩

theorem live_derive : deriveP ⟨#[47, 97]⟩ 9 ⟨#[206, 178]⟩ = (⟨#[47, 97, 47, 206, 178]⟩, 9, 0) := by decide +kernel
theorem live_print : printP ⟨#[47, 97, 47, 206, 178]⟩ 9 = (⟨#[47, 97, 47, 206, 178, 32, 114, 103]⟩, 0) := by decide +kernel
theorem live_opens : opensB ⟨#[47, 97]⟩ 1 ⟨#[47, 97, 47, 98]⟩ 1 = true := by decide +kernel
theorem live_above : aboveB ⟨#[47, 97, 98]⟩ ⟨#[47, 97]⟩ = false := by decide +kernel
set_option maxHeartbeats 2000000 in
theorem live_any (w : World) : Calls Tryd.prog 11 #[] w fun e w' => e = .returned (.bool true) ∧ Kept NoBlk w w' := by
  have H1 := Lib.hid (fun w => derive_any w ⟨#[47, 97]⟩ 9 ⟨#[206, 178]⟩ (by decide))
  rw [live_derive] at H1
  have H2 : Hid (∀ w, Calls Tryd.prog 40 #[capV ⟨#[47, 97, 47, 206, 178]⟩ 9] w fun e w' => e = .returned (.tuple #[.string (printP ⟨#[47, 97, 47, 206, 178]⟩ 9).1, .int .i64 (printP ⟨#[47, 97, 47, 206, 178]⟩ 9).2]) ∧ Kept NoBlk w w') := Lib.hid (fun w => print_any w ⟨#[47, 97, 47, 206, 178]⟩ 9 (by decide) (by decide))
  rw [live_print] at H2
  have H3 := Lib.hid (fun w => opens_any w ⟨#[47, 97]⟩ 1 ⟨#[47, 97, 47, 98]⟩ 1 (by decide) (by decide))
  rw [live_opens] at H3
  have H4 := Lib.hid (fun w => above_any w ⟨#[47, 97, 98]⟩ ⟨#[47, 97]⟩ (by decide) (by decide))
  rw [live_above] at H4
  unfold outV capV at H1
  unfold capV at H2 H3
  go_enter Tryd.func11, Tryd.ntmps11
  go_wp2_with fail
  refine (H1.out _).mono ?_
  rintro e w1 ⟨rfl, hk1⟩
  go_wp2_with fail
  refine (H2.out _).mono ?_
  rintro e w2 ⟨rfl, hk2⟩
  have HK2 := Lib.hid (Kept.trans (hk1.alloc _) hk2)
  clear hk1 hk2
  go_wp2_with fail
  refine (H3.out _).mono ?_
  rintro e w3 ⟨rfl, hk3⟩
  go_wp2_with fail
  refine (H4.out _).mono ?_
  rintro e w4 ⟨rfl, hk4⟩
  go_wp2
  go_ret
  exact ⟨rfl, (HK2.out.trans hk3).trans hk4⟩
end Go.Proofs.YtlaplonmbnncaaaDoor
