/- The program's names: what stands between the slashes, one behind the other. -/
import Derived.Test.YtfoeckaeongahaaDoorN1
import Derived.Test.YtfoeckaeongahaaDoorShelf
import Derived.Shelf.RegionOpenPlain
import Derived.BigGuard
namespace Go.Proofs.YtfoeckaeongahaaDoor
open Go.RowKit
attribute [local go_sem] Oper.semAt_some
set_option maxRecDepth 100000

theorem extract_mk (l : List UInt8) (i : Nat) : (mk l).extract i (mk l).size = mk (l.drop i) := by
  rw [Lib.extract_eq, mk_list, List.take_of_length_le (by rw [List.length_drop, mk_size]; omega)]
  rfl
theorem slash_add (l : List UInt8) : (⟨#[47]⟩ : ByteArray) ++ mk l = mk (47 :: l) := by
  rw [← mk_of ((⟨#[47]⟩ : ByteArray) ++ mk l)]
  congr 1
theorem sl_from (w : World) (s : ByteArray) (h : 1 ≤ s.size) : (Instr.slice 9 (.string s) (some (.int .i64 1)) none none).run Tryd.prog w = .ok (.string (s.extract 1 s.size)) w :=
  run_slice_string_l (P := Tryd.prog) w 9 s Tryd.underlying9 .i64 1 (by omega) (by omega)
theorem sl_to (w : World) (s : ByteArray) (i : Int) (h0 : 0 ≤ i) (h : i ≤ s.size) : (Instr.slice 9 (.string s) none (some (.int .i64 i)) none).run Tryd.prog w = .ok (.string (s.extract 0 i.toNat)) w :=
  run_slice_string_h (P := Tryd.prog) w 9 s Tryd.underlying9 .i64 i h0 h
theorem emp (s : ByteArray) : s.toList.isEmpty = decide (s.size = 0) := by
  rw [ByteArray.toList_eq, show s.size = s.data.toList.length from rfl]
  cases s.data.toList <;> rfl

/-- strings.Cut at a slash. -/
theorem cut_slash (w : World) (l : List UInt8) (hl : l.length ≤ 9223372036854775807) : Calls Tryd.prog 73 #[.string (mk l), .string ⟨#[47]⟩] w fun e w' => e = .returned (.tuple #[.string (mk (Lib.cut l [47]).1), .string (mk (Lib.cut l [47]).2.1), .bool (Lib.cut l [47]).2.2]) ∧ Kept NoBlk w w' ∧ ∃ n, w' = w.drewN n := by
  have H : Calls Tryd.prog 76 #[.string (mk l), .string ⟨#[47]⟩] w fun e w' => e = .returned (.tuple #[.string (mk (Lib.cut l [47]).1), .string (mk (Lib.cut l [47]).2.1), .bool (Lib.cut l [47]).2.2]) ∧ ∃ n, w' = w.drewN n := by
    have HI := Lib.hid (Tryd.stringslite_Index_one (mk l) 47 w)
    rw [mk_list, ← Lib.index_one] at HI
    rcases Lib.index_spec l [47] with ⟨h1, -⟩ | ⟨i, h1, h2, h3, -⟩
    · have e : Lib.cut l [47] = (l, [], false) := by unfold Lib.cut; rw [h1, if_neg (by decide)]
      rw [e]
      rw [h1] at HI
      go_enter Tryd.func76, Tryd.ntmps76
      go_wp2_with fail
      refine HI.out.mono ?_
      rintro x w1 ⟨rfl, rfl⟩
      go_wp2
      go_ret3
      exact ⟨rfl, 0, rfl⟩
    · have hr := Lib.index_room l [47] (by rw [h1]; omega)
      rw [h1, List.length_singleton] at hr
      have hsz : (mk l).size = l.length := mk_size l
      have e : Lib.cut l [47] = (l.take i, l.drop (i + 1), true) := by
        unfold Lib.cut
        rw [h1, if_pos (by omega)]
        simp
      rw [e]
      rw [h1] at HI
      have c1 : (0 : Int) ≤ i := by omega
      have c2 : (i : Int) ≤ (mk l).size := by omega
      have c3 : (0 : Int) ≤ (i : Int) + 1 := by omega
      have c4 : (i : Int) + 1 ≤ (mk l).size := by omega
      have c5 : (i : Int) ≤ 9223372036854775806 := by omega
      have e1 : (mk l).extract 0 i = mk (l.take i) := by rw [Lib.extract_eq, mk_list, List.drop_zero, Nat.sub_zero]; rfl
      have e2 : (mk l).extract (i + 1) (mk l).size = mk (l.drop (i + 1)) := extract_mk l (i + 1)
      rw [← e1, ← e2]
      have mixed : Tryd.prog.follows Departure.mixedOrders = true := by kernel_rfl
      clear e e1 e2 h3 hr h2 hsz h1
      generalize mk l = s at *
      go_enter Tryd.func76, Tryd.ntmps76
      go_wp2_with fail
      refine HI.out.mono ?_
      rintro x w1 ⟨rfl, rfl⟩
      go_wp2
      go_region_o
      go_wp2
      go_ret3
      exact ⟨rfl, 1, rfl⟩
  go_enter Tryd.func73, Tryd.ntmps73
  go_wp2_with fail
  refine H.mono ?_
  rintro x w1 ⟨rfl, n, rfl⟩
  go_wp2
  go_ret3
  exact ⟨rfl, (Kept.refl _ _).drewN _, n, rfl⟩
end Go.Proofs.YtfoeckaeongahaaDoor
