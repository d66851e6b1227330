/- The pool: may, at, has, note. -/
import Derived.Test.YtfoeckaeongahaaDoorP1
namespace Go.Proofs.YtfoeckaeongahaaDoor
open Go.RowKit Go.Shelf
set_option maxRecDepth 100000

theorem idx_frame (w : World) (kd : IntKind) (fb cap i : Nat) (h : i < 8) : (Instr.indexAt 64 (.slice (some ⟨fb, 0, none⟩) 8 cap) (.int kd (i : Int))).run Tryd.prog w = .ok (.pointer (some ⟨fb, i * 3, none⟩)) w := by
  have h1 : (0 : Int) ≤ (i : Int) ∧ (i : Int) < ((8 : Nat) : Int) := by omega
  rw [run_indexAt_slice (P := Tryd.prog) w 64 _ 8 cap kd (i : Int) (by kernel_rfl), if_pos h1, show Tryd.prog.elem 64 = 73 by kernel_rfl]
  simp [go_sem, Addr.add]
  omega
theorem idx_env (w : World) (b off e : Nat) (h : e < 6) : (Instr.indexAt 65 (.pointer (some ⟨b, off, none⟩)) (.int .u8 (e : Int))).run Tryd.prog w = .ok (.pointer (some ⟨b, off + e, none⟩)) w := by
  have h1 : (0 : Int) ≤ (e : Int) ∧ (e : Int) < ((6 : Nat) : Int) := by omega
  rw [run_indexAt_array (P := Tryd.prog) w 65 _ .u8 (e : Int) (by kernel_rfl), show Tryd.prog.arrayLen 65 = 6 by kernel_rfl, if_pos h1, show Tryd.prog.elem 65 = 3 by kernel_rfl]
  simp [go_sem, Addr.add]
theorem may_any (w : World) (pb e : Nat) : Calls Tryd.prog 34 #[.pointer (some ⟨pb, 0, none⟩), .int .u8 (e : Int)] w fun x w' => x = .returned (.int .i64 (if e < 6 then 0 else 2)) ∧ w = w' := by
  by_cases h : e < 6
  · rw [if_pos h]
    have h1 : ¬ (6 : Int) ≤ (e : Int) := by omega
    go_enter Tryd.func34, Tryd.ntmps34
    go_wp2
    go_ret
    exact ⟨rfl, rfl⟩
  · rw [if_neg h]
    have h1 : (6 : Int) ≤ (e : Int) := by omega
    go_enter Tryd.func34, Tryd.ntmps34
    go_wp2
    go_ret
    exact ⟨rfl, rfl⟩
theorem may_nil (w : World) (e : Int) : Calls Tryd.prog 34 #[.pointer none, .int .u8 e] w fun x w' => x = .returned (.int .i64 1) ∧ w = w' := by
  go_enter Tryd.func34, Tryd.ntmps34
  go_wp2
  go_ret
  exact ⟨rfl, rfl⟩
def atV (fb e i : Nat) : Value := if e < 6 ∧ i < 8 then .tuple #[.pointer (some ⟨fb, i * 3, none⟩), .int .i64 0] else .tuple #[.pointer none, .int .i64 2]
theorem at_nil (w : World) (e i : Int) : Calls Tryd.prog 30 #[.pointer none, .int .u8 e, .int .u8 i] w fun x w' => x = .returned (.tuple #[.pointer none, .int .i64 1]) ∧ w = w' := by
  have HM := Lib.hid (fun w => may_nil w e)
  go_enter Tryd.func30, Tryd.ntmps30
  go_wp2_with fail
  refine (HM.out _).mono ?_
  rintro x w1 ⟨rfl, rfl⟩
  go_wp2
  go_ret2
  exact ⟨rfl, rfl⟩
theorem at_any (w : World) (pb fb e i : Nat) (S : PSt) (h : PI w pb fb S) (hi256 : i < 256) : Calls Tryd.prog 30 #[.pointer (some ⟨pb, 0, none⟩), .int .u8 (e : Int), .int .u8 (i : Int)] w fun x w' => x = .returned (atV fb e i) ∧ w = w' := by
  have HM := Lib.hid (fun w => may_any w pb e)
  obtain ⟨cap, -, c0⟩ := h.cells.1
  unfold atV
  clear h
  by_cases he : e < 6
  · rw [if_pos he] at HM
    by_cases hi : i < 8
    · rw [if_pos ⟨he, hi⟩]
      have h1 : ¬ (8 : Int) ≤ (i : Int) := by omega
      have hx := fun w => idx_frame w .u8 fb cap i hi
      have hw : wrap64 (i : Int) = (i : Int) := wrap64_s _ ⟨by omega, by omega⟩
      unfold frV at c0
      go_enter Tryd.func30, Tryd.ntmps30
      go_wp2_with fail
      refine (HM.out _).mono ?_
      rintro x w1 ⟨rfl, rfl⟩
      go_wp2
      go_ret2
      exact ⟨rfl, rfl⟩
    · rw [if_neg (fun k => hi k.2)]
      have h1 : (8 : Int) ≤ (i : Int) := by omega
      have hw : wrap64 (i : Int) = (i : Int) := wrap64_s _ ⟨by omega, by omega⟩
      unfold frV at c0
      go_enter Tryd.func30, Tryd.ntmps30
      go_wp2_with fail
      refine (HM.out _).mono ?_
      rintro x w1 ⟨rfl, rfl⟩
      go_wp2
      go_ret2
      exact ⟨rfl, rfl⟩
  · rw [if_neg he] at HM
    rw [if_neg (fun k => he k.1)]
    go_enter Tryd.func30, Tryd.ntmps30
    go_wp2_with fail
    refine (HM.out _).mono ?_
    rintro x w1 ⟨rfl, rfl⟩
    go_wp2
    go_ret2
    exact ⟨rfl, rfl⟩
theorem has_bits : ∀ m : Fin 64, ∀ e : Fin 6, (bits .and .u8 (((m.val : Nat) : Int) / 2 ^ e.val) 1 == 1) = m.val.testBit e.val := by decide +kernel
theorem has_any (w : World) (m e : Nat) (hm : m < 64) (he : e < 6) : Calls Tryd.prog 31 #[.int .u8 (m : Int), .int .u8 (e : Int)] w fun x w' => x = .returned (.bool (m.testBit e)) ∧ w = w' := by
  go_enter Tryd.func31, Tryd.ntmps31
  go_wp2
  go_ret
  exact ⟨by rw [← has_bits ⟨m, hm⟩ ⟨e, he⟩]; rfl, rfl⟩
theorem Tryd.szEv : (Tryd.prog.info? 34).map (fun i => (i.zero.map (·.cells.size), i.size, i.bytes)) = some (some 3, 3, 3) := by kernel_rfl
theorem note_any (w : World) (pb fb : Nat) (S : PSt) (k e i : Int) (h : PI w pb fb S) (hl : S.ev.length ≤ 1000000) : Calls Tryd.prog 58 #[.pointer (some ⟨pb, 0, none⟩), .int .u8 k, .int .u8 e, .int .u8 i] w fun x w' => x = .returned (.tuple #[]) ∧ PI w' pb fb { S with ev := S.ev ++ [(k, e, i)] } ∧ Kept (OneBlk pb) w w' := by
  obtain ⟨fcap, h⟩ := h
  obtain ⟨v, hr, hb⟩ := h.pool
  obtain ⟨fg, hfbk, hge⟩ := h.fr
  have hbig := h.big
  have hfew := h.few
  obtain ⟨A, cap, rfl, h1, h2, hA, hAb, -⟩ := hr.form
  have c13 : w.cell? ⟨pb, 13, none⟩ = some (.slice A S.ev.length cap) := by rw [hb.cell, AF_get (by omega)]; rfl
  have hfr := hb.frozen
  have hmx : (S.ev.length : Int) ≤ cap := by omega
  have hmy : (S.ev.length : Int) ≤ 1000000 := by omega
  have HR := Lib.hid (hr.clip.kept ((Kept.refl NoBlk w).alloc (.cells #[.int .u8 k, .int .u8 e, .int .u8 i] 34)) (fun _ _ _ e => e))
  have HB := Lib.hid (hb.alloc (.cells #[.int .u8 k, .int .u8 e, .int .u8 i] 34))
  have HF := Lib.hid (hfbk.alloc (.cells #[.int .u8 k, .int .u8 e, .int .u8 i] 34))
  have hlen : Hid (S.ev.length = S.ev.length) := Lib.hid rfl
  have hcap : cap ≤ 9223372036854775807 := by simpa [maxLen] using h2
  have HFIN : Hid (∀ (w3 : World) (g' cap' : Nat), Row w3 34 3 (.slice (some ⟨g', 0, none⟩) (S.ev.length + 1) cap') (S.ev.length + 1) (evV S.ev ++ [.int .u8 k, .int .u8 e, .int .u8 i]) → Kept NoBlk (w.alloc (.cells #[.int .u8 k, .int .u8 e, .int .u8 i] 34)) w3 →
      PI (w3.setCell ⟨pb, 13, none⟩ (.slice (some ⟨g', 0, none⟩) (S.ev.length + 1) cap')) pb fb { S with ev := S.ev ++ [(k, e, i)] } ∧ Kept (OneBlk pb) w (w3.setCell ⟨pb, 13, none⟩ (.slice (some ⟨g', 0, none⟩) (S.ev.length + 1) cap')) ∧ w3.cell? ⟨pb, 13, none⟩ = some (.slice A S.ev.length cap) ∧ w3.frozen? ⟨pb, 13, none⟩ = false) := Lib.hid fun w3 g' cap' hrow hk => by
    have hp3 := HB.out.kept hk (fun e => e)
    have hf3 := HF.out.kept hk (fun e => e)
    have hne : pb ≠ fb := h.ne
    have q1 : PI (w3.setCell ⟨pb, 13, none⟩ (.slice (some ⟨g', 0, none⟩) (S.ev.length + 1) cap')) pb fb { S with ev := S.ev ++ [(k, e, i)] } := by
     refine ⟨fcap, ⟨.slice (some ⟨g', 0, none⟩) (S.ev.length + 1) cap', ?_, ?_⟩, ⟨fg, ?_, ?_⟩, hbig, hfew⟩
     · simp only [List.length_append, List.length_singleton, evV_snoc]
       exact hrow.kept (Kept.setCell (G := OneBlk pb) (Kept.refl _ w3) oneHit _) (fun b cs hb' hg => (hp3.ne_ hb' (by decide)) hg.symm)
     · exact Blk.cast (hp3.set_ 13 _) (by rw [AF_set, poolG_ev]; exact congrArg (fun g => AF g 14) (poolG_same _ _ _ _ rfl rfl))
     · exact hf3.far (fun e => hne e.symm) _
     · exact hge
    refine ⟨q1, ?_, ?_, hp3.frozen 13⟩
    · exact (((Kept.refl (OneBlk pb) w).alloc _).trans (hk.weaken fun _ _ e => e.elim)).setCell oneHit _
    · rw [hp3.cell, AF_get (by omega)]; rfl
  clear h2
  have hpb := hb.lt
  clear hr hb h hfbk hge hbig hfew
  generalize hn : S.ev.length = n at *
  have hnn : Hid (n = S.ev.length) := Lib.hid hn.symm
  clear hn
  cases A with
  | none =>
    obtain ⟨rfl, rfl⟩ := hA rfl
    clear hA hAb
    go_enter Tryd.func58, Tryd.ntmps58
    go_wp2_with (refine stopAt 27 rfl ?_)
    refine Held.mk ?_
    refine wpList_append_grow rfl (.tmp 21) (.tmp 26) 30 rfl 34 3 3 Tryd.underlying30 Tryd.szEv (by decide) none 0 0 _ rfl HR.out (some ⟨w.heap.size, 0, none⟩) 1 1 [.int .u8 k, .int .u8 e, .int .u8 i] rfl (Row.new (Blk.new w 34 _) rfl (by simp [maxLen])) rfl (by omega) (by simp [maxLen]) (by simp) ?_
    intro g' cap' w3 hrow hg1 hg2 hk3
    obtain ⟨f1, f2, f3, f4⟩ := HFIN.out w3 g' cap' hrow hk3
    have F1 := Lib.hid f1
    have F2 := Lib.hid f2
    clear f1 f2 hrow hk3 HR HB HF HFIN c13
    go_wp2
    refine bodyPost_end (v := .tuple #[]) (by simp [results, Tryd.results58, go_sem]) rfl ?_
    exact ⟨rfl, F1.out, F2.out⟩
  | some a =>
    obtain ⟨ba, oa, sa⟩ := a
    obtain rfl : sa = none := (hAb _ rfl).1
    clear hA hAb
    go_enter Tryd.func58, Tryd.ntmps58
    go_wp2_with (refine stopAt 27 rfl ?_)
    refine Held.mk ?_
    refine wpList_append_grow rfl (.tmp 21) (.tmp 26) 30 rfl 34 3 3 Tryd.underlying30 Tryd.szEv (by decide) (some ⟨ba, oa, none⟩) n n _ rfl HR.out (some ⟨w.heap.size, 0, none⟩) 1 1 [.int .u8 k, .int .u8 e, .int .u8 i] rfl (Row.new (Blk.new w 34 _) rfl (by simp [maxLen])) rfl (by omega) (by simp [maxLen]; omega) (by omega) ?_
    intro g' cap' w3 hrow hg1 hg2 hk3
    obtain ⟨f1, f2, f3, f4⟩ := HFIN.out w3 g' cap' hrow hk3
    have F1 := Lib.hid f1
    have F2 := Lib.hid f2
    clear f1 f2 hrow hk3 HR HB HF HFIN c13
    go_wp2
    refine bodyPost_end (v := .tuple #[]) (by simp [results, Tryd.results58, go_sem]) rfl ?_
    exact ⟨rfl, F1.out, F2.out⟩
end Go.Proofs.YtfoeckaeongahaaDoor
