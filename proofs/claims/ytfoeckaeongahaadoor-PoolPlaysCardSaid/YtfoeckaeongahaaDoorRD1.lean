/- The reference's names: a letter, a label, some labels joined; texts that are the same. -/
import Derived.Test.YtfoeckaeongahaaDoorN5
namespace Go.Proofs.YtfoeckaeongahaaDoor
open Go.RowKit Go.Shelf
set_option maxRecDepth 100000

def Tabs (w : World) : Prop := Lib.Utf8Tabs 1 2 w
theorem Tabs.lt {w : World} (h : Tabs w) : 1 < w.heap.size ∧ 2 < w.heap.size := by
  have h0 := h.1 0 (by decide)
  have h1 := (h.2 0 (by decide)).1
  constructor
  · apply Classical.byContradiction
    intro hn
    have : w.heap[1]? = none := Array.getElem?_eq_none (by omega)
    simp [World.cell?, this] at h0
  · apply Classical.byContradiction
    intro hn
    have : w.heap[2]? = none := Array.getElem?_eq_none (by omega)
    simp [World.cell?, this] at h1
theorem Tabs.kept {w w' : World} (h : Tabs w) (hk : Kept NoBlk w w') : Tabs w' := by
  obtain ⟨l0, l1⟩ := h.lt
  exact ⟨fun c hc => (hk.cell (p := ⟨1, c, none⟩) l0 (fun e => e)).trans (h.1 c hc), fun i hi => ⟨(hk.cell (p := ⟨2, 2 * i, none⟩) l1 (fun e => e)).trans (h.2 i hi).1, (hk.cell (p := ⟨2, 2 * i + 1, none⟩) l1 (fun e => e)).trans (h.2 i hi).2⟩⟩
theorem rletter_any (w : World) (r : Nat) : Calls Tryd.prog 78 #[.int .i32 (r : Int)] w fun e w' => e = .returned (.bool (letterB r)) ∧ w = w' := by
  rcases (by omega : r < 48 ∨ (48 ≤ r ∧ r ≤ 57) ∨ (58 ≤ r ∧ r < 97) ∨ (97 ≤ r ∧ r ≤ 122) ∨ (123 ≤ r ∧ r < 945) ∨ (945 ≤ r ∧ r ≤ 969) ∨ 969 < r) with h | h | h | h | h | h | h
  all_goals
    first
      | rw [show letterB r = true from decide_eq_true (by omega)]
      | rw [show letterB r = false from decide_eq_false (by omega)]
    have h0 : 0 ≤ (r : Int) := by omega
    try have h1 : (r : Int) < 48 := by omega
    try have h1 : (48 : Int) ≤ r := by omega
    try have h2 : (r : Int) ≤ 57 := by omega
    try have h2 : (57 : Int) < r := by omega
    try have h3 : (r : Int) < 97 := by omega
    try have h3 : (97 : Int) ≤ r := by omega
    try have h4 : (r : Int) ≤ 122 := by omega
    try have h4 : (122 : Int) < r := by omega
    try have h5 : (r : Int) < 945 := by omega
    try have h5 : (945 : Int) ≤ r := by omega
    try have h6 : (r : Int) ≤ 969 := by omega
    try have h6 : (969 : Int) < r := by omega
    go_enter Tryd.func78, Tryd.ntmps78
    go_wp2
    go_ret
    refine ⟨?_, rfl⟩
    first | rfl | (simp; omega) | (simp; done)
theorem decode_tail (s : ByteArray) (pos : Nat) (h : pos < s.size) : Lib.decodeGo (s.extract pos s.size) = Utf8.decode s pos := by
  have h1 := Lib.decodeL_drop (s.extract pos s.size) 0
  have h2 := Lib.decodeL_drop s pos
  have h3 : (s.extract pos s.size).data.toList = s.data.toList.drop pos := by
    rw [ByteArray.data_extract, Array.toList_extract]
    show (s.data.toList.drop pos).take (s.size - pos) = _
    exact List.take_of_length_le (by rw [List.length_drop]; exact Nat.le_refl _)
  rw [List.drop_zero, h3] at h1
  unfold Lib.decodeGo
  rw [if_neg (by rw [ByteArray.size_extract]; omega), ← h1, h2]
set_option maxHeartbeats 2000000 in
theorem rlabel_any (w : World) (s : ByteArray) (hs : s.size ≤ 1000) (hT : Tabs w) : Calls Tryd.prog 75 #[.string s] w fun e w' => e = .returned (.bool (label s)) ∧ Kept NoBlk w w' := by
  unfold label
  generalize hL : labG s (s.size + 1) 0 0 = L
  have HL := Lib.hid hL
  have HT := Lib.hid hT
  clear hL hT
  go_enter Tryd.func75, Tryd.ntmps75
  go_wp2
  go_loopw [3, 4] (fun nv iv wr => ∃ (f pos n : Nat), pos ≤ s.size ∧ n ≤ 6 ∧ nv = .int .i64 n ∧ iv = .int .i64 pos ∧ Hid (labG s (f + 1) pos n = L) ∧ s.size < pos + (f + 1) ∧ Kept NoBlk w wr) (fun _ iv _ => s.size - (intOf iv).toNat)
  case atStart => exact ⟨s.size, 0, 0, by omega, by omega, rfl, rfl, HL, by omega, Kept.refl _ _⟩
  case round =>
    obtain ⟨f, pos, n, hp, hn6, rfl, rfl, HR, hf, hK⟩ := hrel
    clear HL
    by_cases hlt : pos < s.size
    · have hs' := HR.out
      rw [labG_step s f pos n hlt] at hs'
      have hsl : ∀ w, (Instr.slice 9 (.string s) (some (.int .i64 (pos : Int))) none none).run Tryd.prog w = .ok (.string (s.extract pos s.size)) w := fun w =>
        run_slice_string_l (P := Tryd.prog) w 9 s Tryd.underlying9 .i64 (pos : Int) (by omega) (by omega)
      have hD := Tryd.utf8_DecodeRuneInString (s.extract pos s.size) wr (HT.out.kept hK)
      rw [decode_tail s pos hlt] at hD
      have HD := Lib.hid hD
      have HV := Lib.hid (fun w => rletter_any w (Utf8.decode s pos).1)
      have HK := Lib.hid hK
      clear hD hK
      by_cases hc : letterB (Utf8.decode s pos).1 = true
      · obtain ⟨k1, k2, k3, -⟩ := letter_shape s pos hlt hc
        rw [hc] at HV
        by_cases h6 : n = 6
        · rw [if_neg (fun h => by omega)] at hs'
          subst hs'
          subst h6
          clear HR hc
          generalize (Utf8.decode s pos).1 = c at *
          generalize (Utf8.decode s pos).2 = d at *
          generalize s.extract pos s.size = t at *
          go_wp2_with fail
          refine HD.out.mono ?_
          rintro e w1 ⟨rfl, hb⟩
          go_wp2_with fail
          refine (HV.out _).mono ?_
          rintro e w2 ⟨rfl, rfl⟩
          go_wp2
          go_ret
          exact ⟨rfl, HK.out.trans (Kept.of_below hb)⟩
        · rw [if_pos ⟨by omega, hc⟩] at hs'
          obtain ⟨f', rfl⟩ : ∃ f', f = f' + 1 := ⟨f - 1, by omega⟩
          have HS := Lib.hid hs'
          have hn5 : (n : Int) < 6 := by omega
          clear hs' HR hc
          generalize (Utf8.decode s pos).1 = c at *
          generalize (Utf8.decode s pos).2 = d at *
          generalize s.extract pos s.size = t at *
          go_wp2_with fail
          refine HD.out.mono ?_
          rintro e w1 ⟨rfl, hb⟩
          have HK1 := Lib.hid (HK.out.trans (Kept.of_below hb))
          clear hb
          go_wp2_with fail
          refine (HV.out _).mono ?_
          rintro e w2 ⟨rfl, rfl⟩
          go_wp2
          go_roundw
          case rel => exact ⟨f', pos + d, n + 1, by omega, by omega, by go_num, by go_num, HS, by omega, HK1.out⟩
          case measure => simp [intOf]; omega
      · rw [if_neg (fun h => hc h.2)] at hs'
        subst hs'
        have hc' : letterB (Utf8.decode s pos).1 = false := by simpa using hc
        rw [hc'] at HV
        clear HR hc hc'
        generalize (Utf8.decode s pos).1 = c at *
        generalize (Utf8.decode s pos).2 = d at *
        generalize s.extract pos s.size = t at *
        go_wp2_with fail
        refine HD.out.mono ?_
        rintro e w1 ⟨rfl, hb⟩
        have HK1 := Lib.hid (HK.out.trans (Kept.of_below hb))
        clear hb
        go_wp2_with fail
        refine (HV.out _).mono ?_
        rintro e w2 ⟨rfl, rfl⟩
        go_wp2
        go_ret
        exact ⟨rfl, HK1.out⟩
    · obtain rfl : pos = s.size := by omega
      have hs' := HR.out
      rw [labG_end s f _ n hlt] at hs'
      subst hs'
      clear HR
      go_wp2
      go_ret
      exact ⟨by simp, hK⟩
end Go.Proofs.YtfoeckaeongahaaDoor
