/- The pool: deeds one behind the other. -/
import Derived.Test.YtfoeckaeongahaaDoorR5
namespace Go.Proofs.YtfoeckaeongahaaDoor
open Go.RowKit Go.Shelf
set_option maxRecDepth 100000

structure Deed where
  k : Int
  m : Int
  e : Nat
  t : Nat
  f : Nat
  n : ByteArray
  r : Int
structure Deed.Fits (d : Deed) : Prop where
  n : d.n.size ≤ 9223372036854775807
  f : d.f < 256
def Deed.v (d : Deed) : Value := deedV d.k d.m (d.e : Int) (d.t : Int) (d.f : Int) d.n d.r
def doD (S : PSt) (d : Deed) : PSt := doT S d.k d.m d.e d.t d.f d.n d.r
/-- A slice value that holds deeds. -/
def DeedsC (w : World) (v : Value) (L : List Deed) : Prop := ∃ A cap, v = .slice A L.length cap ∧ L.length ≤ cap ∧ cap ≤ maxLen ∧
  (0 < L.length → ∃ b o, A = some ⟨b, o, none⟩ ∧ b < w.heap.size ∧ ∀ i (hi : i < L.length),
    w.cell? ⟨b, o + i * 7, none⟩ = some (.int .i64 L[i].k) ∧ w.cell? ⟨b, o + i * 7 + 1, none⟩ = some (.int .i64 L[i].m) ∧ w.cell? ⟨b, o + i * 7 + 2, none⟩ = some (.int .u8 (L[i].e : Int)) ∧ w.cell? ⟨b, o + i * 7 + 3, none⟩ = some (.int .u8 (L[i].t : Int)) ∧
    w.cell? ⟨b, o + i * 7 + 4, none⟩ = some (.int .u8 (L[i].f : Int)) ∧ w.cell? ⟨b, o + i * 7 + 5, none⟩ = some (.string L[i].n) ∧ w.cell? ⟨b, o + i * 7 + 6, none⟩ = some (.int .u8 L[i].r))
theorem DeedsC.kept {w w' : World} {v : Value} {L : List Deed} (h : DeedsC w v L) (hk : Kept NoBlk w w') : DeedsC w' v L := by
  obtain ⟨A, cap, h1, h2, h3, h4⟩ := h
  refine ⟨A, cap, h1, h2, h3, fun h0 => ?_⟩
  obtain ⟨b, o, e, hb, hc⟩ := h4 h0
  have kc : ∀ j, w'.cell? ⟨b, j, none⟩ = w.cell? ⟨b, j, none⟩ := fun j => hk.cell (p := ⟨b, j, none⟩) hb (fun e => e)
  refine ⟨b, o, e, Nat.lt_of_lt_of_le hb hk.size, fun i hi => ?_⟩
  simp only [kc]
  exact hc i hi
theorem idx_deed (w : World) (b o N cap i : Nat) (h : i < N) : (Instr.indexAt 22 (.slice (some ⟨b, o, none⟩) N cap) (.int .i64 (i : Int))).run Tryd.prog w = .ok (.pointer (some ⟨b, o + i * 7, none⟩)) w := by
  have h1 : (0 : Int) ≤ (i : Int) ∧ (i : Int) < (N : Int) := by omega
  rw [run_indexAt_slice (P := Tryd.prog) w 22 _ N cap .i64 (i : Int) (by kernel_rfl), if_pos h1, show Tryd.prog.elem 22 = 44 by kernel_rfl]
  simp [go_sem, Addr.add]
/-- The state behind the first i deeds. -/
def stAt (S : PSt) (L : List Deed) (i : Nat) : PSt := (L.take i).foldl doD S
theorem stAt_succ (S : PSt) (L : List Deed) (i : Nat) (h : i < L.length) : stAt S L (i + 1) = doD (stAt S L i) L[i] := by
  unfold stAt
  rw [List.take_succ_eq_append_getElem h, List.foldl_append]
  rfl
theorem stAt_inv {c : Nat} {S : PSt} (h : Inv c S) (L : List Deed) : ∀ i, Inv (c + i) (stAt S L i)
  | 0 => h
  | i + 1 => by
    by_cases hi : i < L.length
    · rw [stAt_succ S L i hi]
      exact (stAt_inv h L i).doT _ _ _ _ _ _ _
    · have e : stAt S L (i + 1) = stAt S L i := by
        unfold stAt
        rw [List.take_of_length_le (by omega), List.take_of_length_le (by omega)]
      rw [e]
      exact (stAt_inv h L i).more (by omega)
def playS (L : List Deed) : PSt := stAt S0 L 50
theorem playS_inv (L : List Deed) : Inv 50 (playS L) := by
  have := stAt_inv S0_inv L 50
  rwa [Nat.zero_add] at this
set_option maxHeartbeats 8000000 in
theorem play_any (w : World) (v : Value) (L : List Deed) (hL : DeedsC w v L) (hF : ∀ d ∈ L, d.Fits) (hT : Tabs w) : Calls Tryd.prog 9 #[v] w fun x w' => ∃ pb fb rb, x = .returned (.tuple #[.pointer (some ⟨pb, 0, none⟩), .pointer (some ⟨rb, 0, none⟩), .bool true]) ∧ Both w w' pb fb rb (playS L) := by
  have HL := Lib.hid hL
  obtain ⟨A, cap, rfl, c1, c2, hA⟩ := hL
  have hcap : L.length ≤ 9223372036854775807 := by have : cap ≤ 9223372036854775807 := by simpa [maxLen] using c2
                                                   omega
  have HD := Lib.hid (fun w2 pb fb rb S c (d : Deed) (hd : d.Fits) (B : Both w w2 pb fb rb S) (hI : Inv c S) hc => do_any w w2 pb fb rb S c d.k d.m d.e d.t d.f d.n d.r hd.n B hI hc hT hd.f)
  have HFI := Lib.hid hF
  have HIN := Lib.hid (stAt_inv S0_inv L)
  have HSU := Lib.hid (stAt_succ S0 L)
  have HEND : Hid (∀ i, i ≤ L.length → i ≤ 50 → (i = L.length ∨ i = 50) → stAt S0 L i = playS L) := Lib.hid fun i h1 h2 h => by
    unfold playS
    rcases h with h | h
    · unfold stAt
      rw [List.take_of_length_le (by omega), List.take_of_length_le (by omega)]
    · rw [h]
  have H0 := Lib.hid (fun w => new8 w)
  have H1 := Lib.hid (fun w => rnew8 w)
  clear hT hF c1 c2
  go_enter Tryd.func9, Tryd.ntmps9
  go_wp2_with fail
  refine (H0.out _).mono ?_
  rintro x w1 ⟨rfl, hp1, hk1⟩
  have HP1 := Lib.hid hp1
  have HK1 := Lib.hid hk1
  clear hp1 hk1
  go_wp2_with fail
  refine (H1.out _).mono ?_
  rintro x w2 ⟨rfl, hr2, hk2⟩
  have hs1 := HK1.out.size
  have hl1 := HP1.out.ltP
  have HB : Hid (Both w w2 (w.heap.size + 1) w.heap.size w1.heap.size S0) := Lib.hid ⟨HP1.out.keptNo hk2, hr2, by omega, Nat.le_refl _, by omega, by omega, by omega, HK1.out.trans hk2⟩
  clear hr2 hk2 HP1 HK1
  generalize hpb : w.heap.size + 1 = pb at *
  generalize hfb : w.heap.size = fb at *
  generalize hrb : w1.heap.size = rb at *
  clear hpb hrb hl1 hs1
  go_wp2
  go_loopw [7] (fun iv wr => ∃ i : Nat, i ≤ L.length ∧ i ≤ 50 ∧ iv = .int .i64 i ∧ Hid (Both w wr pb fb rb (stAt S0 L i))) (fun iv _ => 50 - (intOf iv).toNat)
  case atStart => exact ⟨0, by omega, by omega, rfl, HB⟩
  case round =>
    obtain ⟨i, hiN, hi50, rfl, HBi⟩ := hrel
    clear HB
    by_cases hlt : i < L.length
    · have hlt' : (i : Int) < (L.length : Int) := by omega
      by_cases h50 : i < 50
      · have h50' : (i : Int) < 50 := by omega
        obtain ⟨b, o, rfl, hb, hc⟩ := hA (by omega)
        have hlL : i < L.length := by omega
        obtain ⟨c0, c1, c2, c3, c4, c5, c6⟩ := hc i (by omega)
        have kc : ∀ j, wr.cell? ⟨b, j, none⟩ = w.cell? ⟨b, j, none⟩ := fun j => HBi.out.kept.cell (p := ⟨b, j, none⟩) (by show b < w.heap.size; rw [hfb]; exact hb) (fun e => e)
        rw [← kc] at c0 c1 c2 c3 c4 c5 c6
        have hix := fun w => idx_deed w b o L.length cap i hlt
        have HDi := Lib.hid (HD.out wr pb fb rb (stAt S0 L i) (0 + i) L[i] (HFI.out _ (List.getElem_mem hlL)) HBi.out (HIN.out i) (by omega))
        have hsu := HSU.out i hlL
        unfold deedV at HDi
        clear kc hc hA HD
        go_wp2_with fail
        refine HDi.out.mono ?_
        rintro x w3 ⟨rfl, hB3⟩
        have HB3 := Lib.hid hB3
        clear hB3 HDi c0 c1 c2 c3 c4 c5 c6
        go_wp2
        go_roundw
        case rel => exact ⟨i + 1, by omega, by omega, by go_num, by rw [hsu]; exact HB3⟩
        case measure => simp [intOf]; omega
      · have h50' : ¬ (i : Int) < 50 := by omega
        have he := HEND.out i hiN hi50 (.inr (by omega))
        rw [he] at HBi
        go_wp2
        go_ret3
        exact ⟨pb, fb, rb, rfl, HBi.out⟩
    · have hlt' : ¬ (i : Int) < (L.length : Int) := by omega
      have he := HEND.out i hiN hi50 (.inl (by omega))
      rw [he] at HBi
      go_wp2
      go_ret3
      exact ⟨pb, fb, rb, rfl, HBi.out⟩
end Go.Proofs.YtfoeckaeongahaaDoor
