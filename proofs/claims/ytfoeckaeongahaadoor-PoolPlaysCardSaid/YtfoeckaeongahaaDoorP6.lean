/- The pool: who has a frame (a loop over an iterator). -/
import Derived.Test.YtfoeckaeongahaaDoorP5
import Derived.Test.YtfoeckaeongahaaDoorNB2
namespace Go.Proofs.YtfoeckaeongahaaDoor
open Go.RowKit Go.Shelf
attribute [local go_sem] Oper.semAt_some
set_option maxRecDepth 100000

def numV (l : List Nat) : List Value := l.map fun x : Nat => .int .u8 (x : Int)
theorem numV_snoc (l : List Nat) (x : Nat) : numV (l ++ [x]) = numV l ++ [.int .u8 (x : Int)] := by unfold numV; rw [List.map_append]; rfl
def memTo (m k : Nat) : List Nat := (List.range k).filter fun e => m.testBit e
theorem memTo_succ (m k : Nat) : memTo m (k + 1) = memTo m k ++ if m.testBit k then [k] else [] := by
  unfold memTo
  rw [List.range_succ, List.filter_append]
  congr 1
  rw [List.filter_cons]
  split <;> rfl
theorem memTo_le (m k : Nat) : (memTo m k).length ≤ k := by
  unfold memTo
  exact Nat.le_trans (List.length_filter_le _ _) (by simp)
def encN (x : Nat) : Array Value := #[.int .u8 (x : Int)]
theorem all_any (w : World) (m : Nat) : Calls Tryd.prog 39 #[.int .u8 (m : Int)] w fun e w' => e = .returned (.func (.func 60) #[] #[.pointer (some ⟨w.heap.size, 0, none⟩)]) ∧ w' = w.alloc (.cells #[.int .u8 (m : Int)] 71) := by
  go_enter Tryd.func39, Tryd.ntmps39
  go_wp2
  go_ret
  exact ⟨rfl, rfl⟩
theorem own_farN {W : World} {t base n b : Nat} {v u : Value} {xs : List Value} (h : W.ownsRow base t 1 v n xs) (hb : b < base) : (W.setCell ⟨b, 0, none⟩ u).ownsRow base t 1 v n xs :=
  own_kept h ((Kept.refl (OneBlk b) W).setCell oneHit u) (fun k hk e => by have e' : k = b := e; omega)
theorem Tryd.infoU : (Tryd.prog.info? 5).map (fun i => (i.zero, i.size, i.bytes)) = some (some (.int .u8 0), 1, 1) := by kernel_rfl
set_option maxHeartbeats 2000000 in
theorem all1_in (l Bv m : Nat) (hm : m < 64) (J Jx : List Nat → World → Prop)
    (hY : ∀ pre x W, J pre W → pre.length < 6 → YieldAt .wide (3 - 1 - 1) Tryd.prog l (encN x) W fun e W' =>
      (e = .returned (.bool true) ∧ J (pre ++ [x]) W' ∧ W'.heap[Bv]? = W.heap[Bv]?) ∨ (e = .returned (.bool false) ∧ Jx (pre ++ [x]) W'))
    (W : World) (hB : Blk W Bv 71 #[.int .u8 (m : Int)]) (h0 : J [] W) :
    CallsIn .wide (3 - 1) Tryd.prog 60 #[.func (.yield l) #[] #[], .pointer (some ⟨Bv, 0, none⟩)] W fun e W' => (∃ v, e = .returned v) ∧
      ((∃ ys, ys = memTo m 6 ∧ J ys W') ∨ (∃ pre, (∃ k, k ≤ 6 ∧ pre = memTo m k) ∧ Jx pre W')) := by
  have HB := Lib.hid hB
  have HH := Lib.hid (fun w e he => has_any w m e hm he)
  clear hB
  refine callsIn_of_wp Tryd.func60 rfl trivial ?_ rfl
  simp only [Tryd.ntmps60, List.size_toArray, List.length_cons, List.length_nil, Nat.reduceAdd, Nat.reduceSub, Array.replicate_succ, Array.replicate_zero, List.push_toArray, List.append_toArray, List.nil_append, List.cons_append]
  gi_wp2
  gi_loopw [4] (fun i wr => ∃ k : Nat, k ≤ 6 ∧ i = .int .u8 k ∧ Hid (Blk wr Bv 71 #[.int .u8 (m : Int)]) ∧ J (memTo m k) wr)
    (fun i _ => 6 - (intOf i).toNat)
  case atStart => exact ⟨0, Nat.zero_le _, rfl, HB, h0⟩
  case round =>
    obtain ⟨k, hk, rfl, hb, hJs⟩ := hrel
    clear HB
    have hms := memTo_succ m k
    by_cases hlt : k < 6
    · have hlt' : (k : Int) < 6 := by omega
      have c0 := hb.out.cell 0
      simp only [List.getElem?_toArray, List.getElem?_cons_zero] at c0
      have HF := Lib.hid (fun w => HH.out w k hlt)
      cases ht : m.testBit k with
      | false =>
        rw [ht] at HF hms
        rw [if_neg (by decide), List.append_nil] at hms
        gi_wp2_with fail
        refine ⟨trivial, (callsIn_wide.2 (HF.out _)).mono ?_⟩
        rintro x w1 ⟨rfl, rfl⟩
        gi_wp2
        refine ⟨fun f h => (nomatch h), ?_⟩
        gi_wp2
        go_roundw
        case rel => exact ⟨k + 1, by omega, by first | (simp; done) | (simp; omega), hb, by rw [hms]; exact hJs⟩
        case measure => simp [intOf]; omega
      | true =>
        rw [ht] at HF hms
        rw [if_pos rfl] at hms
        gi_wp2_with fail
        refine ⟨trivial, (callsIn_wide.2 (HF.out _)).mono ?_⟩
        rintro x w1 ⟨rfl, rfl⟩
        obtain ⟨fn, tmps, assign, body, hy, hR⟩ := hY _ k _ hJs (Nat.lt_of_le_of_lt (memTo_le m k) hlt)
        dsimp only [encN] at hy
        have HR := Lib.hid hR
        clear hR
        gi_wp2_with fail
        refine HR.out.mono ?_
        clear HR
        rintro e W3 (⟨rfl, hJ3, hk3⟩ | ⟨rfl, hJx3⟩)
        · have hb3 : Blk W3 Bv 71 #[.int .u8 (m : Int)] := hk3.trans hb.out
          have HB3 := Lib.hid hb3
          clear hk3 hb3
          gi_wp2
          go_roundw
          case rel => exact ⟨k + 1, by omega, by first | (simp; done) | (simp; omega), HB3, by rw [hms]; exact hJ3⟩
          case measure => simp [intOf]; omega
        · gi_wp2
          refine bodyPost_ret (results_none rfl _ _ _) rfl ?_
          exact ⟨⟨_, rfl⟩, .inr ⟨_, ⟨k + 1, by omega, hms.symm⟩, hJx3⟩⟩
    · obtain rfl : k = 6 := by omega
      gi_wp2
      go_end0
      exact ⟨⟨_, rfl⟩, .inl ⟨_, rfl, hJs⟩⟩
theorem all_yields (w : World) (Bv m : Nat) (hm : m < 64) (hB : Blk w Bv 71 #[.int .u8 (m : Int)]) :
    YieldsN 6 .wide (3 - 1) Tryd.prog 60 #[.pointer (some ⟨Bv, 0, none⟩)] encN Bv (fun ys => ys = memTo m 6) (fun pre => ∃ k, k ≤ 6 ∧ pre = memTo m k) w := fun l J Jx W hW _ _ _ hY h0 =>
  all1_in l Bv m hm J Jx hY W (hB.kept (Kept.of_below hW) (fun e => e)) h0
/-! ### slices.AppendSeq at it -/
theorem Kept.freshG {G H : Nat → Prop} {w w' w'' : World} (h : Kept G w w') (k : Kept H w' w'') (hH : ∀ b, H b → w.heap.size ≤ b) : Kept G w w'' :=
  ⟨k.os.trans h.os, k.tape.trans h.tape, k.output.trans h.output, Nat.le_trans h.size k.size, fun i hi hn => (k.block i (Nat.lt_of_lt_of_le hi h.size) (fun hb => absurd hi (by have := hH i hb; omega))).trans (h.block i hi hn)⟩
structure MidQ (Bv : Nat) (w W : World) (pre : List Nat) : Prop where
  out : ∃ v, Blk W w.heap.size 37 #[v] ∧ W.ownsRow (w.heap.size + 1) 5 1 v pre.length (numV pre)
  kept : Kept (OneBlk Bv) w W
  big : w.heap.size + 1 ≤ W.heap.size
theorem MidQ.grown {Bv : Nat} {w W W' : World} {pre : List Nat} {row : Option Nat} (h : MidQ Bv w W pre) (hg : W.grownBy W' row) (hr : ∀ r, row = some r → w.heap.size ≤ r ∧ ∃ o : Obj, W.heap[r]? = some o ∧ o.isCells = false) : MidQ Bv w W' pre := by
  obtain ⟨v, h1, h2⟩ := h.out
  exact ⟨⟨v, grown_blk h1 hg (fun r e => (hr r e).2), grown_own h2 hg (fun r e => (hr r e).2)⟩, h.kept.grown hg (fun k e => .inr (hr k e).1), Nat.le_trans h.big hg.size⟩
theorem seq_ends {Bv : Nat} {w w1 w2 : World} {pre : List Nat} {A : Option Addr} {cap : Nat} {A' : Option Addr} {cap' : Nat} (h : MidQ Bv w w1 pre) (x : Nat)
    (ho : Blk w1 w.heap.size 37 #[.slice A pre.length cap]) (hown : w1.ownsRow (w.heap.size + 1) 5 1 (.slice A pre.length cap) pre.length (numV pre))
    (hown2 : w2.ownsRow (w.heap.size + 1) 5 1 (.slice A' (pre.length + 1) cap') (pre.length + 1) (numV pre ++ [.int .u8 (x : Int)]))
    (hg2 : (w1.alloc (.cells #[.int .u8 (x : Int)] 5)).grownBy w2 (Value.slice A pre.length cap).ownBlock) (hBv : Bv < w.heap.size) :
    Kept (fun b => w.heap.size + 1 ≤ b) w1 w2 ∧ KeepsOthers w1 w2 ∧ MidQ Bv w (w2.setCell ⟨w.heap.size, 0, none⟩ (.slice A' (pre.length + 1) cap')) (pre ++ [x]) ∧ (w2.setCell ⟨w.heap.size, 0, none⟩ (.slice A' (pre.length + 1) cap')).heap[Bv]? = w1.heap[Bv]? := by
  have hk2 : Kept (fun b => w.heap.size + 1 ≤ b) w1 w2 := ((Kept.refl _ _).alloc _).grown hg2 (fun k e => .inl ((hown.lt k e).1))
  have hbig := h.big
  refine ⟨hk2, (KeepsOthers.alloc _ _).trans (KeepsOthers.of_grownBy hg2 (own_cells (own_kept (G := NoBlk) hown ((Kept.refl _ _).alloc _) (fun _ _ e => e)))), ⟨⟨.slice A' (pre.length + 1) cap', ?_, ?_⟩, ?_, ?_⟩, ?_⟩
  · exact Blk.cast ((ho.kept hk2 (by omega)).set_ 0 _) (by simp)
  · rw [numV_snoc, List.length_append, List.length_singleton]
    exact own_farN (u := .slice A' (pre.length + 1) cap') (b := w.heap.size) hown2 (by omega)
  · exact (Kept.freshG h.kept hk2 (fun b e => by omega)).setCell (newHit (Nat.le_refl _)) _
  · exact Nat.le_trans hbig (Nat.le_trans hk2.size (Nat.le_of_eq (World.size_setCell ..).symm))
  · exact (Below.heap_setCell w2 _ _ _ (by show Bv ≠ w.heap.size; omega)).trans (hk2.block _ (by omega) (by omega))
set_option maxHeartbeats 4000000 in
theorem appendSeq_any (w : World) (Bv m : Nat) (hm : m < 64) (hB : Blk w Bv 71 #[.int .u8 (m : Int)]) : Calls Tryd.prog 59 #[.slice none 0 0, .func (.func 60) #[] #[.pointer (some ⟨Bv, 0, none⟩)]] w fun e w' => ∃ v, e = .returned v ∧ w'.ownsRow w.heap.size 5 1 v (memTo m 6).length (numV (memTo m 6)) ∧ Kept (OneBlk Bv) w w' := by
  have hBl := hB.lt
  refine (callsIn_wide (n := 3)).1 ?_
  refine callsIn_of_wp_marks Tryd.func59 rfl trivial ?_ rfl
  simp only [Tryd.ntmps59, List.size_toArray, List.length_cons, List.length_nil, Nat.reduceAdd, Nat.reduceSub, Array.replicate_succ, Array.replicate_zero, List.push_toArray, List.append_toArray, List.nil_append, List.cons_append]
  gi_wp2_with fail
  obtain ⟨W0, hW0⟩ : ∃ W0, (w.alloc (.cells #[.slice none 0 0] 37)) = W0 := ⟨_, rfl⟩
  rw [hW0]
  have s0 : W0.heap.size = w.heap.size + 1 := by rw [← hW0]; simp
  have hM : MidQ Bv w W0 [] := by
    refine ⟨⟨nilS, ?_, own_none _ _ _ _⟩, ?_, by omega⟩
    all_goals rw [← hW0]
    · exact Blk.new w _ _
    · repeat (with_reducible first | exact Kept.refl _ _ | apply Kept.drew | apply Kept.drewN | apply Kept.alloc | exact oneHit | apply Kept.setCell)
  have hBv : Blk W0 Bv 71 #[.int .u8 (m : Int)] := by rw [← hW0]; exact hB.alloc _
  clear hW0
  refine wpIn_yieldsN (F := .wide) (n := 3) rfl (by omega) (gf := 60) (lb := #[.pointer (some ⟨Bv, 0, none⟩)]) rfl trivial (enters_of Tryd.func60 (by kernel_rfl) rfl)
    (Bs := Bv) (by omega) (all_yields W0 _ m hm hBv) (fun _ => rfl)
    (fun pre W => MidQ Bv w W pre) (fun c pre W => False)
    (fun s A B row hs hg hr => hs.grown hg (fun r e => ⟨by have := (hr r e).1; omega, (hr r e).2⟩))
    (fun c s A B row hs hg hr => hs)
    (fun s W v hs => by
      obtain ⟨u, u1, u2⟩ := hs.out
      exact ⟨⟨u, u1.far (by show w.heap.size ≠ Bv; omega) _, own_farN u2 (by omega)⟩, hs.kept.setCell oneHit _, Nat.le_trans hs.big (Nat.le_of_eq (World.size_setCell ..).symm)⟩)
    hM
    (fun x => { tmps := #[.slice none 0 0, .func (.func 60) #[] #[.pointer (some ⟨Bv, 0, none⟩)], .pointer (some ⟨w.heap.size, 0, none⟩), undef, .slice none 0 0, .int .u8 (x : Int), .func (.func 60) #[] #[.pointer (some ⟨Bv, 0, none⟩)], .int .u8 (x : Int), undef, undef, undef, undef, undef], defers := [] }) ?assign ?body ?done ?stop
  case assign =>
    intro l x W K hK
    unfold encN
    gi_wp2
    exact hK
  case body =>
    rintro l pre x W hM' hfew
    have hltB := hM'.big
    obtain ⟨v, ho, hown⟩ := hM'.out
    obtain ⟨A, cap, rfl⟩ := own_form hown
    have c4 := ho.cell 0
    simp only [List.getElem?_toArray, List.getElem?_cons_zero] at c4
    have f4 := ho.frozen 0
    have HM := Lib.hid hM'
    have HO := Lib.hid ho
    have HOWN := Lib.hid hown
    obtain ⟨i0, hi, hz0, hz1, hz2⟩ := info_parts Tryd.infoU
    clear hM' ho hown
    gi_wp2_with (gi_at_builtin; refine wpListIn_append_own _ rfl _ _ 37 rfl (w.heap.size + 1) 5 i0 (.int .u8 0) 1 1 Tryd.underlying37 hi hz0 hz1 hz2 rfl (by decide) _ _ _ rfl (own_kept (G := NoBlk) HOWN.out ((Kept.refl _ _).alloc _) (fun _ _ e => e)) ⟨W.heap.size, 0, none⟩ 1 1 [.int .u8 (x : Int)] rfl rfl (cell_one_new _ _ _) (by simp [Value.oneCell']) (by simp only [maxLen]; omega) (by omega) (by simp; omega) ?_; intro v' w2 hown2 hg2 _; obtain ⟨g', cap', rfl⟩ := ownsRow_succ hown2; have GE := Lib.hid (seq_ends HM.out x HO.out HOWN.out hown2 hg2 hBl); have ho5 := HO.out.kept GE.out.1 (by show ¬ (w.heap.size + 1 ≤ w.heap.size); omega); have c5 := ho5.cell 0; simp only [List.getElem?_toArray, List.getElem?_cons_zero] at c5; have f5 := ho5.frozen 0; clear ho5 hown2 hg2)
    obtain ⟨-, g1, g2, g3⟩ := GE.out
    exact ⟨(g1.trans (KeepsOthers.setCell _ _ _)).from _, .inl ⟨rfl, g3, g2⟩⟩
  case done =>
    rintro D ys W hD rfl hM' hK
    obtain ⟨v, ho, hown⟩ := hM'.out
    have c4 := ho.cell 0
    simp only [List.getElem?_toArray, List.getElem?_cons_zero] at c4
    have HM := Lib.hid hM'
    have HO := Lib.hid ho
    have HOWN := Lib.hid hown
    have hKK := Lib.hid hK
    clear hM' ho hown hK
    gi_wp2
    have hK := hKK.out
    refine ⟨by simp, .inl ⟨_, _, rfl, run_takeDeferred hK, ?_⟩⟩
    have hr : ∀ r, some D = some r → w.heap.size ≤ r ∧ ∃ o : Obj, W.heap[r]? = some o ∧ o.isCells = false := fun r e => by cases e; exact ⟨by omega, _, hK, rfl⟩
    have ho2 := own_base (base' := w.heap.size) HOWN.out (Nat.le_succ _)
    exact ⟨v, by simp [results, Tryd.f59, go_sem], ⟨v, rfl, grown_own ho2 (grownBy_putObj' W D (.deferred none)) (fun r e => (hr r e).2), HM.out.kept.grown (grownBy_putObj' W D (.deferred none)) (fun k e => .inr (hr k e).1)⟩⟩
  case stop =>
    rintro D c pre W hD hpre hF hK
    exact hF.elim
theorem collect_any (w : World) (Bv m : Nat) (hm : m < 64) (hB : Blk w Bv 71 #[.int .u8 (m : Int)]) : Calls Tryd.prog 38 #[.func (.func 60) #[] #[.pointer (some ⟨Bv, 0, none⟩)]] w fun e w' => ∃ v, e = .returned v ∧ w'.ownsRow w.heap.size 5 1 v (memTo m 6).length (numV (memTo m 6)) ∧ Kept (OneBlk Bv) w w' := by
  have HS := Lib.hid (fun w hB => appendSeq_any w Bv m hm hB)
  have HB := Lib.hid hB
  clear hB
  go_enter Tryd.func38, Tryd.ntmps38
  go_wp2_with fail
  refine (HS.out _ HB.out).mono ?_
  rintro x w1 ⟨v, rfl, ho, hk⟩
  have HO := Lib.hid ho
  have HK := Lib.hid hk
  clear ho hk
  go_wp2
  go_ret
  exact ⟨v, rfl, HO.out, HK.out⟩
def ownersL (S : PSt) (i : Nat) : List Nat := if i < 8 then memTo (S.own i) 6 else []
/-- A slice of its own, of numbers. -/
def Nums (w w' : World) (l : List Nat) (x : Ending) : Prop := ∃ v, x = .returned v ∧ w'.ownsRow w.heap.size 5 1 v l.length (numV l) ∧ Kept NoBlk w w'
theorem owners_any (w : World) (pb fb : Nat) (S : PSt) (i : Nat) (h : PI w pb fb S) (hS : Fit S) (hi256 : i < 256) : Calls Tryd.prog 20 #[.pointer (some ⟨pb, 0, none⟩), .int .u8 (i : Int)] w fun x w' => Nums w w' (ownersL S i) x := by
  have HA := Lib.hid (fun w (h : PI w pb fb S) => at_any w pb fb 0 i S h hi256)
  have H := Lib.hid h
  have hown := hS.own i
  unfold atV at HA
  clear h hS
  by_cases hi : i < 8
  · rw [if_pos ⟨by omega, hi⟩] at HA
    have c3 := (H.out.frame i hi).1
    have hL : ownersL S i = memTo (S.own i) 6 := if_pos hi
    rw [hL]
    have HC := Lib.hid (fun w Bv hB => collect_any w Bv (S.own i) hown hB)
    have HAl := Lib.hid (fun w => all_any w (S.own i))
    clear hL
    generalize S.own i = m at *
    go_enter Tryd.func20, Tryd.ntmps20
    go_wp2_with fail
    refine (HA.out _ H.out).mono ?_
    rintro x w1 ⟨rfl, rfl⟩
    go_wp2_with fail
    refine (HAl.out _).mono ?_
    rintro x w1 ⟨rfl, rfl⟩
    go_wp2_with fail
    refine (HC.out _ _ (Blk.new w 71 #[.int .u8 (m : Int)])).mono ?_
    rintro x w2 ⟨v, rfl, ho, hk⟩
    have HO := Lib.hid (own_base (base' := w.heap.size) ho (by simp))
    have HK := Lib.hid (Kept.fresh ((Kept.refl NoBlk w).alloc (.cells #[.int .u8 (m : Int)] 71)) hk (fun b e => Nat.le_of_eq e.symm))
    clear ho hk
    go_wp2
    go_ret
    exact ⟨v, rfl, HO.out, HK.out⟩
  · rw [if_neg (fun k => hi k.2)] at HA
    have hL : ownersL S i = [] := if_neg hi
    rw [hL]
    go_enter Tryd.func20, Tryd.ntmps20
    go_wp2_with fail
    refine (HA.out _ H.out).mono ?_
    rintro x w1 ⟨rfl, rfl⟩
    go_wp2
    go_ret
    exact ⟨_, rfl, own_none _ _ _ _, Kept.refl _ _⟩
end Go.Proofs.YtfoeckaeongahaaDoor
