/- The reference's pool: how its state lies in memory. -/
import Derived.Test.YtfoeckaeongahaaDoorP10
namespace Go.Proofs.YtfoeckaeongahaaDoor
open Go.RowKit Go.Shelf
set_option maxRecDepth 100000

def refG (v : Value) (S : PSt) : Nat → Value := fun k =>
  if k = 0 then .int .i64 8 else if k < 129 then (if k % 2 = 1 then .string (S.gn ((k - 1) / 2)) else .int .u8 (S.gr ((k - 1) / 2)))
  else if k < 513 then .bool ((S.own ((k - 129) / 6)).testBit ((k - 129) % 6)) else if k < 519 then .int .i64 (S.quota (k - 513)) else v
def RI (w : World) (rb : Nat) (S : PSt) : Prop := ∃ v, Row w 34 3 v S.ev.length (evV S.ev) ∧ Blk w rb 92 (AF (refG v S) 520)
theorem RI.lt {w : World} {rb : Nat} {S : PSt} (h : RI w rb S) : rb < w.heap.size := h.choose_spec.2.lt
theorem RI.frozen {w : World} {rb : Nat} {S : PSt} (h : RI w rb S) : ∀ i, w.frozen? ⟨rb, i, none⟩ = false := h.choose_spec.2.frozen
theorem RI.kept {w w' : World} {rb : Nat} {S : PSt} {G : Nat → Prop} (h : RI w rb S) (hk : Kept G w w') (hp : ¬ G rb) (hr : ∀ b cs, Blk w b 34 cs → ¬ G b) : RI w' rb S := by
  obtain ⟨v, hr', hb⟩ := h
  exact ⟨v, hr'.kept hk hr, hb.kept hk hp⟩
theorem RI.keptNo {w w' : World} {rb : Nat} {S : PSt} (h : RI w rb S) (hk : Kept NoBlk w w') : RI w' rb S := h.kept hk (fun e => e) (fun _ _ _ e => e)
theorem RI.drew {w : World} {rb : Nat} {S : PSt} (h : RI w rb S) : RI w.drew rb S := h.keptNo (Kept.refl _ w).drew
theorem RI.cells {w : World} {rb : Nat} {S : PSt} (h : RI w rb S) : w.cell? ⟨rb, 0, none⟩ = some (.int .i64 8) ∧ (∀ e, e < 6 → w.cell? ⟨rb, 513 + e, none⟩ = some (.int .i64 (S.quota e))) ∧
    ∃ v, Row w 34 3 v S.ev.length (evV S.ev) ∧ w.cell? ⟨rb, 519, none⟩ = some v := by
  obtain ⟨v, hr, hb⟩ := h
  refine ⟨?_, fun e he => ?_, v, hr, ?_⟩
  · rw [hb.cell, AF_get (by omega)]; rfl
  · rw [hb.cell, AF_get (by omega)]
    unfold refG
    rw [if_neg (by omega), if_neg (by omega), if_neg (by omega), if_pos (by omega), show 513 + e - 513 = e by omega]
  · rw [hb.cell, AF_get (by omega)]; rfl
theorem RI.has {w : World} {rb : Nat} {S : PSt} (h : RI w rb S) (f e : Nat) (hf : f < 8) (he : e < 6) : w.cell? ⟨rb, 129 + f * 6 + e, none⟩ = some (.bool ((S.own f).testBit e)) := by
  obtain ⟨v, hr, hb⟩ := h
  rw [hb.cell, AF_get (by omega)]
  unfold refG
  rw [if_neg (by omega), if_neg (by omega), if_pos (by omega), show (129 + f * 6 + e - 129) / 6 = f by omega, show (129 + f * 6 + e - 129) % 6 = e by omega]
theorem RI.grd {w : World} {rb : Nat} {S : PSt} (h : RI w rb S) (f : Nat) (hf : f < 8) : w.cell? ⟨rb, 1 + f * 2, none⟩ = some (.string (S.gn f)) ∧ w.cell? ⟨rb, 1 + f * 2 + 1, none⟩ = some (.int .u8 (S.gr f)) := by
  obtain ⟨v, hr, hb⟩ := h
  constructor
  · rw [hb.cell, AF_get (by omega)]
    unfold refG
    rw [if_neg (by omega), if_pos (by omega), if_pos (by omega), show (1 + f * 2 - 1) / 2 = f by omega]
  · rw [hb.cell, AF_get (by omega)]
    unfold refG
    rw [if_neg (by omega), if_pos (by omega), if_neg (by omega), show (1 + f * 2 + 1 - 1) / 2 = f by omega]
/-! ### the memory turned -/
theorem refG_own (v : Value) (S : PSt) (f e m : Nat) (b : Bool) (hf : f < 64) (he : e < 6) (hm : ∀ k, k < 6 → m.testBit k = if k = e then b else (S.own f).testBit k) : upd (refG v S) (129 + f * 6 + e) (.bool b) = refG v { S with own := upd S.own f m } := by
  funext k
  unfold refG upd
  dsimp only
  by_cases h0 : k = 0
  · rw [if_neg (by omega), if_pos h0, if_pos h0]
  · rw [if_neg h0, if_neg h0]
    by_cases h1 : k < 129
    · rw [if_neg (by omega), if_pos h1, if_pos h1]
    · rw [if_neg h1, if_neg h1]
      by_cases h2 : k < 513
      · rw [if_pos h2, if_pos h2]
        by_cases hff : (k - 129) / 6 = f
        · rw [if_pos hff, hm _ (by omega)]
          by_cases hee : (k - 129) % 6 = e
          · rw [if_pos (by omega), if_pos hee]
          · rw [if_neg (by omega), if_neg hee, hff]
        · rw [if_neg hff, if_neg (by omega)]
      · rw [if_neg h2, if_neg h2, if_neg (by omega)]
theorem refG_guard (v : Value) (S : PSt) (f : Nat) (hf : f < 64) (n : ByteArray) (r : Int) : upd (upd (refG v S) (1 + f * 2) (.string n)) (1 + f * 2 + 1) (.int .u8 r) = refG v { S with gn := upd S.gn f n, gr := upd S.gr f r } := by
  funext k
  unfold refG upd
  dsimp only
  by_cases h0 : k = 0
  · rw [if_neg (by omega), if_neg (by omega), if_pos h0, if_pos h0]
  · rw [if_neg h0, if_neg h0]
    by_cases h1 : k < 129
    · rw [if_pos h1, if_pos h1]
      by_cases hff : (k - 1) / 2 = f
      · by_cases ho : k % 2 = 1
        · rw [if_neg (by omega), if_pos (by omega), if_pos ho, if_pos hff]
        · rw [if_pos (by omega), if_neg ho, if_pos hff]
      · rw [if_neg (by omega), if_neg (by omega), if_neg hff, if_neg hff]
    · rw [if_neg h1, if_neg h1, if_neg (by omega), if_neg (by omega)]
theorem refG_quota (v : Value) (S : PSt) (e : Nat) (he : e < 6) (n : Int) : upd (refG v S) (513 + e) (.int .i64 n) = refG v { S with quota := upd S.quota e n } := by
  funext k
  unfold refG upd
  dsimp only
  by_cases h0 : k = 0
  · rw [if_neg (by omega), if_pos h0, if_pos h0]
  · rw [if_neg h0, if_neg h0]
    by_cases h1 : k < 129
    · rw [if_neg (by omega), if_pos h1, if_pos h1]
    · rw [if_neg h1, if_neg h1]
      by_cases h2 : k < 513
      · rw [if_neg (by omega), if_pos h2, if_pos h2]
      · rw [if_neg h2, if_neg h2]
        by_cases h3 : k < 519
        · rw [if_pos h3, if_pos h3]
          by_cases hk : k = 513 + e
          · rw [if_pos hk, if_pos (by omega)]
          · rw [if_neg hk, if_neg (by omega)]
        · rw [if_neg h3, if_neg h3, if_neg (by omega)]
theorem refG_ev (v u : Value) (S : PSt) : AF (upd (refG v S) 519 u) 520 = AF (refG u S) 520 := AF_eq fun k hk => by
  unfold refG upd
  dsimp only
  by_cases h : k = 519
  · rw [if_pos h, if_neg (by omega), if_neg (by omega), if_neg (by omega), if_neg (by omega)]
  · rw [if_neg h]
    by_cases h0 : k = 0
    · rw [if_pos h0, if_pos h0]
    · rw [if_neg h0, if_neg h0]
      by_cases h1 : k < 129
      · rw [if_pos h1, if_pos h1]
      · rw [if_neg h1, if_neg h1]
        by_cases h2 : k < 513
        · rw [if_pos h2, if_pos h2]
        · rw [if_neg h2, if_neg h2, if_pos (by omega), if_pos (by omega)]
theorem refG_same (v : Value) (S S' : PSt) (h1 : S.own = S'.own) (h2 : S.gn = S'.gn) (h3 : S.gr = S'.gr) (h4 : S.quota = S'.quota) : refG v S = refG v S' := by
  unfold refG
  rw [h1, h2, h3, h4]
/-- How many each has is no cell of it. -/
theorem RI.count {w : World} {rb : Nat} {S : PSt} (h : RI w rb S) (c : Nat → Int) : RI w rb { S with count := c } := by
  obtain ⟨v, hr, hb⟩ := h
  exact ⟨v, hr, Blk.cast hb (congrArg (fun g => AF g 520) (refG_same v _ _ rfl rfl rfl rfl))⟩
theorem RI.setHas {w : World} {rb : Nat} {S : PSt} (h : RI w rb S) (f e m : Nat) (b : Bool) (hf : f < 8) (he : e < 6) (hm : ∀ k, k < 6 → m.testBit k = if k = e then b else (S.own f).testBit k) : RI (w.setCell ⟨rb, 129 + f * 6 + e, none⟩ (.bool b)) rb { S with own := upd S.own f m } := by
  obtain ⟨v, hr, hb⟩ := h
  exact ⟨v, row_far hr hb (by decide) _ _, Blk.cast (hb.set_ _ _) (by rw [AF_set, refG_own v S f e m b (by omega) he hm])⟩
theorem RI.setGuard {w : World} {rb : Nat} {S : PSt} (h : RI w rb S) (f : Nat) (hf : f < 8) (n : ByteArray) (r : Int) : RI ((w.setCell ⟨rb, 1 + f * 2, none⟩ (.string n)).setCell ⟨rb, 1 + f * 2 + 1, none⟩ (.int .u8 r)) rb { S with gn := upd S.gn f n, gr := upd S.gr f r } := by
  obtain ⟨v, hr, hb⟩ := h
  have h1 := hb.set_ (1 + f * 2) (.string n)
  exact ⟨v, row_far (row_far hr hb (by decide) _ _) h1 (by decide) _ _, Blk.cast (h1.set_ _ _) (by rw [AF_set, AF_set, refG_guard v S f (by omega)])⟩
theorem RI.setQuota {w : World} {rb : Nat} {S : PSt} (h : RI w rb S) (e : Nat) (he : e < 6) (n : Int) : RI (w.setCell ⟨rb, 513 + e, none⟩ (.int .i64 n)) rb { S with quota := upd S.quota e n } := by
  obtain ⟨v, hr, hb⟩ := h
  exact ⟨v, row_far hr hb (by decide) _ _, Blk.cast (hb.set_ _ _) (by rw [AF_set, refG_quota v S e he])⟩
theorem RI.setEv {w w3 : World} {rb : Nat} {S : PSt} {u : Value} (h : RI w rb S) (hk : Kept NoBlk w w3) (x : Int × Int × Int) (hr : Row w3 34 3 u (S.ev.length + 1) (evV S.ev ++ [.int .u8 x.1, .int .u8 x.2.1, .int .u8 x.2.2])) : RI (w3.setCell ⟨rb, 519, none⟩ u) rb { S with ev := S.ev ++ [x] } := by
  obtain ⟨v, hr', hb⟩ := h
  have hb3 := hb.kept hk (fun e => e)
  refine ⟨u, ?_, Blk.cast (hb3.set_ 519 u) ?_⟩
  · rw [evV_snoc, List.length_append, List.length_singleton]
    exact row_far hr hb3 (by decide) _ _
  · rw [AF_set, refG_ev]
    exact congrArg (fun g => AF g 520) (refG_same u _ _ rfl rfl rfl rfl)

/-! ### places -/
theorem idx_has (w : World) (rb f : Nat) (h : f < 8) : (Instr.indexAt 90 (.pointer (some ⟨rb, 129, none⟩)) (.int .u8 (f : Int))).run Tryd.prog w = .ok (.pointer (some ⟨rb, 129 + f * 6, none⟩)) w := by
  have h1 : (0 : Int) ≤ (f : Int) ∧ (f : Int) < ((64 : Nat) : Int) := by omega
  rw [run_indexAt_array (P := Tryd.prog) w 90 _ .u8 (f : Int) (by kernel_rfl), show Tryd.prog.arrayLen 90 = 64 by kernel_rfl, if_pos h1, show Tryd.prog.elem 90 = 28 by kernel_rfl]
  simp [go_sem, Addr.add]
theorem idx_bit (w : World) (rb off e : Nat) (h : e < 6) : (Instr.indexAt 28 (.pointer (some ⟨rb, off, none⟩)) (.int .u8 (e : Int))).run Tryd.prog w = .ok (.pointer (some ⟨rb, off + e, none⟩)) w := by
  have h1 : (0 : Int) ≤ (e : Int) ∧ (e : Int) < ((6 : Nat) : Int) := by omega
  rw [run_indexAt_array (P := Tryd.prog) w 28 _ .u8 (e : Int) (by kernel_rfl), show Tryd.prog.arrayLen 28 = 6 by kernel_rfl, if_pos h1, show Tryd.prog.elem 28 = 4 by kernel_rfl]
  simp [go_sem, Addr.add]
theorem idx_grd (w : World) (rb f : Nat) (h : f < 8) : (Instr.indexAt 89 (.pointer (some ⟨rb, 1, none⟩)) (.int .u8 (f : Int))).run Tryd.prog w = .ok (.pointer (some ⟨rb, 1 + f * 2, none⟩)) w := by
  have h1 : (0 : Int) ≤ (f : Int) ∧ (f : Int) < ((64 : Nat) : Int) := by omega
  rw [run_indexAt_array (P := Tryd.prog) w 89 _ .u8 (f : Int) (by kernel_rfl), show Tryd.prog.arrayLen 89 = 64 by kernel_rfl, if_pos h1, show Tryd.prog.elem 89 = 42 by kernel_rfl]
  simp [go_sem, Addr.add]
theorem rmay_any (w : World) (rb e f : Nat) (S : PSt) (h : RI w rb S) (hf : f < 256) : Calls Tryd.prog 61 #[.pointer (some ⟨rb, 0, none⟩), .int .u8 (e : Int), .int .u8 (f : Int)] w fun x w' => x = .returned (.int .i64 (if e < 6 ∧ f < 8 then 0 else 2)) ∧ w = w' := by
  have c0 := h.cells.1
  have hw : wrap64 (f : Int) = (f : Int) := wrap64_s _ ⟨by omega, by omega⟩
  clear h
  by_cases he : e < 6
  · have he' : ¬ (6 : Int) ≤ (e : Int) := by omega
    by_cases hf8 : f < 8
    · rw [if_pos ⟨he, hf8⟩]
      have hf' : ¬ (8 : Int) ≤ (f : Int) := by omega
      go_enter Tryd.func61, Tryd.ntmps61
      go_wp2
      go_ret
      exact ⟨rfl, rfl⟩
    · rw [if_neg (fun k => hf8 k.2)]
      have hf' : (8 : Int) ≤ (f : Int) := by omega
      go_enter Tryd.func61, Tryd.ntmps61
      go_wp2
      go_ret
      exact ⟨rfl, rfl⟩
  · rw [if_neg (fun k => he k.1)]
    have he' : (6 : Int) ≤ (e : Int) := by omega
    go_enter Tryd.func61, Tryd.ntmps61
    go_wp2
    go_ret
    exact ⟨rfl, rfl⟩
end Go.Proofs.YtfoeckaeongahaaDoor
