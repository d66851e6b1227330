/- Upcalls within upcalls: TopNested, walked. -/
import Derived.Test.YtjhngfbhppbcnaaA4
import Derived.Maps.AppendAt
namespace Go.Proofs.Ytjhngfbhppbcnaa
open Go.RowKit
set_option maxRecDepth 100000

section
variable {P : Program}
/-- append to a row of the call's own: the row stays in its block, or moves to a new one. -/
theorem wp_append_at {o : Oper} {a : Act} {w : World} {K : Act → World → Prop} {Q : Exit → Act → World → Prop} (s x : Operand) (t : TypeId) (ho : o.op = .call { callee := .builtin .append, args := #[s, x], argTypes := #[t, t] })
    (e : TypeId) (size bytes : Nat) (h1 : P.underlying t = some (.slice e)) (hI : (P.info? e).map (fun i => (i.zero.map (·.cells.size), i.size, i.bytes)) = some (some size, size, bytes)) (hsz : 0 < size)
    (base : Nat) (v : Value) (n : Nat) (xs : List Value) (hs : a.eval s = v) (hown : w.ownsRow base e size v n xs)
    (B : Option Addr) (k c : Nat) (news : List Value) (hx : a.eval x = .slice B k c) (hr2 : Row w e size (.slice B k c) k news) (hk : 0 < k) (hone : news.all (·.oneCell') = true)
    (b1 : n + k ≤ maxLen) (b2 : (n + k) * bytes ≤ 140737488355328) (hbase : base ≤ w.heap.size)
    (h : ∀ v' w', w'.ownsRow base e size v' (n + k) (xs ++ news) → Kept (fun b => v.ownBlock = some b) w w' → (v'.ownBlock = v.ownBlock ∨ v'.ownBlock = some w.heap.size) → K (a.put o.dst v') w') : o.wp P a w K Q := by
  obtain ⟨i, z, hi, hz, hz1, hz2, hz3⟩ := infoParts hI
  obtain ⟨ad, rfl, hnl, hnews⟩ := hr2.src hk
  obtain ⟨v', w', hrun, r1, r2, _, r3⟩ := run_append_own_at (P := P) w base t o.type e i z size bytes h1 hi hz hz1 hz2 hz3 hsz v n xs hown ad k c news hnl hnews (fun u hu => List.all_eq_true.1 hone u hu) b1 b2 hbase
  unfold Oper.wp
  simp [execOp, ho, resolve, invoke, builtin, hs, hx, hrun, Result.andThen]
  exact h _ _ r1 ((Kept.refl _ _).grown r2 (fun b e => .inl e)) r3

theorem wpList_append_at {ops : Array Oper} {rest : List Oper} {o : Oper} {a : Act} {w : World} {Q : Exit → Act → World → Prop} (hgd : o.guard = none) (s x : Operand) (t : TypeId) (ho : o.op = .call { callee := .builtin .append, args := #[s, x], argTypes := #[t, t] })
    (e : TypeId) (size bytes : Nat) (h1 : P.underlying t = some (.slice e)) (hI : (P.info? e).map (fun i => (i.zero.map (·.cells.size), i.size, i.bytes)) = some (some size, size, bytes)) (hsz : 0 < size)
    (base : Nat) (v : Value) (n : Nat) (xs : List Value) (hs : a.eval s = v) (hown : w.ownsRow base e size v n xs)
    (B : Option Addr) (k c : Nat) (news : List Value) (hx : a.eval x = .slice B k c) (hr2 : Row w e size (.slice B k c) k news) (hk : 0 < k) (hone : news.all (·.oneCell') = true)
    (b1 : n + k ≤ maxLen) (b2 : (n + k) * bytes ≤ 140737488355328) (hbase : base ≤ w.heap.size)
    (h : ∀ v' w', w'.ownsRow base e size v' (n + k) (xs ++ news) → Kept (fun b => v.ownBlock = some b) w w' → (v'.ownBlock = v.ownBlock ∨ v'.ownBlock = some w.heap.size) → wpList P ops Q rest (a.put o.dst v') w') : wpList P ops Q (o :: rest) a w :=
  wpList_plain hgd fun _ hK => wp_append_at s x t ho e size bytes h1 hI hsz base v n xs hs hown B k c news hx hr2 hk hone b1 b2 hbase fun v' w' r1 r2 r3 => hK _ _ (h v' w' r1 r2 r3)
theorem step_append_at {ops : Array Oper} {o : Oper} {a : Act} {w : World} {K : Act → World → Prop} {Q : Exit → Act → World → Prop} {E : Prop} (hgd : o.guard = none) (s x : Operand) (t : TypeId) (ho : o.op = .call { callee := .builtin .append, args := #[s, x], argTypes := #[t, t] })
    (e : TypeId) (size bytes : Nat) (h1 : P.underlying t = some (.slice e)) (hI : (P.info? e).map (fun i => (i.zero.map (·.cells.size), i.size, i.bytes)) = some (some size, size, bytes)) (hsz : 0 < size)
    (base : Nat) (v : Value) (n : Nat) (xs : List Value) (hs : a.eval s = v) (hown : w.ownsRow base e size v n xs)
    (B : Option Addr) (k c : Nat) (news : List Value) (hx : a.eval x = .slice B k c) (hr2 : Row w e size (.slice B k c) k news) (hk : 0 < k) (hone : news.all (·.oneCell') = true)
    (b1 : n + k ≤ maxLen) (b2 : (n + k) * bytes ≤ 140737488355328) (hbase : base ≤ w.heap.size)
    (h : ∀ v' w', w'.ownsRow base e size v' (n + k) (xs ++ news) → Kept (fun b => v.ownBlock = some b) w w' → (v'.ownBlock = v.ownBlock ∨ v'.ownBlock = some w.heap.size) → K (a.put o.dst v') w') :
    if Region.wanted o (yielded ops a.tmps) = true then Oper.wp P o a w K Q else E := by
  have hw : Region.wanted o (yielded ops a.tmps) = true := by simp [Region.wanted, hgd]
  rw [if_pos hw]
  exact wp_append_at s x t ho e size bytes h1 hI hsz base v n xs hs hown B k c news hx hr2 hk hone b1 b2 hbase h
end


def TrueKept (w : World) (e : Ending) (w' : World) : Prop := e = .returned (.bool true) ∧ Kept NoBlk w w'
theorem IsA.ofKept {w w' : World} {g : Nat} {S : St} (h : IsA w g S) (hk : Kept NoBlk w w') : IsA w' g S := h.kept hk (fun e => e) (fun _ _ _ e => e)
theorem IsA.lt {w : World} {g : Nat} {S : St} (h : IsA w g S) : g < w.heap.size := by obtain ⟨v, hB, _⟩ := h; exact hB.lt
theorem IsAt.isA {w : World} {g b0 : Nat} {S : St} (h : IsAt w g S b0) : IsA w g S := by obtain ⟨v, h1, h2, h3, _⟩ := h; exact ⟨v, h1, h2, h3⟩
theorem IsAt.ofKept {w w' : World} {g b0 : Nat} {S : St} (h : IsAt w g S b0) (hk : Kept NoBlk w w') : IsAt w' g S b0 := by
  obtain ⟨v, h1, h2, h3, h4⟩ := h
  exact ⟨v, h1.kept hk (fun e => e), h2.kept hk (fun _ _ _ e => e), h3, h4⟩
/-- A row of the call's own that lay there before the area kept its registers may turn. -/
theorem IsAt.beside {w w' : World} {g b0 base n : Nat} {S : St} {u : Value} {xs : List Value} (h : IsAt w g S b0) (hown : w.ownsRow base 35 9 u n xs) (hu : ∀ b, u.ownBlock = some b → b < b0) (hk : Kept (fun b => u.ownBlock = some b) w w') : IsA w' g S := by
  obtain ⟨v, hB, ⟨hl, hr⟩, h3, h4⟩ := h
  have hg : ¬ u.ownBlock = some g := by
    intro e
    rcases hown.2 with ⟨e1, _⟩ | ⟨g', cap, cur, e1, _, hb, _⟩
    · rw [e1] at e; cases e
    · rw [e1] at e
      injection e with e
      subst e
      exact Blk.ne_ hb hB (by decide) rfl
  refine ⟨v, hB.kept hk hg, ⟨hl, ?_⟩, h3⟩
  rcases hr with hr | ⟨b, cap, cur, hv, hb, r⟩
  · exact .inl hr
  · exact .inr ⟨b, cap, cur, hv, hb.kept hk (fun e => by have h5 := hu b e; have h6 := h4 b 0 cap hv; omega), r⟩
theorem own_away {w w' : World} {g base n : Nat} {S : St} {u : Value} {xs : List Value} (hown : w.ownsRow base 35 9 u n xs) (hA : IsA w g S) (hk : Kept (OneBlk g) w w') : w'.ownsRow base 35 9 u n xs := by
  obtain ⟨v, hB, _⟩ := hA
  obtain ⟨hl, h | ⟨g', cap, cur, hv, hb, hgg, r⟩⟩ := hown
  · exact ⟨hl, .inl h⟩
  · exact ⟨hl, .inr ⟨g', cap, cur, hv, hb, Blk.kept hgg hk (fun e => Blk.ne_ hgg hB (by decide) e), r⟩⟩
theorem own_ofKept {w w' : World} {base n : Nat} {u : Value} {xs : List Value} (hown : w.ownsRow base 35 9 u n xs) (hk : Kept NoBlk w w') : w'.ownsRow base 35 9 u n xs := own_kept hown hk (fun _ _ e => e)
theorem own_lt {w : World} {base n : Nat} {u : Value} {xs : List Value} (h : w.ownsRow base 35 9 u n xs) {b : Nat} (hb : u.ownBlock = some b) : base ≤ b ∧ b < w.heap.size := h.lt b hb
theorem own_one {w : World} {base b : Nat} {a : Nat → Int} (hB : Blk w b 35 (regCells a).toArray) (hb : base ≤ b) : w.ownsRow base 35 9 (.slice (some ⟨b, 0, none⟩) 1 1) 1 (rowsOf [a]) :=
  ⟨rfl, .inr ⟨b, 1, _, rfl, hb, hB, Nat.le_refl _, by simp [maxLen], rfl, rfl⟩⟩
theorem rowsOf_snoc (l : List (Nat → Int)) (a : Nat → Int) : rowsOf (l ++ [a]) = rowsOf l ++ regCells a := by simp [rowsOf]
theorem rows_at : ∀ (l : List (Nat → Int)) (i : Nat) (a : Nat → Int) (j : Nat), l[i]? = some a → j < 9 → (rowsOf l)[i * 9 + j]? = (regCells a)[j]?
  | [], i, a, j, h, _ => by simp at h
  | x :: l, 0, a, j, h, hj => by
    simp only [List.getElem?_cons_zero, Option.some.injEq] at h
    subst h
    have e : rowsOf (x :: l) = regCells x ++ rowsOf l := by simp [rowsOf]
    rw [e, List.getElem?_append_left (by simp [regCells]; omega)]
    simp
  | x :: l, i + 1, a, j, h, hj => by
    have e : rowsOf (x :: l) = regCells x ++ rowsOf l := by simp [rowsOf]
    have hl : (regCells x).length = 9 := rfl
    rw [e, List.getElem?_append_right (by omega), hl, show (i + 1) * 9 + j - 9 = i * 9 + j by omega]
    exact rows_at l i a j (by simpa using h) hj

theorem run_neq_same (w : World) (a0 a1 a2 a3 a4 a5 a6 a7 a8 : Int) :
   (binOp .neq 35 (.agg #[.int .u16 a0, .int .u16 a1, .int .u16 a2, .int .u16 a3, .int .u16 a4, .int .u16 a5, .int .u16 a6, .int .u16 a7, .int .u16 a8]) (.agg #[.int .u16 a0, .int .u16 a1, .int .u16 a2, .int .u16 a3, .int .u16 a4, .int .u16 a5, .int .u16 a6, .int .u16 a7, .int .u16 a8])).run Try.prog w = .ok (.bool false) w := by
  rw [run_neq_regs]
  simp
theorem run_eql_same (w : World) (a0 a1 a2 a3 a4 a5 a6 a7 a8 : Int) :
   (binOp .eql 35 (.agg #[.int .u16 a0, .int .u16 a1, .int .u16 a2, .int .u16 a3, .int .u16 a4, .int .u16 a5, .int .u16 a6, .int .u16 a7, .int .u16 a8]) (.agg #[.int .u16 a0, .int .u16 a1, .int .u16 a2, .int .u16 a3, .int .u16 a4, .int .u16 a5, .int .u16 a6, .int .u16 a7, .int .u16 a8])).run Try.prog w = .ok (.bool true) w := by
  rw [run_eql_regs]
  simp
theorem run_neqGuard (w : World) (x y : Operand) (a b : Array Value) : (eqGuard .neq 35 x y (.agg a) (.agg b)).run Try.prog w = .ok () w := run_eqGuard_agg w .neq 35 x y _ _ (by kernel_rfl)
theorem run_eqlGuard (w : World) (x y : Operand) (a b : Array Value) : (eqGuard .eql 35 x y (.agg a) (.agg b)).run Try.prog w = .ok () w := run_eqGuard_agg w .eql 35 x y _ _ (by kernel_rfl)

theorem Row.at0 {w : World} {t : TypeId} {m n : Nat} {v : Value} {xs : List Value} (h : Row w t m v n xs) (hn : 0 < n) : ∃ b cap, v = .slice (some ⟨b, 0, none⟩) n cap ∧ n ≤ cap ∧ b < w.heap.size ∧ ∀ j u, xs[j]? = some u → w.cell? ⟨b, j, none⟩ = some u := by
  obtain ⟨hl, ⟨_, h0⟩ | ⟨b, cap, cur, hv, hb, h1, h2, h3, h4⟩⟩ := h
  · omega
  · refine ⟨b, cap, hv, h1, hb.lt, fun j u hu => ?_⟩
    rw [hb.cell j, ← Array.getElem?_toList]
    rw [← h4, List.getElem?_take] at hu
    split at hu
    · exact hu
    · cases hu
/-- The nine cells of the element at j. -/
theorem nine {w : World} {b j : Nat} {L : List (Nat → Int)} {a : Nat → Int} (ha : L[j]? = some a) (hc : ∀ k u, (rowsOf L)[k]? = some u → w.cell? ⟨b, k, none⟩ = some u) :
    (w.cell? ⟨b, j * 9, none⟩ = some (.int .u16 (a 0)) ∧ w.cell? ⟨b, j * 9 + 1, none⟩ = some (.int .u16 (a 1)) ∧ w.cell? ⟨b, j * 9 + 2, none⟩ = some (.int .u16 (a 2)) ∧ w.cell? ⟨b, j * 9 + 3, none⟩ = some (.int .u16 (a 3)) ∧ w.cell? ⟨b, j * 9 + 4, none⟩ = some (.int .u16 (a 4))) ∧
    w.cell? ⟨b, j * 9 + 5, none⟩ = some (.int .u16 (a 5)) ∧ w.cell? ⟨b, j * 9 + 6, none⟩ = some (.int .u16 (a 6)) ∧ w.cell? ⟨b, j * 9 + 7, none⟩ = some (.int .u16 (a 7)) ∧ w.cell? ⟨b, j * 9 + 8, none⟩ = some (.int .u16 (a 8)) := by
  refine ⟨⟨?_, ?_, ?_, ?_, ?_⟩, ?_, ?_, ?_, ?_⟩
  · exact hc _ _ (rows_at L j a 0 ha (by omega))
  · exact hc _ _ (rows_at L j a 1 ha (by omega))
  · exact hc _ _ (rows_at L j a 2 ha (by omega))
  · exact hc _ _ (rows_at L j a 3 ha (by omega))
  · exact hc _ _ (rows_at L j a 4 ha (by omega))
  · exact hc _ _ (rows_at L j a 5 ha (by omega))
  · exact hc _ _ (rows_at L j a 6 ha (by omega))
  · exact hc _ _ (rows_at L j a 7 ha (by omega))
  · exact hc _ _ (rows_at L j a 8 ha (by omega))

/-- One more upcall. -/
def step (S : St) (j : Nat) : St := upcallSt (entrySt S j (100 + (j : Int))) j (j : Int)
theorem step_kept (S : St) (j : Nat) : (step S j).kept = S.kept ++ [S.rg] := rfl
theorem step_dead (S : St) (j : Nat) : (step S j).dead = S.dead := rfl
theorem two_calls (w : World) (g : Nat) (S : St) (hA : IsA w g S) (j : Nat) (hj : j < 4) :
    Calls Try.prog 14 #[.pointer (some ⟨g, 0, none⟩), .int .u8 j, .int .u16 (100 + (j : Int))] w fun x w' => x = .returned (.int .i64 0) ∧ IsA w' g (entrySt S j (100 + (j : Int))) ∧ Kept (OneBlk g) w w' := by
  have := entry_ok w g S hA j (100 + (j : Int)) (by omega) (by omega)
  simpa using this
theorem two_calls' (w : World) (g : Nat) (S : St) (hd : S.dead = false) (j : Nat) (hj : j < 4) (hlen : S.kept.length = j) (hA : IsA w g (entrySt S j (100 + (j : Int)))) :
    Calls Try.prog 15 #[.pointer (some ⟨g, 0, none⟩), .int .u8 j, .int .u16 j] w fun x w' => x = .returned (.int .i64 0) ∧ IsAt w' g (step S j) w.heap.size ∧ Kept (OneBlk g) w w' := by
  have := upcall_ok w g (entrySt S j (100 + (j : Int))) hA hd j (j : Int) (by omega) (by omega) (by simp [entrySt, upd]) (by show S.kept.length < 4; omega)
  simpa [step] using this

set_option maxHeartbeats 8000000 in
theorem nested_any (w : World) (s : Nat → Int) (d : Int) (hd : 0 ≤ d ∧ d ≤ 255) :
   Calls Try.prog 4 #[regV s, .int .u8 d] w (TrueKept w) := by
  have HBX := Lib.hid (Blk.new w 35 #[.int .u16 (s 0), .int .u16 (s 1), .int .u16 (s 2), .int .u16 (s 3), .int .u16 (s 4), .int .u16 (s 5), .int .u16 (s 6), .int .u16 (s 7), .int .u16 (s 8)])
  have hN := fun w1 => new_any w1 s
  have hG : ∀ w g S, IsA w g S → Calls Try.prog 16 #[.pointer (some ⟨g, 0, none⟩)] w fun e w' => e = .returned (regV S.rg) ∧ Kept NoBlk w w' := regs_any
  unfold regV at hN hG ⊢
  have HN := Lib.hid hN
  have HG := Lib.hid hG
  clear hN hG
  obtain ⟨n, hn⟩ : ∃ n : Nat, d % 4 + 1 = (n : Int) := ⟨(d % 4 + 1).toNat, by omega⟩
  have hn1 : 1 ≤ n := by omega
  have hn4 : n ≤ 4 := by omega
  have Hn := Lib.hid hn
  clear hn
  have hq1 := run_neq_same
  have hq2 := run_eql_same
  have hq3 := run_neqGuard
  have hq4 := run_eqlGuard
  go_enter Try.func4, Try.ntmps4
  go_wp2_with fail
  refine (HN.out _).mono ?_
  rintro e w1 ⟨g, rfl, hg, hg1, hA, hK⟩
  have hgw : w.heap.size ≤ g := by simp at hg; omega
  have hbx1 := (HBX.out.kept hK (fun e => e)).cell
  have hbl1 := (HBX.out.kept hK (fun e => e)).lt
  have hk1 : Kept NoBlk w w1 := Kept.trans (by repeat (with_reducible first | exact Kept.refl _ _ | apply Kept.drew | apply Kept.drewN | apply Kept.alloc | exact oneHit | apply Kept.setCell)) hK
  have hs1 := hk1.size
  have hs1' : w.heap.size + 1 ≤ w1.heap.size := by have := hK.size; simpa using this
  go_wp2
  rw [Hn.out]
  have HO := Lib.hid (own_one (base := w.heap.size + 1) (a := s) (Blk.new w1 35 (regCells s).toArray) hs1')
  have HX := Lib.hid (show Blk (w1.alloc (.cells (regCells s).toArray 35)) w.heap.size 35 (regCells s).toArray from (HBX.out.kept hK (fun e => e)).alloc _)
  have HA := Lib.hid (hA.ofKept (w' := w1.alloc (.cells (regCells s).toArray 35)) (by repeat (with_reducible first | exact Kept.refl _ _ | apply Kept.drew | apply Kept.drewN | apply Kept.alloc | exact oneHit | apply Kept.setCell)))
  have HK := Lib.hid (show Kept NoBlk w (w1.alloc (.cells (regCells s).toArray 35)) from hk1.alloc _)
  clear hA hK hk1 hg hg1 hbx1 hbl1 hs1 hs1'
  go_loopw [7, 8, 9] (fun av iv _ wr => ∃ (j : Nat) (S : St), j ≤ n ∧ iv = .int .i64 j ∧ S.dead = false ∧ S.kept.length = j ∧ (S.kept ++ [S.rg])[0]? = some s ∧ IsA wr g S ∧ wr.ownsRow (w.heap.size + 1) 35 9 av (j + 1) (rowsOf (S.kept ++ [S.rg])) ∧ Blk wr w.heap.size 35 (regCells s).toArray ∧ Kept NoBlk w wr) (fun _ iv _ _ => n - (intOf iv).toNat)
  case atStart => exact ⟨0, newSt s, by omega, rfl, rfl, rfl, rfl, HA.out, HO.out, HX.out, HK.out⟩
  case round =>
    obtain ⟨j, S, hj, rfl, hd0, hlen, hL0, hA, hown, hX, hK⟩ := hrel
    clear HA HO HK HX
    have HX := Lib.hid hX
    clear hX
    have HA := Lib.hid hA
    have HO := Lib.hid hown
    have HK := Lib.hid hK
    have HL0 := Lib.hid hL0
    have HLen := Lib.hid hlen
    have HD := Lib.hid hd0
    clear hA hown hK hL0 hlen hd0
    by_cases hlt : j < n
    · have hE := Lib.hid (two_calls wr g S HA.out j (by omega))
      have hm5 : (j : Int) % 5 = (j : Int) := by omega
      go_wp2_with fail
      refine (hE.out).mono ?_
      rintro e w2 ⟨rfl, hA2, hK2⟩
      have ho2 := own_away HO.out HA.out hK2
      have hx2 : Blk w2 w.heap.size 35 (regCells s).toArray := HX.out.kept hK2 (fun e => by obtain ⟨v, hB, _⟩ := HA.out; exact HX.out.ne_ hB (by decide) e)
      have hk2 : Kept NoBlk w w2 := HK.out.fresh hK2 (fun b e => by have e' : b = g := e; omega)
      have hU := Lib.hid (two_calls' w2 g S HD.out j (by omega) HLen.out hA2)
      go_wp2_with fail
      refine (hU.out).mono ?_
      rintro e w3 ⟨rfl, hA3, hK3⟩
      have ho3 := own_away ho2 hA2 hK3
      have hx3 : Blk w3 w.heap.size 35 (regCells s).toArray := hx2.kept hK3 (fun e => by obtain ⟨v, hB, _⟩ := hA2; exact hx2.ne_ hB (by decide) e)
      have hk3 : Kept NoBlk w w3 := hk2.fresh hK3 (fun b e => by have e' : b = g := e; omega)
      have hRg := Lib.hid (HG.out w3 g _ hA3.isA)
      have hlow : ∀ b, u7.ownBlock = some b → b < w2.heap.size := fun b e => (own_lt ho2 e).2
      go_wp2_with fail
      refine (hRg.out).mono ?_
      rintro e w4 ⟨rfl, hK4⟩
      have hA4 := hA3.ofKept hK4
      have ho4 := own_ofKept ho3 hK4
      have hk4 := hk3.trans hK4
      have HX4 := Lib.hid (hx3.kept hK4 (fun e => e))
      have HA4 := Lib.hid hA4
      have HO4 := Lib.hid ho4
      have HK4 := Lib.hid hk4
      have HLow := Lib.hid hlow
      have hs4 := hk4.size
      have hl1 : (S.kept ++ [S.rg]).length = j + 1 := by simp [HLen.out]
      clear hx2 hx3 hA2 hK2 ho2 hk2 hA3 hK3 ho3 hk3 hK4 hA4 ho4 hk4 hlow
      go_wp2_with (refine wpList_append_at rfl (.tmp 42) (.tmp 45) 38 rfl 35 9 18 Try.underlying38 Try.sz35 (by decide) (w.heap.size + 1) u7 (j + 1) (rowsOf (S.kept ++ [S.rg])) rfl (own_ofKept HO4.out ((Kept.refl _ _).alloc _)) (some ⟨w4.heap.size, 0, none⟩) 1 1 (regCells (step S j).rg) rfl (Row.new (Blk.new _ _ _) (by simp) (by simp [maxLen])) (by decide) rfl (by simp only [maxLen]; omega) (by omega) (by simp; omega) ?_; intro v5 w5 r1 r2 r3)
      go_roundw
      case rel =>
        refine ⟨j + 1, step S j, by omega, by go_num, HD.out, ?_, ?_, ?_, ?_, (HX4.out.alloc _).kept r2 (fun e => by have := (own_lt HO4.out e).1; omega), ?_⟩
        · rw [step_kept, hl1]
        · rw [step_kept]
          rw [List.getElem?_append_left (by omega)]
          exact HL0.out
        · exact (HA4.out.ofKept ((Kept.refl _ _).alloc _)).beside (own_ofKept HO4.out ((Kept.refl _ _).alloc _)) HLow.out r2
        · rw [step_kept, rowsOf_snoc]
          exact r1
        · exact Kept.fresh (HK4.out.alloc _) r2 (fun b e => by have := (own_lt HO4.out e).1; omega)
      case measure => simp [intOf]; omega
    · obtain rfl : j = n := by omega
      obtain ⟨L, hL⟩ : ∃ L, L = S.kept ++ [S.rg] := ⟨_, rfl⟩
      have hrow := Row.of_own HO.out
      rw [← hL] at hrow HL0
      obtain ⟨b, cap, rfl, hcap, hb, _⟩ := hrow.at0 (by omega)
      have hLl : L.length = j + 1 := by rw [hL]; simp [HLen.out]
      have hk0 : S.kept = L.take j := by rw [hL, List.take_left' HLen.out]
      have hr0 : L[j]? = some S.rg := by rw [hL, List.getElem?_append_right (by have := HLen.out; omega)]; simp [HLen.out]
      have HR := Lib.hid hrow
      have HLl := Lib.hid hLl
      have HK0 := Lib.hid hk0
      have HR0 := Lib.hid hr0
      clear hrow hL HO hLl hk0 hr0
      go_wp2
      go_loopw [10] (fun iv wr => ∃ (i : Nat) (S' : St), i ≤ j ∧ iv = .int .i64 i ∧ S'.dead = false ∧ S'.kept = L.take i ∧ L[i]? = some S'.rg ∧ IsA wr g S' ∧ Row wr 35 9 (.slice (some ⟨b, 0, none⟩) (j + 1) cap) (j + 1) (rowsOf L) ∧ Blk wr w.heap.size 35 (regCells s).toArray ∧ Kept NoBlk w wr) (fun iv _ => (intOf iv).toNat)
      case atStart => exact ⟨j, S, by omega, rfl, HD.out, HK0.out, HR0.out, HA.out, HR.out, HX.out, HK.out⟩
      case round =>
        obtain ⟨i, S', hij, rfl, hd', hk', hr', hA', hrow', hX', hK'⟩ := hrel
        clear HA HR HK HD HK0 HR0 HX
        have HX := Lib.hid hX'
        clear hX'
        have HA := Lib.hid hA'
        have HR := Lib.hid hrow'
        have HK := Lib.hid hK'
        have HD := Lib.hid hd'
        have HKp := Lib.hid hk'
        have HRg := Lib.hid hr'
        clear hA' hrow' hK' hd' hk' hr'
        have hlen' : S'.kept.length = i := by rw [HKp.out, List.length_take]; have := HLl.out; omega
        have HLn := Lib.hid hlen'
        clear hlen'
        have hDp : ∀ w', Kept NoBlk wr w' → Calls Try.prog 17 #[.pointer (some ⟨g, 0, none⟩)] w' fun x w'' => x = .returned (.int .i64 i) ∧ w' = w'' := fun w' hk => by
          have := depth_any w' g S' (HA.out.ofKept hk)
          rw [HLn.out] at this
          exact this
        have HDp := Lib.hid hDp
        clear hDp
        by_cases hpos : 0 < i
        · have hcells : ∀ w', Kept NoBlk wr w' → ∀ k u, (rowsOf L)[k]? = some u → w'.cell? ⟨b, k, none⟩ = some u := fun w' hk => by
            obtain ⟨b', cap', hv, _, _, hc⟩ := (HR.out.kept hk (fun _ _ _ e => e)).at0 (by omega)
            injection hv with q1 q2 q3
            injection q1 with q1
            injection q1 with q4 q5 q6
            subst q4
            exact hc
          obtain ⟨⟨c0, c1, c2, c3, c4⟩, c5, c6, c7, c8⟩ := nine HRg.out (hcells _ ((Kept.refl NoBlk wr).drew))
          have HC := Lib.hid hcells
          clear hcells
          have hij1 : (i : Int) < (j : Int) + 1 := by omega
          go_wp2
          refine wp_region_plan (by kernel_rfl) (.q 0 <| .q 2 <| .e 1 [2] <| .q 3 <| .q 4 <| .q 5 <| .q 7 <| .q 8 <| .q 9 <| .q 10 <| .e 6 [7, 8, 9, 10] <| .q 11 <| .q 12 <| .q 13 <| .q 14 <| .e 15 [] <| .q 16 <| .q 17 <| .nil) (by kernel_rfl) (by kernel_rfl) ?_
          repeat (refine plan_q rfl (fun K hK => ?_); go_simp; refine hK _ ?_; clear hK K)
          refine plan_e rfl (fun K hK => ?_)
          go_simp
          refine (HDp.out _ (by repeat (with_reducible first | exact Kept.refl _ _ | apply Kept.drew | apply Kept.drewN | apply Kept.alloc | exact oneHit | apply Kept.setCell))).mono ?_
          rintro x w2 ⟨rfl, rfl⟩
          refine hK _ _ (by (repeat (refine stab_cons rfl ?_ ?_; focus (go_simp; done))); exact stab_nil) ?_
          clear hK K
          repeat (refine plan_q rfl (fun K hK => ?_); go_simp; refine hK _ ?_; clear hK K)
          refine plan_e rfl (fun K hK => ?_)
          go_simp
          have hRG := HG.out _ g S' (HA.out.ofKept ((Kept.refl NoBlk wr).drew))
          refine (hRG).mono ?_
          rintro x w3 ⟨rfl, hK3⟩
          have hk3 : Kept NoBlk wr w3 := Kept.trans (by repeat (with_reducible first | exact Kept.refl _ _ | apply Kept.drew | apply Kept.drewN | apply Kept.alloc | exact oneHit | apply Kept.setCell)) hK3
          obtain ⟨⟨d0, d1, d2, d3, d4⟩, d5, d6, d7, d8⟩ := nine HRg.out (HC.out w3 hk3)
          refine hK _ _ (by (repeat (refine stab_cons rfl ?_ ?_; focus (go_simp; done))); exact stab_nil) ?_
          clear hK K
          repeat (refine plan_q rfl (fun K hK => ?_); go_simp; refine hK _ ?_; clear hK K)
          refine plan_e rfl (fun K hK => ?_)
          go_simp
          have hA3 := HA.out.ofKept hk3
          obtain ⟨a, ha⟩ : ∃ a, L[i - 1]? = some a := ⟨_, List.getElem?_eq_getElem (by have := HLl.out; omega)⟩
          have hsp : S'.kept = L.take (i - 1) ++ [a] := by
            rw [HKp.out]
            have := List.take_add_one (l := L) (i := i - 1)
            rw [ha, show i - 1 + 1 = i by omega] at this
            exact this
          refine (return_some w3 g S' hA3 HD.out (L.take (i - 1)) a hsp).mono ?_
          rintro x w4 ⟨rfl, hA4, hK4⟩
          have hrow4 := (HR.out.kept hk3 (fun _ _ _ e => e)).kept hK4 (fun b cs hb e => by obtain ⟨v, hB, _⟩ := hA3; exact hb.ne_ hB (by decide) e)
          have hx4 : Blk w4 w.heap.size 35 (regCells s).toArray := (HX.out.kept hk3 (fun e => e)).kept hK4 (fun e => by obtain ⟨v, hB, _⟩ := hA3; exact (HX.out.kept hk3 (fun e => e)).ne_ hB (by decide) e)
          have hk4 : Kept NoBlk w w4 := (HK.out.trans hk3).fresh hK4 (fun b e => by have e' : b = g := e; omega)
          have HA4 := Lib.hid hA4
          have HR4 := Lib.hid hrow4
          have HX4 := Lib.hid hx4
          have HK4 := Lib.hid hk4
          have Ha := Lib.hid ha
          clear hA4 hrow4 hx4 hk4 hA3 hsp ha hK4 hK3
          refine hK _ _ stab_nil ?_
          clear hK K
          repeat (refine plan_q rfl (fun K hK => ?_); go_simp; refine hK _ ?_; clear hK K)
          refine plan_nil ?_
          go_wp2
          go_roundw
          case rel => exact ⟨i - 1, { S' with rg := a, kept := L.take (i - 1) }, by omega, by rw [show ((i - 1 : Nat) : Int) = (i : Int) - 1 by omega], HD.out, rfl, Ha.out, HA4.out, HR4.out, HX4.out, HK4.out⟩
          case measure => simp [intOf]; omega
        · obtain rfl : i = 0 := by omega
          have hrs : S'.rg = s := by
            have h1 := HRg.out
            have h2 := HL0.out
            rw [h1] at h2
            injection h2
          have hbx := HX.out.cell
          have hbl := HX.out.lt
          simp only [regCells] at hbx
          go_wp2
          refine wp_region_plan (by kernel_rfl) (.q 0 <| .q 2 <| .e 1 [2] <| .q 3 <| .q 4 <| .q 5 <| .e 6 [] <| .q 7 <| .q 8 <| .q 9 <| .nil) (by kernel_rfl) (by kernel_rfl) ?_
          repeat (refine plan_q rfl (fun K hK => ?_); go_simp; refine hK _ ?_; clear hK K)
          refine plan_e rfl (fun K hK => ?_)
          go_simp
          have hRG := HG.out _ g S' (HA.out.ofKept ((Kept.refl NoBlk wr).drew))
          rw [hrs] at hRG
          refine (hRG).mono ?_
          rintro x w3 ⟨rfl, hK3⟩
          have hk3 : Kept NoBlk wr w3 := Kept.trans (by repeat (with_reducible first | exact Kept.refl _ _ | apply Kept.drew | apply Kept.drewN | apply Kept.alloc | exact oneHit | apply Kept.setCell)) hK3
          have hbx3 := (HX.out.kept hk3 (fun e => e)).cell
          have hbl3 := (HX.out.kept hk3 (fun e => e)).lt
          simp only [regCells] at hbx3
          refine hK _ _ (by (repeat (refine stab_cons rfl ?_ ?_; focus (go_simp; done))); exact stab_nil) ?_
          clear hK K
          repeat (refine plan_q rfl (fun K hK => ?_); go_simp; refine hK _ ?_; clear hK K)
          refine plan_e rfl (fun K hK => ?_)
          go_simp
          refine (HDp.out _ hk3).mono ?_
          rintro x w4 ⟨rfl, rfl⟩
          refine hK _ _ stab_nil ?_
          clear hK K
          repeat (refine plan_q rfl (fun K hK => ?_); go_simp; refine hK _ ?_; clear hK K)
          refine plan_nil ?_
          go_wp2
          go_ret
          exact ⟨rfl, HK.out.trans hk3⟩
end Go.Proofs.Ytjhngfbhppbcnaa
