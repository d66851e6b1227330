/- Slices of a core's time: Turn, where every place is somebody's and nobody owes a turn. -/
import Derived.Test.YtjhngfbhppbcnaaQ2
namespace Go.Proofs.Ytjhngfbhppbcnaa
open Go.RowKit Go.Shelf
attribute [local go_sem] Oper.semAt_some
set_option maxRecDepth 100000

theorem Blk.grown {W W' : World} {g : Nat} {t : TypeId} {cs : Array Value} {row : Option Nat} (h : Blk W g t cs) (hg : W.grownBy W' row) (hr : ∀ r, row = some r → ∃ o : Obj, W.heap[r]? = some o ∧ o.isCells = false) : Blk W' g t cs :=
  (hg.block g h.lt (fun e => by
    obtain ⟨o, ho, hc⟩ := hr g e.symm
    have := h.symm.trans ho
    simp only [Option.some.injEq] at this
    subst this
    cases hc)).trans h
theorem Blk.putO {W : World} {g : Nat} {t : TypeId} {cs : Array Value} {D : Nat} {o o' : Obj} (h : Blk W g t cs) (ho : W.heap[D]? = some o) (hc : o.isCells = false) : Blk (W.putObj D o') g t cs :=
  h.grown (grownBy_putObj' W D o') (fun r e => by cases e; exact ⟨o, ho, hc⟩)
theorem IsV.grown {W W' : World} {g gp gq : Nat} {P : Nat → Int} {now : Int} {row : Option Nat} (h : IsV W g gp gq P now) (hg : W.grownBy W' row) (hr : ∀ r, row = some r → ∃ o : Obj, W.heap[r]? = some o ∧ o.isCells = false) : IsV W' g gp gq P now :=
  ⟨h.v.grown hg hr, h.p.grown hg hr, h.q.grown hg hr⟩

theorem round_in (F : Fence) (n : Nat) (h5 : F.fn 43) (hro : F.round = none) (g : Nat) (w : World) :
    CallsIn F n Try.prog 43 #[.pointer (some ⟨g, 0, none⟩)] w fun e w' => e = .returned (.func (.func 72) #[] #[.pointer (some ⟨w.heap.size, 0, none⟩)]) ∧ w' = w.alloc (.cells #[.pointer (some ⟨g, 0, none⟩)] 23) := by
  refine callsIn_of_wp Try.func43 rfl h5 ?_ hro
  simp only [Try.ntmps43, List.size_toArray, List.length_cons, List.length_nil, Nat.reduceAdd, Nat.reduceSub, Array.replicate_succ, Array.replicate_zero, List.push_toArray, List.append_toArray, List.nil_append, List.cons_append]
  gi_wp2
  go_ret
  exact ⟨rfl, rfl⟩
theorem round_stops (F : Fence) (n : Nat) (h7 : F.fn 72) (hro : F.round = none) (hn : 1 ≤ n) (Bv g gp gq : Nat) (P : Nat → Int) (hP : ∀ k, k < 8 → 0 ≤ P k ∧ P k < 6) (now : Nat) (hnow : now < 8) (w : World)
    (hB : Blk w Bv 23 #[.pointer (some ⟨g, 0, none⟩)]) (hV : IsV w g gp gq P now) :
    SeqStopsK F n Try.prog 72 #[.pointer (some ⟨Bv, 0, none⟩)] encP (Below w.heap.size) (fun ys => ys = upto (nth P hP now) 8) (fun pre => ∃ k, k ≤ 8 ∧ pre = upto (nth P hP now) k) 8 w := fun l J Jx W hW _ _ hY h0 => by
  have kw : Kept NoBlk w W := Kept.of_below hW
  refine round1_in F n h7 hro hn l Bv w.heap.size g gp gq P hP now hnow J Jx hV.v.lt hV.p.lt hB.lt hY W ?_ (hV.kept kw (fun e => e) (fun e => e) (fun e => e)) h0
  rw [(hB.kept kw (fun e => e)).cell]
  rfl

/-- What Turn leaves in its results' cells. -/
structure Left (w W : World) (g gp gq : Nat) (P : Nat → Int) (x : Plc) : Prop where
  vec : IsV W g gp gq P (x.1.1 : Int)
  r0 : Blk W (w.heap.size + 1) 3 #[.int .i64 (x.1.1 : Int)]
  r1 : Blk W (w.heap.size + 1 + 1) 5 #[.int .u8 x.1.2]
  r2 : Blk W (w.heap.size + 1 + 1 + 1) 4 #[.bool true]
  kept : Kept (OneBlk g) w W
structure Mid (w W : World) (g gp gq : Nat) (P : Nat → Int) (now : Nat) : Prop where
  vec : IsV W g gp gq P now
  b : Blk W w.heap.size 23 #[.pointer (some ⟨g, 0, none⟩)]
  r0 : Blk W (w.heap.size + 1) 3 #[.int .i64 0]
  r1 : Blk W (w.heap.size + 1 + 1) 5 #[.int .u8 0]
  r2 : Blk W (w.heap.size + 1 + 1 + 1) 4 #[.bool false]
  kept : Kept (OneBlk g) w W
theorem Left.grown {w W W' : World} {g gp gq : Nat} {P : Nat → Int} {x : Plc} {row : Option Nat} (h : Left w W g gp gq P x) (hg : W.grownBy W' row) (hr : ∀ r, row = some r → w.heap.size ≤ r ∧ ∃ o : Obj, W.heap[r]? = some o ∧ o.isCells = false) : Left w W' g gp gq P x :=
  have hr' := fun r e => (hr r e).2
  ⟨h.vec.grown hg hr', h.r0.grown hg hr', h.r1.grown hg hr', h.r2.grown hg hr', h.kept.grown hg (fun k e => .inr (hr k e).1)⟩
theorem Mid.grown {w W W' : World} {g gp gq : Nat} {P : Nat → Int} {now : Nat} {row : Option Nat} (h : Mid w W g gp gq P now) (hg : W.grownBy W' row) (hr : ∀ r, row = some r → w.heap.size ≤ r ∧ ∃ o : Obj, W.heap[r]? = some o ∧ o.isCells = false) : Mid w W' g gp gq P now :=
  have hr' := fun r e => (hr r e).2
  ⟨h.vec.grown hg hr', h.b.grown hg hr', h.r0.grown hg hr', h.r1.grown hg hr', h.r2.grown hg hr', h.kept.grown hg (fun k e => .inr (hr k e).1)⟩

set_option maxHeartbeats 4000000 in
theorem turn_in (F : Fence) (n : Nat) (h12 : F.fn 12) (h43 : F.fn 43) (h72 : F.fn 72) (hro : F.round = none) (hn : 3 ≤ n) (w : World) (g gp gq : Nat) (P : Nat → Int) (hP : ∀ k, k < 8 → 0 ≤ P k ∧ P k < 6) (now : Nat) (hnow : now < 8) (hV : IsV w g gp gq P now) :
    CallsIn F n Try.prog 12 #[.pointer (some ⟨g, 0, none⟩)] w fun e w' => e = .returned (.tuple #[.int .i64 (((now + 1) % 8 : Nat) : Int), .int .u8 (P ((now + 1) % 8)), .bool true]) ∧ IsV w' g gp gq P (((now + 1) % 8 : Nat) : Int) ∧ Kept (OneBlk g) w w' := by
  have h1 : 1 ≤ n := by omega
  have h1' : 1 ≤ n - 1 := by omega
  have HV := Lib.hid hV
  have hltg := hV.v.lt
  clear hV
  refine callsIn_of_wp_marks Try.func12 rfl h12 ?_ hro
  simp only [Try.ntmps12, List.size_toArray, List.length_cons, List.length_nil, Nat.reduceAdd, Nat.reduceSub, Array.replicate_succ, Array.replicate_zero, List.push_toArray, List.append_toArray, List.nil_append, List.cons_append]
  gi_wp2_with (gi_at_call 43; refine (round_in F (n - 1) h43 hro _ _).mono ?_; rintro e w' ⟨rfl, rfl⟩)
  obtain ⟨W0, hW0⟩ : ∃ W0, (((((w.alloc (.cells #[.pointer (some ⟨g, 0, none⟩)] 23)).alloc (.cells #[.int .i64 0] 3)).alloc (.cells #[.int .u8 0] 5)).alloc (.cells #[.bool false] 4)).alloc (.cells #[.pointer (some ⟨g, 0, none⟩)] 23)) = W0 := ⟨_, rfl⟩
  rw [hW0]
  have s0 : W0.heap.size = w.heap.size + 5 := by rw [← hW0]; simp
  have k0 : Kept NoBlk w W0 := by rw [← hW0]; repeat (with_reducible first | exact Kept.refl _ _ | apply Kept.drew | apply Kept.drewN | apply Kept.alloc | exact oneHit | apply Kept.setCell)
  have hM : Mid w W0 g gp gq P now := by
    refine ⟨HV.out.kept k0 (fun e => e) (fun e => e) (fun e => e), ?_, ?_, ?_, ?_, k0.weaken fun _ _ e => e.elim⟩
    all_goals rw [← hW0]
    · exact ((((Blk.new w _ _).alloc _).alloc _).alloc _).alloc _
    · exact (((Blk.new_at _ _ _ (by simp)).alloc _).alloc _).alloc _
    · exact ((Blk.new_at _ _ _ (by simp)).alloc _).alloc _
    · exact (Blk.new_at _ _ _ (by simp)).alloc _
  have hBv : Blk W0 (w.heap.size + 1 + 1 + 1 + 1) 23 #[.pointer (some ⟨g, 0, none⟩)] := by rw [← hW0]; exact Blk.new_at _ _ _ (by simp)
  clear hW0 k0
  refine wpIn_rangeFunc_ownF hro h1 (gf := 72) (lb := #[.pointer (some ⟨w.heap.size + 1 + 1 + 1 + 1, 0, none⟩)]) rfl h72 (enters_of Try.func72 (by kernel_rfl) rfl)
    (round_stops F (n - 1) h72 hro h1' _ g gp gq P hP now hnow W0 hBv hM.vec) belowK_t (belowK_b (Nat.le_refl _)) (Below.refl _ _) (fun _ => rfl)
    (fun pre W => pre = [] ∧ Mid w W g gp gq P now)
    (fun c pre W => c = .ret ∧ ∃ x, pre = [x] ∧ Left w W g gp gq P x)
    (fun s A B row hs hg hr => ⟨hs.1, hs.2.grown hg (fun r e => ⟨by have := (hr r e).1; omega, (hr r e).2⟩)⟩)
    (fun c s A B row hs hg hr => by
      obtain ⟨h1, x, h2, h3⟩ := hs
      exact ⟨h1, x, h2, h3.grown hg (fun r e => ⟨by have := (hr r e).1; omega, (hr r e).2⟩)⟩)
    ⟨rfl, hM⟩
    (fun x => { tmps := #[.pointer (some ⟨g, 0, none⟩), .pointer (some ⟨w.heap.size, 0, none⟩), .pointer (some ⟨w.heap.size + 1, 0, none⟩), .pointer (some ⟨w.heap.size + 1 + 1, 0, none⟩), .pointer (some ⟨w.heap.size + 1 + 1 + 1, 0, none⟩), .int .i64 (x.1.1 : Int), .int .u8 x.1.2, .pointer (some ⟨g, 0, none⟩), .bool false, .pointer (some ⟨g, 0, none⟩), .func (.func 72) #[] #[.pointer (some ⟨w.heap.size + 1 + 1 + 1 + 1, 0, none⟩)], .int .i64 (x.1.1 : Int), .int .u8 x.1.2, undef, undef, undef, undef, undef, undef, undef, undef, undef, undef, undef, undef, undef, undef, undef, undef, undef, undef, undef, undef, undef, undef, undef, undef, undef, undef, undef], defers := [] }) ?assign ?body ?done ?stop
  case assign =>
    intro l x W K hK
    unfold encP
    gi_wp2
    exact hK
  case body =>
    rintro l pre ⟨⟨i, e⟩, hi, e0, e6⟩ W ⟨rfl, ⟨hv, hb, hr0, hr1, hr2, hK⟩⟩ _
    obtain ⟨k, rfl⟩ := Int.eq_ofNat_of_zero_le e0
    have hk6 : k < 6 := by omega
    have cb : W.cell? ⟨w.heap.size, 0, none⟩ = some (.pointer (some ⟨g, 0, none⟩)) := hb.cell 0
    have cq : W.cell? ⟨gq, k, none⟩ = some (.int .i64 0) := by rw [hv.q.cell, arrF_get _ _ _ hk6]; rfl
    have c1 := hv.v.cell 1
    have c2 := hv.v.cell 2
    simp only [vecA] at c1 c2
    have d0 : W.cell? ⟨w.heap.size + 1, 0, none⟩ = some (.int .i64 0) := hr0.cell 0
    have d1 : W.cell? ⟨w.heap.size + 1 + 1, 0, none⟩ = some (.int .u8 0) := hr1.cell 0
    have d2 : W.cell? ⟨w.heap.size + 1 + 1 + 1, 0, none⟩ = some (.bool false) := hr2.cell 0
    have fv := hv.v.frozen
    have f0 := hr0.frozen 0
    have f1 := hr1.frozen 0
    have f2 := hr2.frozen 0
    have g1 : g ≠ gp := hv.v.ne_ hv.p (by decide)
    have g2 : g ≠ gq := hv.v.ne_ hv.q (by decide)
    have g3 : gp < w.heap.size := HV.out.p.lt
    have g4 : gq < w.heap.size := HV.out.q.lt
    have he6 : ((k : Int) == 6) = false := beq_eq_false_iff_ne.2 (by omega)
    have Hv := Lib.hid hv
    have H0 := Lib.hid hr0
    have H1 := Lib.hid hr1
    have H2 := Lib.hid hr2
    have HK := Lib.hid hK
    clear hv hr0 hr1 hr2 hb hK hM hBv
    gi_wp2
    refine ⟨?_, rfl, _, rfl, ⟨⟨?_, ?_, ?_⟩, ?_, ?_, ?_, ?_⟩⟩
    · exact (((KeepsOthers.setCell _ _ _).trans (KeepsOthers.setCell _ _ _)).trans (KeepsOthers.setCell _ _ _)).trans (KeepsOthers.setCell _ _ _)
    · exact Blk.cast ((((Hv.out.v.set_ 2 _).far (by show g ≠ w.heap.size + 1; omega) _).far (by show g ≠ w.heap.size + 1 + 1; omega) _).far (by show g ≠ w.heap.size + 1 + 1 + 1; omega) _) (by simp [vecA])
    · exact (((Hv.out.p.far g1.symm _).far (by show gp ≠ w.heap.size + 1; omega) _).far (by show gp ≠ w.heap.size + 1 + 1; omega) _).far (by show gp ≠ w.heap.size + 1 + 1 + 1; omega) _
    · exact (((Hv.out.q.far g2.symm _).far (by show gq ≠ w.heap.size + 1; omega) _).far (by show gq ≠ w.heap.size + 1 + 1; omega) _).far (by show gq ≠ w.heap.size + 1 + 1 + 1; omega) _
    · exact Blk.cast ((((H0.out.far (by show w.heap.size + 1 ≠ g; omega) _).set_ 0 _).far (by show w.heap.size + 1 ≠ w.heap.size + 1 + 1; omega) _).far (by show w.heap.size + 1 ≠ w.heap.size + 1 + 1 + 1; omega) _) (by simp)
    · exact Blk.cast ((((H1.out.far (by show w.heap.size + 1 + 1 ≠ g; omega) _).far (by show w.heap.size + 1 + 1 ≠ w.heap.size + 1; omega) _).set_ 0 _).far (by show w.heap.size + 1 + 1 ≠ w.heap.size + 1 + 1 + 1; omega) _) (by simp)
    · exact Blk.cast ((((H2.out.far (by show w.heap.size + 1 + 1 + 1 ≠ g; omega) _).far (by show w.heap.size + 1 + 1 + 1 ≠ w.heap.size + 1; omega) _).far (by show w.heap.size + 1 + 1 + 1 ≠ w.heap.size + 1 + 1; omega) _).set_ 0 _) (by simp)
    · exact (((HK.out.setCell oneHit _).setCell (newHit (by omega)) _).setCell (newHit (by omega)) _).setCell (newHit (by omega)) _
  case done =>
    rintro D ys W hD rfl ⟨hn, _⟩ hK
    have := congrArg List.length hn
    rw [upto_length] at this
    cases this
  case stop =>
    rintro D c pre W hD ⟨k, hk, hpre⟩ ⟨rfl, x, hx, hL⟩ hK
    gi_wp2
    refine ⟨by simp, .inl ⟨_, _, rfl, run_takeDeferred hK, ?_⟩⟩
    have hL' := hL.grown (grownBy_putObj' W D (.deferred none)) (fun r e => by cases e; exact ⟨by omega, _, hK, rfl⟩)
    have hxx : x = nth P hP now 0 := by
      have e1 : 1 = k := by
        have := congrArg List.length (hx.symm.trans hpre)
        rwa [upto_length] at this
      subst e1
      rw [hx] at hpre
      exact List.head_eq_of_cons_eq hpre
    subst hxx
    have c0 : (W.putObj D (.deferred none)).cell? ⟨w.heap.size + 1, 0, none⟩ = some (.int .i64 (((now + 1) % 8 : Nat) : Int)) := hL'.r0.cell 0
    have c1 : (W.putObj D (.deferred none)).cell? ⟨w.heap.size + 1 + 1, 0, none⟩ = some (.int .u8 (P ((now + 1) % 8))) := hL'.r1.cell 0
    have c2 : (W.putObj D (.deferred none)).cell? ⟨w.heap.size + 1 + 1 + 1, 0, none⟩ = some (.bool true) := hL'.r2.cell 0
    refine ⟨_, ?_, rfl, hL'.vec, hL'.kept⟩
    simp [results, Try.f12, go_sem, c0, c1, c2]
theorem turn_ok (w : World) (g gp gq : Nat) (P : Nat → Int) (hP : ∀ k, k < 8 → 0 ≤ P k ∧ P k < 6) (now : Nat) (hnow : now < 8) (hV : IsV w g gp gq P now) :
    Calls Try.prog 12 #[.pointer (some ⟨g, 0, none⟩)] w fun e w' => e = .returned (.tuple #[.int .i64 (((now + 1) % 8 : Nat) : Int), .int .u8 (P ((now + 1) % 8)), .bool true]) ∧ IsV w' g gp gq P (((now + 1) % 8 : Nat) : Int) ∧ Kept (OneBlk g) w w' :=
  (callsIn_wide (n := 3)).1 (turn_in .wide 3 trivial trivial trivial rfl (by omega) w g gp gq P hP now hnow hV)
end Go.Proofs.Ytjhngfbhppbcnaa
