/- The program's revoke: what a book is; keys, clips, clones, rows. -/
import Derived.Test.YtmbgbhhdjobbnaaMap
import Derived.Test.YtmbgbhhdjobbnaaPlan
namespace Go.Proofs.Ytmbgbhhdjobbnaa
open Go.RowKit Go.Maps

/-- A book, told plainly: what is asked back (environment, frame, until), the vectors, how many entries its map had at most. -/
structure St where
  op : List (Int × Int × Int)
  lost : Nat → List Int
  cnt : Nat

def askCells (a : Int × Int × Int) : List Value := [.int .u8 a.1, .int .u8 a.2.1, .int .i64 a.2.2]
def asks (l : List (Int × Int × Int)) : List Value := l.flatMap askCells
def u8s (l : List Int) : List Value := l.map (Value.int .u8)
theorem asks_length (l : List (Int × Int × Int)) : (asks l).length = l.length * 3 := by
  unfold asks
  induction l with
  | nil => rfl
  | cons a t ih => rw [List.flatMap_cons, List.length_append, ih]; simp [askCells]; omega
theorem u8s_length (l : List Int) : (u8s l).length = l.length := by simp [u8s]
theorem asks_append (l l' : List (Int × Int × Int)) : asks (l ++ l') = asks l ++ asks l' := by simp [asks, List.flatMap_append]
theorem u8s_append (l l' : List Int) : u8s (l ++ l') = u8s l ++ u8s l' := by simp [u8s]
theorem asks_one (l : List (Int × Int × Int)) : (asks l).all (·.oneCell') = true := by
  unfold asks
  rw [List.all_flatMap, List.all_eq_true]
  intro r _
  rfl
theorem u8s_one (l : List Int) : (u8s l).all (·.oneCell') = true := by
  unfold u8s
  rw [List.all_map, List.all_eq_true]
  intro r _
  rfl

def okK (a : Int × Int) : Prop := (0 ≤ a.1 ∧ a.1 < 256) ∧ 0 ≤ a.2 ∧ a.2 < 256
def keyK (a : Int × Int) : Value := .agg #[.int .u8 a.1, .int .u8 a.2]
def lookOp (l : List (Int × Int × Int)) (a : Int × Int) : Option Int := (l.find? (fun x => x.1 == a.1 && x.2.1 == a.2)).map (·.2.2)

theorem wf8 {a : Int} (h0 : 0 ≤ a) (h1 : a < 256) : (Lit.int .u8 a).wf = true := by
  simp [Lit.wf, show IntKind.u8.min = 0 from rfl, show IntKind.u8.max = 255 from rfl]
  omega

theorem Try.cells66 : Try.prog.cellsOf 66 = 2 := by kernel_rfl
theorem Try.row66 : (66 : TypeId) < Try.prog.types.size := of_decide_eq_true (by kernel_rfl)
theorem Try.wide66 : (match Try.prog.underlying 66 with | some (.array _ _) | some (.struct _) => true | _ => false) = true := by rw [Try.underlying66]
theorem Try.law66 : Keyed Try.prog 66 := Keyed.of_law (deep_law_laid Try.laidOut (m := 2) (by omega) Try.row66 (by kernel_rfl) Try.wide66)

theorem mapTy : MapTy Try.prog 57 66 3 .i64 keyK okK where
  law := Try.law66
  ut := Try.underlying57
  ue := Try.underlying3
  hz := fun w => by kernel_rfl
  hkey := fun a ⟨⟨h1, h2⟩, h3, h4⟩ => by
    obtain ⟨a, b⟩ := a
    have w1 : (Lit.int .u8 a).wf = true := wf8 (by assumption) (by assumption)
    have w2 : (Lit.int .u8 b).wf = true := wf8 (by assumption) (by assumption)
    obtain ⟨m, hm⟩ : ∃ m, Try.prog.types.size = m + 1 := ⟨Try.prog.types.size - 1, by have h : (66 : Nat) < Try.prog.types.size := Try.row66; omega⟩
    have c5 : Try.prog.cellsOf 5 = 1 := by kernel_rfl
    refine ⟨.string (keyBytes [.int .u8 a, .int .u8 b]), ?_⟩
    unfold keyK keyOf
    simp only [Try.underlying66]
    rw [if_pos (by rw [show Try.prog.keyType 66 = true by kernel_rfl]; simp [Value.formed, Try.underlying66, Try.cells66]), hm]
    simp [Program.keyLits, Try.underlying66, Try.underlying5, Try.cells66, c5, Value.cells, w1, w2]
  inj := fun a b _ _ h => by
    obtain ⟨a1, a2⟩ := a
    obtain ⟨b1, b2⟩ := b
    simp [keyK] at h
    exact Prod.ext h.1 h.2

abbrev MapS (w : World) (m n : Nat) (M : Int × Int → Option Int) : Prop := MapOf Try.prog 66 3 .i64 keyK okK w m n M

theorem Try.sz37 : (Try.prog.info? 37).map (fun i => (i.zero.map (·.cells.size), i.size, i.bytes)) = some (some 3, 3, 16) := by kernel_rfl
theorem Try.sz5 : (Try.prog.info? 5).map (fun i => (i.zero.map (·.cells.size), i.size, i.bytes)) = some (some 1, 1, 1) := by kernel_rfl

theorem keyOf_any (w : World) (e f u : Int) : Calls Try.prog 35 #[.agg #[.int .u8 e, .int .u8 f, .int .i64 u]] w fun x w' => x = .returned (keyK (e, f)) ∧ Kept NoBlk w w' := by
  unfold keyK
  go_enter Try.func35, Try.ntmps35
  go_wp2
  exact bodyPost_ret (v := keyK (e, f)) (by simp [results, Try.results35, keyK, go_sem, Result.andThen]) rfl ⟨rfl, by repeat (with_reducible first | exact Kept.refl _ _ | apply Kept.drew | apply Kept.drewN | apply Kept.alloc | exact oneHit | apply Kept.setCell)⟩

theorem clip33 (w : World) (A : Option Addr) (n cap : Nat) (_hn : n ≤ cap) (_hm : cap ≤ maxLen) :
   Calls Try.prog 36 #[.slice A n cap] w fun e w' => e = .returned (.slice A n n) ∧ w = w' := by
  unfold maxLen at _hm
  go_enter Try.func36, Try.ntmps36
  go_wp2
  go_ret
  exact ⟨rfl, rfl⟩
theorem clip28 (w : World) (A : Option Addr) (n cap : Nat) (_hn : n ≤ cap) (_hm : cap ≤ maxLen) :
   Calls Try.prog 48 #[.slice A n cap] w fun e w' => e = .returned (.slice A n n) ∧ w = w' := by
  unfold maxLen at _hm
  go_enter Try.func48, Try.ntmps48
  go_wp2
  go_ret
  exact ⟨rfl, rfl⟩

set_option maxHeartbeats 1000000 in
theorem clone33 (w : World) (A : Option Addr) (n cap : Nat) (xs : List Value) (hr : Row w 37 3 (.slice A n cap) n xs) (hx : xs.all (·.oneCell') = true) (hn : n ≤ 1000000) :
   Calls Try.prog 28 #[.slice A n cap] w fun e w' => ∃ A' cap', e = .returned (.slice A' n cap') ∧ Row w' 37 3 (.slice A' n cap') n xs ∧ Kept NoBlk w w' := by
  by_cases hA : A = none
  · subst hA
    have hq := fun w1 a l c => Lib.run_eql_slice_nil (P := Try.prog) w1 33 37 a l c 0 0 Try.underlying33
    obtain ⟨A2, c2, hv, _, _, hz, _, _⟩ := hr.form
    injection hv with e1 e2 e3
    subst e1
    obtain ⟨rfl, rfl⟩ := hz rfl
    subst e3
    have Hr := Lib.hid hr
    clear hr hz hn
    go_enter Try.func28, Try.ntmps28
    go_wp2
    go_ret
    exact ⟨none, 0, rfl, Hr.out, Kept.refl _ _⟩
  · obtain ⟨a, rfl⟩ := Option.ne_none_iff_exists'.1 hA
    have hq := fun w1 a l c => Lib.run_eql_slice_nil (P := Try.prog) w1 33 37 a l c 0 0 Try.underlying33
    have Hr := Lib.hid hr
    clear hr hA
    go_enter Try.func28, Try.ntmps28
    go_wp2_with (refine wpList_append_mine rfl (.tmp 5) (.tmp 6) 33 rfl 37 3 16 Try.underlying33 Try.sz37 (by decide) w.heap.size (.slice (some ⟨w.heap.size, 0, none⟩) 0 0) 0 [] rfl (own_new (Blk.new _ _ _) (Nat.le_refl _)) (some a) n cap xs rfl (Hr.out.kept (G := NoBlk) ((Kept.refl _ _).alloc _) (fun _ _ _ e => e)) hx (by simp only [maxLen]; omega) (by omega) (by simp) ?_; intro A' cap' w1 hown hK)
    go_ret
    refine ⟨A', cap', by simp, ?_, Kept.fresh ((Kept.refl _ _).alloc _) hK (fun b e => e)⟩
    have := Row.of_own hown
    simpa using this

set_option maxHeartbeats 1000000 in
theorem clone28 (w : World) (A : Option Addr) (n cap : Nat) (xs : List Value) (hr : Row w 5 1 (.slice A n cap) n xs) (hx : xs.all (·.oneCell') = true) (hn : n ≤ 1000000) :
   Calls Try.prog 26 #[.slice A n cap] w fun e w' => ∃ A' cap', e = .returned (.slice A' n cap') ∧ Row w' 5 1 (.slice A' n cap') n xs ∧ Kept NoBlk w w' := by
  by_cases hA : A = none
  · subst hA
    have hq := fun w1 a l c => Lib.run_eql_slice_nil (P := Try.prog) w1 28 5 a l c 0 0 Try.underlying28
    obtain ⟨A2, c2, hv, _, _, hz, _, _⟩ := hr.form
    injection hv with e1 e2 e3
    subst e1
    obtain ⟨rfl, rfl⟩ := hz rfl
    subst e3
    have Hr := Lib.hid hr
    clear hr hz hn
    go_enter Try.func26, Try.ntmps26
    go_wp2
    go_ret
    exact ⟨none, 0, rfl, Hr.out, Kept.refl _ _⟩
  · obtain ⟨a, rfl⟩ := Option.ne_none_iff_exists'.1 hA
    have hq := fun w1 a l c => Lib.run_eql_slice_nil (P := Try.prog) w1 28 5 a l c 0 0 Try.underlying28
    have Hr := Lib.hid hr
    clear hr hA
    go_enter Try.func26, Try.ntmps26
    go_wp2_with (refine wpList_append_mine rfl (.tmp 5) (.tmp 6) 28 rfl 5 1 1 Try.underlying28 Try.sz5 (by decide) w.heap.size (.slice (some ⟨w.heap.size, 0, none⟩) 0 0) 0 [] rfl (own_new (Blk.new _ _ _) (Nat.le_refl _)) (some a) n cap xs rfl (Hr.out.kept (G := NoBlk) ((Kept.refl _ _).alloc _) (fun _ _ _ e => e)) hx (by simp only [maxLen]; omega) (by omega) (by simp) ?_; intro A' cap' w1 hown hK)
    go_ret
    refine ⟨A', cap', by simp, ?_, Kept.fresh ((Kept.refl _ _).alloc _) hK (fun b e => e)⟩
    have := Row.of_own hown
    simpa using this

/-- A cell of a block by its place, whatever the other cells are. -/
theorem Blk.at_ {w : World} {g : Nat} {t : TypeId} {cs : Array Value} (h : Blk w g t cs) {i : Nat} {v : Value} (hv : cs[i]? = some v) : w.cell? ⟨g, i, none⟩ = some v := (h.cell i).trans hv

set_option maxHeartbeats 1000000 in
theorem push_any (w : World) (g i : Nat) (cs : Array Value) (hB : Blk w g 60 cs) (v : Value) (hv : cs[i]? = some v) (n : Nat) (l : List Int) (hl : l.length = n) (hr : Row w 5 1 v n (u8s l)) (hn : n ≤ 1000000) (x : Int) :
   Calls Try.prog 38 #[.pointer (some ⟨g, i, none⟩), .int .u8 x] w fun e w' => e = .returned (.tuple #[]) ∧ ∃ v', Blk w' g 60 (cs.setIfInBounds i v') ∧ Row w' 5 1 v' (n + 1) (u8s (l ++ [x])) ∧ Kept (OneBlk g) w w' := by
  obtain ⟨A, cap, rfl, h1, h2, hA, _, _⟩ := hr.form
  have hc := hB.at_ hv
  have hf := hB.frozen i
  have hlt := hB.lt
  have hclip := Lib.hid (fun w1 => clip28 w1 A n cap h1 h2)
  have HR := Lib.hid hr.clip
  have HB := Lib.hid hB
  have HV := Lib.hid hv
  clear hr hB hA h1 h2 hv
  go_enter Try.func38, Try.ntmps38
  go_wp2_with (first | (go_at_call 48; refine (hclip.out _).mono ?_; rintro e w' ⟨rfl, rfl⟩) | (refine wpList_append_grow rfl (.tmp 9) (.tmp 11) 28 rfl 5 1 1 Try.underlying28 Try.sz5 (by decide) A n n (u8s l) rfl (HR.out.kept (G := NoBlk) ((Kept.refl _ _).alloc _) (fun _ _ _ e => e)) (some ⟨w.heap.size, 0, none⟩) 1 1 [.int .u8 x] rfl (Row.new (Blk.new _ _ _) (by simp) (by simp [maxLen])) rfl (by omega) (by simp only [maxLen]; omega) (by omega) ?_; intro g' cap' w1 hr1 hg1 hg2 hK1; have hB1 := Blk.kept (Blk.alloc HB.out _) hK1 (fun e => e); have hc1 := hB1.at_ HV.out; have hf1 := hB1.frozen i))
  refine bodyPost_end (v := .tuple #[]) (by simp [results, Try.results38, go_sem]) rfl ?_
  refine ⟨rfl, _, hB1.set_ i _, ?_, ?_⟩
  · rw [u8s_append]
    exact hr1.kept (G := OneBlk g) ((Kept.refl _ _).setCell oneHit _) (fun b cs hb e => hb.ne_ hB1 (by decide) e)
  · exact Kept.setCell (Kept.trans ((Kept.refl _ _).alloc _) (hK1.weaken (fun _ _ e => e.elim))) oneHit _

theorem pop_none (w : World) (g i : Nat) (cs : Array Value) (hB : Blk w g 60 cs) (v : Value) (hv : cs[i]? = some v) (hr : Row w 5 1 v 0 (u8s [])) :
   Calls Try.prog 27 #[.pointer (some ⟨g, i, none⟩)] w fun e w' => e = .returned (.tuple #[.int .u8 0, .bool false]) ∧ w = w' := by
  obtain ⟨A, cap, rfl, h1, h2, hA, _, _⟩ := hr.form
  have hc := hB.at_ hv
  clear hB hv hr hA
  go_enter Try.func27, Try.ntmps27
  go_wp2
  go_ret2
  exact ⟨rfl, rfl⟩

set_option maxHeartbeats 1000000 in
theorem pop_some (w : World) (g i : Nat) (cs : Array Value) (hB : Blk w g 60 cs) (v : Value) (hv : cs[i]? = some v) (n : Nat) (x : Int) (l : List Int) (hl : l.length = n) (hr : Row w 5 1 v (n + 1) (u8s (x :: l))) (hn : n ≤ 1000000) :
   Calls Try.prog 27 #[.pointer (some ⟨g, i, none⟩)] w fun e w' => e = .returned (.tuple #[.int .u8 x, .bool true]) ∧ ∃ v', Blk w' g 60 (cs.setIfInBounds i v') ∧ Row w' 5 1 v' n (u8s l) ∧ Kept (OneBlk g) w w' := by
  obtain ⟨b, off, cap, rfl, h1, h2, hb, hbc, hx⟩ := hr.place (by omega)
  have hx0 : w.cell? ⟨b, off, none⟩ = some (.int .u8 x) := hx 0 _ rfl
  have hdrop : Row w 5 1 (.slice (some ⟨b, off + 1, none⟩) n (cap - 1)) n (u8s l) := by
    have hr2 := hr
    rw [Nat.add_comm n 1] at hr2
    have := Row.drop (n := 1) (k := n) hr2
    simpa [u8s] using this
  have hdrop' : Row w 5 1 (.slice (if cap = 1 then some ⟨b, off, none⟩ else some ⟨b, off + 1, none⟩) n (cap - 1)) n (u8s l) := by
    split
    · obtain rfl : n = 0 := by omega
      obtain rfl : l = [] := List.eq_nil_of_length_eq_zero hl
      obtain ⟨_, ⟨h, _⟩ | ⟨b', off', c', cur, hv', hb', _, _, h5, _⟩⟩ := hr
      · cases h
      · injection hv' with q1 q2 q3
        injection q1 with q1
        injection q1 with q4 q5 q6
        subst q4 q5
        exact ⟨rfl, .inr ⟨b, off, cap - 1, cur, rfl, hb', by omega, by omega, by omega, by simp [u8s]⟩⟩
    · exact hdrop
  have hle : (1 : Int) ≤ (n : Int) + 1 := by omega
  have hc := hB.at_ hv
  have hf := hB.frozen i
  have hlt := hB.lt
  by_cases hc1 : cap = 1
  all_goals
    simp only [hc1, if_true, if_false] at hdrop'
    try (subst hc1; obtain rfl : n = 0 := by omega)
    have HD := Lib.hid hdrop'
    have HB := Lib.hid hB
    clear hr hB hv hx hdrop hdrop' hbc
    unfold maxLen at h2
    go_enter Try.func27, Try.ntmps27
    go_wp2
    refine wp_region_plan (by kernel_rfl) (.q 0 <| .q 1 <| .q 2 <| .q 3 <| .q 4 <| .q 5 <| .q 6 <| .q 7 <| .q 8 <| .q 9 <| .q 10 <| .q 11 <| .q 12 <| .q 13 <| .q 14 <| .e 15 [] <| .nil) (by kernel_rfl) (by kernel_rfl) ?_
    repeat (refine plan_q rfl (fun K hK => ?_); go_simp; refine hK _ ?_; clear hK K)
    refine plan_e rfl (fun K hK => ?_)
    go_simp
    refine hK _ _ stab_nil ?_
    clear hK K
    refine plan_nil ?_
    go_wp2
    go_ret2
    refine ⟨rfl, _, (Blk.drew HB.out).set_ i _, ?_, ?_⟩
    · exact HD.out.kept (G := OneBlk g) ((Kept.refl _ _).drew.setCell oneHit _) (fun b cs hb e => hb.ne_ HB.out (by decide) e)
    · exact (Kept.refl _ _).drew.setCell oneHit _
end Go.Proofs.Ytmbgbhhdjobbnaa
