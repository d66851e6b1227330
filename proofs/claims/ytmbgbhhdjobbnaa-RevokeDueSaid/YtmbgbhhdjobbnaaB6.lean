/- The program's revoke: take, with a test. -/
import Derived.Test.YtmbgbhhdjobbnaaB5
namespace Go.Proofs.Ytmbgbhhdjobbnaa
open Go.RowKit Go.Maps

theorem enters_of {P : Program} {f : FuncId} {fn : Func} (hf : P.funcs[f]? = some fn) (hname : (fn.name == "runtime.NumGoroutine") = false) (hb : fn.body.isNone = false) (args : Array Value) (w : World) :
    (callFunc f args).run P w = .ok (.enter f args) w := by
  have h1 : fn.name ≠ "runtime.NumGoroutine" := by simpa using hname
  obtain ⟨c, hc⟩ : ∃ c, fn.body = some c := Option.isSome_iff_exists.1 (by cases h : fn.body <;> simp_all)
  simp [callFunc, hf, h1, hc]

theorem run_eql_key (w : World) (a b c d : Int) : (binOp .eql 66 (.agg #[.int .u8 a, .int .u8 b]) (.agg #[.int .u8 c, .int .u8 d])).run Try.prog w = .ok (.bool (decide (a = c) && decide (b = d))) w := by
  simp [go_sem]
  by_cases h : a = c
  · subst h; by_cases h2 : b = d <;> simp [h2]
  · simp [h]
theorem run_eqGuard_key (w : World) (x y : Operand) (a b : Array Value) : (eqGuard .eql 66 x y (.agg a) (.agg b)).run Try.prog w = .ok () w := run_eqGuard_agg w .eql 66 x y _ _ (by kernel_rfl)

theorem tests_out (w : World) (c : Nat) (n : Int) (hB : Blk w c 5 #[.int .u8 n]) : Tests w 30 #[.pointer (some ⟨c, 0, none⟩)] (fun x => decide (x.1 = n)) := by
  refine ⟨fun args w => enters_of Try.func30 (by kernel_rfl) (by kernel_rfl) args w, fun w1 e f u hK => ?_⟩
  have hc : w1.cell? ⟨c, 0, none⟩ = some (.int .u8 n) := (hB.kept hK (fun e => e)).at_ rfl
  have hlt := (hB.kept hK (fun e => e)).lt
  clear hB hK
  show Calls Try.prog 30 #[.agg #[.int .u8 e, .int .u8 f, .int .i64 u], .pointer (some ⟨c, 0, none⟩)] w1 _
  go_enter Try.func30, Try.ntmps30
  go_wp2
  go_ret
  exact ⟨rfl, by repeat (with_reducible first | exact Kept.refl _ _ | apply Kept.drew | apply Kept.drewN | apply Kept.alloc | exact oneHit | apply Kept.setCell)⟩
theorem tests_due (w : World) (c : Nat) (n : Int) (hB : Blk w c 3 #[.int .i64 n]) : Tests w 37 #[.pointer (some ⟨c, 0, none⟩)] (fun x => decide (x.2.2 ≤ n)) := by
  refine ⟨fun args w => enters_of Try.func37 (by kernel_rfl) (by kernel_rfl) args w, fun w1 e f u hK => ?_⟩
  have hc : w1.cell? ⟨c, 0, none⟩ = some (.int .i64 n) := (hB.kept hK (fun e => e)).at_ rfl
  have hlt := (hB.kept hK (fun e => e)).lt
  clear hB hK
  show Calls Try.prog 37 #[.agg #[.int .u8 e, .int .u8 f, .int .i64 u], .pointer (some ⟨c, 0, none⟩)] w1 _
  go_enter Try.func37, Try.ntmps37
  go_wp2
  go_ret
  exact ⟨rfl, by repeat (with_reducible first | exact Kept.refl _ _ | apply Kept.drew | apply Kept.drewN | apply Kept.alloc | exact oneHit | apply Kept.setCell)⟩
set_option maxHeartbeats 1000000 in
theorem tests_done (w : World) (c d : Nat) (n k : Int) (hB : Blk w c 5 #[.int .u8 n]) (hD : Blk w d 5 #[.int .u8 k]) : Tests w 39 #[.pointer (some ⟨c, 0, none⟩), .pointer (some ⟨d, 0, none⟩)] (fun x => decide (x.1 = n) && decide (x.2.1 = k)) := by
  refine ⟨fun args w => enters_of Try.func39 (by kernel_rfl) (by kernel_rfl) args w, fun w1 e f u hK => ?_⟩
  have HB := Lib.hid (hB.kept hK (fun e => e))
  have HD := Lib.hid (hD.kept hK (fun e => e))
  have hc : w1.cell? ⟨c, 0, none⟩ = some (.int .u8 n) := HB.out.at_ rfl
  have hd : w1.cell? ⟨d, 0, none⟩ = some (.int .u8 k) := HD.out.at_ rfl
  have hlt := HB.out.lt
  have hlt2 := HD.out.lt
  clear hB hD hK
  have hq := run_eql_key
  have hqg := run_eqGuard_key
  show Calls Try.prog 39 #[.agg #[.int .u8 e, .int .u8 f, .int .i64 u], .pointer (some ⟨c, 0, none⟩), .pointer (some ⟨d, 0, none⟩)] w1 _
  go_enter Try.func39, Try.ntmps39
  go_wp2
  refine wp_region_plan (by kernel_rfl) (.q 0 <| .q 2 <| .q 3 <| .q 4 <| .e 1 [2, 3, 4] <| .q 5 <| .q 6 <| .nil) (by kernel_rfl) (by kernel_rfl) ?_
  repeat (refine plan_q rfl (fun K hK => ?_); go_simp; refine hK _ ?_; clear hK K)
  refine plan_e rfl (fun K hK => ?_)
  go_simp
  refine (keyOf_any _ e f u).mono ?_
  rintro x w2 ⟨rfl, hK2⟩
  have hk2 : Kept NoBlk w1 w2 := Kept.trans (by repeat (with_reducible first | exact Kept.refl _ _ | apply Kept.drew | apply Kept.drewN | apply Kept.alloc | exact oneHit | apply Kept.setCell)) hK2
  have hc2 : w2.cell? ⟨c, 0, none⟩ = some (.int .u8 n) := (HB.out.kept hk2 (fun e => e)).at_ rfl
  have hd2 : w2.cell? ⟨d, 0, none⟩ = some (.int .u8 k) := (HD.out.kept hk2 (fun e => e)).at_ rfl
  refine hK _ _ (by (repeat (refine stab_cons rfl ?_ ?_; focus (go_simp; done))); exact stab_nil) ?_
  clear hK K
  unfold keyK
  repeat (refine plan_q rfl (fun K hK => ?_); go_simp; refine hK _ ?_; clear hK K)
  refine plan_nil ?_
  go_wp2
  go_ret
  exact ⟨rfl, hk2⟩

def inK (l : List (Int × Int × Int)) (a : Int × Int) : Bool := l.any fun x => x.1 == a.1 && x.2.1 == a.2
def Dis (l : List (Int × Int × Int)) : Prop := (l.map fun x => (x.1, x.2.1)).Nodup

theorem look_cons (x : Int × Int × Int) (l : List (Int × Int × Int)) (a : Int × Int) : lookOp (x :: l) a = if x.1 == a.1 && x.2.1 == a.2 then some x.2.2 else lookOp l a := by
  unfold lookOp
  rw [List.find?_cons]
  cases x.1 == a.1 && x.2.1 == a.2 <;> rfl
theorem look_none (l : List (Int × Int × Int)) (a : Int × Int) (h : inK l a = false) : lookOp l a = none := by
  induction l with
  | nil => rfl
  | cons x l ih =>
    simp only [inK, List.any_cons, Bool.or_eq_false_iff] at h
    rw [look_cons, h.1]
    exact ih h.2
theorem inK_filter (l : List (Int × Int × Int)) (p : Int × Int × Int → Bool) (a : Int × Int) (h : inK l a = false) : inK (l.filter p) a = false := by
  simp only [inK, List.any_eq_false] at h ⊢
  exact fun x hx => h x (List.mem_filter.1 hx).1

/-- What is left when the keys of those taken out are struck. -/
theorem look_left (p : Int × Int × Int → Bool) (a : Int × Int) : ∀ (l : List (Int × Int × Int)), Dis l → (if inK (l.filter p) a = true then none else lookOp l a) = lookOp (l.filter (fun x => !p x)) a
  | [], _ => by simp [inK, lookOp]
  | x :: l, h => by
    have hd : Dis l := (List.nodup_cons.1 h).2
    have ih := look_left p a l hd
    cases hk : (x.1 == a.1 && x.2.1 == a.2) with
    | true =>
      have hno : inK l a = false := by
        simp only [inK, List.any_eq_false]
        intro y hy hy2
        simp only [Bool.and_eq_true, beq_iff_eq] at hk hy2
        exact (List.nodup_cons.1 h).1 (List.mem_map.2 ⟨y, hy, Prod.ext (hy2.1.trans hk.1.symm) (hy2.2.trans hk.2.symm)⟩)
      cases hp : p x with
      | true =>
        rw [List.filter_cons_of_pos hp, List.filter_cons_of_neg (by simp [hp]), look_none _ _ (inK_filter _ _ _ hno)]
        simp [inK, hk]
      | false =>
        rw [List.filter_cons_of_neg (by simp [hp]), List.filter_cons_of_pos (by simp [hp]), inK_filter _ _ _ hno, look_cons, look_cons, hk]
        simp
    | false =>
      have hc : inK (x :: l.filter p) a = inK (l.filter p) a := by simp [inK, hk]
      cases hp : p x with
      | true => rw [List.filter_cons_of_pos hp, List.filter_cons_of_neg (by simp [hp]), hc, look_cons, hk]; exact ih
      | false => rw [List.filter_cons_of_neg (by simp [hp]), List.filter_cons_of_pos (by simp [hp]), look_cons, look_cons, hk]; exact ih

/-- A book while entries are being struck. -/
structure Mid (w : World) (g m : Nat) (S : St) (left : List (Int × Int × Int)) (vn : Value) (r : Nat → Value) (M : Int × Int → Option Int) : Prop where
  blk : Blk w g 60 (arrB vn m r)
  row : Row w 37 3 vn left.length (asks left)
  lost : ∀ i, i < 6 → Row w 5 1 (r i) (S.lost i).length (u8s (S.lost i))
  map : MapS w m S.cnt M
theorem Mid.kept {w w' : World} {g m : Nat} {S : St} {left : List (Int × Int × Int)} {vn : Value} {r : Nat → Value} {M : Int × Int → Option Int} (h : Mid w g m S left vn r M) (hk : Kept NoBlk w w') : Mid w' g m S left vn r M :=
  ⟨h.blk.kept hk (fun e => e), h.row.kept hk (fun _ _ _ e => e), fun i hi => (h.lost i hi).kept hk (fun _ _ _ e => e), h.map.kept hk (fun e => e)⟩
theorem Mid.del {w w' : World} {g m : Nat} {S : St} {left : List (Int × Int × Int)} {vn : Value} {r : Nat → Value} {M M' : Int × Int → Option Int} (h : Mid w g m S left vn r M) (hM : MapS w' m S.cnt M') (hk : Kept (OneBlk m) w w') : Mid w' g m S left vn r M' :=
  ⟨h.blk.kept hk (fun e => h.map.ne h.blk e.symm), h.row.kept hk (fun _ _ hb e => h.map.ne hb e.symm), fun i hi => (h.lost i hi).kept hk (fun _ _ hb e => h.map.ne hb e.symm), hM⟩
def delM (out : List (Int × Int × Int)) (M : Int × Int → Option Int) : Int × Int → Option Int := fun a => if inK out a = true then none else M a
theorem delM_snoc (out : List (Int × Int × Int)) (e f u : Int) (M : Int × Int → Option Int) : delM (out ++ [(e, f, u)]) M (e, f) = none ∧ ∀ b, b ≠ (e, f) → delM (out ++ [(e, f, u)]) M b = delM out M b := by
  constructor
  · simp [delM, inK]
  · intro b hb
    have : (e == b.1 && f == b.2) = false := by
      cases hh : (e == b.1 && f == b.2) with
      | false => rfl
      | true =>
        simp at hh
        exact absurd (Prod.ext hh.1.symm hh.2.symm) hb
    have h2 : inK (out ++ [(e, f, u)]) b = inK out b := by
      simp only [inK, List.any_append, List.any_cons, List.any_nil, Bool.or_false]
      rw [this, Bool.or_false]
    simp only [delM, h2]

set_option maxHeartbeats 4000000 in
theorem take_any (w : World) (g m : Nat) (S : St) (v : Value) (r : Nat → Value) (h : IsB w g m S v r) (hd : Dis S.op) (hok : ∀ x ∈ S.op, okK (x.1, x.2.1)) (hn : S.op.length ≤ 1000000) (F : FuncId) (cp : Array Value) (p : Int × Int × Int → Bool) (hT : Tests w F cp p) :
   Calls Try.prog 29 #[.pointer (some ⟨g, 0, none⟩), .func (.func F) #[] cp] w fun x w' => ∃ A c v', x = .returned (.slice A (S.op.filter p).length c) ∧ Row w' 37 3 (.slice A (S.op.filter p).length c) (S.op.filter p).length (asks (S.op.filter p)) ∧ IsB w' g m { S with op := S.op.filter (fun a => !p a) } v' r ∧ Kept (TwoBlk g m) w w' := by
  obtain ⟨A, cap, hv, _, _, _, _, _⟩ := h.row.form
  have hr := h.row
  rw [hv] at hr
  have hS := Lib.hid (split_any w A _ cap S.op rfl hr hn F cp p hT)
  have hc := h.blk.cell
  have hf := h.blk.frozen
  have hlt := h.blk.lt
  rw [hv] at hc
  simp only [arrB] at hc
  have H := Lib.hid h
  clear hr h hT
  go_enter Try.func29, Try.ntmps29
  go_wp2_with fail
  refine (hS.out).mono ?_
  rintro e w1 ⟨vy, vn, rfl, hy, hnl, hK1⟩
  obtain ⟨A1, cap1, rfl, _, _, _, _, _⟩ := hy.form
  have H1 := H.out.kept hK1
  have hc1 := H1.blk.cell
  have hf1 := H1.blk.frozen
  have hlt1 := H1.blk.lt
  rw [hv] at hc1
  simp only [arrB] at hc1
  have HH1 := Lib.hid H1
  have HY := Lib.hid hy
  have HN := Lib.hid hnl
  have HK1 := Lib.hid hK1
  obtain ⟨A2, cap2, hvn, _, _, _, _, _⟩ := hnl.form
  clear H1 hy hnl hK1
  rw [hvn]
  go_wp2_with fail
  rw [← hvn]
  have hB2 : Blk (w1.setCell ⟨g, 0, none⟩ vn) g 60 (arrB vn m r) := Blk.cast (HH1.out.blk.set_ 0 vn) rfl
  have hk2 : Kept (OneBlk g) w1 (w1.setCell ⟨g, 0, none⟩ vn) := (Kept.refl _ _).setCell oneHit _
  generalize w1.setCell ⟨g, 0, none⟩ vn = w2 at *
  have hne : ∀ b cs, Blk w1 b 37 cs → ¬ OneBlk g b := fun b cs hb e => hb.ne_ HH1.out.blk (by decide) e
  have hne5 : ∀ b cs, Blk w1 b 5 cs → ¬ OneBlk g b := fun b cs hb e => hb.ne_ HH1.out.blk (by decide) e
  have hM2 : Mid w2 g m S (S.op.filter (fun a => !p a)) vn r (delM [] (lookOp S.op)) := ⟨hB2, HN.out.kept hk2 hne, fun i hi => (HH1.out.lost i hi).kept hk2 hne5, (HH1.out.map.kept hk2 (HH1.out.map.ne HH1.out.blk)).congr (fun _ _ => rfl)⟩
  have hY2 := HY.out.kept hk2 hne
  have hkk2 : Kept (TwoBlk g m) w w2 := (HK1.out.weaken (fun _ _ e => e.elim)).trans (hk2.weaken (fun _ _ e => .inl e))
  have HM := Lib.hid hM2
  have HY2 := Lib.hid hY2
  have HK2 := Lib.hid hkk2
  have hw1 : w.heap.size ≤ w1.heap.size := HK1.out.size
  have hw2 : w1.heap.size ≤ w2.heap.size := hk2.size
  clear hM2 hY2 hkk2 hk2 hne hne5 hB2
  have hfl : (S.op.filter p).length ≤ 1000000 := Nat.le_trans (List.length_filter_le _ _) hn
  go_loopw [26] (fun i wr => ∃ (j : Nat), j ≤ (S.op.filter p).length ∧ i = .int .i64 j ∧ Row wr 37 3 (.slice A1 (S.op.filter p).length cap1) (S.op.filter p).length (asks (S.op.filter p)) ∧ Mid wr g m S (S.op.filter (fun a => !p a)) vn r (delM ((S.op.filter p).take j) (lookOp S.op)) ∧ Kept (TwoBlk g m) w wr) (fun i _ => (S.op.filter p).length - (intOf i).toNat)
  case atStart => exact ⟨0, by omega, rfl, HY2.out, HM.out, HK2.out⟩
  case round =>
    obtain ⟨j, hj, rfl, hY', hM', hK'⟩ := hrel
    clear HM HY2 HK2
    have HY := Lib.hid hY'
    have HM := Lib.hid hM'
    have HK := Lib.hid hK'
    clear hY' hM' hK'
    by_cases hlt2 : j < (S.op.filter p).length
    · obtain ⟨⟨e, f, u⟩, hx⟩ : ∃ x, (S.op.filter p)[j]? = some x := ⟨_, List.getElem?_eq_getElem (by omega)⟩
      have hkey : okK (e, f) := hok (e, f, u) (List.mem_filter.1 (List.mem_of_getElem? hx)).1
      obtain ⟨b, off, cap', hv', h1, h2, hb, _, hcc⟩ := HY.out.place (by omega)
      injection hv' with q1 q2 q3
      subst q1 q3
      obtain ⟨x1, x2, x3⟩ := asks_at _ j e f u hx
      have c1 := hcc _ _ x1
      have c2 := hcc _ _ x2
      have c3 := hcc _ _ x3
      simp only [← Nat.add_assoc] at c2 c3
      have hcr : wr.cell? ⟨g, 1, none⟩ = some (.map (some m)) := HM.out.blk.at_ rfl
      have hltr := HM.out.blk.lt
      have ht1 : (S.op.filter p).take (j + 1) = (S.op.filter p).take j ++ [(e, f, u)] := by rw [List.take_add_one, hx]; rfl
      clear hcc x1 x2 x3
      go_wp2
      refine wp_region_plan (by kernel_rfl) (.q 0 <| .q 1 <| .q 2 <| .q 3 <| .q 4 <| .e 5 [0, 1, 2, 3] <| .e 6 [] <| .nil) (by kernel_rfl) (by kernel_rfl) ?_
      repeat (refine plan_q rfl (fun K hK => ?_); go_simp; refine hK _ ?_; clear hK K)
      refine plan_e rfl (fun K hK => ?_)
      go_simp
      refine (keyOf_any _ e f u).mono ?_
      rintro x w3 ⟨rfl, hK3⟩
      have hk3 : Kept NoBlk wr w3 := Kept.trans (by repeat (with_reducible first | exact Kept.refl _ _ | apply Kept.drew | apply Kept.drewN | apply Kept.alloc | exact oneHit | apply Kept.setCell)) hK3
      have hM3 := HM.out.kept hk3
      have hcr3 : w3.cell? ⟨g, 1, none⟩ = some (.map (some m)) := hM3.blk.at_ rfl
      have hltr3 := hM3.blk.lt
      have hbx := (Blk.kept (Blk.drew (Blk.new wr 37 _)) hK3 (fun e => e)).cell
      obtain ⟨d1, d2⟩ := delM_snoc ((S.op.filter p).take j) e f u (lookOp S.op)
      obtain ⟨w4, hrun, hM4, hK4⟩ := hM3.map.del mapTy hkey d1 (fun b _ hb => d2 b hb) 0
      unfold keyK at hrun
      have HM4 := Lib.hid (hM3.del hM4 hK4)
      have HY3 := Lib.hid ((HY.out.kept hk3 (fun _ _ _ e => e)).kept hK4 (fun _ _ hb e => hM3.map.ne hb e.symm))
      clear hM3 hM4
      refine hK _ _ (by (repeat (refine stab_cons rfl ?_ ?_; focus (go_simp; done))); exact stab_nil) ?_
      clear hK K
      unfold keyK
      refine plan_e rfl (fun K hK => ?_)
      go_simp
      refine hK _ _ stab_nil ?_
      clear hK K
      refine plan_nil ?_
      go_wp2
      go_roundw
      case rel => exact ⟨j + 1, by omega, by go_num, HY3.out, (by rw [ht1, ← hvn]; exact HM4.out), HK.out.trans ((hk3.weaken (fun _ _ e => e.elim)).trans (hK4.weaken (fun _ _ e => .inr e)))⟩
      case measure => simp [intOf]; omega
    · obtain rfl : j = (S.op.filter p).length := by omega
      have ht : (S.op.filter p).take (S.op.filter p).length = S.op.filter p := List.take_of_length_le (Nat.le_refl _)
      rw [ht] at HM
      go_wp2
      go_ret
      exact ⟨_, _, vn, rfl, HY.out, ⟨HM.out.blk, HM.out.row, HM.out.lost, HM.out.map.congr (fun a _ => (look_left p a S.op hd).symm)⟩, HK.out⟩
end Go.Proofs.Ytmbgbhhdjobbnaa
