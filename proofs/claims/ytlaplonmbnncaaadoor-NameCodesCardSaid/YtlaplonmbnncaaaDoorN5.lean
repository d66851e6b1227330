/- The program's names: Right, what two begin with alike, Above, Opens. -/
import Derived.Test.YtlaplonmbnncaaaDoorN4
namespace Go.Proofs.YtlaplonmbnncaaaDoor
open Go.RowKit Go.Shelf
set_option maxRecDepth 100000

def capV (n : ByteArray) (r : Int) : Value := .agg #[.string n, .int .u8 r]
def rightB (n : ByteArray) (r : Int) : Bool := (splitO n).isSome && decide (r ≤ 31)
set_option maxHeartbeats 1000000 in
theorem right_any (w : World) (n : ByteArray) (r : Int) (hn : n.size ≤ 1000) : Calls Tryd.prog 19 #[capV n r] w fun e w' => e = .returned (.bool (rightB n r)) ∧ Kept NoBlk w w' := by
  unfold capV rightB
  have HS := Lib.hid (fun w => split_any w n hn)
  go_enter Tryd.func19, Tryd.ntmps19
  go_wp2_with fail
  refine (HS.out _).mono ?_
  rintro x w1 ⟨hk, ⟨l, v, hsp, rfl, -⟩ | ⟨hsp, rfl⟩⟩
  · have c1 : w1.cell? ⟨w.heap.size, 1, none⟩ = some (.int .u8 r) := (Blk.kept (Blk.new w 34 #[.string n, .int .u8 r]) hk (fun e => e)).cell 1
    have HK := Lib.hid hk
    clear hk HS
    go_wp2
    go_ret
    exact ⟨by rw [hsp]; rfl, Kept.trans ((Kept.refl _ _).alloc _) HK.out⟩
  · have HK := Lib.hid hk
    clear hk HS
    unfold nilS
    go_wp2
    go_ret
    exact ⟨by rw [hsp]; rfl, Kept.trans ((Kept.refl _ _).alloc _) HK.out⟩

/-- How many two begin with alike. -/
def common : List ByteArray → List ByteArray → Nat
  | a :: x, b :: y => if a = b then common x y + 1 else 0
  | _, _ => 0
theorem common_le : ∀ x y : List ByteArray, common x y ≤ x.length ∧ common x y ≤ y.length
  | [], _ => by unfold common; simp
  | _ :: _, [] => by unfold common; simp
  | a :: x, b :: y => by
    have := common_le x y
    unfold common
    simp only [List.length_cons]
    split <;> omega
theorem common_at (x y : List ByteArray) (k : Nat) (hk : k < x.length) (hl : k < y.length) : common (x.drop k) (y.drop k) = if x[k] = y[k] then common (x.drop (k + 1)) (y.drop (k + 1)) + 1 else 0 := by
  rw [List.drop_eq_getElem_cons hk, List.drop_eq_getElem_cons hl]
  rfl
theorem common_end (x y : List ByteArray) (k : Nat) (h : ¬ (k < x.length ∧ k < y.length)) : common (x.drop k) (y.drop k) = 0 := by
  have := common_le (x.drop k) (y.drop k)
  rw [List.length_drop, List.length_drop] at this
  omega
theorem strEq (s t : ByteArray) : (s.toList == t.toList) = decide (s = t) := by
  rw [ByteArray.toList_eq, ByteArray.toList_eq]
  by_cases h : s = t
  · rw [h, decide_eq_true rfl, beq_self_eq_true]
  · rw [decide_eq_false h]
    refine beq_eq_false_iff_ne.2 fun e => h ?_
    rw [← mk_of s, ← mk_of t, e]
theorem strV_at (l : List ByteArray) (k : Nat) (h : k < l.length) : (strV l)[k]? = some (.string l[k]) := by
  unfold strV
  rw [List.getElem?_map, List.getElem?_eq_getElem h]
  rfl
set_option maxHeartbeats 2000000 in
theorem shared_any (w : World) (v u : Value) (x y : List ByteArray) (hx : Row w 9 1 v x.length (strV x)) (hy : Row w 9 1 u y.length (strV y)) (hxl : x.length ≤ 100) (hyl : y.length ≤ 100) :
    Calls Tryd.prog 50 #[v, u] w fun e w' => e = .returned (.int .i64 (common x y)) ∧ Kept NoBlk w w' := by
  obtain ⟨A, cap, rfl, h1, h2, hA, -, hc⟩ := hx.form
  obtain ⟨B, cap', rfl, g1, g2, hB, -, gc⟩ := hy.form
  have HG : Hid (0 + common (x.drop 0) (y.drop 0) = common x y) := Lib.hid (by rw [List.drop_zero, List.drop_zero, Nat.zero_add])
  generalize hL : common x y = L at HG ⊢
  have HX := Lib.hid hx
  have HY := Lib.hid hy
  clear hL hc gc hx hy
  go_enter Tryd.func50, Tryd.ntmps50
  go_wp2
  go_loopw [5] (fun kv wr => ∃ k : Nat, k ≤ x.length ∧ k ≤ y.length ∧ kv = .int .i64 k ∧ Hid (k + common (x.drop k) (y.drop k) = L) ∧ Kept NoBlk w wr) (fun kv _ => x.length - (intOf kv).toNat)
  case atStart => exact ⟨0, by omega, by omega, rfl, HG, Kept.refl _ _⟩
  case round =>
    clear HG
    obtain ⟨k, hk1, hk2, rfl, HR, hK⟩ := hrel
    by_cases hlt : k < x.length ∧ k < y.length
    · obtain ⟨l1, l2⟩ := hlt
      obtain ⟨b, o, c, e1, -, -, hb, -, hbc⟩ := HX.out.place (by omega)
      obtain ⟨b', o', c', e1', -, -, hb', -, hbc'⟩ := HY.out.place (by omega)
      injection e1 with e1 _ e2
      subst e1 e2
      injection e1' with e1' _ e2'
      subst e1' e2'
      have q1 : wr.cell? ⟨b, o + k, none⟩ = some (.string x[k]) := (hK.cell (p := ⟨b, o + k, none⟩) hb (fun e => e)).trans (hbc k _ (strV_at x k l1))
      have q2 : wr.cell? ⟨b', o' + k, none⟩ = some (.string y[k]) := (hK.cell (p := ⟨b', o' + k, none⟩) hb' (fun e => e)).trans (hbc' k _ (strV_at y k l2))
      have hs := HR.out
      rw [common_at x y k l1 l2] at hs
      have hq := strEq x[k] y[k]
      have hmin : min (x.length : Int) (y.length : Int) = ((min x.length y.length : Nat) : Int) := by omega
      have hlm : (k : Int) < ((min x.length y.length : Nat) : Int) := by omega
      have HK := Lib.hid hK
      clear hbc hbc' HR hK
      by_cases he : x[k] = y[k]
      · rw [if_pos he] at hs
        rw [decide_eq_true he] at hq
        have HS := Lib.hid hs
        clear hs he
        generalize x[k] = s at *
        generalize y[k] = t at *
        go_wp2
        go_quiet (fail)
        go_wp2
        go_roundw
        case rel => exact ⟨k + 1, by omega, by omega, by go_num, Lib.hid (by have := HS.out; omega), HK.out.drewN _⟩
        case measure => simp [intOf]; omega
      · rw [if_neg he] at hs
        rw [decide_eq_false he] at hq
        have HS := Lib.hid hs
        clear hs he
        generalize x[k] = s at *
        generalize y[k] = t at *
        go_wp2
        go_quiet (fail)
        go_wp2
        go_ret
        exact ⟨by rw [← HS.out]; rfl, HK.out.drewN _⟩
    · have hs := HR.out
      rw [common_end x y k hlt] at hs
      have HS := Lib.hid hs
      have hmin : min (x.length : Int) (y.length : Int) = ((min x.length y.length : Nat) : Int) := by omega
      have hlm : ¬ ((k : Int) < ((min x.length y.length : Nat) : Int)) := by omega
      have hlm2 : ¬ (k < min x.length y.length) := by omega
      have hlm3 : decide (k < min x.length y.length) = false := decide_eq_false hlm2
      have HK := Lib.hid hK
      clear hs HR hK hlt
      go_wp2
      go_quiet (fail)
      go_wp2
      go_ret
      exact ⟨by rw [← HS.out]; rfl, HK.out.drewN _⟩

def aboveB (a b : ByteArray) : Bool := match splitO a, splitO b with
  | some x, some y => decide (common x y = x.length)
  | _, _ => false
set_option maxHeartbeats 2000000 in
theorem above_any (w : World) (a b : ByteArray) (ha : a.size ≤ 1000) (hb : b.size ≤ 1000) : Calls Tryd.prog 25 #[.string a, .string b] w fun e w' => e = .returned (.bool (aboveB a b)) ∧ Kept NoBlk w w' := by
  have HA := Lib.hid (fun w => split_any w a ha)
  have HB := Lib.hid (fun w => split_any w b hb)
  go_enter Tryd.func25, Tryd.ntmps25
  go_wp2_with fail
  refine (HA.out _).mono ?_
  rintro e w1 ⟨hk1, h1⟩
  have HK1 := Lib.hid hk1
  rcases h1 with ⟨x, v, hx, rfl, ox⟩ | ⟨hx, rfl⟩
  · have OX := Lib.hid ox
    have HX := Lib.hid hx
    have hx6 := (splitO_labels a x hx).2
    obtain ⟨A, cap, rfl⟩ := own_form ox
    clear hk1 ox hx HA
    go_wp2_with fail
    refine (HB.out _).mono ?_
    rintro e w2 ⟨hk2, h2⟩
    have HK2 := Lib.hid hk2
    rcases h2 with ⟨y, u, hy, rfl, oy⟩ | ⟨hy, rfl⟩
    · have hy6 := (splitO_labels b y hy).2
      have HC := Lib.hid (shared_any w2 _ u x y (Row.of_own (own_kept OX.out hk2 (fun _ _ e => e))) (Row.of_own oy) (by omega) (by omega))
      have HY := Lib.hid hy
      obtain ⟨B, cap', rfl⟩ := own_form oy
      have hcl := (common_le x y).1
      clear hk2 oy hy HB
      go_wp2_with fail
      refine HC.out.mono ?_
      rintro e w3 ⟨rfl, hk3⟩
      by_cases hc : common x y = x.length
      · have hq : ((common x y : Int) == (x.length : Int)) = true := beq_iff_eq.2 (by omega)
        have HK3 := Lib.hid hk3
        have hr : Hid (aboveB a b = true) := Lib.hid (by unfold aboveB; rw [HX.out, HY.out]; exact decide_eq_true hc)
        clear hc hk3
        generalize (common x y : Int) = c at *
        go_wp2
        go_ret
        exact ⟨by rw [hr.out]; rfl, (HK1.out.trans HK2.out).trans HK3.out⟩
      · have hq : ((common x y : Int) == (x.length : Int)) = false := beq_eq_false_iff_ne.2 (by omega)
        have HK3 := Lib.hid hk3
        have hr : Hid (aboveB a b = false) := Lib.hid (by unfold aboveB; rw [HX.out, HY.out]; exact decide_eq_false hc)
        clear hc hk3
        generalize (common x y : Int) = c at *
        go_wp2
        go_ret
        exact ⟨by rw [hr.out]; rfl, (HK1.out.trans HK2.out).trans HK3.out⟩
    · have hr : Hid (aboveB a b = false) := Lib.hid (by unfold aboveB; rw [HX.out, hy])
      clear hk2 hy HB
      unfold nilS
      go_wp2
      go_ret
      exact ⟨by rw [hr.out]; rfl, HK1.out.trans HK2.out⟩
  · have hr : Hid (aboveB a b = false) := Lib.hid (by unfold aboveB; rw [hx])
    clear hk1 hx HA
    unfold nilS
    go_wp2_with fail
    refine (HB.out _).mono ?_
    rintro e w2 ⟨hk2, h2⟩
    have HK2 := Lib.hid hk2
    rcases h2 with ⟨y, u, hy, rfl, oy⟩ | ⟨hy, rfl⟩
    all_goals
      clear hk2 hy
      try clear oy
      try unfold nilS
      go_wp2
      go_ret
      exact ⟨by rw [hr.out]; rfl, HK1.out.trans HK2.out⟩
end Go.Proofs.YtlaplonmbnncaaaDoor
