/- The reference's Print and Parse. -/
import Derived.Test.YtlaplonmbnncaaaDoorF2
import Derived.Test.YtlaplonmbnncaaaDoorE3
import Derived.Test.YtlaplonmbnncaaaDoorR2
namespace Go.Proofs.YtlaplonmbnncaaaDoor
open Go.RowKit Go.Shelf
set_option maxRecDepth 100000

set_option maxHeartbeats 2000000 in
theorem rprint_any (w : World) (n : ByteArray) (r : Nat) (hn : n.size ≤ 1000) (hr : r < 256) (hT : Tabs w) : Calls Tryd.prog 41 #[capV n (r : Int)] w fun e w' => e = .returned (.tuple #[.string (printP n r).1, .int .i64 (printP n r).2]) ∧ Kept NoBlk w w' := by
  have H1 := Lib.hid (fun w hT => rright_any w n r hn hT)
  have H2 := Lib.hid (fun w => rrights_any w r hr)
  have HT := Lib.hid (hT.kept ((Kept.refl NoBlk w).alloc (.cells (capC n r) 34)))
  clear hT
  obtain ⟨V, hV⟩ : ∃ V, printP n r = V := ⟨_, rfl⟩
  rw [hV]
  unfold printP at hV
  cases hb : rightB n r with
  | false =>
    rw [hb] at hV H1
    rw [if_neg (by decide)] at hV
    subst hV
    clear H2 hb
    unfold capV at H1 ⊢
    unfold capC at HT
    go_enter Tryd.func41, Tryd.ntmps41
    go_wp2_with fail
    refine (H1.out _ HT.out).mono ?_
    rintro e w1 ⟨rfl, hk1⟩
    go_wp2
    go_ret2
    exact ⟨rfl, Kept.trans ((Kept.refl _ _).alloc _) hk1⟩
  | true =>
    obtain ⟨h79, h31⟩ := rightB_parts hb
    have hrs := rightsS_size r
    rw [hb] at hV H1
    rw [if_pos rfl] at hV
    have hrp : rightsP r = (rightsS r, 0) := by unfold rightsP; rw [if_neg (by omega)]
    rw [hrp] at H2
    have HV := Lib.hid hV.symm
    have hsz1 : (n ++ (⟨#[32]⟩ : ByteArray)).size = n.size + 1 := by rw [ByteArray.size_append]; rfl
    have hsz1' : (n ++ (⟨#[32]⟩ : ByteArray)).size ≤ 80 := by omega
    clear hV hb hrp h31
    generalize rightsS r = rs at *
    unfold capV at H1 ⊢
    unfold capC at HT
    have hb0 : Blk (w.alloc (.cells (capC n r) 34)) w.heap.size 34 (capC n r) := Blk.new _ _ _
    have HB0 := Lib.hid hb0
    have HK0 : Hid (Kept NoBlk w (w.alloc (.cells (capC n r) 34))) := Lib.hid ((Kept.refl _ _).alloc _)
    clear hb0
    unfold capC at HB0 HK0
    go_enter Tryd.func41, Tryd.ntmps41
    go_wp2_with fail
    refine (H1.out _ HT.out).mono ?_
    rintro e w1 ⟨rfl, hk1⟩
    have HK1 := Lib.hid (HK0.out.trans hk1)
    have q0 := HB0.out.kept hk1 (fun e => e)
    obtain ⟨a0, a1⟩ := cap_cells q0
    have Q0 := Lib.hid q0
    clear hk1 q0 HB0 HK0
    go_wp2_with fail
    refine (H2.out _).mono ?_
    rintro e w2 ⟨rfl, rfl⟩
    have hk2 := Kept.refl NoBlk w1
    have HK2 := Lib.hid (HK1.out.trans hk2)
    obtain ⟨d0, d1⟩ := cap_cells (Q0.out.kept hk2 (fun e => e))
    clear hk2 a0 a1
    generalize hm : n ++ (⟨#[32]⟩ : ByteArray) = m at *
    go_wp2
    go_ret2
    exact ⟨by rw [HV.out]; rfl, HK2.out⟩

/-- The bytes ahead of place K are no spaces. -/
def Clean (s : ByteArray) (K : Nat) : Prop := ∀ i (h : i < s.size), i < K → ((((s[i]'h).toNat : Nat) : Int) != 32) = true
theorem clean_of (s : ByteArray) (a b : List UInt8) (h : s.data.toList = a ++ b) (ha : (32 : UInt8) ∉ a) : Clean s a.length := fun i hi hk => by
  have e : s[i]'hi = (s.data.toList)[i]'hi := rfl
  have e2 : (s.data.toList)[i]'hi = a[i]'hk := by
    have : (s.data.toList)[i]? = some (a[i]'hk) := by rw [h, List.getElem?_append_left hk, List.getElem?_eq_getElem hk]
    rw [List.getElem?_eq_getElem hi] at this
    exact Option.some.inj this
  refine bne_iff_ne.2 fun h32 => ha ?_
  rw [e, e2] at h32
  have : a[i]'hk = 32 := UInt8.toNat_inj.1 (by show (a[i]'hk).toNat = 32; omega)
  rw [← this]
  exact List.getElem_mem hk
theorem hit_of (s : ByteArray) (a b : List UInt8) (h : s.data.toList = a ++ 32 :: b) : ∃ hi : a.length < s.size, ((((s[a.length]'hi).toNat : Nat) : Int) != 32) = false := by
  have hi : a.length < s.size := by show a.length < s.data.toList.length; rw [h]; simp
  refine ⟨hi, ?_⟩
  have e : s[a.length]'hi = (s.data.toList)[a.length]'hi := rfl
  have e2 : (s.data.toList)[a.length]? = some 32 := by rw [h, List.getElem?_append_right (Nat.le_refl _), Nat.sub_self]; rfl
  rw [List.getElem?_eq_getElem hi] at e2
  rw [e, Option.some.inj e2]
  rfl
set_option maxHeartbeats 4000000 in
theorem rparse_none (w : World) (s : ByteArray) (hs : s.size ≤ 1000) (hc : Clean s s.size) : Calls Tryd.prog 43 #[.string s] w fun e w' => e = .returned (outV (⟨#[]⟩, 0, 3)) ∧ Kept NoBlk w w' := by
  have HC := Lib.hid hc
  clear hc
  unfold outV capV
  have hlo : w.heap.size ≤ w.heap.size := Nat.le_refl _
  have hb0 : Blk (w.alloc (.cells (capC ⟨#[]⟩ 0) 34)) w.heap.size 34 (capC ⟨#[]⟩ 0) := Blk.new _ _ _
  have hk0 : Kept NoBlk w (w.alloc (.cells (capC ⟨#[]⟩ 0) 34)) := (Kept.refl _ _).alloc _
  have HB0 := Lib.hid hb0
  have HK0 := Lib.hid hk0
  clear hb0 hk0
  unfold capC at HB0 HK0
  have FIN : Hid (∀ (w1 : World) (n' : ByteArray) (r' : Int), Blk w1 w.heap.size 34 (capC ⟨#[]⟩ 0) → Kept NoBlk w w1 →
      Hid (((w1.setCell ⟨w.heap.size, 0, none⟩ (.string n')).setCell ⟨w.heap.size, 1, none⟩ (.int .u8 r')).cell? ⟨w.heap.size, 0, none⟩ = some (.string n')) ∧
      Hid (((w1.setCell ⟨w.heap.size, 0, none⟩ (.string n')).setCell ⟨w.heap.size, 1, none⟩ (.int .u8 r')).cell? ⟨w.heap.size, 1, none⟩ = some (.int .u8 r')) ∧
      Hid (Kept NoBlk w ((w1.setCell ⟨w.heap.size, 0, none⟩ (.string n')).setCell ⟨w.heap.size, 1, none⟩ (.int .u8 r')))) :=
    Lib.hid fun w1 n' r' h1 h2 => by
      obtain ⟨z0, z1⟩ := cap_cells (cap_stored (n' := n') (r' := r') h1)
      exact ⟨Lib.hid z0, Lib.hid z1, Lib.hid ((h2.setCell (newHit hlo) _).setCell (newHit hlo) _)⟩
  go_enter Tryd.func43, Tryd.ntmps43
  go_wp2
  go_loopw [4] (fun iv wr => ∃ i : Nat, i ≤ s.size ∧ iv = .int .i64 i ∧ wr = w.alloc (.cells #[.string ⟨#[]⟩, .int .u8 0] 34)) (fun iv _ => s.size - (intOf iv).toNat)
  case atStart => exact ⟨0, by omega, rfl, rfl⟩
  case round =>
    obtain ⟨i, hi, rfl, rfl⟩ := hrel
    by_cases hlt : i < s.size
    · have hx := fun w => idx_at w s i hlt
      have hne := HC.out i hlt hlt
      generalize (((s[i]'hlt).toNat : Nat) : Int) = by1 at *
      go_wp2
      go_roundw
      case rel => exact ⟨i + 1, by omega, by go_num, by first | rfl | trivial⟩
      case measure => simp [intOf]; omega
    · obtain rfl : i = s.size := by omega
      obtain ⟨Z0, Z1, ZK⟩ := FIN.out (w.alloc (.cells #[.string ⟨#[]⟩, .int .u8 0] 34)) ⟨#[]⟩ 0 HB0.out HK0.out
      go_wp2
      refine bodyPost_ret (v := .tuple #[.agg #[.string ⟨#[]⟩, .int .u8 0], .int .i64 3]) (by simp [results, Tryd.f43, go_sem]) rfl ⟨rfl, by first | exact ZK.out | (repeat (with_reducible first | exact Kept.refl _ _ | apply Kept.drew | apply Kept.drewN | apply Kept.alloc | exact oneHit | apply Kept.setCell))⟩
set_option maxHeartbeats 4000000 in
/-- The first space stands at place K; behind it rights are read (c, or the error g). -/
theorem rparse_hit (w : World) (s : ByteArray) (K : Nat) (x y : ByteArray) (c g : Int) (hs : s.size ≤ 1000) (hx : x.size ≤ 1000) (hc : Clean s K) (hK : K < s.size) (hh : ((((s[K]'hK).toNat : Nat) : Int) != 32) = false)
    (e1 : s.extract 0 K = x) (e2 : s.extract (K + 1) s.size = y) (hT : Tabs w)
    (hR : ∀ w : World, Calls Tryd.prog 58 #[.string y] w fun e w' => e = .returned (.tuple #[.int .u8 c, .int .i64 g]) ∧ w = w') :
    Calls Tryd.prog 43 #[.string s] w fun e w' => e = .returned (outV (if g = 0 ∧ rightB x c = true then (x, c, 0) else (⟨#[]⟩, 0, 3))) ∧ Kept NoBlk w w' := by
  have H1 := Lib.hid (fun w hT => rright_any w x c hx hT)
  obtain ⟨V, hV⟩ : ∃ V, (if g = 0 ∧ rightB x c = true then (x, c, 0) else ((⟨#[]⟩ : ByteArray), (0 : Int), (3 : Int))) = V := ⟨_, rfl⟩
  rw [hV]
  generalize rightB x c = br at *
  have HV := Lib.hid hV.symm
  have HR := Lib.hid hR
  have HC := Lib.hid hc
  have HT := Lib.hid hT
  clear hR hc hT hV
  unfold capV at H1
  unfold outV capV
  have hlo : w.heap.size ≤ w.heap.size := Nat.le_refl _
  have hb0 : Blk (w.alloc (.cells (capC ⟨#[]⟩ 0) 34)) w.heap.size 34 (capC ⟨#[]⟩ 0) := Blk.new _ _ _
  have hk0 : Kept NoBlk w (w.alloc (.cells (capC ⟨#[]⟩ 0) 34)) := (Kept.refl _ _).alloc _
  have HB0 := Lib.hid hb0
  have HK0 := Lib.hid hk0
  clear hb0 hk0
  unfold capC at HB0 HK0
  have FIN : Hid (∀ (w1 : World) (n' : ByteArray) (r' : Int), Blk w1 w.heap.size 34 (capC ⟨#[]⟩ 0) → Kept NoBlk w w1 →
      Hid (((w1.setCell ⟨w.heap.size, 0, none⟩ (.string n')).setCell ⟨w.heap.size, 1, none⟩ (.int .u8 r')).cell? ⟨w.heap.size, 0, none⟩ = some (.string n')) ∧
      Hid (((w1.setCell ⟨w.heap.size, 0, none⟩ (.string n')).setCell ⟨w.heap.size, 1, none⟩ (.int .u8 r')).cell? ⟨w.heap.size, 1, none⟩ = some (.int .u8 r')) ∧
      Hid (Kept NoBlk w ((w1.setCell ⟨w.heap.size, 0, none⟩ (.string n')).setCell ⟨w.heap.size, 1, none⟩ (.int .u8 r')))) :=
    Lib.hid fun w1 n' r' h1 h2 => by
      obtain ⟨z0, z1⟩ := cap_cells (cap_stored (n' := n') (r' := r') h1)
      exact ⟨Lib.hid z0, Lib.hid z1, Lib.hid ((h2.setCell (newHit hlo) _).setCell (newHit hlo) _)⟩
  have hxk := fun w => idx_at w s K hK
  generalize (((s[K]'hK).toNat : Nat) : Int) = by0 at *
  go_enter Tryd.func43, Tryd.ntmps43
  go_wp2
  go_loopw [4] (fun iv wr => ∃ i : Nat, i ≤ K ∧ iv = .int .i64 i ∧ wr = w.alloc (.cells #[.string ⟨#[]⟩, .int .u8 0] 34)) (fun iv _ => s.size - (intOf iv).toNat)
  case atStart => exact ⟨0, by omega, rfl, rfl⟩
  case round =>
    obtain ⟨i, hi, rfl, rfl⟩ := hrel
    by_cases hik : i < K
    · have hlt : i < s.size := by omega
      have hx := fun w => idx_at w s i hlt
      have hne := HC.out i hlt hik
      clear hh hxk
      generalize (((s[i]'hlt).toNat : Nat) : Int) = by1 at *
      go_wp2
      go_roundw
      case rel => exact ⟨i + 1, by omega, by go_num, by first | rfl | trivial⟩
      case measure => simp [intOf]; omega
    · obtain rfl : i = K := by omega
      have f1 := fun w => run_slice_string_h (P := Tryd.prog) w 9 s Tryd.underlying9 .i64 (i : Int) (by omega) (by omega)
      have f2 := fun w => run_slice_string_l (P := Tryd.prog) w 9 s Tryd.underlying9 .i64 ((i : Int) + 1) (by omega) (by omega)
      rw [show ((i : Int)).toNat = i from rfl, e1] at f1
      rw [show ((i : Int) + 1).toNat = i + 1 by omega, e2] at f2
      clear e1 e2 hik
      have Q3 := Lib.hid (HB0.out.alloc (.cells #[.string x, .int .u8 c] 34))
      have Q4 : Hid (Blk ((w.alloc (.cells #[.string ⟨#[]⟩, .int .u8 0] 34)).alloc (.cells #[.string x, .int .u8 c] 34)) (w.heap.size + 1) 34 (capC x c)) := Lib.hid (Blk.new_at _ _ _ (by simp))
      have HK3 := Lib.hid (HK0.out.alloc (.cells #[.string x, .int .u8 c] 34))
      have HT3 := Lib.hid (HT.out.kept HK3.out)
      have hne01 : w.heap.size ≠ w.heap.size + 1 := by omega
      unfold capC at Q4
      go_wp2_with fail
      refine (HR.out _).mono ?_
      rintro e w2 ⟨rfl, rfl⟩
      by_cases hg : g = 0
      · subst hg
        go_wp2_with fail
        refine (H1.out _ HT3.out).mono ?_
        rintro e w3 ⟨rfl, hk3⟩
        have q3 := Q3.out.kept hk3 (fun e => e)
        have q4 := Q4.out.kept hk3 (fun e => e)
        have HK4 := HK3.out.trans hk3
        obtain ⟨c0, c1⟩ := cap_cells q3
        obtain ⟨d0, d1⟩ := cap_cells q4
        have fr := q3.frozen
        have fr4 := q4.frozen
        cases br with
        | false =>
          have HV2 : Hid (V = (⟨#[]⟩, 0, 3)) := Lib.hid (by rw [HV.out, if_neg (by simp)])
          obtain ⟨Z0, Z1, ZK⟩ := FIN.out w3 ⟨#[]⟩ 0 q3 HK4
          clear q3 q4 Q3 Q4 HK3 hk3
          go_wp2
          refine bodyPost_ret (v := .tuple #[.agg #[.string ⟨#[]⟩, .int .u8 0], .int .i64 3]) (by simp [results, Tryd.f43, go_sem, Z0.out, Z1.out]) rfl ⟨by rw [HV2.out], by first | exact ZK.out | (repeat (with_reducible first | exact Kept.refl _ _ | apply Kept.drew | apply Kept.drewN | apply Kept.alloc | exact oneHit | apply Kept.setCell))⟩
        | true =>
          have HV2 : Hid (V = (x, c, 0)) := Lib.hid (by rw [HV.out, if_pos (by simp)])
          obtain ⟨Z0, Z1, ZK⟩ := FIN.out w3 x c q3 HK4
          clear q3 q4 Q3 Q4 HK3 hk3
          go_wp2
          refine bodyPost_ret (v := .tuple #[.agg #[.string x, .int .u8 c], .int .i64 0]) (by simp [results, Tryd.f43, go_sem, Z0.out, Z1.out]) rfl ⟨by rw [HV2.out], by first | exact ZK.out | (repeat (with_reducible first | exact Kept.refl _ _ | apply Kept.drew | apply Kept.drewN | apply Kept.alloc | exact oneHit | apply Kept.setCell))⟩
      · have hg' : (g != 0) = true := bne_iff_ne.2 hg
        have HV2 : Hid (V = (⟨#[]⟩, 0, 3)) := Lib.hid (by rw [HV.out, if_neg (fun h => hg h.1)])
        clear hg
        obtain ⟨Z0, Z1, ZK⟩ := FIN.out _ ⟨#[]⟩ 0 Q3.out HK3.out
        obtain ⟨c0, c1⟩ := cap_cells Q3.out
        have fr := Q3.out.frozen
        go_wp2
        refine bodyPost_ret (v := .tuple #[.agg #[.string ⟨#[]⟩, .int .u8 0], .int .i64 3]) (by simp [results, Tryd.f43, go_sem]) rfl ⟨by rw [HV2.out], by first | exact ZK.out | (repeat (with_reducible first | exact Kept.refl _ _ | apply Kept.drew | apply Kept.drewN | apply Kept.alloc | exact oneHit | apply Kept.setCell))⟩
theorem rparse_any (w : World) (s : ByteArray) (hs : s.size ≤ 1000) (hT : Tabs w) : Calls Tryd.prog 43 #[.string s] w fun e w' => e = .returned (outV (parP s)) ∧ Kept NoBlk w w' := by
  unfold parP
  cases hsp : sp s.data.toList with
  | none => exact rparse_none w s hs (clean_of s s.data.toList [] (by simp) (sp_none _ hsp))
  | some p =>
    obtain ⟨a, b⟩ := p
    obtain ⟨e, h32⟩ := sp_some _ _ _ hsp
    obtain ⟨hK, hh⟩ := hit_of s a b e
    have hlen : s.size = a.length + (b.length + 1) := by show s.data.toList.length = _; rw [e]; simp
    have ex1 : s.extract 0 a.length = mk a := by
      rw [Lib.extract_eq, e, List.drop_zero, Nat.sub_zero, List.take_left]
      rfl
    have ex2 : s.extract (a.length + 1) s.size = mk b := by
      rw [← mk_of s]
      rw [extract_mk, e, show a ++ 32 :: b = (a ++ [32]) ++ b by simp, show a.length + 1 = (a ++ [32]).length by simp, List.drop_left]
    have hR := fun w => rreadRights_any w (mk b)
    have := rparse_hit w s a.length (mk a) (mk b) _ _ hs (by rw [mk_size]; omega) (clean_of s a (32 :: b) e h32) hK hh ex1 ex2 hT hR
    simp only
    unfold readP at this
    cases hq : readO (mk b) with
    | none =>
      rw [hq] at this
      simp only at this ⊢
      rw [if_neg (fun h => absurd h.1 (by decide))] at this
      exact this
    | some q =>
      rw [hq] at this
      simp only [true_and] at this ⊢
      exact this
end Go.Proofs.YtlaplonmbnncaaaDoor
