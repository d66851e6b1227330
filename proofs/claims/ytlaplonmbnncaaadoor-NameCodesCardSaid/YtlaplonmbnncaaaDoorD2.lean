/- The reference's Join; texts that are the same; at most nine labels. -/
import Derived.Test.YtlaplonmbnncaaaDoorD1
namespace Go.Proofs.YtlaplonmbnncaaaDoor
open Go.RowKit Go.Shelf
set_option maxRecDepth 100000

def catS : List (List UInt8) → List UInt8
  | [] => []
  | a :: t => 47 :: a ++ catS t
theorem catS_join : ∀ (a : List UInt8) (t : List (List UInt8)), catS (a :: t) = 47 :: joinS (a :: t)
  | a, [] => by show 47 :: a ++ [] = _; rw [List.append_nil]; rfl
  | a, b :: t => by
    show 47 :: a ++ catS (b :: t) = 47 :: (a ++ 47 :: joinS (b :: t))
    rw [catS_join b t]
    rfl
theorem catS_snoc (l : List (List UInt8)) (a : List UInt8) : catS (l ++ [a]) = catS l ++ (47 :: a) := by
  induction l with
  | nil => show 47 :: a ++ [] = _; rw [List.append_nil]; rfl
  | cons b t ih =>
    show 47 :: b ++ catS (t ++ [a]) = (47 :: b ++ catS t) ++ (47 :: a)
    rw [ih, List.append_assoc]
def lst (x : List ByteArray) : List (List UInt8) := x.map fun s => s.data.toList
theorem catS_len : ∀ x : List ByteArray, x.all label = true → (catS (lst x)).length ≤ 13 * x.length
  | [], _ => by simp [lst, catS]
  | a :: t, h => by
    have h1 := (label_facts a (List.all_eq_true.1 h a (List.mem_cons_self ..))).2.1
    have h2 : a.data.toList.length = a.size := rfl
    have h3 := catS_len t (List.all_eq_true.2 fun x hx => List.all_eq_true.1 h x (List.mem_cons_of_mem _ hx))
    show (47 :: a.data.toList ++ catS (lst t)).length ≤ _
    rw [List.length_append, List.length_cons, List.length_cons]
    omega
theorem mk_append2 (l k : List UInt8) : mk l ++ mk k = mk (l ++ k) := by
  rw [← mk_of (mk l ++ mk k)]
  congr 1
set_option maxHeartbeats 4000000 in
theorem rjoin_any (w : World) (v : Value) (x : List ByteArray) (hx : Row w 9 1 v x.length (strV x)) (hl : x.length ≤ 100) (hsz : ∀ s ∈ x, s.size ≤ 1000) (hT : Tabs w) : Calls Tryd.prog 10 #[v] w fun e w' => e = .returned (joinV x) ∧ Kept NoBlk w w' := by
  obtain ⟨A, cap, rfl, h1, h2, hA, -, hc⟩ := hx.form
  have HX := Lib.hid hx
  have HT := Lib.hid hT
  clear hc hx hT
  obtain ⟨V, hV⟩ : ∃ V, joinV x = V := ⟨_, rfl⟩
  rw [hV]
  unfold joinV at hV
  by_cases h6 : 6 < x.length
  · rw [if_pos h6] at hV
    subst hV
    go_enter Tryd.func10, Tryd.ntmps10
    go_wp2
    go_ret2
    exact ⟨rfl, Kept.refl _ _⟩
  rw [if_neg h6] at hV
  have HV := Lib.hid hV.symm
  clear hV
  have h6' : (x.length : Int) ≤ 6 := by omega
  go_enter Tryd.func10, Tryd.ntmps10
  go_wp2
  go_loopw [4, 5] (fun ov kv wr => ∃ k : Nat, k ≤ x.length ∧ kv = .int .i64 k ∧ ov = .string (mk (catS (lst (x.take k)))) ∧ Hid ((x.take k).all label = true) ∧ Kept NoBlk w wr) (fun _ kv _ => x.length - (intOf kv).toNat)
  case atStart => exact ⟨0, by omega, rfl, rfl, Lib.hid rfl, Kept.refl _ _⟩
  case round =>
    obtain ⟨k, hk1, rfl, rfl, HR, hK⟩ := hrel
    have hlen := catS_len (x.take k) HR.out
    rw [List.length_take] at hlen
    have hs1 := mk_size (catS (lst (x.take k)))
    by_cases l1 : k < x.length
    · obtain ⟨b, o, c, e1, -, -, hb, -, hbc⟩ := HX.out.place (by omega)
      injection e1 with e1 _ e2
      subst e1 e2
      have q1 : wr.cell? ⟨b, o + k, none⟩ = some (.string x[k]) := (hK.cell (p := ⟨b, o + k, none⟩) hb (fun e => e)).trans (hbc k _ (strV_at x k l1))
      have HL := Lib.hid (rlabel_any wr x[k] (hsz _ (List.getElem_mem l1)) (HT.out.kept hK))
      have ht : x.take (k + 1) = x.take k ++ [x[k]] := List.take_succ_eq_append_getElem l1
      have HA : Hid ((x.take (k + 1)).all label = label x[k]) := Lib.hid (by rw [ht, List.all_append, HR.out, List.all_cons, List.all_nil]; simp)
      have HF : Hid (label x[k] = false → x.all label = false) := Lib.hid fun h => by
        cases hh : x.all label with
        | false => rfl
        | true => have := List.all_eq_true.1 hh _ (List.getElem_mem l1); rw [h] at this; cases this
      have hmk : (⟨#[47]⟩ : ByteArray) ++ x[k] = mk (47 :: x[k].data.toList) := by
        conv => lhs; rw [← mk_of x[k]]
        exact slash_add _
      have hcat : mk (catS (lst (x.take k))) ++ mk (47 :: x[k].data.toList) = mk (catS (lst (x.take (k + 1)))) := by
        rw [mk_append2, ht]
        unfold lst
        rw [List.map_append, List.map_cons, List.map_nil, catS_snoc]
      have HS : Hid (label x[k] = true → x[k].size ≤ 12) := Lib.hid fun h => (label_facts _ h).2.1
      have hs2 := mk_size (47 :: x[k].data.toList)
      rw [List.length_cons, show x[k].data.toList.length = x[k].size from rfl] at hs2
      have hs3 : (mk (catS (lst (x.take k)))).size ≤ 78 := by omega
      have HK := Lib.hid hK
      clear hbc hK ht hlen hs1
      generalize mk (47 :: x[k].data.toList) = m at *
      generalize mk (catS (lst (x.take k))) = o1 at *
      generalize x[k] = s at *
      generalize label s = ls at *
      go_wp2_with fail
      refine HL.out.mono ?_
      rintro e w1 ⟨rfl, hk⟩
      have HK1 := Lib.hid (HK.out.trans hk)
      have q2 := (hk.cell (p := ⟨b, o + k, none⟩) (by show b < wr.heap.size; have := HK.out.size; omega) (fun e => e)).trans q1
      clear hk
      cases ls with
      | false =>
        have hf : x.all label = false := HF.out rfl
        have HV2 : Hid (V = .tuple #[.string ⟨#[]⟩, .int .i64 3]) := Lib.hid (by rw [HV.out, if_pos hf])
        clear hf
        go_wp2
        go_ret2
        exact ⟨by rw [HV2.out]; rfl, HK1.out⟩
      | true =>
        have h12 := HS.out rfl
        have hs4 : m.size ≤ 13 := by omega
        go_wp2
        go_roundw
        case rel => exact ⟨k + 1, by omega, by go_num, by first | rfl | (rw [hmk, hcat]) | rw [hcat], HA, HK1.out⟩
        case measure => simp [intOf]; omega
    · have hke : k = x.length := by omega
      have hT' : Hid (x.all label = true) := Lib.hid (by have := HR.out; rwa [hke, List.take_length] at this)
      have hemp := emp (mk (catS (lst (x.take k))))
      have HK := Lib.hid hK
      rw [hke, List.take_length] at hemp ⊢
      clear hK hlen hs1 HR
      cases x with
      | nil =>
        have he : (mk (catS (lst []))).toList.isEmpty = true := by rw [hemp]; decide
        have HV2 : Hid (V = .tuple #[.string ⟨#[47]⟩, .int .i64 0]) := Lib.hid (by rw [HV.out]; rfl)
        clear hemp
        generalize mk (catS (lst [])) = o1 at *
        go_wp2
        go_ret2
        exact ⟨by rw [HV2.out]; rfl, HK.out⟩
      | cons a t =>
        have he : (mk (catS (lst (a :: t)))).toList.isEmpty = false := by
          rw [hemp, mk_size]
          exact decide_eq_false (fun h => by have := List.eq_nil_of_length_eq_zero h; cases this)
        have HV2 : Hid (V = .tuple #[.string (mk (catS (lst (a :: t)))), .int .i64 0]) := Lib.hid (by
          rw [HV.out, if_neg (by rw [hT'.out]; decide)]
          unfold nameOf lst
          rw [List.map_cons, catS_join])
        clear hemp
        generalize mk (catS (lst (a :: t))) = o1 at *
        go_wp2
        go_ret2
        exact ⟨by rw [HV2.out]; rfl, HK.out⟩
end Go.Proofs.YtlaplonmbnncaaaDoor
