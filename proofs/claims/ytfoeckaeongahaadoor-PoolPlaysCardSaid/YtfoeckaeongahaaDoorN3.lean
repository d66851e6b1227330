/- The program's names: the iterator over what stands between the slashes. -/
import Derived.Test.YtfoeckaeongahaaDoorN2
namespace Go.Proofs.YtfoeckaeongahaaDoor
open Go.RowKit Go.Shelf
attribute [local go_sem] Oper.semAt_some
set_option maxRecDepth 100000

/-- What is left to say of a name, and the text of it. -/
def textOf (r : List (List UInt8)) : List UInt8 := if r = [] then [] else 47 :: joinS r
def noTail (r : List (List UInt8)) : Prop := (∀ p ∈ r, (47 : UInt8) ∉ p) ∧ (r ≠ [] → r.getLastD [] ≠ [])
theorem noTail_tail {p : List UInt8} {r : List (List UInt8)} (h : noTail (p :: r)) : noTail r := by
  refine ⟨fun q hq => h.1 q (List.mem_cons_of_mem _ hq), fun hr => ?_⟩
  cases r with
  | nil => exact absurd rfl hr
  | cons a t => exact h.2 (by simp)
theorem joinS_nil {r : List (List UInt8)} (h : noTail r) : joinS r = [] ↔ r = [] := by
  constructor
  · intro e
    match r, h, e with
    | [], _, _ => rfl
    | [a], h, e => exact absurd e (h.2 (by simp))
    | a :: b :: t, _, e => cases a <;> cases e
  · intro e
    rw [e]
    rfl
theorem textOf_cons (p : List UInt8) (r : List (List UInt8)) : textOf (p :: r) = 47 :: joinS (p :: r) := rfl
theorem textOf_len (p : List UInt8) (r : List (List UInt8)) : (textOf r).length < (textOf (p :: r)).length := by
  rw [textOf_cons]
  unfold textOf
  split
  · simp
  · cases r with
    | nil => contradiction
    | cons a t =>
      show _ < (47 :: (p ++ 47 :: joinS (a :: t))).length
      simp
      omega
def leftAt (w : World) (b : Nat) : Nat := match w.cell? ⟨b, 0, none⟩ with
  | some (.string t) => t.size
  | _ => 0
def encS (x : ByteArray) : Array Value := #[.string x]

theorem labels_any (w : World) (s : ByteArray) : Calls Tryd.prog 67 #[.string s] w fun e w' => e = .returned (.func (.func 72) #[] #[.pointer (some ⟨w.heap.size, 0, none⟩)]) ∧ w' = w.alloc (.cells #[.string s] 9) := by
  go_enter Tryd.func67, Tryd.ntmps67
  go_wp2
  go_ret
  exact ⟨rfl, rfl⟩

theorem grown_drewN {w : World} {n : Nat} : w.grownBy (w.drewN n) none := ⟨rfl, rfl, rfl, Nat.le_refl _, fun _ _ _ => rfl⟩
theorem leftAt_blk {w : World} {b : Nat} {l : List UInt8} (h : Blk w b 9 #[.string (mk l)]) : leftAt w b = l.length := by
  have c : w.cell? ⟨b, 0, none⟩ = some (.string (mk l)) := h.cell 0
  unfold leftAt
  rw [c]
  exact mk_size l
set_option maxHeartbeats 2000000 in
theorem labels1_in (l Bs : Nat) (xs : List (List UInt8)) (hx : noTail xs) (h1000 : (textOf xs).length ≤ 9223372036854775807) (J Jx : List ByteArray → World → Prop)
    (hJ : ∀ s W W' row, J s W → W.grownBy W' row → row = none → J s W') (hJB : ∀ s W v, J s W → J s (W.setCell ⟨Bs, 0, none⟩ v))
    (hY : ∀ pre x W, J pre W → YieldAt .wide (3 - 1 - 1) Tryd.prog l (encS x) W fun e W' =>
      (e = .returned (.bool true) ∧ J (pre ++ [x]) W' ∧ W'.heap[Bs]? = W.heap[Bs]?) ∨ (e = .returned (.bool false) ∧ Jx (pre ++ [x]) W'))
    (W : World) (hB : Blk W Bs 9 #[.string (mk (textOf xs))]) (h0 : J [] W) :
    CallsIn .wide (3 - 1) Tryd.prog 72 #[.func (.yield l) #[] #[], .pointer (some ⟨Bs, 0, none⟩)] W fun e W' => (∃ v, e = .returned v) ∧
      ((∃ ys, ys = xs.map mk ∧ J ys W') ∨ (∃ pre, pre <+: xs.map mk ∧ Jx pre W')) := by
  have HB := Lib.hid hB
  clear hB
  refine callsIn_of_wp Tryd.func72 rfl trivial ?_ rfl
  simp only [Tryd.ntmps72, List.size_toArray, List.length_cons, List.length_nil, Nat.reduceAdd, Nat.reduceSub, Array.replicate_succ, Array.replicate_zero, List.push_toArray, List.append_toArray, List.nil_append, List.cons_append]
  gi_wp2
  gi_loopw [3] (fun _ wr => ∃ (pre rest : List (List UInt8)), xs = pre ++ rest ∧ noTail rest ∧ (textOf rest).length ≤ 9223372036854775807 ∧ Hid (Blk wr Bs 9 #[.string (mk (textOf rest))]) ∧ J (pre.map mk) wr)
    (fun _ wr => leftAt wr Bs)
  case atStart => exact ⟨[], xs, rfl, hx, h1000, HB, h0⟩
  case round =>
    obtain ⟨pre, rest, hxs, hnt, hlen, hb, hJs⟩ := hrel
    clear HB
    have f0 := hb.out.frozen 0
    cases rest with
    | nil =>
      have c0 : wr.cell? ⟨Bs, 0, none⟩ = some (.string ⟨#[]⟩) := hb.out.cell 0
      gi_wp2
      go_end0
      refine ⟨⟨_, rfl⟩, .inl ⟨_, rfl, ?_⟩⟩
      rw [hxs, List.append_nil]
      exact hJs
    | cons p r =>
      have c0 : wr.cell? ⟨Bs, 0, none⟩ = some (.string (mk (textOf (p :: r)))) := hb.out.cell 0
      have hsz : (mk (textOf (p :: r))).size = (textOf (p :: r)).length := mk_size _
      have hsz1 : 1 ≤ (mk (textOf (p :: r))).size := by rw [hsz, textOf_cons, List.length_cons]; omega
      have he : (mk (textOf (p :: r))).toList.isEmpty = false := by rw [emp]; exact decide_eq_false (by omega)
      have hsl := fun w => sl_from w (mk (textOf (p :: r))) hsz1
      have e1 : (mk (textOf (p :: r))).extract 1 (mk (textOf (p :: r))).size = mk (joinS (p :: r)) := extract_mk _ 1
      rw [e1] at hsl
      have hlt := textOf_len p r
      have HC := Lib.hid (fun w => cut_slash w (joinS (p :: r)) (by rw [textOf_cons, List.length_cons] at hlen; omega))
      obtain ⟨q1, q2⟩ := cut_joinS p r (hnt.1 p (List.mem_cons_self ..))
      rw [q1, q2] at HC
      have hJn := joinS_nil (noTail_tail hnt)
      have hnt' := noTail_tail hnt
      have hls : (leftAt wr Bs) = (textOf (p :: r)).length := by unfold leftAt; rw [c0]; exact hsz
      generalize mk (textOf (p :: r)) = T at *
      generalize (Lib.cut (joinS (p :: r)) [47]).2.2 = found at *
      clear q1 q2 e1
      gi_wp2_with fail
      refine ⟨trivial, (callsIn_wide.2 (HC.out _)).mono ?_⟩
      rintro x w1 ⟨rfl, hk1, n, rfl⟩
      have hb1 := Lib.hid (hb.out.drewN n)
      have hJ1 := hJ _ wr (wr.drewN n) none hJs grown_drewN rfl
      have c1 : (wr.drewN n).cell? ⟨Bs, 0, none⟩ = some (.string T) := c0
      have f1 : (wr.drewN n).frozen? ⟨Bs, 0, none⟩ = false := f0
      clear hk1 c0 f0 hsl HC hJs hb
      generalize wr.drewN n = w1 at *
      have hJ2 := hJB _ w1 (.string (mk (joinS r))) hJ1
      have hb2 := Lib.hid (hb1.out.set_ 0 (.string (mk (joinS r))))
      obtain ⟨fn, tmps, assign, body, hy, hR⟩ := hY _ (mk p) _ hJ2
      dsimp only [encS] at hy
      clear hJ1 hJ2 hb1
      have HR := Lib.hid hR
      clear hR
      gi_wp2_with fail
      refine HR.out.mono ?_
      clear HR
      rintro e W3 (⟨rfl, hJ3, hk3⟩ | ⟨rfl, hJx3⟩)
      · have hb3 : Blk W3 Bs 9 #[.string (mk (joinS r))] := hk3.trans hb2.out
        have hpre : List.map mk (pre ++ [p]) = pre.map mk ++ [mk p] := by rw [List.map_append]; rfl
        rw [← hpre] at hJ3
        have hxs' : xs = (pre ++ [p]) ++ r := by rw [hxs, List.append_assoc]; rfl
        clear hk3 hb2 hxs hpre hnt
        cases r with
        | nil =>
          have c3 : W3.cell? ⟨Bs, 0, none⟩ = some (.string ⟨#[]⟩) := hb3.cell 0
          have HB3 := Lib.hid hb3
          clear hb3
          gi_wp2
          go_roundw
          case rel => exact ⟨pre ++ [p], [], hxs', hnt', by omega, HB3, hJ3⟩
          case measure => rw [hls, leftAt_blk HB3.out]; exact hlt
        | cons a t =>
          have c3 : W3.cell? ⟨Bs, 0, none⟩ = some (.string (mk (joinS (a :: t)))) := hb3.cell 0
          have f3 := hb3.frozen 0
          have he3 : (mk (joinS (a :: t))).toList.isEmpty = false := by
            rw [emp, mk_size]
            refine decide_eq_false fun h => ?_
            have := hJn.1 (List.eq_nil_of_length_eq_zero h)
            cases this
          have hadd : (⟨#[47]⟩ : ByteArray) ++ mk (joinS (a :: t)) = mk (textOf (a :: t)) := slash_add _
          have hlt' : (textOf (a :: t)).length ≤ 9223372036854775807 := by omega
          have hs3 : (mk (joinS (a :: t))).size ≤ 9223372036854775806 := by
            rw [mk_size]
            rw [textOf_cons, List.length_cons] at hlt'
            omega
          have HB3 := Lib.hid (Blk.cast (hb3.set_ 0 (.string (mk (textOf (a :: t))))) (by simp) : Blk _ Bs 9 #[.string (mk (textOf (a :: t)))])
          have hJ4 := hJB _ W3 (.string (mk (textOf (a :: t)))) hJ3
          clear hb3 hJ3
          gi_wp2
          go_roundw
          case rel => exact ⟨pre ++ [p], a :: t, hxs', hnt', hlt', HB3, hJ4⟩
          case measure => rw [hls, leftAt_blk HB3.out]; exact hlt
      · gi_wp2
        refine bodyPost_ret (results_none rfl _ _ _) rfl ?_
        refine ⟨⟨_, rfl⟩, .inr ⟨_, ?_, hJx3⟩⟩
        rw [hxs, List.map_append, List.map_cons]
        exact ⟨r.map mk, by rw [List.append_assoc]; rfl⟩
theorem labels_yields (w : World) (Bs : Nat) (xs : List (List UInt8)) (hx : noTail xs) (h1000 : (textOf xs).length ≤ 9223372036854775807) (hB : Blk w Bs 9 #[.string (mk (textOf xs))]) :
    Yields .wide (3 - 1) Tryd.prog 72 #[.pointer (some ⟨Bs, 0, none⟩)] encS Bs (fun ys => ys = xs.map mk) (fun pre => pre <+: xs.map mk) w := fun l J Jx W hW hJ _ hJB hY h0 =>
  labels1_in l Bs xs hx h1000 J Jx (fun s W W' row hs hg hr => hJ s W W' row hs hg (fun r e => by rw [hr] at e; cases e)) hJB hY W (hB.kept (Kept.of_below hW) (fun e => e)) h0
end Go.Proofs.YtfoeckaeongahaaDoor
