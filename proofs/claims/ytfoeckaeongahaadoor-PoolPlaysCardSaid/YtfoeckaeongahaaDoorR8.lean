/- The pool: do both tell the same. -/
import Derived.Test.YtfoeckaeongahaaDoorR7
namespace Go.Proofs.YtfoeckaeongahaaDoor
open Go.RowKit Go.Shelf
set_option maxRecDepth 100000

theorem run_neq_cap (w : World) (n : ByteArray) (r : Int) : (binOp .neq 42 (.agg #[.string n, .int .u8 r]) (.agg #[.string n, .int .u8 r])).run Tryd.prog w = .ok (.bool false) w := by
  simp [go_sem]
theorem run_neqGuard_cap (w : World) (o1 o2 : Operand) (n : ByteArray) (r : Int) : (eqGuard .neq 42 o1 o2 (.agg #[.string n, .int .u8 r]) (.agg #[.string n, .int .u8 r])).run Tryd.prog w = .ok () w :=
  run_eqGuard_agg w .neq 42 o1 o2 _ _ (by kernel_rfl)
theorem guard_form (S : PSt) (i : Nat) : ∃ n r b, guardV S i = .tuple #[.agg #[.string n, .int .u8 r], .bool b] := by
  unfold guardV
  split
  · exact ⟨_, _, _, rfl⟩
  · exact ⟨_, _, _, rfl⟩
theorem owners_few (S : PSt) (i : Nat) : ∀ x ∈ ownersL S i, x < 256 := fun x hx => by
  unfold ownersL at hx
  split at hx
  · have := ((suchTo_mem (fun e => (S.own i).testBit e) 6 x).1 hx).1; omega
  · cases hx
theorem frames_few (S : PSt) (e : Nat) : ∀ x ∈ framesL S e, x < 256 := fun x hx => by
  have := ((suchTo_mem _ 8 x).1 hx).1; omega
theorem room_few (S : PSt) : ∀ x ∈ roomL S, x < 256 := fun x hx => by
  have := ((suchTo_mem _ 8 x).1 hx).1; omega
set_option maxHeartbeats 16000000 in
theorem same_any (w0 w : World) (pb fb rb : Nat) (S : PSt) (c : Nat) (B : Both w0 w pb fb rb S) (hI : Inv c S) (hc : c ≤ 1000) : Calls Tryd.prog 23 #[.pointer (some ⟨pb, 0, none⟩), .pointer (some ⟨rb, 0, none⟩)] w fun x w' => x = .returned (.bool true) ∧ Both w0 w' pb fb rb S := by
  have hFit := hI.fit (by omega)
  have hev : S.ev.length ≤ 1000000 := hFit.ev
  have HG := Lib.hid (fun w i (hi : i < 256) h => guard_any w pb fb S i h hFit hi)
  have HGr := Lib.hid (fun w i (hi : i < 256) h => rguard_any w rb S i h hFit hi)
  have HO := Lib.hid (fun w i (hi : i < 256) h => owners_any w pb fb S i h hFit hi)
  have HOr := Lib.hid (fun w i (hi : i < 256) h => rowners_any w rb S i h hi)
  have HF := Lib.hid (fun w e h => frames_any w pb fb S e h hFit)
  have HFr := Lib.hid (fun w e h => rframes_any w rb S e h)
  have HH := Lib.hid (fun w e h => holds_any w pb fb S e 1 h hFit (by omega))
  have HHr := Lib.hid (fun w e h => rholds_any w rb S e 1 h (by omega))
  have HR := Lib.hid (fun w h => room_any w pb fb S h)
  have HRr := Lib.hid (fun w h => rroom_any w rb S h hFit)
  have HE := Lib.hid (fun w h => events_any w pb fb S h hev)
  have HEr := Lib.hid (fun w h => revents_any w rb S h hev)
  have HZ := Lib.hid (fun w h => psize_any w pb fb S h)
  have HZr := Lib.hid (fun w h => rsize_any w rb S h)
  have HS8 := Lib.hid (fun w b1 b2 u v l hu hv hs => same8_any w b1 b2 u v l hu hv hs)
  have HSE := Lib.hid (fun w b1 b2 u v hu hv => sameEv_any w b1 b2 u v S.ev hu hv hev)
  have HB := Lib.hid B
  have HGF := Lib.hid (guard_form S)
  have HOF := Lib.hid (owners_few S)
  have HFF := Lib.hid (frames_few S)
  have HRF := Lib.hid (room_few S)
  have hE1 := fun w => run_neq_cap w
  have hE2 := fun w => run_neqGuard_cap w
  clear hI hFit hc hev B
  go_enter Tryd.func23, Tryd.ntmps23
  go_wp2
  go_loopw [5] (fun iv wr => ∃ i : Nat, i ≤ 9 ∧ iv = .int .i64 i ∧ Hid (Both w0 wr pb fb rb S)) (fun iv _ => 9 - (intOf iv).toNat)
  case atStart => exact ⟨0, by omega, rfl, HB⟩
  case round =>
    obtain ⟨i, hi, rfl, HBi⟩ := hrel
    clear HB
    have h255 : (i : Int) < 255 := by omega
    go_wp2_with fail
    refine (HZr.out _ HBi.out.r).mono ?_
    rintro x w1 ⟨rfl, rfl⟩
    by_cases hlt : i < 9
    · have hlt' : (i : Int) ≤ 8 := by omega
      have hwr : IntKind.u8.wrap (i : Int) = (i : Int) := by rw [IntKind.wrap_u8]; omega
      obtain ⟨gn, gr, gb, hgf⟩ := HGF.out i
      have HGi := Lib.hid (fun w h => HG.out w i (by omega) h)
      have HGri := Lib.hid (fun w h => HGr.out w i (by omega) h)
      rw [hgf] at HGi HGri
      clear hgf
      go_wp2_with fail
      refine (HGi.out _ HBi.out.p).mono ?_
      rintro x w1 ⟨rfl, hk⟩
      have HX1 := Lib.hid (Blk.new w1 42 #[.string gn, .int .u8 gr])
      have HB1 := Lib.hid ((HBi.out.keptNo hk).keptNo ((Kept.refl NoBlk w1).alloc (.cells #[.string gn, .int .u8 gr] 42)))
      clear hk HBi
      go_wp2_with fail
      refine (HGri.out _ HB1.out.r).mono ?_
      rintro x w2 ⟨rfl, hk⟩
      have hx2 := HX1.out.kept hk (fun e => e)
      have x0 := hx2.cell 0
      have x1 := hx2.cell 1
      have xl := hx2.lt
      simp only [List.getElem?_toArray, List.getElem?_cons_zero, List.getElem?_cons_succ] at x0 x1
      have HB2 := Lib.hid ((HB1.out.keptNo hk).keptNo ((Kept.refl NoBlk w2).alloc (.cells #[.string gn, .int .u8 gr] 42)))
      clear hk HB1 hx2 HX1
      go_wp2_with fail
      refine (HO.out _ i (by omega) HB2.out.p).mono ?_
      rintro x w3 ⟨u, rfl, ho, hk⟩
      have HU := Lib.hid ho
      have HB3 := Lib.hid (HB2.out.keptNo hk)
      clear ho hk HB2
      go_wp2_with fail
      refine (HOr.out _ i (by omega) HB3.out.r).mono ?_
      rintro x w4 ⟨v, rfl, ho, hk⟩
      have HU4 := Lib.hid (own_kept HU.out hk (fun _ _ e => e))
      have HV4 := Lib.hid ho
      have HB4 := Lib.hid (HB3.out.keptNo hk)
      clear ho hk HB3 HU
      go_wp2_with fail
      refine (HS8.out _ _ _ _ _ _ HU4.out HV4.out (HOF.out i)).mono ?_
      rintro x w5 ⟨rfl, rfl⟩
      go_wp2
      go_roundw
      case rel => exact ⟨i + 1, by omega, by go_num, HB4⟩
      case measure => simp [intOf]; omega
    · have hlt' : ¬ (i : Int) ≤ 8 := by omega
      go_wp2
      go_loopw [11] (fun iv wr => ∃ e : Nat, e ≤ 7 ∧ iv = .int .u8 e ∧ Hid (Both w0 wr pb fb rb S)) (fun iv _ => 7 - (intOf iv).toNat)
      case atStart => exact ⟨0, by omega, rfl, HBi⟩
      case round =>
        obtain ⟨e, he, rfl, HBe⟩ := hrel
        clear HBi
        by_cases hel : e < 7
        · have hel' : (e : Int) ≤ 6 := by omega
          go_wp2_with fail
          refine (HF.out _ e HBe.out.p).mono ?_
          rintro x w3 ⟨u, rfl, ho, hk⟩
          have HU := Lib.hid ho
          have HB3 := Lib.hid (HBe.out.keptNo hk)
          clear ho hk HBe
          go_wp2_with fail
          refine (HFr.out _ e HB3.out.r).mono ?_
          rintro x w4 ⟨v, rfl, ho, hk⟩
          have HU4 := Lib.hid (own_kept HU.out hk (fun _ _ e => e))
          have HV4 := Lib.hid ho
          have HB4 := Lib.hid (HB3.out.keptNo hk)
          clear ho hk HB3 HU
          go_wp2_with fail
          refine (HS8.out _ _ _ _ _ _ HU4.out HV4.out (HFF.out e)).mono ?_
          rintro x w5 ⟨rfl, rfl⟩
          go_wp2_with fail
          refine (HH.out _ e HB4.out.p).mono ?_
          rintro x w5 ⟨rfl, rfl⟩
          go_wp2_with fail
          refine (HHr.out _ e HB4.out.r).mono ?_
          rintro x w5 ⟨rfl, rfl⟩
          generalize holdsB S e 1 = hb at *
          go_wp2
          go_roundw
          case rel => exact ⟨e + 1, by omega, by first | go_num | (simp; omega), HB4⟩
          case measure => simp [intOf]; omega
        · have hel' : ¬ (e : Int) ≤ 6 := by omega
          go_wp2_with fail
          refine (HR.out _ HBe.out.p).mono ?_
          rintro x w3 ⟨u, rfl, ho, hk⟩
          have HU := Lib.hid ho
          have HB3 := Lib.hid (HBe.out.keptNo hk)
          clear ho hk HBe
          go_wp2_with fail
          refine (HRr.out _ HB3.out.r).mono ?_
          rintro x w4 ⟨v, rfl, ho, hk⟩
          have HU4 := Lib.hid (own_kept HU.out hk (fun _ _ e => e))
          have HV4 := Lib.hid ho
          have HB4 := Lib.hid (HB3.out.keptNo hk)
          clear ho hk HB3 HU
          go_wp2_with fail
          refine (HS8.out _ _ _ _ _ _ HU4.out HV4.out HRF.out).mono ?_
          rintro x w5 ⟨rfl, rfl⟩
          go_wp2_with fail
          refine (HE.out _ HB4.out.p).mono ?_
          rintro x w6 ⟨u, rfl, ho, hk⟩
          have HU6 := Lib.hid ho
          have HB6 := Lib.hid (HB4.out.keptNo hk)
          clear ho hk HB4
          go_wp2_with fail
          refine (HEr.out _ HB6.out.r).mono ?_
          rintro x w7 ⟨v, rfl, ho, hk⟩
          have HU7 := Lib.hid (own_kept HU6.out hk (fun _ _ e => e))
          have HV7 := Lib.hid ho
          have HB7 := Lib.hid (HB6.out.keptNo hk)
          clear ho hk HB6 HU6
          go_wp2_with fail
          refine (HSE.out _ _ _ _ _ HU7.out HV7.out).mono ?_
          rintro x w8 ⟨rfl, hk⟩
          have HB8 := Lib.hid (HB7.out.keptNo hk)
          clear hk HB7
          go_wp2_with fail
          refine (HZ.out _ HB8.out.p).mono ?_
          rintro x w9 ⟨rfl, rfl⟩
          go_wp2_with fail
          refine (HZr.out _ HB8.out.r).mono ?_
          rintro x w9 ⟨rfl, rfl⟩
          go_wp2
          go_ret
          exact ⟨by simp, HB8.out⟩
end Go.Proofs.YtfoeckaeongahaaDoor
