/- PoolPlays, walked. -/
import Derived.Test.YtfoeckaeongahaaDoorR8
namespace Go.Proofs.YtfoeckaeongahaaDoor
open Go.RowKit Go.Shelf
set_option maxRecDepth 100000

set_option maxHeartbeats 4000000 in
theorem lawPlays_any (w : World) (v : Value) (L : List Deed) (hL : DeedsC w v L) (hF : ∀ d ∈ L, d.Fits) (hT : Tabs w) : Calls Tryd.prog 7 #[v] w (TrueP w) := by
  have HP := Lib.hid (play_any w v L hL hF hT)
  have hI := playS_inv L
  have HL := Lib.hid (fun w => live_any w)
  generalize playS L = S at *
  have HSM := Lib.hid (fun w1 pb fb rb (B : Both w w1 pb fb rb S) => same_any w w1 pb fb rb S 50 B hI (by omega))
  clear hL hF hT hI
  go_enter Tryd.func7, Tryd.ntmps7
  go_wp2_with fail
  refine HP.out.mono ?_
  rintro x w1 ⟨pb, fb, rb, rfl, hB⟩
  have HB1 := Lib.hid hB
  clear hB HP
  go_wp2_with fail
  refine (HL.out _).mono ?_
  rintro x w2 ⟨rfl, hk⟩
  have HB2 := Lib.hid (HB1.out.keptNo hk)
  clear hk HB1
  go_wp2_with fail
  refine (HSM.out _ _ _ _ HB2.out).mono ?_
  rintro x w3 ⟨rfl, hB3⟩
  have HB3 := Lib.hid hB3
  clear hB3 HB2
  go_wp2
  go_ret
  exact ⟨by simp, HB3.out.kept⟩
end Go.Proofs.YtfoeckaeongahaaDoor
