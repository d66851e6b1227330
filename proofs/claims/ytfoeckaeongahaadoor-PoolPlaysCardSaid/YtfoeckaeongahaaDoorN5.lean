/- The program's names: Right, what two begin with alike, Above, Opens. -/
import Derived.Test.YtfoeckaeongahaaDoorN4
namespace Go.Proofs.YtfoeckaeongahaaDoor
open Go.RowKit Go.Shelf
set_option maxRecDepth 100000

def capV (n : ByteArray) (r : Int) : Value := .agg #[.string n, .int .u8 r]
def rightB (n : ByteArray) (r : Int) : Bool := (splitO n).isSome && decide (r ≤ 31)
set_option maxHeartbeats 1000000 in
theorem right_any (w : World) (n : ByteArray) (r : Int) (hn : n.size ≤ 9223372036854775807) : Calls Tryd.prog 35 #[capV n r] w fun e w' => e = .returned (.bool (rightB n r)) ∧ Kept NoBlk w w' := by
  unfold capV rightB
  have HS := Lib.hid (fun w => split_any w n hn)
  go_enter Tryd.func35, Tryd.ntmps35
  go_wp2_with fail
  refine (HS.out _).mono ?_
  rintro x w1 ⟨hk, ⟨l, v, hsp, rfl, -⟩ | ⟨hsp, rfl⟩⟩
  · have c1 : w1.cell? ⟨w.heap.size, 1, none⟩ = some (.int .u8 r) := (Blk.kept (Blk.new w 42 #[.string n, .int .u8 r]) hk (fun e => e)).cell 1
    have HK := Lib.hid hk
    clear hk HS
    go_wp2
    go_ret
    exact ⟨by rw [hsp]; rfl, Kept.trans ((Kept.refl _ _).alloc _) HK.out⟩
  · have HK := Lib.hid hk
    clear hk HS
    unfold nilS
    go_wp2
    go_ret
    exact ⟨by rw [hsp]; rfl, Kept.trans ((Kept.refl _ _).alloc _) HK.out⟩

def capC (n : ByteArray) (r : Int) : Array Value := #[.string n, .int .u8 r]
theorem cap_cells {w : World} {b : Nat} {n : ByteArray} {r : Int} (h : Blk w b 42 (capC n r)) : w.cell? ⟨b, 0, none⟩ = some (.string n) ∧ w.cell? ⟨b, 1, none⟩ = some (.int .u8 r) := ⟨h.cell 0, h.cell 1⟩
end Go.Proofs.YtfoeckaeongahaaDoor
