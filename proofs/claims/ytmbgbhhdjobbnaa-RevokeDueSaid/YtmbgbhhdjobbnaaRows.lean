/-
  No cell of these rows narrows 'for every input' (looked for: loops, veiled, ifaces, maps, wideKeys, modest, calm, conditions, laid).
  DERIVED. THE GIVEN ROWS OF THIS SEAT. 7 by the template 'for every input the law returns true; each argument reads behind the call as it read before'; 0 by the template 'total and deterministic' (their statements: YtmbgbhhdjobbnaaTotals.lean).
  GIVEN WITH THE SEED: the statements are not yours to turn. If you find one false, say at which input.
  Laid BY PROGRAM, IN A SANDBOX (cutbox-rows.mjs): the forced cells as the released guide's own fill.sh prints them over the translation 5edca3393cbdcce9… (all of the seat's roots in one cut). By AI agents, Wed Nov 11 2026. No macro, syntax, notation, axiom, sorry.
-/
import Derived.Test.YtmbgbhhdjobbnaaChecked
import GoSem.Claim
import GoSem.ClaimJoined
import GoSem.ClaimMapViews
import Derived.JoinedTies
import Derived.KernelRfl
namespace Go.Proofs.Ytmbgbhhdjobbnaa
/- THE CELL 'sum', in the pinned program and in every row, IS THE sha256 OF THE DUMP (.gsa) THAT YtmbgbhhdjobbnaaProg.lean LOADS. Nothing in Lean hashes anything: it is a label: what it is worth is what the hold of that sum in a sandbox is worth. -/
noncomputable def Try.pinned : Pinned := { name := "ytmbgbhhdjobbnaa", sum := "5edca3393cbdcce9f56067bd2384399ccff8694b3fb66f24759416f92b5ae925", checked := Try.checked }
namespace Rows
def none {H : Type} : Left H := { results := [], args := [] }

/-- 'embrasurelaw15.RevokeOrder': WHATEVER THE INPUT: true; the input reads as it did. -/
def revokeOrderSpec : ChangeSpec := { name := "revokeOrder", fn := fun _ => fun
  | [d1, d2] => { results := [.lit (.bool true)], args := [d1, d2] }
  | _ => none }
def revokeOrderRow : OpenClaim := { program := "ytmbgbhhdjobbnaa", sum := "5edca3393cbdcce9f56067bd2384399ccff8694b3fb66f24759416f92b5ae925", func := "embrasure/embrasurelaw15.RevokeOrder", spec := "revokeOrder", unfollowed := true, recurses := true, plainKeys := false, apart := false }
def RevokeOrderSaid : Prop := revokeOrderRow.holds Try.pinned (OpenSpec.ofChange revokeOrderSpec)

/-- ITS FALSE NEIGHBOUR: 'it returns false'. Refute it at one input. -/
def revokeOrderWrong : ChangeSpec := { name := "revokeOrder", fn := fun _ => fun
  | [d1, d2] => { results := [.lit (.bool false)], args := [d1, d2] }
  | _ => none }
def RevokeOrderWrongFalsely : Prop := revokeOrderRow.holds Try.pinned (OpenSpec.ofChange revokeOrderWrong)

/-- 'embrasurelaw15.RevokeOut': WHATEVER THE INPUT: true; the input reads as it did. -/
def revokeOutSpec : ChangeSpec := { name := "revokeOut", fn := fun _ => fun
  | [d1, d2] => { results := [.lit (.bool true)], args := [d1, d2] }
  | _ => none }
def revokeOutRow : OpenClaim := { program := "ytmbgbhhdjobbnaa", sum := "5edca3393cbdcce9f56067bd2384399ccff8694b3fb66f24759416f92b5ae925", func := "embrasure/embrasurelaw15.RevokeOut", spec := "revokeOut", unfollowed := true, recurses := true, plainKeys := false, apart := false }
def RevokeOutSaid : Prop := revokeOutRow.holds Try.pinned (OpenSpec.ofChange revokeOutSpec)

/-- ITS FALSE NEIGHBOUR: 'it returns false'. Refute it at one input. -/
def revokeOutWrong : ChangeSpec := { name := "revokeOut", fn := fun _ => fun
  | [d1, d2] => { results := [.lit (.bool false)], args := [d1, d2] }
  | _ => none }
def RevokeOutWrongFalsely : Prop := revokeOutRow.holds Try.pinned (OpenSpec.ofChange revokeOutWrong)

/-- 'embrasurelaw15.RevokeFew': WHATEVER THE INPUT: true; the input reads as it did. -/
def revokeFewSpec : ChangeSpec := { name := "revokeFew", fn := fun _ => fun
  | [d] => { results := [.lit (.bool true)], args := [d] }
  | _ => none }
def revokeFewRow : OpenClaim := { program := "ytmbgbhhdjobbnaa", sum := "5edca3393cbdcce9f56067bd2384399ccff8694b3fb66f24759416f92b5ae925", func := "embrasure/embrasurelaw15.RevokeFew", spec := "revokeFew", unfollowed := true, recurses := true, plainKeys := false, apart := false }
def RevokeFewSaid : Prop := revokeFewRow.holds Try.pinned (OpenSpec.ofChange revokeFewSpec)

/-- ITS FALSE NEIGHBOUR: 'it returns false'. Refute it at one input. -/
def revokeFewWrong : ChangeSpec := { name := "revokeFew", fn := fun _ => fun
  | [d] => { results := [.lit (.bool false)], args := [d] }
  | _ => none }
def RevokeFewWrongFalsely : Prop := revokeFewRow.holds Try.pinned (OpenSpec.ofChange revokeFewWrong)

/-- 'embrasurelaw15.RevokePlays': WHATEVER THE INPUT: true; the input reads as it did. -/
def revokePlaysSpec : ChangeSpec := { name := "revokePlays", fn := fun _ => fun
  | [d] => { results := [.lit (.bool true)], args := [d] }
  | _ => none }
def revokePlaysRow : OpenClaim := { program := "ytmbgbhhdjobbnaa", sum := "5edca3393cbdcce9f56067bd2384399ccff8694b3fb66f24759416f92b5ae925", func := "embrasure/embrasurelaw15.RevokePlays", spec := "revokePlays", unfollowed := true, recurses := true, plainKeys := false, apart := false }
def RevokePlaysSaid : Prop := revokePlaysRow.holds Try.pinned (OpenSpec.ofChange revokePlaysSpec)

/-- ITS FALSE NEIGHBOUR: 'it returns false'. Refute it at one input. -/
def revokePlaysWrong : ChangeSpec := { name := "revokePlays", fn := fun _ => fun
  | [d] => { results := [.lit (.bool false)], args := [d] }
  | _ => none }
def RevokePlaysWrongFalsely : Prop := revokePlaysRow.holds Try.pinned (OpenSpec.ofChange revokePlaysWrong)

/-- 'embrasurelaw15.RevokeDue': WHATEVER THE INPUT: true; the input reads as it did. -/
def revokeDueSpec : ChangeSpec := { name := "revokeDue", fn := fun _ => fun
  | [d1, d2, d3] => { results := [.lit (.bool true)], args := [d1, d2, d3] }
  | _ => none }
def revokeDueRow : OpenClaim := { program := "ytmbgbhhdjobbnaa", sum := "5edca3393cbdcce9f56067bd2384399ccff8694b3fb66f24759416f92b5ae925", func := "embrasure/embrasurelaw15.RevokeDue", spec := "revokeDue", unfollowed := true, recurses := true, plainKeys := false, apart := false }
def RevokeDueSaid : Prop := revokeDueRow.holds Try.pinned (OpenSpec.ofChange revokeDueSpec)

/-- ITS FALSE NEIGHBOUR: 'it returns false'. Refute it at one input. -/
def revokeDueWrong : ChangeSpec := { name := "revokeDue", fn := fun _ => fun
  | [d1, d2, d3] => { results := [.lit (.bool false)], args := [d1, d2, d3] }
  | _ => none }
def RevokeDueWrongFalsely : Prop := revokeDueRow.holds Try.pinned (OpenSpec.ofChange revokeDueWrong)

/-- 'embrasurelaw15.RevokeForks': WHATEVER THE INPUT: true; the input reads as it did. -/
def revokeForksSpec : ChangeSpec := { name := "revokeForks", fn := fun _ => fun
  | [d1, d2] => { results := [.lit (.bool true)], args := [d1, d2] }
  | _ => none }
def revokeForksRow : OpenClaim := { program := "ytmbgbhhdjobbnaa", sum := "5edca3393cbdcce9f56067bd2384399ccff8694b3fb66f24759416f92b5ae925", func := "embrasure/embrasurelaw15.RevokeForks", spec := "revokeForks", inPlace := ["maps.clone"], unfollowed := true, recurses := true, plainKeys := false, apart := false }
def RevokeForksSaid : Prop := revokeForksRow.holds Try.pinned (OpenSpec.ofChange revokeForksSpec)

/-- ITS FALSE NEIGHBOUR: 'it returns false'. Refute it at one input. -/
def revokeForksWrong : ChangeSpec := { name := "revokeForks", fn := fun _ => fun
  | [d1, d2] => { results := [.lit (.bool false)], args := [d1, d2] }
  | _ => none }
def RevokeForksWrongFalsely : Prop := revokeForksRow.holds Try.pinned (OpenSpec.ofChange revokeForksWrong)

/-- 'embrasurelaw15.RevokeNone': WHATEVER THE INPUT: true; the input reads as it did. -/
def revokeNoneSpec : ChangeSpec := { name := "revokeNone", fn := fun _ => fun
  | [d] => { results := [.lit (.bool true)], args := [d] }
  | _ => none }
def revokeNoneRow : OpenClaim := { program := "ytmbgbhhdjobbnaa", sum := "5edca3393cbdcce9f56067bd2384399ccff8694b3fb66f24759416f92b5ae925", func := "embrasure/embrasurelaw15.RevokeNone", spec := "revokeNone", inPlace := ["maps.clone"], unfollowed := true, recurses := true, plainKeys := false, apart := false }
def RevokeNoneSaid : Prop := revokeNoneRow.holds Try.pinned (OpenSpec.ofChange revokeNoneSpec)

/-- ITS FALSE NEIGHBOUR: 'it returns false'. Refute it at one input. -/
def revokeNoneWrong : ChangeSpec := { name := "revokeNone", fn := fun _ => fun
  | [d] => { results := [.lit (.bool false)], args := [d] }
  | _ => none }
def RevokeNoneWrongFalsely : Prop := revokeNoneRow.holds Try.pinned (OpenSpec.ofChange revokeNoneWrong)

/- THE SECOND FORM. 'bulk': how many values and letters a reading holds, each counted each time it is reached (what is shared counts as often as it is met; a slice's spare places count too). A statement '..UptoSaid' is the law's where the arguments, and the package variables that the reading takes, are together of bulk at most 1048576: NARROWER than '..Said'. Prove '..Said' where nothing that the law and all that it calls make is longer than what came in: it says more and counts as full. Else prove '..UptoSaid'. A law counts once. -/
mutual
def uptoBulk {H : Type} : DataW H → Nat
  | .lit (.string bytes) => bytes.length + 1
  | .lit _ => 1
  | .nil => 1
  | .ptr d => uptoBulk d + 1
  | .slice elems spare => uptoBulkAll elems + uptoBulkAll spare + 1
  | .agg parts => uptoBulkAll parts + 1
  | .iface _ d => uptoBulk d + 1
  | .map entries => uptoBulkEntries entries + 1
  | .held _ => 1
def uptoBulkAll {H : Type} : List (DataW H) → Nat
  | [] => 0
  | d :: r => uptoBulk d + uptoBulkAll r
def uptoBulkEntries {H : Type} : List (Lit × DataW H) → Nat
  | [] => 0
  | x :: r => uptoBulkEntry x + uptoBulkEntries r
def uptoBulkEntry {H : Type} : Lit × DataW H → Nat
  | (.string bytes, d) => bytes.length + uptoBulk d + 1
  | (_, d) => uptoBulk d + 1
 end
def uptoSmall : (H : Type) → List (DataW H) → Bool := fun _ ds => decide (uptoBulkAll ds ≤ 1048576)
def OpenSpec.upto (s : _root_.Go.ChangeSpec) : _root_.Go.OpenSpec := { _root_.Go.OpenSpec.ofChange s with cond := some uptoSmall }

/-- 'embrasurelaw15.RevokeOrder', WHERE WHAT IT READS IS OF BULK AT MOST 1048576: true; the input reads as it did. -/
def revokeOrderUptoRow : OpenClaim := { program := "ytmbgbhhdjobbnaa", sum := "5edca3393cbdcce9f56067bd2384399ccff8694b3fb66f24759416f92b5ae925", func := "embrasure/embrasurelaw15.RevokeOrder", spec := "revokeOrder", unfollowed := true, recurses := true, plainKeys := false, apart := false, narrowed := true }
def RevokeOrderUptoSaid : Prop := revokeOrderUptoRow.holds Try.pinned (OpenSpec.upto revokeOrderSpec)

/-- 'embrasurelaw15.RevokeOut', WHERE WHAT IT READS IS OF BULK AT MOST 1048576: true; the input reads as it did. -/
def revokeOutUptoRow : OpenClaim := { program := "ytmbgbhhdjobbnaa", sum := "5edca3393cbdcce9f56067bd2384399ccff8694b3fb66f24759416f92b5ae925", func := "embrasure/embrasurelaw15.RevokeOut", spec := "revokeOut", unfollowed := true, recurses := true, plainKeys := false, apart := false, narrowed := true }
def RevokeOutUptoSaid : Prop := revokeOutUptoRow.holds Try.pinned (OpenSpec.upto revokeOutSpec)

/-- 'embrasurelaw15.RevokeFew', WHERE WHAT IT READS IS OF BULK AT MOST 1048576: true; the input reads as it did. -/
def revokeFewUptoRow : OpenClaim := { program := "ytmbgbhhdjobbnaa", sum := "5edca3393cbdcce9f56067bd2384399ccff8694b3fb66f24759416f92b5ae925", func := "embrasure/embrasurelaw15.RevokeFew", spec := "revokeFew", unfollowed := true, recurses := true, plainKeys := false, apart := false, narrowed := true }
def RevokeFewUptoSaid : Prop := revokeFewUptoRow.holds Try.pinned (OpenSpec.upto revokeFewSpec)

/-- 'embrasurelaw15.RevokePlays', WHERE WHAT IT READS IS OF BULK AT MOST 1048576: true; the input reads as it did. -/
def revokePlaysUptoRow : OpenClaim := { program := "ytmbgbhhdjobbnaa", sum := "5edca3393cbdcce9f56067bd2384399ccff8694b3fb66f24759416f92b5ae925", func := "embrasure/embrasurelaw15.RevokePlays", spec := "revokePlays", unfollowed := true, recurses := true, plainKeys := false, apart := false, narrowed := true }
def RevokePlaysUptoSaid : Prop := revokePlaysUptoRow.holds Try.pinned (OpenSpec.upto revokePlaysSpec)

/-- 'embrasurelaw15.RevokeDue', WHERE WHAT IT READS IS OF BULK AT MOST 1048576: true; the input reads as it did. -/
def revokeDueUptoRow : OpenClaim := { program := "ytmbgbhhdjobbnaa", sum := "5edca3393cbdcce9f56067bd2384399ccff8694b3fb66f24759416f92b5ae925", func := "embrasure/embrasurelaw15.RevokeDue", spec := "revokeDue", unfollowed := true, recurses := true, plainKeys := false, apart := false, narrowed := true }
def RevokeDueUptoSaid : Prop := revokeDueUptoRow.holds Try.pinned (OpenSpec.upto revokeDueSpec)

/-- 'embrasurelaw15.RevokeForks', WHERE WHAT IT READS IS OF BULK AT MOST 1048576: true; the input reads as it did. -/
def revokeForksUptoRow : OpenClaim := { program := "ytmbgbhhdjobbnaa", sum := "5edca3393cbdcce9f56067bd2384399ccff8694b3fb66f24759416f92b5ae925", func := "embrasure/embrasurelaw15.RevokeForks", spec := "revokeForks", inPlace := ["maps.clone"], unfollowed := true, recurses := true, plainKeys := false, apart := false, narrowed := true }
def RevokeForksUptoSaid : Prop := revokeForksUptoRow.holds Try.pinned (OpenSpec.upto revokeForksSpec)

/-- 'embrasurelaw15.RevokeNone', WHERE WHAT IT READS IS OF BULK AT MOST 1048576: true; the input reads as it did. -/
def revokeNoneUptoRow : OpenClaim := { program := "ytmbgbhhdjobbnaa", sum := "5edca3393cbdcce9f56067bd2384399ccff8694b3fb66f24759416f92b5ae925", func := "embrasure/embrasurelaw15.RevokeNone", spec := "revokeNone", inPlace := ["maps.clone"], unfollowed := true, recurses := true, plainKeys := false, apart := false, narrowed := true }
def RevokeNoneUptoSaid : Prop := revokeNoneUptoRow.holds Try.pinned (OpenSpec.upto revokeNoneSpec)

end Rows
end Go.Proofs.Ytmbgbhhdjobbnaa
