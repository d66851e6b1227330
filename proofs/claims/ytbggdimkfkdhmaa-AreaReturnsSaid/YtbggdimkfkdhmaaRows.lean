/-
  No cell of these rows narrows 'for every input' (looked for: loops, veiled, ifaces, maps, wideKeys, modest, calm, conditions, laid).
  DERIVED. THE GIVEN ROWS OF THIS SEAT. 6 by the template 'for every input the law returns true; each argument reads behind the call as it read before'; 0 by the template 'total and deterministic' (their statements: YtbggdimkfkdhmaaTotals.lean).
  GIVEN WITH THE SEED: the statements are not yours to turn. If you find one false, say at which input.
  Laid BY PROGRAM, IN A SANDBOX (cutbox-rows.mjs): the forced cells as the released guide's own fill.sh prints them over the translation e6e97bb2af5edb46… (all of the seat's roots in one cut). By AI agents, Wed Nov 11 2026. No macro, syntax, notation, axiom, sorry.
-/
import Derived.Test.YtbggdimkfkdhmaaChecked
import GoSem.Claim
import GoSem.ClaimJoined
import GoSem.ClaimMapViews
import Derived.JoinedTies
import Derived.KernelRfl
namespace Go.Proofs.Ytbggdimkfkdhmaa
/- THE CELL 'sum', in the pinned program and in every row, IS THE sha256 OF THE DUMP (.gsa) THAT YtbggdimkfkdhmaaProg.lean LOADS. Nothing in Lean hashes anything: it is a label: what it is worth is what the hold of that sum in a sandbox is worth. -/
noncomputable def Try.pinned : Pinned := { name := "ytbggdimkfkdhmaa", sum := "e6e97bb2af5edb465f3530fdb27ad03572b1fc579961ca3a96a20cc644f1e97f", checked := Try.checked }
namespace Rows
def none {H : Type} : Left H := { results := [], args := [] }

/-- 'embrasurelaw14.AreaDeep': WHATEVER THE INPUT: true; the input reads as it did. -/
def areaDeepSpec : ChangeSpec := { name := "areaDeep", fn := fun _ => fun
  | [d] => { results := [.lit (.bool true)], args := [d] }
  | _ => none }
def areaDeepRow : OpenClaim := { program := "ytbggdimkfkdhmaa", sum := "e6e97bb2af5edb465f3530fdb27ad03572b1fc579961ca3a96a20cc644f1e97f", func := "embrasure/embrasurelaw14.AreaDeep", spec := "areaDeep", unfollowed := true, recurses := true, apart := false }
def AreaDeepSaid : Prop := areaDeepRow.holds Try.pinned (OpenSpec.ofChange areaDeepSpec)

/-- ITS FALSE NEIGHBOUR: 'it returns false'. Refute it at one input. -/
def areaDeepWrong : ChangeSpec := { name := "areaDeep", fn := fun _ => fun
  | [d] => { results := [.lit (.bool false)], args := [d] }
  | _ => none }
def AreaDeepWrongFalsely : Prop := areaDeepRow.holds Try.pinned (OpenSpec.ofChange areaDeepWrong)

/-- 'embrasurelaw14.AreaDead': WHATEVER THE INPUT: true; the input reads as it did. -/
def areaDeadSpec : ChangeSpec := { name := "areaDead", fn := fun _ => fun
  | [d1, d2] => { results := [.lit (.bool true)], args := [d1, d2] }
  | _ => none }
def areaDeadRow : OpenClaim := { program := "ytbggdimkfkdhmaa", sum := "e6e97bb2af5edb465f3530fdb27ad03572b1fc579961ca3a96a20cc644f1e97f", func := "embrasure/embrasurelaw14.AreaDead", spec := "areaDead", unfollowed := true, recurses := true, apart := false }
def AreaDeadSaid : Prop := areaDeadRow.holds Try.pinned (OpenSpec.ofChange areaDeadSpec)

/-- ITS FALSE NEIGHBOUR: 'it returns false'. Refute it at one input. -/
def areaDeadWrong : ChangeSpec := { name := "areaDead", fn := fun _ => fun
  | [d1, d2] => { results := [.lit (.bool false)], args := [d1, d2] }
  | _ => none }
def AreaDeadWrongFalsely : Prop := areaDeadRow.holds Try.pinned (OpenSpec.ofChange areaDeadWrong)

/-- 'embrasurelaw14.AreaReturns': WHATEVER THE INPUT: true; the input reads as it did. -/
def areaReturnsSpec : ChangeSpec := { name := "areaReturns", fn := fun _ => fun
  | [d1, d2, d3] => { results := [.lit (.bool true)], args := [d1, d2, d3] }
  | _ => none }
def areaReturnsRow : OpenClaim := { program := "ytbggdimkfkdhmaa", sum := "e6e97bb2af5edb465f3530fdb27ad03572b1fc579961ca3a96a20cc644f1e97f", func := "embrasure/embrasurelaw14.AreaReturns", spec := "areaReturns", unfollowed := true, recurses := true, apart := false }
def AreaReturnsSaid : Prop := areaReturnsRow.holds Try.pinned (OpenSpec.ofChange areaReturnsSpec)

/-- ITS FALSE NEIGHBOUR: 'it returns false'. Refute it at one input. -/
def areaReturnsWrong : ChangeSpec := { name := "areaReturns", fn := fun _ => fun
  | [d1, d2, d3] => { results := [.lit (.bool false)], args := [d1, d2, d3] }
  | _ => none }
def AreaReturnsWrongFalsely : Prop := areaReturnsRow.holds Try.pinned (OpenSpec.ofChange areaReturnsWrong)

/-- 'embrasurelaw14.AreaPlays': WHATEVER THE INPUT: true; the input reads as it did. -/
def areaPlaysSpec : ChangeSpec := { name := "areaPlays", fn := fun _ => fun
  | [d1, d2] => { results := [.lit (.bool true)], args := [d1, d2] }
  | _ => none }
def areaPlaysRow : OpenClaim := { program := "ytbggdimkfkdhmaa", sum := "e6e97bb2af5edb465f3530fdb27ad03572b1fc579961ca3a96a20cc644f1e97f", func := "embrasure/embrasurelaw14.AreaPlays", spec := "areaPlays", unfollowed := true, recurses := true, apart := false }
def AreaPlaysSaid : Prop := areaPlaysRow.holds Try.pinned (OpenSpec.ofChange areaPlaysSpec)

/-- ITS FALSE NEIGHBOUR: 'it returns false'. Refute it at one input. -/
def areaPlaysWrong : ChangeSpec := { name := "areaPlays", fn := fun _ => fun
  | [d1, d2] => { results := [.lit (.bool false)], args := [d1, d2] }
  | _ => none }
def AreaPlaysWrongFalsely : Prop := areaPlaysRow.holds Try.pinned (OpenSpec.ofChange areaPlaysWrong)

/-- 'embrasurelaw14.AreaForks': WHATEVER THE INPUT: true; the input reads as it did. -/
def areaForksSpec : ChangeSpec := { name := "areaForks", fn := fun _ => fun
  | [d1, d2] => { results := [.lit (.bool true)], args := [d1, d2] }
  | _ => none }
def areaForksRow : OpenClaim := { program := "ytbggdimkfkdhmaa", sum := "e6e97bb2af5edb465f3530fdb27ad03572b1fc579961ca3a96a20cc644f1e97f", func := "embrasure/embrasurelaw14.AreaForks", spec := "areaForks", unfollowed := true, recurses := true, apart := false }
def AreaForksSaid : Prop := areaForksRow.holds Try.pinned (OpenSpec.ofChange areaForksSpec)

/-- ITS FALSE NEIGHBOUR: 'it returns false'. Refute it at one input. -/
def areaForksWrong : ChangeSpec := { name := "areaForks", fn := fun _ => fun
  | [d1, d2] => { results := [.lit (.bool false)], args := [d1, d2] }
  | _ => none }
def AreaForksWrongFalsely : Prop := areaForksRow.holds Try.pinned (OpenSpec.ofChange areaForksWrong)

/-- 'embrasurelaw14.AreaNone': WHATEVER THE INPUT: true; the input reads as it did. -/
def areaNoneSpec : ChangeSpec := { name := "areaNone", fn := fun _ => fun
  | [d] => { results := [.lit (.bool true)], args := [d] }
  | _ => none }
def areaNoneRow : OpenClaim := { program := "ytbggdimkfkdhmaa", sum := "e6e97bb2af5edb465f3530fdb27ad03572b1fc579961ca3a96a20cc644f1e97f", func := "embrasure/embrasurelaw14.AreaNone", spec := "areaNone", unfollowed := true, recurses := true, apart := false }
def AreaNoneSaid : Prop := areaNoneRow.holds Try.pinned (OpenSpec.ofChange areaNoneSpec)

/-- ITS FALSE NEIGHBOUR: 'it returns false'. Refute it at one input. -/
def areaNoneWrong : ChangeSpec := { name := "areaNone", fn := fun _ => fun
  | [d] => { results := [.lit (.bool false)], args := [d] }
  | _ => none }
def AreaNoneWrongFalsely : Prop := areaNoneRow.holds Try.pinned (OpenSpec.ofChange areaNoneWrong)

/- THE SECOND FORM. 'bulk': how many values and letters a reading holds, each counted each time it is reached (what is shared counts as often as it is met; a slice's spare places count too). A statement '..UptoSaid' is the law's where the arguments, and the package variables that the reading takes, are together of bulk at most 1048576: NARROWER than '..Said'. Prove '..Said' where nothing that the law and all that it calls make is longer than what came in: it says more and counts as full. Else prove '..UptoSaid'. A law counts once. -/
mutual
def uptoBulk {H : Type} : DataW H → Nat
  | .lit (.string bytes) => bytes.length + 1
  | .lit _ => 1
  | .nil => 1
  | .ptr d => uptoBulk d + 1
  | .slice elems spare => uptoBulkAll elems + uptoBulkAll spare + 1
  | .agg parts => uptoBulkAll parts + 1
  | .iface _ d => uptoBulk d + 1
  | .map entries => uptoBulkEntries entries + 1
  | .held _ => 1
def uptoBulkAll {H : Type} : List (DataW H) → Nat
  | [] => 0
  | d :: r => uptoBulk d + uptoBulkAll r
def uptoBulkEntries {H : Type} : List (Lit × DataW H) → Nat
  | [] => 0
  | x :: r => uptoBulkEntry x + uptoBulkEntries r
def uptoBulkEntry {H : Type} : Lit × DataW H → Nat
  | (.string bytes, d) => bytes.length + uptoBulk d + 1
  | (_, d) => uptoBulk d + 1
 end
def uptoSmall : (H : Type) → List (DataW H) → Bool := fun _ ds => decide (uptoBulkAll ds ≤ 1048576)
def OpenSpec.upto (s : _root_.Go.ChangeSpec) : _root_.Go.OpenSpec := { _root_.Go.OpenSpec.ofChange s with cond := some uptoSmall }

/-- 'embrasurelaw14.AreaDeep', WHERE WHAT IT READS IS OF BULK AT MOST 1048576: true; the input reads as it did. -/
def areaDeepUptoRow : OpenClaim := { program := "ytbggdimkfkdhmaa", sum := "e6e97bb2af5edb465f3530fdb27ad03572b1fc579961ca3a96a20cc644f1e97f", func := "embrasure/embrasurelaw14.AreaDeep", spec := "areaDeep", unfollowed := true, recurses := true, apart := false, narrowed := true }
def AreaDeepUptoSaid : Prop := areaDeepUptoRow.holds Try.pinned (OpenSpec.upto areaDeepSpec)

/-- 'embrasurelaw14.AreaDead', WHERE WHAT IT READS IS OF BULK AT MOST 1048576: true; the input reads as it did. -/
def areaDeadUptoRow : OpenClaim := { program := "ytbggdimkfkdhmaa", sum := "e6e97bb2af5edb465f3530fdb27ad03572b1fc579961ca3a96a20cc644f1e97f", func := "embrasure/embrasurelaw14.AreaDead", spec := "areaDead", unfollowed := true, recurses := true, apart := false, narrowed := true }
def AreaDeadUptoSaid : Prop := areaDeadUptoRow.holds Try.pinned (OpenSpec.upto areaDeadSpec)

/-- 'embrasurelaw14.AreaReturns', WHERE WHAT IT READS IS OF BULK AT MOST 1048576: true; the input reads as it did. -/
def areaReturnsUptoRow : OpenClaim := { program := "ytbggdimkfkdhmaa", sum := "e6e97bb2af5edb465f3530fdb27ad03572b1fc579961ca3a96a20cc644f1e97f", func := "embrasure/embrasurelaw14.AreaReturns", spec := "areaReturns", unfollowed := true, recurses := true, apart := false, narrowed := true }
def AreaReturnsUptoSaid : Prop := areaReturnsUptoRow.holds Try.pinned (OpenSpec.upto areaReturnsSpec)

/-- 'embrasurelaw14.AreaPlays', WHERE WHAT IT READS IS OF BULK AT MOST 1048576: true; the input reads as it did. -/
def areaPlaysUptoRow : OpenClaim := { program := "ytbggdimkfkdhmaa", sum := "e6e97bb2af5edb465f3530fdb27ad03572b1fc579961ca3a96a20cc644f1e97f", func := "embrasure/embrasurelaw14.AreaPlays", spec := "areaPlays", unfollowed := true, recurses := true, apart := false, narrowed := true }
def AreaPlaysUptoSaid : Prop := areaPlaysUptoRow.holds Try.pinned (OpenSpec.upto areaPlaysSpec)

/-- 'embrasurelaw14.AreaForks', WHERE WHAT IT READS IS OF BULK AT MOST 1048576: true; the input reads as it did. -/
def areaForksUptoRow : OpenClaim := { program := "ytbggdimkfkdhmaa", sum := "e6e97bb2af5edb465f3530fdb27ad03572b1fc579961ca3a96a20cc644f1e97f", func := "embrasure/embrasurelaw14.AreaForks", spec := "areaForks", unfollowed := true, recurses := true, apart := false, narrowed := true }
def AreaForksUptoSaid : Prop := areaForksUptoRow.holds Try.pinned (OpenSpec.upto areaForksSpec)

/-- 'embrasurelaw14.AreaNone', WHERE WHAT IT READS IS OF BULK AT MOST 1048576: true; the input reads as it did. -/
def areaNoneUptoRow : OpenClaim := { program := "ytbggdimkfkdhmaa", sum := "e6e97bb2af5edb465f3530fdb27ad03572b1fc579961ca3a96a20cc644f1e97f", func := "embrasure/embrasurelaw14.AreaNone", spec := "areaNone", unfollowed := true, recurses := true, apart := false, narrowed := true }
def AreaNoneUptoSaid : Prop := areaNoneUptoRow.holds Try.pinned (OpenSpec.upto areaNoneSpec)

end Rows
end Go.Proofs.Ytbggdimkfkdhmaa
