/-
  No cell of these rows narrows 'for every input' (looked for: loops, veiled, ifaces, maps, wideKeys, modest, calm, conditions, laid).
  DERIVED. THE GIVEN ROWS OF THIS SEAT. 4 by the template 'for every input the law returns true; each argument reads behind the call as it read before'; 0 by the template 'total and deterministic' (their statements: YtlaplonmbnncaaaTotals.lean).
  GIVEN WITH THE SEED: the statements are not yours to turn. If you find one false, say at which input.
  Laid BY PROGRAM, IN A SANDBOX (cutbox-rows.mjs): the forced cells as the released guide's own fill.sh prints them over the translation cecb4cc42dadee49… (all of the seat's roots in one cut). By AI agents, Wed Nov 11 2026. No macro, syntax, notation, axiom, sorry.
-/
import Derived.Test.YtlaplonmbnncaaaChecked
import GoSem.Claim
import GoSem.ClaimJoined
import GoSem.ClaimMapViews
import Derived.JoinedTies
import Derived.KernelRfl
namespace Go.Proofs.Ytlaplonmbnncaaa
/- THE CELL 'sum', in the pinned program and in every row, IS THE sha256 OF THE DUMP (.gsa) THAT YtlaplonmbnncaaaProg.lean LOADS. Nothing in Lean hashes anything: it is a label: what it is worth is what the hold of that sum in a sandbox is worth. -/
noncomputable def Try.pinned : Pinned := { name := "ytlaplonmbnncaaa", sum := "cecb4cc42dadee4967332449622c4006e27147060b764c9638a30504bb6016e1", checked := Try.checked }
namespace Rows
def none {H : Type} : Left H := { results := [], args := [] }

/-- 'embrasurelaw02.NameOpens': WHATEVER THE INPUT: true; the input reads as it did. -/
def nameOpensSpec : ChangeSpec := { name := "nameOpens", fn := fun _ => fun
  | [d1, d2, d3] => { results := [.lit (.bool true)], args := [d1, d2, d3] }
  | _ => none }
def nameOpensRow : OpenClaim := { program := "ytlaplonmbnncaaa", sum := "cecb4cc42dadee4967332449622c4006e27147060b764c9638a30504bb6016e1", func := "embrasure/embrasurelaw02.NameOpens", spec := "nameOpens", inPlace := ["internal/bytealg.IndexByteString", "internal/bytealg.IndexString", "internal/abi.NoEscape", "internal/bytealg.MakeNoZero"], unfollowed := true, recurses := true, named := ["internal/bytealg.MaxLen"], apart := false }
def NameOpensSaid : Prop := nameOpensRow.holds Try.pinned (OpenSpec.ofChange nameOpensSpec)

/-- ITS FALSE NEIGHBOUR: 'it returns false'. Refute it at one input. -/
def nameOpensWrong : ChangeSpec := { name := "nameOpens", fn := fun _ => fun
  | [d1, d2, d3] => { results := [.lit (.bool false)], args := [d1, d2, d3] }
  | _ => none }
def NameOpensWrongFalsely : Prop := nameOpensRow.holds Try.pinned (OpenSpec.ofChange nameOpensWrong)

/-- 'embrasurelaw02.NameLess': WHATEVER THE INPUT: true; the input reads as it did. -/
def nameLessSpec : ChangeSpec := { name := "nameLess", fn := fun _ => fun
  | [d1, d2, d3] => { results := [.lit (.bool true)], args := [d1, d2, d3] }
  | _ => none }
def nameLessRow : OpenClaim := { program := "ytlaplonmbnncaaa", sum := "cecb4cc42dadee4967332449622c4006e27147060b764c9638a30504bb6016e1", func := "embrasure/embrasurelaw02.NameLess", spec := "nameLess", inPlace := ["internal/bytealg.IndexByteString", "internal/bytealg.IndexString", "internal/abi.NoEscape", "internal/bytealg.MakeNoZero"], unfollowed := true, recurses := true, named := ["internal/bytealg.MaxLen"], apart := false }
def NameLessSaid : Prop := nameLessRow.holds Try.pinned (OpenSpec.ofChange nameLessSpec)

/-- ITS FALSE NEIGHBOUR: 'it returns false'. Refute it at one input. -/
def nameLessWrong : ChangeSpec := { name := "nameLess", fn := fun _ => fun
  | [d1, d2, d3] => { results := [.lit (.bool false)], args := [d1, d2, d3] }
  | _ => none }
def NameLessWrongFalsely : Prop := nameLessRow.holds Try.pinned (OpenSpec.ofChange nameLessWrong)

/-- 'embrasurelaw02.NameRights': WHATEVER THE INPUT: true; the input reads as it did. -/
def nameRightsSpec : ChangeSpec := { name := "nameRights", fn := fun _ => fun
  | [d1, d2] => { results := [.lit (.bool true)], args := [d1, d2] }
  | _ => none }
def nameRightsRow : OpenClaim := { program := "ytlaplonmbnncaaa", sum := "cecb4cc42dadee4967332449622c4006e27147060b764c9638a30504bb6016e1", func := "embrasure/embrasurelaw02.NameRights", spec := "nameRights", inPlace := ["internal/bytealg.IndexByteString", "internal/bytealg.IndexString", "internal/abi.NoEscape", "internal/bytealg.MakeNoZero"], unfollowed := true, recurses := true, named := ["internal/bytealg.MaxLen"], apart := false }
def NameRightsSaid : Prop := nameRightsRow.holds Try.pinned (OpenSpec.ofChange nameRightsSpec)

/-- ITS FALSE NEIGHBOUR: 'it returns false'. Refute it at one input. -/
def nameRightsWrong : ChangeSpec := { name := "nameRights", fn := fun _ => fun
  | [d1, d2] => { results := [.lit (.bool false)], args := [d1, d2] }
  | _ => none }
def NameRightsWrongFalsely : Prop := nameRightsRow.holds Try.pinned (OpenSpec.ofChange nameRightsWrong)

/-- 'embrasurelaw02.NameBack': WHATEVER THE INPUT: true; the input reads as it did. -/
def nameBackSpec : ChangeSpec := { name := "nameBack", fn := fun _ => fun
  | [d1, d2, d3] => { results := [.lit (.bool true)], args := [d1, d2, d3] }
  | _ => none }
def nameBackRow : OpenClaim := { program := "ytlaplonmbnncaaa", sum := "cecb4cc42dadee4967332449622c4006e27147060b764c9638a30504bb6016e1", func := "embrasure/embrasurelaw02.NameBack", spec := "nameBack", inPlace := ["internal/bytealg.IndexByteString", "internal/bytealg.IndexString", "internal/abi.NoEscape", "internal/bytealg.MakeNoZero"], unfollowed := true, recurses := true, named := ["internal/bytealg.MaxLen"], apart := false }
def NameBackSaid : Prop := nameBackRow.holds Try.pinned (OpenSpec.ofChange nameBackSpec)

/-- ITS FALSE NEIGHBOUR: 'it returns false'. Refute it at one input. -/
def nameBackWrong : ChangeSpec := { name := "nameBack", fn := fun _ => fun
  | [d1, d2, d3] => { results := [.lit (.bool false)], args := [d1, d2, d3] }
  | _ => none }
def NameBackWrongFalsely : Prop := nameBackRow.holds Try.pinned (OpenSpec.ofChange nameBackWrong)

/- THE SECOND FORM. 'bulk': how many values and letters a reading holds, each counted each time it is reached (what is shared counts as often as it is met; a slice's spare places count too). A statement '..UptoSaid' is the law's where the arguments, and the package variables that the reading takes, are together of bulk at most 1048576: NARROWER than '..Said'. Prove '..Said' where nothing that the law and all that it calls make is longer than what came in: it says more and counts as full. Else prove '..UptoSaid'. A law counts once. -/
mutual
def uptoBulk {H : Type} : DataW H → Nat
  | .lit (.string bytes) => bytes.length + 1
  | .lit _ => 1
  | .nil => 1
  | .ptr d => uptoBulk d + 1
  | .slice elems spare => uptoBulkAll elems + uptoBulkAll spare + 1
  | .agg parts => uptoBulkAll parts + 1
  | .iface _ d => uptoBulk d + 1
  | .map entries => uptoBulkEntries entries + 1
  | .held _ => 1
def uptoBulkAll {H : Type} : List (DataW H) → Nat
  | [] => 0
  | d :: r => uptoBulk d + uptoBulkAll r
def uptoBulkEntries {H : Type} : List (Lit × DataW H) → Nat
  | [] => 0
  | x :: r => uptoBulkEntry x + uptoBulkEntries r
def uptoBulkEntry {H : Type} : Lit × DataW H → Nat
  | (.string bytes, d) => bytes.length + uptoBulk d + 1
  | (_, d) => uptoBulk d + 1
 end
def uptoSmall : (H : Type) → List (DataW H) → Bool := fun _ ds => decide (uptoBulkAll ds ≤ 1048576)
def OpenSpec.upto (s : _root_.Go.ChangeSpec) : _root_.Go.OpenSpec := { _root_.Go.OpenSpec.ofChange s with cond := some uptoSmall }

/-- 'embrasurelaw02.NameOpens', WHERE WHAT IT READS IS OF BULK AT MOST 1048576: true; the input reads as it did. -/
def nameOpensUptoRow : OpenClaim := { program := "ytlaplonmbnncaaa", sum := "cecb4cc42dadee4967332449622c4006e27147060b764c9638a30504bb6016e1", func := "embrasure/embrasurelaw02.NameOpens", spec := "nameOpens", inPlace := ["internal/bytealg.IndexByteString", "internal/bytealg.IndexString", "internal/abi.NoEscape", "internal/bytealg.MakeNoZero"], unfollowed := true, recurses := true, named := ["internal/bytealg.MaxLen"], apart := false, narrowed := true }
def NameOpensUptoSaid : Prop := nameOpensUptoRow.holds Try.pinned (OpenSpec.upto nameOpensSpec)

/-- 'embrasurelaw02.NameLess', WHERE WHAT IT READS IS OF BULK AT MOST 1048576: true; the input reads as it did. -/
def nameLessUptoRow : OpenClaim := { program := "ytlaplonmbnncaaa", sum := "cecb4cc42dadee4967332449622c4006e27147060b764c9638a30504bb6016e1", func := "embrasure/embrasurelaw02.NameLess", spec := "nameLess", inPlace := ["internal/bytealg.IndexByteString", "internal/bytealg.IndexString", "internal/abi.NoEscape", "internal/bytealg.MakeNoZero"], unfollowed := true, recurses := true, named := ["internal/bytealg.MaxLen"], apart := false, narrowed := true }
def NameLessUptoSaid : Prop := nameLessUptoRow.holds Try.pinned (OpenSpec.upto nameLessSpec)

/-- 'embrasurelaw02.NameRights', WHERE WHAT IT READS IS OF BULK AT MOST 1048576: true; the input reads as it did. -/
def nameRightsUptoRow : OpenClaim := { program := "ytlaplonmbnncaaa", sum := "cecb4cc42dadee4967332449622c4006e27147060b764c9638a30504bb6016e1", func := "embrasure/embrasurelaw02.NameRights", spec := "nameRights", inPlace := ["internal/bytealg.IndexByteString", "internal/bytealg.IndexString", "internal/abi.NoEscape", "internal/bytealg.MakeNoZero"], unfollowed := true, recurses := true, named := ["internal/bytealg.MaxLen"], apart := false, narrowed := true }
def NameRightsUptoSaid : Prop := nameRightsUptoRow.holds Try.pinned (OpenSpec.upto nameRightsSpec)

/-- 'embrasurelaw02.NameBack', WHERE WHAT IT READS IS OF BULK AT MOST 1048576: true; the input reads as it did. -/
def nameBackUptoRow : OpenClaim := { program := "ytlaplonmbnncaaa", sum := "cecb4cc42dadee4967332449622c4006e27147060b764c9638a30504bb6016e1", func := "embrasure/embrasurelaw02.NameBack", spec := "nameBack", inPlace := ["internal/bytealg.IndexByteString", "internal/bytealg.IndexString", "internal/abi.NoEscape", "internal/bytealg.MakeNoZero"], unfollowed := true, recurses := true, named := ["internal/bytealg.MaxLen"], apart := false, narrowed := true }
def NameBackUptoSaid : Prop := nameBackUptoRow.holds Try.pinned (OpenSpec.upto nameBackSpec)

end Rows
end Go.Proofs.Ytlaplonmbnncaaa
