/-
  No cell of these rows narrows 'for every input' (looked for: loops, veiled, ifaces, maps, wideKeys, modest, calm, conditions, laid).
  DERIVED. THE GIVEN ROWS OF THIS SEAT. 7 by the template 'for every input the law returns true; each argument reads behind the call as it read before'; 0 by the template 'total and deterministic' (their statements: YtjhngfbhppbcnaaTotals.lean).
  GIVEN WITH THE SEED: the statements are not yours to turn. If you find one false, say at which input.
  Laid BY PROGRAM, IN A SANDBOX (cutbox-rows.mjs): the forced cells as the released guide's own fill.sh prints them over the translation 8948bdb54b5e441f… (all of the seat's roots in one cut). By AI agents, Wed Nov 11 2026. No macro, syntax, notation, axiom, sorry.
-/
import Derived.Test.YtjhngfbhppbcnaaChecked
import GoSem.Claim
import GoSem.ClaimJoined
import GoSem.ClaimMapViews
import Derived.JoinedTies
import Derived.KernelRfl
namespace Go.Proofs.Ytjhngfbhppbcnaa
/- THE CELL 'sum', in the pinned program and in every row, IS THE sha256 OF THE DUMP (.gsa) THAT YtjhngfbhppbcnaaProg.lean LOADS. Nothing in Lean hashes anything: it is a label: what it is worth is what the hold of that sum in a sandbox is worth. -/
noncomputable def Try.pinned : Pinned := { name := "ytjhngfbhppbcnaa", sum := "8948bdb54b5e441ff55d8306235e565c18eb9fa96bb4e9b2aa9eb368fc3b33ee", checked := Try.checked }
namespace Rows
def none {H : Type} : Left H := { results := [], args := [] }

/-- 'embrasuretop.TopShares': WHATEVER THE INPUT: true; the input reads as it did. -/
def topSharesSpec : ChangeSpec := { name := "topShares", fn := fun _ => fun
  | [d] => { results := [.lit (.bool true)], args := [d] }
  | _ => none }
def topSharesRow : OpenClaim := { program := "ytjhngfbhppbcnaa", sum := "8948bdb54b5e441ff55d8306235e565c18eb9fa96bb4e9b2aa9eb368fc3b33ee", func := "embrasure/embrasuretop.TopShares", spec := "topShares", unfollowed := true, recurses := true, apart := false }
def TopSharesSaid : Prop := topSharesRow.holds Try.pinned (OpenSpec.ofChange topSharesSpec)

/-- ITS FALSE NEIGHBOUR: 'it returns false'. Refute it at one input. -/
def topSharesWrong : ChangeSpec := { name := "topShares", fn := fun _ => fun
  | [d] => { results := [.lit (.bool false)], args := [d] }
  | _ => none }
def TopSharesWrongFalsely : Prop := topSharesRow.holds Try.pinned (OpenSpec.ofChange topSharesWrong)

/-- 'embrasuretop.TopNested': WHATEVER THE INPUT: true; the input reads as it did. -/
def topNestedSpec : ChangeSpec := { name := "topNested", fn := fun _ => fun
  | [d1, d2] => { results := [.lit (.bool true)], args := [d1, d2] }
  | _ => none }
def topNestedRow : OpenClaim := { program := "ytjhngfbhppbcnaa", sum := "8948bdb54b5e441ff55d8306235e565c18eb9fa96bb4e9b2aa9eb368fc3b33ee", func := "embrasure/embrasuretop.TopNested", spec := "topNested", unfollowed := true, recurses := true, apart := false }
def TopNestedSaid : Prop := topNestedRow.holds Try.pinned (OpenSpec.ofChange topNestedSpec)

/-- ITS FALSE NEIGHBOUR: 'it returns false'. Refute it at one input. -/
def topNestedWrong : ChangeSpec := { name := "topNested", fn := fun _ => fun
  | [d1, d2] => { results := [.lit (.bool false)], args := [d1, d2] }
  | _ => none }
def TopNestedWrongFalsely : Prop := topNestedRow.holds Try.pinned (OpenSpec.ofChange topNestedWrong)

/-- 'embrasuretop.TopLoop': WHATEVER THE INPUT: true; the input reads as it did. -/
def topLoopSpec : ChangeSpec := { name := "topLoop", fn := fun _ => fun
  | [d] => { results := [.lit (.bool true)], args := [d] }
  | _ => none }
def topLoopRow : OpenClaim := { program := "ytjhngfbhppbcnaa", sum := "8948bdb54b5e441ff55d8306235e565c18eb9fa96bb4e9b2aa9eb368fc3b33ee", func := "embrasure/embrasuretop.TopLoop", spec := "topLoop", apart := false }
def TopLoopSaid : Prop := topLoopRow.holds Try.pinned (OpenSpec.ofChange topLoopSpec)

/-- ITS FALSE NEIGHBOUR: 'it returns false'. Refute it at one input. -/
def topLoopWrong : ChangeSpec := { name := "topLoop", fn := fun _ => fun
  | [d] => { results := [.lit (.bool false)], args := [d] }
  | _ => none }
def TopLoopWrongFalsely : Prop := topLoopRow.holds Try.pinned (OpenSpec.ofChange topLoopWrong)

/-- 'embrasuretop.TopPieces': WHATEVER THE INPUT: true; the input reads as it did. -/
def topPiecesSpec : ChangeSpec := { name := "topPieces", fn := fun _ => fun
  | [d1, d2] => { results := [.lit (.bool true)], args := [d1, d2] }
  | _ => none }
def topPiecesRow : OpenClaim := { program := "ytjhngfbhppbcnaa", sum := "8948bdb54b5e441ff55d8306235e565c18eb9fa96bb4e9b2aa9eb368fc3b33ee", func := "embrasure/embrasuretop.TopPieces", spec := "topPieces", inPlace := ["internal/bytealg.IndexByteString", "internal/bytealg.IndexString"], unfollowed := true, recurses := true, named := ["internal/bytealg.MaxLen"], apart := false }
def TopPiecesSaid : Prop := topPiecesRow.holds Try.pinned (OpenSpec.ofChange topPiecesSpec)

/-- ITS FALSE NEIGHBOUR: 'it returns false'. Refute it at one input. -/
def topPiecesWrong : ChangeSpec := { name := "topPieces", fn := fun _ => fun
  | [d1, d2] => { results := [.lit (.bool false)], args := [d1, d2] }
  | _ => none }
def TopPiecesWrongFalsely : Prop := topPiecesRow.holds Try.pinned (OpenSpec.ofChange topPiecesWrong)

/-- 'embrasuretop.TopChain': WHATEVER THE INPUT: true; the input reads as it did. -/
def topChainSpec : ChangeSpec := { name := "topChain", fn := fun _ => fun
  | [d1, d2] => { results := [.lit (.bool true)], args := [d1, d2] }
  | _ => none }
def topChainRow : OpenClaim := { program := "ytjhngfbhppbcnaa", sum := "8948bdb54b5e441ff55d8306235e565c18eb9fa96bb4e9b2aa9eb368fc3b33ee", func := "embrasure/embrasuretop.TopChain", spec := "topChain", inPlace := ["internal/bytealg.IndexByteString", "internal/bytealg.IndexString", "internal/abi.NoEscape", "internal/bytealg.MakeNoZero"], unfollowed := true, recurses := true, named := ["internal/bytealg.MaxLen"], apart := false }
def TopChainSaid : Prop := topChainRow.holds Try.pinned (OpenSpec.ofChange topChainSpec)

/-- ITS FALSE NEIGHBOUR: 'it returns false'. Refute it at one input. -/
def topChainWrong : ChangeSpec := { name := "topChain", fn := fun _ => fun
  | [d1, d2] => { results := [.lit (.bool false)], args := [d1, d2] }
  | _ => none }
def TopChainWrongFalsely : Prop := topChainRow.holds Try.pinned (OpenSpec.ofChange topChainWrong)

/-- 'embrasuretop.TopGuarded': WHATEVER THE INPUT: true; the input reads as it did. -/
def topGuardedSpec : ChangeSpec := { name := "topGuarded", fn := fun _ => fun
  | [d1, d2] => { results := [.lit (.bool true)], args := [d1, d2] }
  | _ => none }
def topGuardedRow : OpenClaim := { program := "ytjhngfbhppbcnaa", sum := "8948bdb54b5e441ff55d8306235e565c18eb9fa96bb4e9b2aa9eb368fc3b33ee", func := "embrasure/embrasuretop.TopGuarded", spec := "topGuarded", inPlace := ["internal/bytealg.IndexByteString", "internal/bytealg.IndexString"], unfollowed := true, recurses := true, named := ["internal/bytealg.MaxLen"], apart := false }
def TopGuardedSaid : Prop := topGuardedRow.holds Try.pinned (OpenSpec.ofChange topGuardedSpec)

/-- ITS FALSE NEIGHBOUR: 'it returns false'. Refute it at one input. -/
def topGuardedWrong : ChangeSpec := { name := "topGuarded", fn := fun _ => fun
  | [d1, d2] => { results := [.lit (.bool false)], args := [d1, d2] }
  | _ => none }
def TopGuardedWrongFalsely : Prop := topGuardedRow.holds Try.pinned (OpenSpec.ofChange topGuardedWrong)

/-- 'embrasuretop.TopHanded': WHATEVER THE INPUT: true; the input reads as it did. -/
def topHandedSpec : ChangeSpec := { name := "topHanded", fn := fun _ => fun
  | [d1, d2] => { results := [.lit (.bool true)], args := [d1, d2] }
  | _ => none }
def topHandedRow : OpenClaim := { program := "ytjhngfbhppbcnaa", sum := "8948bdb54b5e441ff55d8306235e565c18eb9fa96bb4e9b2aa9eb368fc3b33ee", func := "embrasure/embrasuretop.TopHanded", spec := "topHanded", inPlace := ["internal/bytealg.IndexByteString", "internal/bytealg.IndexString"], unfollowed := true, recurses := true, named := ["internal/bytealg.MaxLen"], apart := false }
def TopHandedSaid : Prop := topHandedRow.holds Try.pinned (OpenSpec.ofChange topHandedSpec)

/-- ITS FALSE NEIGHBOUR: 'it returns false'. Refute it at one input. -/
def topHandedWrong : ChangeSpec := { name := "topHanded", fn := fun _ => fun
  | [d1, d2] => { results := [.lit (.bool false)], args := [d1, d2] }
  | _ => none }
def TopHandedWrongFalsely : Prop := topHandedRow.holds Try.pinned (OpenSpec.ofChange topHandedWrong)

/- THE SECOND FORM. 'bulk': how many values and letters a reading holds, each counted each time it is reached (what is shared counts as often as it is met; a slice's spare places count too). A statement '..UptoSaid' is the law's where the arguments, and the package variables that the reading takes, are together of bulk at most 1048576: NARROWER than '..Said'. Prove '..Said' where nothing that the law and all that it calls make is longer than what came in: it says more and counts as full. Else prove '..UptoSaid'. A law counts once. -/
mutual
def uptoBulk {H : Type} : DataW H → Nat
  | .lit (.string bytes) => bytes.length + 1
  | .lit _ => 1
  | .nil => 1
  | .ptr d => uptoBulk d + 1
  | .slice elems spare => uptoBulkAll elems + uptoBulkAll spare + 1
  | .agg parts => uptoBulkAll parts + 1
  | .iface _ d => uptoBulk d + 1
  | .map entries => uptoBulkEntries entries + 1
  | .held _ => 1
def uptoBulkAll {H : Type} : List (DataW H) → Nat
  | [] => 0
  | d :: r => uptoBulk d + uptoBulkAll r
def uptoBulkEntries {H : Type} : List (Lit × DataW H) → Nat
  | [] => 0
  | x :: r => uptoBulkEntry x + uptoBulkEntries r
def uptoBulkEntry {H : Type} : Lit × DataW H → Nat
  | (.string bytes, d) => bytes.length + uptoBulk d + 1
  | (_, d) => uptoBulk d + 1
 end
def uptoSmall : (H : Type) → List (DataW H) → Bool := fun _ ds => decide (uptoBulkAll ds ≤ 1048576)
def OpenSpec.upto (s : _root_.Go.ChangeSpec) : _root_.Go.OpenSpec := { _root_.Go.OpenSpec.ofChange s with cond := some uptoSmall }

/-- 'embrasuretop.TopShares', WHERE WHAT IT READS IS OF BULK AT MOST 1048576: true; the input reads as it did. -/
def topSharesUptoRow : OpenClaim := { program := "ytjhngfbhppbcnaa", sum := "8948bdb54b5e441ff55d8306235e565c18eb9fa96bb4e9b2aa9eb368fc3b33ee", func := "embrasure/embrasuretop.TopShares", spec := "topShares", unfollowed := true, recurses := true, apart := false, narrowed := true }
def TopSharesUptoSaid : Prop := topSharesUptoRow.holds Try.pinned (OpenSpec.upto topSharesSpec)

/-- 'embrasuretop.TopNested', WHERE WHAT IT READS IS OF BULK AT MOST 1048576: true; the input reads as it did. -/
def topNestedUptoRow : OpenClaim := { program := "ytjhngfbhppbcnaa", sum := "8948bdb54b5e441ff55d8306235e565c18eb9fa96bb4e9b2aa9eb368fc3b33ee", func := "embrasure/embrasuretop.TopNested", spec := "topNested", unfollowed := true, recurses := true, apart := false, narrowed := true }
def TopNestedUptoSaid : Prop := topNestedUptoRow.holds Try.pinned (OpenSpec.upto topNestedSpec)

/-- 'embrasuretop.TopLoop', WHERE WHAT IT READS IS OF BULK AT MOST 1048576: true; the input reads as it did. -/
def topLoopUptoRow : OpenClaim := { program := "ytjhngfbhppbcnaa", sum := "8948bdb54b5e441ff55d8306235e565c18eb9fa96bb4e9b2aa9eb368fc3b33ee", func := "embrasure/embrasuretop.TopLoop", spec := "topLoop", apart := false, narrowed := true }
def TopLoopUptoSaid : Prop := topLoopUptoRow.holds Try.pinned (OpenSpec.upto topLoopSpec)

/-- 'embrasuretop.TopPieces', WHERE WHAT IT READS IS OF BULK AT MOST 1048576: true; the input reads as it did. -/
def topPiecesUptoRow : OpenClaim := { program := "ytjhngfbhppbcnaa", sum := "8948bdb54b5e441ff55d8306235e565c18eb9fa96bb4e9b2aa9eb368fc3b33ee", func := "embrasure/embrasuretop.TopPieces", spec := "topPieces", inPlace := ["internal/bytealg.IndexByteString", "internal/bytealg.IndexString"], unfollowed := true, recurses := true, named := ["internal/bytealg.MaxLen"], apart := false, narrowed := true }
def TopPiecesUptoSaid : Prop := topPiecesUptoRow.holds Try.pinned (OpenSpec.upto topPiecesSpec)

/-- 'embrasuretop.TopChain', WHERE WHAT IT READS IS OF BULK AT MOST 1048576: true; the input reads as it did. -/
def topChainUptoRow : OpenClaim := { program := "ytjhngfbhppbcnaa", sum := "8948bdb54b5e441ff55d8306235e565c18eb9fa96bb4e9b2aa9eb368fc3b33ee", func := "embrasure/embrasuretop.TopChain", spec := "topChain", inPlace := ["internal/bytealg.IndexByteString", "internal/bytealg.IndexString", "internal/abi.NoEscape", "internal/bytealg.MakeNoZero"], unfollowed := true, recurses := true, named := ["internal/bytealg.MaxLen"], apart := false, narrowed := true }
def TopChainUptoSaid : Prop := topChainUptoRow.holds Try.pinned (OpenSpec.upto topChainSpec)

/-- 'embrasuretop.TopGuarded', WHERE WHAT IT READS IS OF BULK AT MOST 1048576: true; the input reads as it did. -/
def topGuardedUptoRow : OpenClaim := { program := "ytjhngfbhppbcnaa", sum := "8948bdb54b5e441ff55d8306235e565c18eb9fa96bb4e9b2aa9eb368fc3b33ee", func := "embrasure/embrasuretop.TopGuarded", spec := "topGuarded", inPlace := ["internal/bytealg.IndexByteString", "internal/bytealg.IndexString"], unfollowed := true, recurses := true, named := ["internal/bytealg.MaxLen"], apart := false, narrowed := true }
def TopGuardedUptoSaid : Prop := topGuardedUptoRow.holds Try.pinned (OpenSpec.upto topGuardedSpec)

/-- 'embrasuretop.TopHanded', WHERE WHAT IT READS IS OF BULK AT MOST 1048576: true; the input reads as it did. -/
def topHandedUptoRow : OpenClaim := { program := "ytjhngfbhppbcnaa", sum := "8948bdb54b5e441ff55d8306235e565c18eb9fa96bb4e9b2aa9eb368fc3b33ee", func := "embrasure/embrasuretop.TopHanded", spec := "topHanded", inPlace := ["internal/bytealg.IndexByteString", "internal/bytealg.IndexString"], unfollowed := true, recurses := true, named := ["internal/bytealg.MaxLen"], apart := false, narrowed := true }
def TopHandedUptoSaid : Prop := topHandedUptoRow.holds Try.pinned (OpenSpec.upto topHandedSpec)

end Rows
end Go.Proofs.Ytjhngfbhppbcnaa
