/-
  No cell of these rows narrows 'for every input' (looked for: loops, veiled, ifaces, maps, wideKeys, modest, calm, conditions, laid).
  DERIVED. THE GIVEN ROWS OF THIS SEAT. 6 by the template 'for every input the law returns true; each argument reads behind the call as it read before'; 0 by the template 'total and deterministic' (their statements: YtbgjlghhcclooaaTotals.lean).
  GIVEN WITH THE SEED: the statements are not yours to turn. If you find one false, say at which input.
  Laid BY PROGRAM, IN A SANDBOX (cutbox-rows.mjs): the forced cells as the released guide's own fill.sh prints them over the translation 35b3b5d61564a275… (all of the seat's roots in one cut). By AI agents, Wed Nov 11 2026. No macro, syntax, notation, axiom, sorry.
-/
import Derived.Test.YtbgjlghhcclooaaChecked
import GoSem.Claim
import GoSem.ClaimJoined
import GoSem.ClaimMapViews
import Derived.JoinedTies
import Derived.KernelRfl
namespace Go.Proofs.Ytbgjlghhcclooaa
/- THE CELL 'sum', in the pinned program and in every row, IS THE sha256 OF THE DUMP (.gsa) THAT YtbgjlghhcclooaaProg.lean LOADS. Nothing in Lean hashes anything: it is a label: what it is worth is what the hold of that sum in a sandbox is worth. -/
noncomputable def Try.pinned : Pinned := { name := "ytbgjlghhcclooaa", sum := "35b3b5d61564a2750b2ca1eab95f4cf4ae9790beab7d03d3abd773c5536f82f6", checked := Try.checked }
namespace Rows
def none {H : Type} : Left H := { results := [], args := [] }

/-- 'cachettop.TopWired': WHATEVER THE INPUT: true; the input reads as it did. -/
def topWiredSpec : ChangeSpec := { name := "topWired", fn := fun _ => fun
  | [d1, d2] => { results := [.lit (.bool true)], args := [d1, d2] }
  | _ => none }
def topWiredRow : OpenClaim := { program := "ytbgjlghhcclooaa", sum := "35b3b5d61564a2750b2ca1eab95f4cf4ae9790beab7d03d3abd773c5536f82f6", func := "cachet/cachettop.TopWired", spec := "topWired", unfollowed := true, recurses := true, apart := false }
def TopWiredSaid : Prop := topWiredRow.holds Try.pinned (OpenSpec.ofChange topWiredSpec)

/-- ITS FALSE NEIGHBOUR: 'it returns false'. Refute it at one input. -/
def topWiredWrong : ChangeSpec := { name := "topWired", fn := fun _ => fun
  | [d1, d2] => { results := [.lit (.bool false)], args := [d1, d2] }
  | _ => none }
def TopWiredWrongFalsely : Prop := topWiredRow.holds Try.pinned (OpenSpec.ofChange topWiredWrong)

/-- 'cachettop.TopHashed': WHATEVER THE INPUT: true; the input reads as it did. -/
def topHashedSpec : ChangeSpec := { name := "topHashed", fn := fun _ => fun
  | [d1, d2, d3] => { results := [.lit (.bool true)], args := [d1, d2, d3] }
  | _ => none }
def topHashedRow : OpenClaim := { program := "ytbgjlghhcclooaa", sum := "35b3b5d61564a2750b2ca1eab95f4cf4ae9790beab7d03d3abd773c5536f82f6", func := "cachet/cachettop.TopHashed", spec := "topHashed", inPlace := ["internal/bytealg.IndexByte", "internal/bytealg.Compare"], unfollowed := true, recurses := true, apart := false }
def TopHashedSaid : Prop := topHashedRow.holds Try.pinned (OpenSpec.ofChange topHashedSpec)

/-- ITS FALSE NEIGHBOUR: 'it returns false'. Refute it at one input. -/
def topHashedWrong : ChangeSpec := { name := "topHashed", fn := fun _ => fun
  | [d1, d2, d3] => { results := [.lit (.bool false)], args := [d1, d2, d3] }
  | _ => none }
def TopHashedWrongFalsely : Prop := topHashedRow.holds Try.pinned (OpenSpec.ofChange topHashedWrong)

/-- 'cachettop.TopDisked': WHATEVER THE INPUT: true; the input reads as it did. -/
def topDiskedSpec : ChangeSpec := { name := "topDisked", fn := fun _ => fun
  | [d1, d2] => { results := [.lit (.bool true)], args := [d1, d2] }
  | _ => none }
def topDiskedRow : OpenClaim := { program := "ytbgjlghhcclooaa", sum := "35b3b5d61564a2750b2ca1eab95f4cf4ae9790beab7d03d3abd773c5536f82f6", func := "cachet/cachettop.TopDisked", spec := "topDisked", inPlace := ["internal/bytealg.MakeNoZero"], unfollowed := true, recurses := true, apart := false }
def TopDiskedSaid : Prop := topDiskedRow.holds Try.pinned (OpenSpec.ofChange topDiskedSpec)

/-- ITS FALSE NEIGHBOUR: 'it returns false'. Refute it at one input. -/
def topDiskedWrong : ChangeSpec := { name := "topDisked", fn := fun _ => fun
  | [d1, d2] => { results := [.lit (.bool false)], args := [d1, d2] }
  | _ => none }
def TopDiskedWrongFalsely : Prop := topDiskedRow.holds Try.pinned (OpenSpec.ofChange topDiskedWrong)

/-- 'cachettop.TopRan': WHATEVER THE INPUT: true; the input reads as it did. -/
def topRanSpec : ChangeSpec := { name := "topRan", fn := fun _ => fun
  | [d1, d2, d3] => { results := [.lit (.bool true)], args := [d1, d2, d3] }
  | _ => none }
def topRanRow : OpenClaim := { program := "ytbgjlghhcclooaa", sum := "35b3b5d61564a2750b2ca1eab95f4cf4ae9790beab7d03d3abd773c5536f82f6", func := "cachet/cachettop.TopRan", spec := "topRan", unfollowed := true, recurses := true, apart := false }
def TopRanSaid : Prop := topRanRow.holds Try.pinned (OpenSpec.ofChange topRanSpec)

/-- ITS FALSE NEIGHBOUR: 'it returns false'. Refute it at one input. -/
def topRanWrong : ChangeSpec := { name := "topRan", fn := fun _ => fun
  | [d1, d2, d3] => { results := [.lit (.bool false)], args := [d1, d2, d3] }
  | _ => none }
def TopRanWrongFalsely : Prop := topRanRow.holds Try.pinned (OpenSpec.ofChange topRanWrong)

/-- 'cachettop.TopWorded': WHATEVER THE INPUT: true; the input reads as it did. -/
def topWordedSpec : ChangeSpec := { name := "topWorded", fn := fun _ => fun
  | [d1, d2, d3, d4, d5, d6, d7, d8] => { results := [.lit (.bool true)], args := [d1, d2, d3, d4, d5, d6, d7, d8] }
  | _ => none }
def topWordedRow : OpenClaim := { program := "ytbgjlghhcclooaa", sum := "35b3b5d61564a2750b2ca1eab95f4cf4ae9790beab7d03d3abd773c5536f82f6", func := "cachet/cachettop.TopWorded", spec := "topWorded", unfollowed := true, recurses := true, apart := false }
def TopWordedSaid : Prop := topWordedRow.holds Try.pinned (OpenSpec.ofChange topWordedSpec)

/-- ITS FALSE NEIGHBOUR: 'it returns false'. Refute it at one input. -/
def topWordedWrong : ChangeSpec := { name := "topWorded", fn := fun _ => fun
  | [d1, d2, d3, d4, d5, d6, d7, d8] => { results := [.lit (.bool false)], args := [d1, d2, d3, d4, d5, d6, d7, d8] }
  | _ => none }
def TopWordedWrongFalsely : Prop := topWordedRow.holds Try.pinned (OpenSpec.ofChange topWordedWrong)

/-- 'cachettop.TopTreed': WHATEVER THE INPUT: true; the input reads as it did. -/
def topTreedSpec : ChangeSpec := { name := "topTreed", fn := fun _ => fun
  | [d1, d2, d3] => { results := [.lit (.bool true)], args := [d1, d2, d3] }
  | _ => none }
def topTreedRow : OpenClaim := { program := "ytbgjlghhcclooaa", sum := "35b3b5d61564a2750b2ca1eab95f4cf4ae9790beab7d03d3abd773c5536f82f6", func := "cachet/cachettop.TopTreed", spec := "topTreed", unfollowed := true, recurses := true, apart := false }
def TopTreedSaid : Prop := topTreedRow.holds Try.pinned (OpenSpec.ofChange topTreedSpec)

/-- ITS FALSE NEIGHBOUR: 'it returns false'. Refute it at one input. -/
def topTreedWrong : ChangeSpec := { name := "topTreed", fn := fun _ => fun
  | [d1, d2, d3] => { results := [.lit (.bool false)], args := [d1, d2, d3] }
  | _ => none }
def TopTreedWrongFalsely : Prop := topTreedRow.holds Try.pinned (OpenSpec.ofChange topTreedWrong)

/- THE SECOND FORM. 'bulk': how many values and letters a reading holds, each counted each time it is reached (what is shared counts as often as it is met; a slice's spare places count too). A statement '..UptoSaid' is the law's where the arguments, and the package variables that the reading takes, are together of bulk at most 1048576: NARROWER than '..Said'. Prove '..Said' where nothing that the law and all that it calls make is longer than what came in: it says more and counts as full. Else prove '..UptoSaid'. A law counts once. -/
mutual
def uptoBulk {H : Type} : DataW H → Nat
  | .lit (.string bytes) => bytes.length + 1
  | .lit _ => 1
  | .nil => 1
  | .ptr d => uptoBulk d + 1
  | .slice elems spare => uptoBulkAll elems + uptoBulkAll spare + 1
  | .agg parts => uptoBulkAll parts + 1
  | .iface _ d => uptoBulk d + 1
  | .map entries => uptoBulkEntries entries + 1
  | .held _ => 1
def uptoBulkAll {H : Type} : List (DataW H) → Nat
  | [] => 0
  | d :: r => uptoBulk d + uptoBulkAll r
def uptoBulkEntries {H : Type} : List (Lit × DataW H) → Nat
  | [] => 0
  | x :: r => uptoBulkEntry x + uptoBulkEntries r
def uptoBulkEntry {H : Type} : Lit × DataW H → Nat
  | (.string bytes, d) => bytes.length + uptoBulk d + 1
  | (_, d) => uptoBulk d + 1
 end
def uptoSmall : (H : Type) → List (DataW H) → Bool := fun _ ds => decide (uptoBulkAll ds ≤ 1048576)
def OpenSpec.upto (s : _root_.Go.ChangeSpec) : _root_.Go.OpenSpec := { _root_.Go.OpenSpec.ofChange s with cond := some uptoSmall }

/-- 'cachettop.TopWired', WHERE WHAT IT READS IS OF BULK AT MOST 1048576: true; the input reads as it did. -/
def topWiredUptoRow : OpenClaim := { program := "ytbgjlghhcclooaa", sum := "35b3b5d61564a2750b2ca1eab95f4cf4ae9790beab7d03d3abd773c5536f82f6", func := "cachet/cachettop.TopWired", spec := "topWired", unfollowed := true, recurses := true, apart := false, narrowed := true }
def TopWiredUptoSaid : Prop := topWiredUptoRow.holds Try.pinned (OpenSpec.upto topWiredSpec)

/-- 'cachettop.TopHashed', WHERE WHAT IT READS IS OF BULK AT MOST 1048576: true; the input reads as it did. -/
def topHashedUptoRow : OpenClaim := { program := "ytbgjlghhcclooaa", sum := "35b3b5d61564a2750b2ca1eab95f4cf4ae9790beab7d03d3abd773c5536f82f6", func := "cachet/cachettop.TopHashed", spec := "topHashed", inPlace := ["internal/bytealg.IndexByte", "internal/bytealg.Compare"], unfollowed := true, recurses := true, apart := false, narrowed := true }
def TopHashedUptoSaid : Prop := topHashedUptoRow.holds Try.pinned (OpenSpec.upto topHashedSpec)

/-- 'cachettop.TopDisked', WHERE WHAT IT READS IS OF BULK AT MOST 1048576: true; the input reads as it did. -/
def topDiskedUptoRow : OpenClaim := { program := "ytbgjlghhcclooaa", sum := "35b3b5d61564a2750b2ca1eab95f4cf4ae9790beab7d03d3abd773c5536f82f6", func := "cachet/cachettop.TopDisked", spec := "topDisked", inPlace := ["internal/bytealg.MakeNoZero"], unfollowed := true, recurses := true, apart := false, narrowed := true }
def TopDiskedUptoSaid : Prop := topDiskedUptoRow.holds Try.pinned (OpenSpec.upto topDiskedSpec)

/-- 'cachettop.TopRan', WHERE WHAT IT READS IS OF BULK AT MOST 1048576: true; the input reads as it did. -/
def topRanUptoRow : OpenClaim := { program := "ytbgjlghhcclooaa", sum := "35b3b5d61564a2750b2ca1eab95f4cf4ae9790beab7d03d3abd773c5536f82f6", func := "cachet/cachettop.TopRan", spec := "topRan", unfollowed := true, recurses := true, apart := false, narrowed := true }
def TopRanUptoSaid : Prop := topRanUptoRow.holds Try.pinned (OpenSpec.upto topRanSpec)

/-- 'cachettop.TopWorded', WHERE WHAT IT READS IS OF BULK AT MOST 1048576: true; the input reads as it did. -/
def topWordedUptoRow : OpenClaim := { program := "ytbgjlghhcclooaa", sum := "35b3b5d61564a2750b2ca1eab95f4cf4ae9790beab7d03d3abd773c5536f82f6", func := "cachet/cachettop.TopWorded", spec := "topWorded", unfollowed := true, recurses := true, apart := false, narrowed := true }
def TopWordedUptoSaid : Prop := topWordedUptoRow.holds Try.pinned (OpenSpec.upto topWordedSpec)

/-- 'cachettop.TopTreed', WHERE WHAT IT READS IS OF BULK AT MOST 1048576: true; the input reads as it did. -/
def topTreedUptoRow : OpenClaim := { program := "ytbgjlghhcclooaa", sum := "35b3b5d61564a2750b2ca1eab95f4cf4ae9790beab7d03d3abd773c5536f82f6", func := "cachet/cachettop.TopTreed", spec := "topTreed", unfollowed := true, recurses := true, apart := false, narrowed := true }
def TopTreedUptoSaid : Prop := topTreedUptoRow.holds Try.pinned (OpenSpec.upto topTreedSpec)

end Rows
end Go.Proofs.Ytbgjlghhcclooaa
