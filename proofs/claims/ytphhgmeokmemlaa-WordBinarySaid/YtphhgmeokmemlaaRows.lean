/-
  No cell of these rows narrows 'for every input' (looked for: loops, veiled, ifaces, maps, wideKeys, modest, calm, conditions, laid).
  DERIVED. THE GIVEN ROWS OF THIS SEAT. 5 by the template 'for every input the law returns true; each argument reads behind the call as it read before'; 0 by the template 'total and deterministic' (their statements: YtphhgmeokmemlaaTotals.lean).
  GIVEN WITH THE SEED: the statements are not yours to turn. If you find one false, say at which input.
  Laid BY PROGRAM, IN A SANDBOX (cutbox-rows.mjs): the forced cells as the released guide's own fill.sh prints them over the translation 43ac51a287052548… (all of the seat's roots in one cut). By AI agents, Wed Nov 11 2026. No macro, syntax, notation, axiom, sorry.
-/
import Derived.Test.YtphhgmeokmemlaaChecked
import GoSem.Claim
import GoSem.ClaimJoined
import GoSem.ClaimMapViews
import Derived.JoinedTies
import Derived.KernelRfl
namespace Go.Proofs.Ytphhgmeokmemlaa
/- THE CELL 'sum', in the pinned program and in every row, IS THE sha256 OF THE DUMP (.gsa) THAT YtphhgmeokmemlaaProg.lean LOADS. Nothing in Lean hashes anything: it is a label: what it is worth is what the hold of that sum in a sandbox is worth. -/
noncomputable def Try.pinned : Pinned := { name := "ytphhgmeokmemlaa", sum := "43ac51a2870525483dae4eb4a54b66d0a7cdc7f8586b1d07f23ed41c7fa4783e", checked := Try.checked }
namespace Rows
def none {H : Type} : Left H := { results := [], args := [] }

/-- 'grommetlaw05.WordBinary': WHATEVER THE INPUT: true; the input reads as it did. -/
def wordBinarySpec : ChangeSpec := { name := "wordBinary", fn := fun _ => fun
  | [d1, d2, d3, d4] => { results := [.lit (.bool true)], args := [d1, d2, d3, d4] }
  | _ => none }
def wordBinaryRow : OpenClaim := { program := "ytphhgmeokmemlaa", sum := "43ac51a2870525483dae4eb4a54b66d0a7cdc7f8586b1d07f23ed41c7fa4783e", func := "grommet/grommetlaw05.WordBinary", spec := "wordBinary", unfollowed := true, recurses := true, apart := false }
def WordBinarySaid : Prop := wordBinaryRow.holds Try.pinned (OpenSpec.ofChange wordBinarySpec)

/-- ITS FALSE NEIGHBOUR: 'it returns false'. Refute it at one input. -/
def wordBinaryWrong : ChangeSpec := { name := "wordBinary", fn := fun _ => fun
  | [d1, d2, d3, d4] => { results := [.lit (.bool false)], args := [d1, d2, d3, d4] }
  | _ => none }
def WordBinaryWrongFalsely : Prop := wordBinaryRow.holds Try.pinned (OpenSpec.ofChange wordBinaryWrong)

/-- 'grommetlaw05.WordDivides': WHATEVER THE INPUT: true; the input reads as it did. -/
def wordDividesSpec : ChangeSpec := { name := "wordDivides", fn := fun _ => fun
  | [d1, d2, d3, d4] => { results := [.lit (.bool true)], args := [d1, d2, d3, d4] }
  | _ => none }
def wordDividesRow : OpenClaim := { program := "ytphhgmeokmemlaa", sum := "43ac51a2870525483dae4eb4a54b66d0a7cdc7f8586b1d07f23ed41c7fa4783e", func := "grommet/grommetlaw05.WordDivides", spec := "wordDivides", unfollowed := true, recurses := true, apart := false }
def WordDividesSaid : Prop := wordDividesRow.holds Try.pinned (OpenSpec.ofChange wordDividesSpec)

/-- ITS FALSE NEIGHBOUR: 'it returns false'. Refute it at one input. -/
def wordDividesWrong : ChangeSpec := { name := "wordDivides", fn := fun _ => fun
  | [d1, d2, d3, d4] => { results := [.lit (.bool false)], args := [d1, d2, d3, d4] }
  | _ => none }
def WordDividesWrongFalsely : Prop := wordDividesRow.holds Try.pinned (OpenSpec.ofChange wordDividesWrong)

/-- 'grommetlaw05.WordShifts': WHATEVER THE INPUT: true; the input reads as it did. -/
def wordShiftsSpec : ChangeSpec := { name := "wordShifts", fn := fun _ => fun
  | [d1, d2, d3] => { results := [.lit (.bool true)], args := [d1, d2, d3] }
  | _ => none }
def wordShiftsRow : OpenClaim := { program := "ytphhgmeokmemlaa", sum := "43ac51a2870525483dae4eb4a54b66d0a7cdc7f8586b1d07f23ed41c7fa4783e", func := "grommet/grommetlaw05.WordShifts", spec := "wordShifts", unfollowed := true, recurses := true, apart := false }
def WordShiftsSaid : Prop := wordShiftsRow.holds Try.pinned (OpenSpec.ofChange wordShiftsSpec)

/-- ITS FALSE NEIGHBOUR: 'it returns false'. Refute it at one input. -/
def wordShiftsWrong : ChangeSpec := { name := "wordShifts", fn := fun _ => fun
  | [d1, d2, d3] => { results := [.lit (.bool false)], args := [d1, d2, d3] }
  | _ => none }
def WordShiftsWrongFalsely : Prop := wordShiftsRow.holds Try.pinned (OpenSpec.ofChange wordShiftsWrong)

/-- 'grommetlaw05.WordTests': WHATEVER THE INPUT: true; the input reads as it did. -/
def wordTestsSpec : ChangeSpec := { name := "wordTests", fn := fun _ => fun
  | [d1, d2, d3, d4] => { results := [.lit (.bool true)], args := [d1, d2, d3, d4] }
  | _ => none }
def wordTestsRow : OpenClaim := { program := "ytphhgmeokmemlaa", sum := "43ac51a2870525483dae4eb4a54b66d0a7cdc7f8586b1d07f23ed41c7fa4783e", func := "grommet/grommetlaw05.WordTests", spec := "wordTests", unfollowed := true, recurses := true, apart := false }
def WordTestsSaid : Prop := wordTestsRow.holds Try.pinned (OpenSpec.ofChange wordTestsSpec)

/-- ITS FALSE NEIGHBOUR: 'it returns false'. Refute it at one input. -/
def wordTestsWrong : ChangeSpec := { name := "wordTests", fn := fun _ => fun
  | [d1, d2, d3, d4] => { results := [.lit (.bool false)], args := [d1, d2, d3, d4] }
  | _ => none }
def WordTestsWrongFalsely : Prop := wordTestsRow.holds Try.pinned (OpenSpec.ofChange wordTestsWrong)

/-- 'grommetlaw05.WordOrders': WHATEVER THE INPUT: true; the input reads as it did. -/
def wordOrdersSpec : ChangeSpec := { name := "wordOrders", fn := fun _ => fun
  | [d1, d2, d3, d4] => { results := [.lit (.bool true)], args := [d1, d2, d3, d4] }
  | _ => none }
def wordOrdersRow : OpenClaim := { program := "ytphhgmeokmemlaa", sum := "43ac51a2870525483dae4eb4a54b66d0a7cdc7f8586b1d07f23ed41c7fa4783e", func := "grommet/grommetlaw05.WordOrders", spec := "wordOrders", unfollowed := true, recurses := true, apart := false }
def WordOrdersSaid : Prop := wordOrdersRow.holds Try.pinned (OpenSpec.ofChange wordOrdersSpec)

/-- ITS FALSE NEIGHBOUR: 'it returns false'. Refute it at one input. -/
def wordOrdersWrong : ChangeSpec := { name := "wordOrders", fn := fun _ => fun
  | [d1, d2, d3, d4] => { results := [.lit (.bool false)], args := [d1, d2, d3, d4] }
  | _ => none }
def WordOrdersWrongFalsely : Prop := wordOrdersRow.holds Try.pinned (OpenSpec.ofChange wordOrdersWrong)

/- THE SECOND FORM. 'bulk': how many values and letters a reading holds, each counted each time it is reached (what is shared counts as often as it is met; a slice's spare places count too). A statement '..UptoSaid' is the law's where the arguments, and the package variables that the reading takes, are together of bulk at most 1048576: NARROWER than '..Said'. Prove '..Said' where nothing that the law and all that it calls make is longer than what came in: it says more and counts as full. Else prove '..UptoSaid'. A law counts once. -/
mutual
def uptoBulk {H : Type} : DataW H → Nat
  | .lit (.string bytes) => bytes.length + 1
  | .lit _ => 1
  | .nil => 1
  | .ptr d => uptoBulk d + 1
  | .slice elems spare => uptoBulkAll elems + uptoBulkAll spare + 1
  | .agg parts => uptoBulkAll parts + 1
  | .iface _ d => uptoBulk d + 1
  | .map entries => uptoBulkEntries entries + 1
  | .held _ => 1
def uptoBulkAll {H : Type} : List (DataW H) → Nat
  | [] => 0
  | d :: r => uptoBulk d + uptoBulkAll r
def uptoBulkEntries {H : Type} : List (Lit × DataW H) → Nat
  | [] => 0
  | x :: r => uptoBulkEntry x + uptoBulkEntries r
def uptoBulkEntry {H : Type} : Lit × DataW H → Nat
  | (.string bytes, d) => bytes.length + uptoBulk d + 1
  | (_, d) => uptoBulk d + 1
 end
def uptoSmall : (H : Type) → List (DataW H) → Bool := fun _ ds => decide (uptoBulkAll ds ≤ 1048576)
def OpenSpec.upto (s : _root_.Go.ChangeSpec) : _root_.Go.OpenSpec := { _root_.Go.OpenSpec.ofChange s with cond := some uptoSmall }

/-- 'grommetlaw05.WordBinary', WHERE WHAT IT READS IS OF BULK AT MOST 1048576: true; the input reads as it did. -/
def wordBinaryUptoRow : OpenClaim := { program := "ytphhgmeokmemlaa", sum := "43ac51a2870525483dae4eb4a54b66d0a7cdc7f8586b1d07f23ed41c7fa4783e", func := "grommet/grommetlaw05.WordBinary", spec := "wordBinary", unfollowed := true, recurses := true, apart := false, narrowed := true }
def WordBinaryUptoSaid : Prop := wordBinaryUptoRow.holds Try.pinned (OpenSpec.upto wordBinarySpec)

/-- 'grommetlaw05.WordDivides', WHERE WHAT IT READS IS OF BULK AT MOST 1048576: true; the input reads as it did. -/
def wordDividesUptoRow : OpenClaim := { program := "ytphhgmeokmemlaa", sum := "43ac51a2870525483dae4eb4a54b66d0a7cdc7f8586b1d07f23ed41c7fa4783e", func := "grommet/grommetlaw05.WordDivides", spec := "wordDivides", unfollowed := true, recurses := true, apart := false, narrowed := true }
def WordDividesUptoSaid : Prop := wordDividesUptoRow.holds Try.pinned (OpenSpec.upto wordDividesSpec)

/-- 'grommetlaw05.WordShifts', WHERE WHAT IT READS IS OF BULK AT MOST 1048576: true; the input reads as it did. -/
def wordShiftsUptoRow : OpenClaim := { program := "ytphhgmeokmemlaa", sum := "43ac51a2870525483dae4eb4a54b66d0a7cdc7f8586b1d07f23ed41c7fa4783e", func := "grommet/grommetlaw05.WordShifts", spec := "wordShifts", unfollowed := true, recurses := true, apart := false, narrowed := true }
def WordShiftsUptoSaid : Prop := wordShiftsUptoRow.holds Try.pinned (OpenSpec.upto wordShiftsSpec)

/-- 'grommetlaw05.WordTests', WHERE WHAT IT READS IS OF BULK AT MOST 1048576: true; the input reads as it did. -/
def wordTestsUptoRow : OpenClaim := { program := "ytphhgmeokmemlaa", sum := "43ac51a2870525483dae4eb4a54b66d0a7cdc7f8586b1d07f23ed41c7fa4783e", func := "grommet/grommetlaw05.WordTests", spec := "wordTests", unfollowed := true, recurses := true, apart := false, narrowed := true }
def WordTestsUptoSaid : Prop := wordTestsUptoRow.holds Try.pinned (OpenSpec.upto wordTestsSpec)

/-- 'grommetlaw05.WordOrders', WHERE WHAT IT READS IS OF BULK AT MOST 1048576: true; the input reads as it did. -/
def wordOrdersUptoRow : OpenClaim := { program := "ytphhgmeokmemlaa", sum := "43ac51a2870525483dae4eb4a54b66d0a7cdc7f8586b1d07f23ed41c7fa4783e", func := "grommet/grommetlaw05.WordOrders", spec := "wordOrders", unfollowed := true, recurses := true, apart := false, narrowed := true }
def WordOrdersUptoSaid : Prop := wordOrdersUptoRow.holds Try.pinned (OpenSpec.upto wordOrdersSpec)

end Rows
end Go.Proofs.Ytphhgmeokmemlaa
