/-
  No cell of these rows narrows 'for every input' (looked for: loops, veiled, ifaces, maps, wideKeys, modest, calm, conditions, laid).
  DERIVED. THE GIVEN ROWS OF THIS SEAT. 5 by the template 'for every input the law returns true; each argument reads behind the call as it read before'; 0 by the template 'total and deterministic' (their statements: YthkagcelpdcfkaaTotals.lean).
  GIVEN WITH THE SEED: the statements are not yours to turn. If you find one false, say at which input.
  Laid BY PROGRAM, IN A SANDBOX (cutbox-rows.mjs): the forced cells as the released guide's own fill.sh prints them over the translation 434a2d27d33e2e7f… (all of the seat's roots in one cut). By AI agents, Wed Nov 11 2026. No macro, syntax, notation, axiom, sorry.
-/
import Derived.Test.YthkagcelpdcfkaaChecked
import GoSem.Claim
import GoSem.ClaimJoined
import GoSem.ClaimMapViews
import Derived.JoinedTies
import Derived.KernelRfl
namespace Go.Proofs.Ythkagcelpdcfkaa
/- THE CELL 'sum', in the pinned program and in every row, IS THE sha256 OF THE DUMP (.gsa) THAT YthkagcelpdcfkaaProg.lean LOADS. Nothing in Lean hashes anything: it is a label: what it is worth is what the hold of that sum in a sandbox is worth. -/
noncomputable def Try.pinned : Pinned := { name := "ythkagcelpdcfkaa", sum := "434a2d27d33e2e7fa8587d476c3c6abce0924fa9c1ab01722067e72fb081bb61", checked := Try.checked }
namespace Rows
def none {H : Type} : Left H := { results := [], args := [] }

/-- 'observatorylaw07.SharesRecover': WHATEVER THE INPUT: true; the input reads as it did. -/
def sharesRecoverSpec : ChangeSpec := { name := "sharesRecover", fn := fun _ => fun
  | [d1, d2, d3, d4, d5] => { results := [.lit (.bool true)], args := [d1, d2, d3, d4, d5] }
  | _ => none }
def sharesRecoverRow : OpenClaim := { program := "ythkagcelpdcfkaa", sum := "434a2d27d33e2e7fa8587d476c3c6abce0924fa9c1ab01722067e72fb081bb61", func := "observatory/observatorylaw07.SharesRecover", spec := "sharesRecover", unfollowed := true, recurses := true, apart := false }
def SharesRecoverSaid : Prop := sharesRecoverRow.holds Try.pinned (OpenSpec.ofChange sharesRecoverSpec)

/-- ITS FALSE NEIGHBOUR: 'it returns false'. Refute it at one input. -/
def sharesRecoverWrong : ChangeSpec := { name := "sharesRecover", fn := fun _ => fun
  | [d1, d2, d3, d4, d5] => { results := [.lit (.bool false)], args := [d1, d2, d3, d4, d5] }
  | _ => none }
def SharesRecoverWrongFalsely : Prop := sharesRecoverRow.holds Try.pinned (OpenSpec.ofChange sharesRecoverWrong)

/-- 'observatorylaw07.SharesDiffer': WHATEVER THE INPUT: true; the input reads as it did. -/
def sharesDifferSpec : ChangeSpec := { name := "sharesDiffer", fn := fun _ => fun
  | [d1, d2, d3, d4, d5, d6] => { results := [.lit (.bool true)], args := [d1, d2, d3, d4, d5, d6] }
  | _ => none }
def sharesDifferRow : OpenClaim := { program := "ythkagcelpdcfkaa", sum := "434a2d27d33e2e7fa8587d476c3c6abce0924fa9c1ab01722067e72fb081bb61", func := "observatory/observatorylaw07.SharesDiffer", spec := "sharesDiffer", unfollowed := true, recurses := true, apart := false }
def SharesDifferSaid : Prop := sharesDifferRow.holds Try.pinned (OpenSpec.ofChange sharesDifferSpec)

/-- ITS FALSE NEIGHBOUR: 'it returns false'. Refute it at one input. -/
def sharesDifferWrong : ChangeSpec := { name := "sharesDiffer", fn := fun _ => fun
  | [d1, d2, d3, d4, d5, d6] => { results := [.lit (.bool false)], args := [d1, d2, d3, d4, d5, d6] }
  | _ => none }
def SharesDifferWrongFalsely : Prop := sharesDifferRow.holds Try.pinned (OpenSpec.ofChange sharesDifferWrong)

/-- 'observatorylaw07.SharesWrong': WHATEVER THE INPUT: true; the input reads as it did. -/
def sharesWrongSpec : ChangeSpec := { name := "sharesWrong", fn := fun _ => fun
  | [d1, d2, d3, d4, d5, d6, d7] => { results := [.lit (.bool true)], args := [d1, d2, d3, d4, d5, d6, d7] }
  | _ => none }
def sharesWrongRow : OpenClaim := { program := "ythkagcelpdcfkaa", sum := "434a2d27d33e2e7fa8587d476c3c6abce0924fa9c1ab01722067e72fb081bb61", func := "observatory/observatorylaw07.SharesWrong", spec := "sharesWrong", unfollowed := true, recurses := true, apart := false }
def SharesWrongSaid : Prop := sharesWrongRow.holds Try.pinned (OpenSpec.ofChange sharesWrongSpec)

/-- ITS FALSE NEIGHBOUR: 'it returns false'. Refute it at one input. -/
def sharesWrongWrong : ChangeSpec := { name := "sharesWrong", fn := fun _ => fun
  | [d1, d2, d3, d4, d5, d6, d7] => { results := [.lit (.bool false)], args := [d1, d2, d3, d4, d5, d6, d7] }
  | _ => none }
def SharesWrongWrongFalsely : Prop := sharesWrongRow.holds Try.pinned (OpenSpec.ofChange sharesWrongWrong)

/-- 'observatorylaw07.SharesAdd': WHATEVER THE INPUT: true; the input reads as it did. -/
def sharesAddSpec : ChangeSpec := { name := "sharesAdd", fn := fun _ => fun
  | [d1, d2, d3, d4, d5, d6] => { results := [.lit (.bool true)], args := [d1, d2, d3, d4, d5, d6] }
  | _ => none }
def sharesAddRow : OpenClaim := { program := "ythkagcelpdcfkaa", sum := "434a2d27d33e2e7fa8587d476c3c6abce0924fa9c1ab01722067e72fb081bb61", func := "observatory/observatorylaw07.SharesAdd", spec := "sharesAdd", unfollowed := true, recurses := true, apart := false }
def SharesAddSaid : Prop := sharesAddRow.holds Try.pinned (OpenSpec.ofChange sharesAddSpec)

/-- ITS FALSE NEIGHBOUR: 'it returns false'. Refute it at one input. -/
def sharesAddWrong : ChangeSpec := { name := "sharesAdd", fn := fun _ => fun
  | [d1, d2, d3, d4, d5, d6] => { results := [.lit (.bool false)], args := [d1, d2, d3, d4, d5, d6] }
  | _ => none }
def SharesAddWrongFalsely : Prop := sharesAddRow.holds Try.pinned (OpenSpec.ofChange sharesAddWrong)

/-- 'observatorylaw07.SharesHide': WHATEVER THE INPUT: true; the input reads as it did. -/
def sharesHideSpec : ChangeSpec := { name := "sharesHide", fn := fun _ => fun
  | [d1, d2, d3, d4, d5, d6] => { results := [.lit (.bool true)], args := [d1, d2, d3, d4, d5, d6] }
  | _ => none }
def sharesHideRow : OpenClaim := { program := "ythkagcelpdcfkaa", sum := "434a2d27d33e2e7fa8587d476c3c6abce0924fa9c1ab01722067e72fb081bb61", func := "observatory/observatorylaw07.SharesHide", spec := "sharesHide", unfollowed := true, recurses := true, apart := false }
def SharesHideSaid : Prop := sharesHideRow.holds Try.pinned (OpenSpec.ofChange sharesHideSpec)

/-- ITS FALSE NEIGHBOUR: 'it returns false'. Refute it at one input. -/
def sharesHideWrong : ChangeSpec := { name := "sharesHide", fn := fun _ => fun
  | [d1, d2, d3, d4, d5, d6] => { results := [.lit (.bool false)], args := [d1, d2, d3, d4, d5, d6] }
  | _ => none }
def SharesHideWrongFalsely : Prop := sharesHideRow.holds Try.pinned (OpenSpec.ofChange sharesHideWrong)

/- THE SECOND FORM. 'bulk': how many values and letters a reading holds, each counted each time it is reached (what is shared counts as often as it is met; a slice's spare places count too). A statement '..UptoSaid' is the law's where the arguments, and the package variables that the reading takes, are together of bulk at most 1048576: NARROWER than '..Said'. Prove '..Said' where nothing that the law and all that it calls make is longer than what came in: it says more and counts as full. Else prove '..UptoSaid'. A law counts once. -/
mutual
def uptoBulk {H : Type} : DataW H → Nat
  | .lit (.string bytes) => bytes.length + 1
  | .lit _ => 1
  | .nil => 1
  | .ptr d => uptoBulk d + 1
  | .slice elems spare => uptoBulkAll elems + uptoBulkAll spare + 1
  | .agg parts => uptoBulkAll parts + 1
  | .iface _ d => uptoBulk d + 1
  | .map entries => uptoBulkEntries entries + 1
  | .held _ => 1
def uptoBulkAll {H : Type} : List (DataW H) → Nat
  | [] => 0
  | d :: r => uptoBulk d + uptoBulkAll r
def uptoBulkEntries {H : Type} : List (Lit × DataW H) → Nat
  | [] => 0
  | x :: r => uptoBulkEntry x + uptoBulkEntries r
def uptoBulkEntry {H : Type} : Lit × DataW H → Nat
  | (.string bytes, d) => bytes.length + uptoBulk d + 1
  | (_, d) => uptoBulk d + 1
 end
def uptoSmall : (H : Type) → List (DataW H) → Bool := fun _ ds => decide (uptoBulkAll ds ≤ 1048576)
def OpenSpec.upto (s : _root_.Go.ChangeSpec) : _root_.Go.OpenSpec := { _root_.Go.OpenSpec.ofChange s with cond := some uptoSmall }

/-- 'observatorylaw07.SharesRecover', WHERE WHAT IT READS IS OF BULK AT MOST 1048576: true; the input reads as it did. -/
def sharesRecoverUptoRow : OpenClaim := { program := "ythkagcelpdcfkaa", sum := "434a2d27d33e2e7fa8587d476c3c6abce0924fa9c1ab01722067e72fb081bb61", func := "observatory/observatorylaw07.SharesRecover", spec := "sharesRecover", unfollowed := true, recurses := true, apart := false, narrowed := true }
def SharesRecoverUptoSaid : Prop := sharesRecoverUptoRow.holds Try.pinned (OpenSpec.upto sharesRecoverSpec)

/-- 'observatorylaw07.SharesDiffer', WHERE WHAT IT READS IS OF BULK AT MOST 1048576: true; the input reads as it did. -/
def sharesDifferUptoRow : OpenClaim := { program := "ythkagcelpdcfkaa", sum := "434a2d27d33e2e7fa8587d476c3c6abce0924fa9c1ab01722067e72fb081bb61", func := "observatory/observatorylaw07.SharesDiffer", spec := "sharesDiffer", unfollowed := true, recurses := true, apart := false, narrowed := true }
def SharesDifferUptoSaid : Prop := sharesDifferUptoRow.holds Try.pinned (OpenSpec.upto sharesDifferSpec)

/-- 'observatorylaw07.SharesWrong', WHERE WHAT IT READS IS OF BULK AT MOST 1048576: true; the input reads as it did. -/
def sharesWrongUptoRow : OpenClaim := { program := "ythkagcelpdcfkaa", sum := "434a2d27d33e2e7fa8587d476c3c6abce0924fa9c1ab01722067e72fb081bb61", func := "observatory/observatorylaw07.SharesWrong", spec := "sharesWrong", unfollowed := true, recurses := true, apart := false, narrowed := true }
def SharesWrongUptoSaid : Prop := sharesWrongUptoRow.holds Try.pinned (OpenSpec.upto sharesWrongSpec)

/-- 'observatorylaw07.SharesAdd', WHERE WHAT IT READS IS OF BULK AT MOST 1048576: true; the input reads as it did. -/
def sharesAddUptoRow : OpenClaim := { program := "ythkagcelpdcfkaa", sum := "434a2d27d33e2e7fa8587d476c3c6abce0924fa9c1ab01722067e72fb081bb61", func := "observatory/observatorylaw07.SharesAdd", spec := "sharesAdd", unfollowed := true, recurses := true, apart := false, narrowed := true }
def SharesAddUptoSaid : Prop := sharesAddUptoRow.holds Try.pinned (OpenSpec.upto sharesAddSpec)

/-- 'observatorylaw07.SharesHide', WHERE WHAT IT READS IS OF BULK AT MOST 1048576: true; the input reads as it did. -/
def sharesHideUptoRow : OpenClaim := { program := "ythkagcelpdcfkaa", sum := "434a2d27d33e2e7fa8587d476c3c6abce0924fa9c1ab01722067e72fb081bb61", func := "observatory/observatorylaw07.SharesHide", spec := "sharesHide", unfollowed := true, recurses := true, apart := false, narrowed := true }
def SharesHideUptoSaid : Prop := sharesHideUptoRow.holds Try.pinned (OpenSpec.upto sharesHideSpec)

end Rows
end Go.Proofs.Ythkagcelpdcfkaa
