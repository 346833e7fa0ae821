/-
  No cell of these rows narrows 'for every input' (looked for: loops, veiled, ifaces, maps, wideKeys, modest, calm, conditions, laid).
  DERIVED. THE GIVEN ROWS OF THIS SEAT. 8 by the template 'for every input the law returns true; each argument reads behind the call as it read before'; 0 by the template 'total and deterministic' (their statements: YtomcjohdenjljaaTotals.lean).
  GIVEN WITH THE SEED: the statements are not yours to turn. If you find one false, say at which input.
  Laid BY PROGRAM, IN A SANDBOX (cutbox-rows.mjs): the forced cells as the released guide's own fill.sh prints them over the translation 7046212449045b61… (all of the seat's roots in one cut). By AI agents, Wed Nov 11 2026. No macro, syntax, notation, axiom, sorry.
-/
import Derived.Test.YtomcjohdenjljaaChecked
import GoSem.Claim
import GoSem.ClaimJoined
import GoSem.ClaimMapViews
import Derived.JoinedTies
import Derived.KernelRfl
namespace Go.Proofs.Ytomcjohdenjljaa
/- THE CELL 'sum', in the pinned program and in every row, IS THE sha256 OF THE DUMP (.gsa) THAT YtomcjohdenjljaaProg.lean LOADS. Nothing in Lean hashes anything: it is a label: what it is worth is what the hold of that sum in a sandbox is worth. -/
noncomputable def Try.pinned : Pinned := { name := "ytomcjohdenjljaa", sum := "7046212449045b615039a5a0f254e3e102f0098a4860442b35480fa652ad341e", checked := Try.checked }
namespace Rows
def none {H : Type} : Left H := { results := [], args := [] }

/-- 'observatorylaw55.DiskMatchesReference': WHATEVER THE INPUT: true; the input reads as it did. -/
def diskMatchesReferenceSpec : ChangeSpec := { name := "diskMatchesReference", fn := fun _ => fun
  | [d1, d2, d3] => { results := [.lit (.bool true)], args := [d1, d2, d3] }
  | _ => none }
def diskMatchesReferenceRow : OpenClaim := { program := "ytomcjohdenjljaa", sum := "7046212449045b615039a5a0f254e3e102f0098a4860442b35480fa652ad341e", func := "observatory/observatorylaw55.DiskMatchesReference", spec := "diskMatchesReference", apart := false }
def DiskMatchesReferenceSaid : Prop := diskMatchesReferenceRow.holds Try.pinned (OpenSpec.ofChange diskMatchesReferenceSpec)

/-- ITS FALSE NEIGHBOUR: 'it returns false'. Refute it at one input. -/
def diskMatchesReferenceWrong : ChangeSpec := { name := "diskMatchesReference", fn := fun _ => fun
  | [d1, d2, d3] => { results := [.lit (.bool false)], args := [d1, d2, d3] }
  | _ => none }
def DiskMatchesReferenceWrongFalsely : Prop := diskMatchesReferenceRow.holds Try.pinned (OpenSpec.ofChange diskMatchesReferenceWrong)

/-- 'observatorylaw55.DiskStable': WHATEVER THE INPUT: true; the input reads as it did. -/
def diskStableSpec : ChangeSpec := { name := "diskStable", fn := fun _ => fun
  | [d1, d2, d3, d4, d5] => { results := [.lit (.bool true)], args := [d1, d2, d3, d4, d5] }
  | _ => none }
def diskStableRow : OpenClaim := { program := "ytomcjohdenjljaa", sum := "7046212449045b615039a5a0f254e3e102f0098a4860442b35480fa652ad341e", func := "observatory/observatorylaw55.DiskStable", spec := "diskStable", apart := false }
def DiskStableSaid : Prop := diskStableRow.holds Try.pinned (OpenSpec.ofChange diskStableSpec)

/-- ITS FALSE NEIGHBOUR: 'it returns false'. Refute it at one input. -/
def diskStableWrong : ChangeSpec := { name := "diskStable", fn := fun _ => fun
  | [d1, d2, d3, d4, d5] => { results := [.lit (.bool false)], args := [d1, d2, d3, d4, d5] }
  | _ => none }
def DiskStableWrongFalsely : Prop := diskStableRow.holds Try.pinned (OpenSpec.ofChange diskStableWrong)

/-- 'observatorylaw55.DiskPrefix': WHATEVER THE INPUT: true; the input reads as it did. -/
def diskPrefixSpec : ChangeSpec := { name := "diskPrefix", fn := fun _ => fun
  | [d1, d2, d3, d4, d5] => { results := [.lit (.bool true)], args := [d1, d2, d3, d4, d5] }
  | _ => none }
def diskPrefixRow : OpenClaim := { program := "ytomcjohdenjljaa", sum := "7046212449045b615039a5a0f254e3e102f0098a4860442b35480fa652ad341e", func := "observatory/observatorylaw55.DiskPrefix", spec := "diskPrefix", apart := false }
def DiskPrefixSaid : Prop := diskPrefixRow.holds Try.pinned (OpenSpec.ofChange diskPrefixSpec)

/-- ITS FALSE NEIGHBOUR: 'it returns false'. Refute it at one input. -/
def diskPrefixWrong : ChangeSpec := { name := "diskPrefix", fn := fun _ => fun
  | [d1, d2, d3, d4, d5] => { results := [.lit (.bool false)], args := [d1, d2, d3, d4, d5] }
  | _ => none }
def DiskPrefixWrongFalsely : Prop := diskPrefixRow.holds Try.pinned (OpenSpec.ofChange diskPrefixWrong)

/-- 'observatorylaw55.DiskReads': WHATEVER THE INPUT: true; the input reads as it did. -/
def diskReadsSpec : ChangeSpec := { name := "diskReads", fn := fun _ => fun
  | [d1, d2, d3] => { results := [.lit (.bool true)], args := [d1, d2, d3] }
  | _ => none }
def diskReadsRow : OpenClaim := { program := "ytomcjohdenjljaa", sum := "7046212449045b615039a5a0f254e3e102f0098a4860442b35480fa652ad341e", func := "observatory/observatorylaw55.DiskReads", spec := "diskReads", apart := false }
def DiskReadsSaid : Prop := diskReadsRow.holds Try.pinned (OpenSpec.ofChange diskReadsSpec)

/-- ITS FALSE NEIGHBOUR: 'it returns false'. Refute it at one input. -/
def diskReadsWrong : ChangeSpec := { name := "diskReads", fn := fun _ => fun
  | [d1, d2, d3] => { results := [.lit (.bool false)], args := [d1, d2, d3] }
  | _ => none }
def DiskReadsWrongFalsely : Prop := diskReadsRow.holds Try.pinned (OpenSpec.ofChange diskReadsWrong)

/-- 'observatorylaw55.DiskAll': WHATEVER THE INPUT: true; the input reads as it did. -/
def diskAllSpec : ChangeSpec := { name := "diskAll", fn := fun _ => fun
  | [d1, d2, d3, d4] => { results := [.lit (.bool true)], args := [d1, d2, d3, d4] }
  | _ => none }
def diskAllRow : OpenClaim := { program := "ytomcjohdenjljaa", sum := "7046212449045b615039a5a0f254e3e102f0098a4860442b35480fa652ad341e", func := "observatory/observatorylaw55.DiskAll", spec := "diskAll", apart := false }
def DiskAllSaid : Prop := diskAllRow.holds Try.pinned (OpenSpec.ofChange diskAllSpec)

/-- ITS FALSE NEIGHBOUR: 'it returns false'. Refute it at one input. -/
def diskAllWrong : ChangeSpec := { name := "diskAll", fn := fun _ => fun
  | [d1, d2, d3, d4] => { results := [.lit (.bool false)], args := [d1, d2, d3, d4] }
  | _ => none }
def DiskAllWrongFalsely : Prop := diskAllRow.holds Try.pinned (OpenSpec.ofChange diskAllWrong)

/-- 'observatorylaw55.DiskArmed': WHATEVER THE INPUT: true; the input reads as it did. -/
def diskArmedSpec : ChangeSpec := { name := "diskArmed", fn := fun _ => fun
  | [d1, d2, d3, d4, d5, d6] => { results := [.lit (.bool true)], args := [d1, d2, d3, d4, d5, d6] }
  | _ => none }
def diskArmedRow : OpenClaim := { program := "ytomcjohdenjljaa", sum := "7046212449045b615039a5a0f254e3e102f0098a4860442b35480fa652ad341e", func := "observatory/observatorylaw55.DiskArmed", spec := "diskArmed", apart := false }
def DiskArmedSaid : Prop := diskArmedRow.holds Try.pinned (OpenSpec.ofChange diskArmedSpec)

/-- ITS FALSE NEIGHBOUR: 'it returns false'. Refute it at one input. -/
def diskArmedWrong : ChangeSpec := { name := "diskArmed", fn := fun _ => fun
  | [d1, d2, d3, d4, d5, d6] => { results := [.lit (.bool false)], args := [d1, d2, d3, d4, d5, d6] }
  | _ => none }
def DiskArmedWrongFalsely : Prop := diskArmedRow.holds Try.pinned (OpenSpec.ofChange diskArmedWrong)

/-- 'observatorylaw55.DiskDamage': WHATEVER THE INPUT: true; the input reads as it did. -/
def diskDamageSpec : ChangeSpec := { name := "diskDamage", fn := fun _ => fun
  | [d1, d2, d3, d4, d5] => { results := [.lit (.bool true)], args := [d1, d2, d3, d4, d5] }
  | _ => none }
def diskDamageRow : OpenClaim := { program := "ytomcjohdenjljaa", sum := "7046212449045b615039a5a0f254e3e102f0098a4860442b35480fa652ad341e", func := "observatory/observatorylaw55.DiskDamage", spec := "diskDamage", apart := false }
def DiskDamageSaid : Prop := diskDamageRow.holds Try.pinned (OpenSpec.ofChange diskDamageSpec)

/-- ITS FALSE NEIGHBOUR: 'it returns false'. Refute it at one input. -/
def diskDamageWrong : ChangeSpec := { name := "diskDamage", fn := fun _ => fun
  | [d1, d2, d3, d4, d5] => { results := [.lit (.bool false)], args := [d1, d2, d3, d4, d5] }
  | _ => none }
def DiskDamageWrongFalsely : Prop := diskDamageRow.holds Try.pinned (OpenSpec.ofChange diskDamageWrong)

/-- 'observatorylaw55.DiskRaw': WHATEVER THE INPUT: true; the input reads as it did. -/
def diskRawSpec : ChangeSpec := { name := "diskRaw", fn := fun _ => fun
  | [d1, d2, d3] => { results := [.lit (.bool true)], args := [d1, d2, d3] }
  | _ => none }
def diskRawRow : OpenClaim := { program := "ytomcjohdenjljaa", sum := "7046212449045b615039a5a0f254e3e102f0098a4860442b35480fa652ad341e", func := "observatory/observatorylaw55.DiskRaw", spec := "diskRaw", apart := false }
def DiskRawSaid : Prop := diskRawRow.holds Try.pinned (OpenSpec.ofChange diskRawSpec)

/-- ITS FALSE NEIGHBOUR: 'it returns false'. Refute it at one input. -/
def diskRawWrong : ChangeSpec := { name := "diskRaw", fn := fun _ => fun
  | [d1, d2, d3] => { results := [.lit (.bool false)], args := [d1, d2, d3] }
  | _ => none }
def DiskRawWrongFalsely : Prop := diskRawRow.holds Try.pinned (OpenSpec.ofChange diskRawWrong)

/- THE SECOND FORM. 'bulk': how many values and letters a reading holds, each counted each time it is reached (what is shared counts as often as it is met; a slice's spare places count too). A statement '..UptoSaid' is the law's where the arguments, and the package variables that the reading takes, are together of bulk at most 1048576: NARROWER than '..Said'. Prove '..Said' where nothing that the law and all that it calls make is longer than what came in: it says more and counts as full. Else prove '..UptoSaid'. A law counts once. -/
mutual
def uptoBulk {H : Type} : DataW H → Nat
  | .lit (.string bytes) => bytes.length + 1
  | .lit _ => 1
  | .nil => 1
  | .ptr d => uptoBulk d + 1
  | .slice elems spare => uptoBulkAll elems + uptoBulkAll spare + 1
  | .agg parts => uptoBulkAll parts + 1
  | .iface _ d => uptoBulk d + 1
  | .map entries => uptoBulkEntries entries + 1
  | .held _ => 1
def uptoBulkAll {H : Type} : List (DataW H) → Nat
  | [] => 0
  | d :: r => uptoBulk d + uptoBulkAll r
def uptoBulkEntries {H : Type} : List (Lit × DataW H) → Nat
  | [] => 0
  | x :: r => uptoBulkEntry x + uptoBulkEntries r
def uptoBulkEntry {H : Type} : Lit × DataW H → Nat
  | (.string bytes, d) => bytes.length + uptoBulk d + 1
  | (_, d) => uptoBulk d + 1
 end
def uptoSmall : (H : Type) → List (DataW H) → Bool := fun _ ds => decide (uptoBulkAll ds ≤ 1048576)
def OpenSpec.upto (s : _root_.Go.ChangeSpec) : _root_.Go.OpenSpec := { _root_.Go.OpenSpec.ofChange s with cond := some uptoSmall }

/-- 'observatorylaw55.DiskMatchesReference', WHERE WHAT IT READS IS OF BULK AT MOST 1048576: true; the input reads as it did. -/
def diskMatchesReferenceUptoRow : OpenClaim := { program := "ytomcjohdenjljaa", sum := "7046212449045b615039a5a0f254e3e102f0098a4860442b35480fa652ad341e", func := "observatory/observatorylaw55.DiskMatchesReference", spec := "diskMatchesReference", apart := false, narrowed := true }
def DiskMatchesReferenceUptoSaid : Prop := diskMatchesReferenceUptoRow.holds Try.pinned (OpenSpec.upto diskMatchesReferenceSpec)

/-- 'observatorylaw55.DiskStable', WHERE WHAT IT READS IS OF BULK AT MOST 1048576: true; the input reads as it did. -/
def diskStableUptoRow : OpenClaim := { program := "ytomcjohdenjljaa", sum := "7046212449045b615039a5a0f254e3e102f0098a4860442b35480fa652ad341e", func := "observatory/observatorylaw55.DiskStable", spec := "diskStable", apart := false, narrowed := true }
def DiskStableUptoSaid : Prop := diskStableUptoRow.holds Try.pinned (OpenSpec.upto diskStableSpec)

/-- 'observatorylaw55.DiskPrefix', WHERE WHAT IT READS IS OF BULK AT MOST 1048576: true; the input reads as it did. -/
def diskPrefixUptoRow : OpenClaim := { program := "ytomcjohdenjljaa", sum := "7046212449045b615039a5a0f254e3e102f0098a4860442b35480fa652ad341e", func := "observatory/observatorylaw55.DiskPrefix", spec := "diskPrefix", apart := false, narrowed := true }
def DiskPrefixUptoSaid : Prop := diskPrefixUptoRow.holds Try.pinned (OpenSpec.upto diskPrefixSpec)

/-- 'observatorylaw55.DiskReads', WHERE WHAT IT READS IS OF BULK AT MOST 1048576: true; the input reads as it did. -/
def diskReadsUptoRow : OpenClaim := { program := "ytomcjohdenjljaa", sum := "7046212449045b615039a5a0f254e3e102f0098a4860442b35480fa652ad341e", func := "observatory/observatorylaw55.DiskReads", spec := "diskReads", apart := false, narrowed := true }
def DiskReadsUptoSaid : Prop := diskReadsUptoRow.holds Try.pinned (OpenSpec.upto diskReadsSpec)

/-- 'observatorylaw55.DiskAll', WHERE WHAT IT READS IS OF BULK AT MOST 1048576: true; the input reads as it did. -/
def diskAllUptoRow : OpenClaim := { program := "ytomcjohdenjljaa", sum := "7046212449045b615039a5a0f254e3e102f0098a4860442b35480fa652ad341e", func := "observatory/observatorylaw55.DiskAll", spec := "diskAll", apart := false, narrowed := true }
def DiskAllUptoSaid : Prop := diskAllUptoRow.holds Try.pinned (OpenSpec.upto diskAllSpec)

/-- 'observatorylaw55.DiskArmed', WHERE WHAT IT READS IS OF BULK AT MOST 1048576: true; the input reads as it did. -/
def diskArmedUptoRow : OpenClaim := { program := "ytomcjohdenjljaa", sum := "7046212449045b615039a5a0f254e3e102f0098a4860442b35480fa652ad341e", func := "observatory/observatorylaw55.DiskArmed", spec := "diskArmed", apart := false, narrowed := true }
def DiskArmedUptoSaid : Prop := diskArmedUptoRow.holds Try.pinned (OpenSpec.upto diskArmedSpec)

/-- 'observatorylaw55.DiskDamage', WHERE WHAT IT READS IS OF BULK AT MOST 1048576: true; the input reads as it did. -/
def diskDamageUptoRow : OpenClaim := { program := "ytomcjohdenjljaa", sum := "7046212449045b615039a5a0f254e3e102f0098a4860442b35480fa652ad341e", func := "observatory/observatorylaw55.DiskDamage", spec := "diskDamage", apart := false, narrowed := true }
def DiskDamageUptoSaid : Prop := diskDamageUptoRow.holds Try.pinned (OpenSpec.upto diskDamageSpec)

/-- 'observatorylaw55.DiskRaw', WHERE WHAT IT READS IS OF BULK AT MOST 1048576: true; the input reads as it did. -/
def diskRawUptoRow : OpenClaim := { program := "ytomcjohdenjljaa", sum := "7046212449045b615039a5a0f254e3e102f0098a4860442b35480fa652ad341e", func := "observatory/observatorylaw55.DiskRaw", spec := "diskRaw", apart := false, narrowed := true }
def DiskRawUptoSaid : Prop := diskRawUptoRow.holds Try.pinned (OpenSpec.upto diskRawSpec)

end Rows
end Go.Proofs.Ytomcjohdenjljaa
