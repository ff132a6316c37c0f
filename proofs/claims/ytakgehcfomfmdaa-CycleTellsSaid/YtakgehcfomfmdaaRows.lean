/-
  No cell of these rows narrows 'for every input' (looked for: loops, veiled, ifaces, maps, wideKeys, modest, calm, conditions, laid).
  DERIVED. THE GIVEN ROWS OF THIS SEAT. 7 by the template 'for every input the law returns true; each argument reads behind the call as it read before'; 0 by the template 'total and deterministic' (their statements: YtakgehcfomfmdaaTotals.lean).
  GIVEN WITH THE SEED: the statements are not yours to turn. If you find one false, say at which input.
  Laid BY PROGRAM, IN A SANDBOX (cutbox-rows.mjs): the forced cells as the released guide's own fill.sh prints them over the translation 67dbdb2b97953dfc… (all of the seat's roots in one cut). By AI agents, Wed Nov 11 2026. No macro, syntax, notation, axiom, sorry.
-/
import Derived.Test.YtakgehcfomfmdaaChecked
import GoSem.Claim
import GoSem.ClaimJoined
import GoSem.ClaimMapViews
import Derived.JoinedTies
import Derived.KernelRfl
namespace Go.Proofs.Ytakgehcfomfmdaa
/- THE CELL 'sum', in the pinned program and in every row, IS THE sha256 OF THE DUMP (.gsa) THAT YtakgehcfomfmdaaProg.lean LOADS. Nothing in Lean hashes anything: it is a label: what it is worth is what the hold of that sum in a sandbox is worth. -/
noncomputable def Try.pinned : Pinned := { name := "ytakgehcfomfmdaa", sum := "67dbdb2b97953dfc9db0909f12f222049daec0b1182bc84a69e69009c295696d", checked := Try.checked }
namespace Rows
def none {H : Type} : Left H := { results := [], args := [] }

/-- 'honeycomblaw17.CycleTells': WHATEVER THE INPUT: true; the input reads as it did. -/
def cycleTellsSpec : ChangeSpec := { name := "cycleTells", fn := fun _ => fun
  | [d1, d2] => { results := [.lit (.bool true)], args := [d1, d2] }
  | _ => none }
def cycleTellsRow : OpenClaim := { program := "ytakgehcfomfmdaa", sum := "67dbdb2b97953dfc9db0909f12f222049daec0b1182bc84a69e69009c295696d", func := "honeycomb/honeycomblaw17.CycleTells", spec := "cycleTells", unfollowed := true, recurses := true, apart := false }
def CycleTellsSaid : Prop := cycleTellsRow.holds Try.pinned (OpenSpec.ofChange cycleTellsSpec)

/-- ITS FALSE NEIGHBOUR: 'it returns false'. Refute it at one input. -/
def cycleTellsWrong : ChangeSpec := { name := "cycleTells", fn := fun _ => fun
  | [d1, d2] => { results := [.lit (.bool false)], args := [d1, d2] }
  | _ => none }
def CycleTellsWrongFalsely : Prop := cycleTellsRow.holds Try.pinned (OpenSpec.ofChange cycleTellsWrong)

/-- 'honeycomblaw17.CycleBroken': WHATEVER THE INPUT: true; the input reads as it did. -/
def cycleBrokenSpec : ChangeSpec := { name := "cycleBroken", fn := fun _ => fun
  | [d1, d2] => { results := [.lit (.bool true)], args := [d1, d2] }
  | _ => none }
def cycleBrokenRow : OpenClaim := { program := "ytakgehcfomfmdaa", sum := "67dbdb2b97953dfc9db0909f12f222049daec0b1182bc84a69e69009c295696d", func := "honeycomb/honeycomblaw17.CycleBroken", spec := "cycleBroken", unfollowed := true, recurses := true, apart := false }
def CycleBrokenSaid : Prop := cycleBrokenRow.holds Try.pinned (OpenSpec.ofChange cycleBrokenSpec)

/-- ITS FALSE NEIGHBOUR: 'it returns false'. Refute it at one input. -/
def cycleBrokenWrong : ChangeSpec := { name := "cycleBroken", fn := fun _ => fun
  | [d1, d2] => { results := [.lit (.bool false)], args := [d1, d2] }
  | _ => none }
def CycleBrokenWrongFalsely : Prop := cycleBrokenRow.holds Try.pinned (OpenSpec.ofChange cycleBrokenWrong)

/-- 'honeycomblaw17.CycleRing': WHATEVER THE INPUT: true; the input reads as it did. -/
def cycleRingSpec : ChangeSpec := { name := "cycleRing", fn := fun _ => fun
  | [d1, d2] => { results := [.lit (.bool true)], args := [d1, d2] }
  | _ => none }
def cycleRingRow : OpenClaim := { program := "ytakgehcfomfmdaa", sum := "67dbdb2b97953dfc9db0909f12f222049daec0b1182bc84a69e69009c295696d", func := "honeycomb/honeycomblaw17.CycleRing", spec := "cycleRing", unfollowed := true, recurses := true, apart := false }
def CycleRingSaid : Prop := cycleRingRow.holds Try.pinned (OpenSpec.ofChange cycleRingSpec)

/-- ITS FALSE NEIGHBOUR: 'it returns false'. Refute it at one input. -/
def cycleRingWrong : ChangeSpec := { name := "cycleRing", fn := fun _ => fun
  | [d1, d2] => { results := [.lit (.bool false)], args := [d1, d2] }
  | _ => none }
def CycleRingWrongFalsely : Prop := cycleRingRow.holds Try.pinned (OpenSpec.ofChange cycleRingWrong)

/-- 'honeycomblaw17.CycleAlike': WHATEVER THE INPUT: true; the input reads as it did. -/
def cycleAlikeSpec : ChangeSpec := { name := "cycleAlike", fn := fun _ => fun
  | [d1, d2] => { results := [.lit (.bool true)], args := [d1, d2] }
  | _ => none }
def cycleAlikeRow : OpenClaim := { program := "ytakgehcfomfmdaa", sum := "67dbdb2b97953dfc9db0909f12f222049daec0b1182bc84a69e69009c295696d", func := "honeycomb/honeycomblaw17.CycleAlike", spec := "cycleAlike", unfollowed := true, recurses := true, apart := false }
def CycleAlikeSaid : Prop := cycleAlikeRow.holds Try.pinned (OpenSpec.ofChange cycleAlikeSpec)

/-- ITS FALSE NEIGHBOUR: 'it returns false'. Refute it at one input. -/
def cycleAlikeWrong : ChangeSpec := { name := "cycleAlike", fn := fun _ => fun
  | [d1, d2] => { results := [.lit (.bool false)], args := [d1, d2] }
  | _ => none }
def CycleAlikeWrongFalsely : Prop := cycleAlikeRow.holds Try.pinned (OpenSpec.ofChange cycleAlikeWrong)

/-- 'honeycomblaw17.CycleMore': WHATEVER THE INPUT: true; the input reads as it did. -/
def cycleMoreSpec : ChangeSpec := { name := "cycleMore", fn := fun _ => fun
  | [d1, d2, d3] => { results := [.lit (.bool true)], args := [d1, d2, d3] }
  | _ => none }
def cycleMoreRow : OpenClaim := { program := "ytakgehcfomfmdaa", sum := "67dbdb2b97953dfc9db0909f12f222049daec0b1182bc84a69e69009c295696d", func := "honeycomb/honeycomblaw17.CycleMore", spec := "cycleMore", unfollowed := true, recurses := true, apart := false }
def CycleMoreSaid : Prop := cycleMoreRow.holds Try.pinned (OpenSpec.ofChange cycleMoreSpec)

/-- ITS FALSE NEIGHBOUR: 'it returns false'. Refute it at one input. -/
def cycleMoreWrong : ChangeSpec := { name := "cycleMore", fn := fun _ => fun
  | [d1, d2, d3] => { results := [.lit (.bool false)], args := [d1, d2, d3] }
  | _ => none }
def CycleMoreWrongFalsely : Prop := cycleMoreRow.holds Try.pinned (OpenSpec.ofChange cycleMoreWrong)

/-- 'honeycomblaw17.CycleNone': WHATEVER THE INPUT: true; the input reads as it did. -/
def cycleNoneSpec : ChangeSpec := { name := "cycleNone", fn := fun _ => fun
  | [d1, d2] => { results := [.lit (.bool true)], args := [d1, d2] }
  | _ => none }
def cycleNoneRow : OpenClaim := { program := "ytakgehcfomfmdaa", sum := "67dbdb2b97953dfc9db0909f12f222049daec0b1182bc84a69e69009c295696d", func := "honeycomb/honeycomblaw17.CycleNone", spec := "cycleNone", unfollowed := true, recurses := true, apart := false }
def CycleNoneSaid : Prop := cycleNoneRow.holds Try.pinned (OpenSpec.ofChange cycleNoneSpec)

/-- ITS FALSE NEIGHBOUR: 'it returns false'. Refute it at one input. -/
def cycleNoneWrong : ChangeSpec := { name := "cycleNone", fn := fun _ => fun
  | [d1, d2] => { results := [.lit (.bool false)], args := [d1, d2] }
  | _ => none }
def CycleNoneWrongFalsely : Prop := cycleNoneRow.holds Try.pinned (OpenSpec.ofChange cycleNoneWrong)

/-- 'honeycomblaw17.CyclePair': WHATEVER THE INPUT: true; the input reads as it did. -/
def cyclePairSpec : ChangeSpec := { name := "cyclePair", fn := fun _ => fun
  | [d1, d2, d3] => { results := [.lit (.bool true)], args := [d1, d2, d3] }
  | _ => none }
def cyclePairRow : OpenClaim := { program := "ytakgehcfomfmdaa", sum := "67dbdb2b97953dfc9db0909f12f222049daec0b1182bc84a69e69009c295696d", func := "honeycomb/honeycomblaw17.CyclePair", spec := "cyclePair", unfollowed := true, recurses := true, apart := false }
def CyclePairSaid : Prop := cyclePairRow.holds Try.pinned (OpenSpec.ofChange cyclePairSpec)

/-- ITS FALSE NEIGHBOUR: 'it returns false'. Refute it at one input. -/
def cyclePairWrong : ChangeSpec := { name := "cyclePair", fn := fun _ => fun
  | [d1, d2, d3] => { results := [.lit (.bool false)], args := [d1, d2, d3] }
  | _ => none }
def CyclePairWrongFalsely : Prop := cyclePairRow.holds Try.pinned (OpenSpec.ofChange cyclePairWrong)

/- THE SECOND FORM. 'bulk': how many values and letters a reading holds, each counted each time it is reached (what is shared counts as often as it is met; a slice's spare places count too). A statement '..UptoSaid' is the law's where the arguments, and the package variables that the reading takes, are together of bulk at most 1048576: NARROWER than '..Said'. Prove '..Said' where nothing that the law and all that it calls make is longer than what came in: it says more and counts as full. Else prove '..UptoSaid'. A law counts once. -/
mutual
def uptoBulk {H : Type} : DataW H → Nat
  | .lit (.string bytes) => bytes.length + 1
  | .lit _ => 1
  | .nil => 1
  | .ptr d => uptoBulk d + 1
  | .slice elems spare => uptoBulkAll elems + uptoBulkAll spare + 1
  | .agg parts => uptoBulkAll parts + 1
  | .iface _ d => uptoBulk d + 1
  | .map entries => uptoBulkEntries entries + 1
  | .held _ => 1
def uptoBulkAll {H : Type} : List (DataW H) → Nat
  | [] => 0
  | d :: r => uptoBulk d + uptoBulkAll r
def uptoBulkEntries {H : Type} : List (Lit × DataW H) → Nat
  | [] => 0
  | x :: r => uptoBulkEntry x + uptoBulkEntries r
def uptoBulkEntry {H : Type} : Lit × DataW H → Nat
  | (.string bytes, d) => bytes.length + uptoBulk d + 1
  | (_, d) => uptoBulk d + 1
 end
def uptoSmall : (H : Type) → List (DataW H) → Bool := fun _ ds => decide (uptoBulkAll ds ≤ 1048576)
def OpenSpec.upto (s : _root_.Go.ChangeSpec) : _root_.Go.OpenSpec := { _root_.Go.OpenSpec.ofChange s with cond := some uptoSmall }

/-- 'honeycomblaw17.CycleTells', WHERE WHAT IT READS IS OF BULK AT MOST 1048576: true; the input reads as it did. -/
def cycleTellsUptoRow : OpenClaim := { program := "ytakgehcfomfmdaa", sum := "67dbdb2b97953dfc9db0909f12f222049daec0b1182bc84a69e69009c295696d", func := "honeycomb/honeycomblaw17.CycleTells", spec := "cycleTells", unfollowed := true, recurses := true, apart := false, narrowed := true }
def CycleTellsUptoSaid : Prop := cycleTellsUptoRow.holds Try.pinned (OpenSpec.upto cycleTellsSpec)

/-- 'honeycomblaw17.CycleBroken', WHERE WHAT IT READS IS OF BULK AT MOST 1048576: true; the input reads as it did. -/
def cycleBrokenUptoRow : OpenClaim := { program := "ytakgehcfomfmdaa", sum := "67dbdb2b97953dfc9db0909f12f222049daec0b1182bc84a69e69009c295696d", func := "honeycomb/honeycomblaw17.CycleBroken", spec := "cycleBroken", unfollowed := true, recurses := true, apart := false, narrowed := true }
def CycleBrokenUptoSaid : Prop := cycleBrokenUptoRow.holds Try.pinned (OpenSpec.upto cycleBrokenSpec)

/-- 'honeycomblaw17.CycleRing', WHERE WHAT IT READS IS OF BULK AT MOST 1048576: true; the input reads as it did. -/
def cycleRingUptoRow : OpenClaim := { program := "ytakgehcfomfmdaa", sum := "67dbdb2b97953dfc9db0909f12f222049daec0b1182bc84a69e69009c295696d", func := "honeycomb/honeycomblaw17.CycleRing", spec := "cycleRing", unfollowed := true, recurses := true, apart := false, narrowed := true }
def CycleRingUptoSaid : Prop := cycleRingUptoRow.holds Try.pinned (OpenSpec.upto cycleRingSpec)

/-- 'honeycomblaw17.CycleAlike', WHERE WHAT IT READS IS OF BULK AT MOST 1048576: true; the input reads as it did. -/
def cycleAlikeUptoRow : OpenClaim := { program := "ytakgehcfomfmdaa", sum := "67dbdb2b97953dfc9db0909f12f222049daec0b1182bc84a69e69009c295696d", func := "honeycomb/honeycomblaw17.CycleAlike", spec := "cycleAlike", unfollowed := true, recurses := true, apart := false, narrowed := true }
def CycleAlikeUptoSaid : Prop := cycleAlikeUptoRow.holds Try.pinned (OpenSpec.upto cycleAlikeSpec)

/-- 'honeycomblaw17.CycleMore', WHERE WHAT IT READS IS OF BULK AT MOST 1048576: true; the input reads as it did. -/
def cycleMoreUptoRow : OpenClaim := { program := "ytakgehcfomfmdaa", sum := "67dbdb2b97953dfc9db0909f12f222049daec0b1182bc84a69e69009c295696d", func := "honeycomb/honeycomblaw17.CycleMore", spec := "cycleMore", unfollowed := true, recurses := true, apart := false, narrowed := true }
def CycleMoreUptoSaid : Prop := cycleMoreUptoRow.holds Try.pinned (OpenSpec.upto cycleMoreSpec)

/-- 'honeycomblaw17.CycleNone', WHERE WHAT IT READS IS OF BULK AT MOST 1048576: true; the input reads as it did. -/
def cycleNoneUptoRow : OpenClaim := { program := "ytakgehcfomfmdaa", sum := "67dbdb2b97953dfc9db0909f12f222049daec0b1182bc84a69e69009c295696d", func := "honeycomb/honeycomblaw17.CycleNone", spec := "cycleNone", unfollowed := true, recurses := true, apart := false, narrowed := true }
def CycleNoneUptoSaid : Prop := cycleNoneUptoRow.holds Try.pinned (OpenSpec.upto cycleNoneSpec)

/-- 'honeycomblaw17.CyclePair', WHERE WHAT IT READS IS OF BULK AT MOST 1048576: true; the input reads as it did. -/
def cyclePairUptoRow : OpenClaim := { program := "ytakgehcfomfmdaa", sum := "67dbdb2b97953dfc9db0909f12f222049daec0b1182bc84a69e69009c295696d", func := "honeycomb/honeycomblaw17.CyclePair", spec := "cyclePair", unfollowed := true, recurses := true, apart := false, narrowed := true }
def CyclePairUptoSaid : Prop := cyclePairUptoRow.holds Try.pinned (OpenSpec.upto cyclePairSpec)

end Rows
end Go.Proofs.Ytakgehcfomfmdaa
