/-
  No cell of these rows narrows 'for every input' (looked for: loops, veiled, ifaces, maps, wideKeys, modest, calm, conditions, laid).
  DERIVED. THE GIVEN ROWS OF THIS SEAT. 7 by the template 'for every input the law returns true; each argument reads behind the call as it read before'; 0 by the template 'total and deterministic' (their statements: YtfjdnoonediibaaTotals.lean).
  GIVEN WITH THE SEED: the statements are not yours to turn. If you find one false, say at which input.
  Laid BY PROGRAM, IN A SANDBOX (cutbox-rows.mjs): the forced cells as the released guide's own fill.sh prints them over the translation 8b4efa1c248b4a74… (all of the seat's roots in one cut). By AI agents, Wed Nov 11 2026. No macro, syntax, notation, axiom, sorry.
-/
import Derived.Test.YtfjdnoonediibaaChecked
import GoSem.Claim
import GoSem.ClaimJoined
import GoSem.ClaimMapViews
import Derived.JoinedTies
import Derived.KernelRfl
namespace Go.Proofs.Ytfjdnoonediibaa
/- THE CELL 'sum', in the pinned program and in every row, IS THE sha256 OF THE DUMP (.gsa) THAT YtfjdnoonediibaaProg.lean LOADS. Nothing in Lean hashes anything: it is a label: what it is worth is what the hold of that sum in a sandbox is worth. -/
noncomputable def Try.pinned : Pinned := { name := "ytfjdnoonediibaa", sum := "8b4efa1c248b4a74e25b6a85e52f2f08d9db862f5c2a252ba9316d9b40357b8d", checked := Try.checked }
namespace Rows
def none {H : Type} : Left H := { results := [], args := [] }

/-- 'honeycomblaw2.PackCuts': WHATEVER THE INPUT: true; the input reads as it did. -/
def packCutsSpec : ChangeSpec := { name := "packCuts", fn := fun _ => fun
  | [d1, d2, d3] => { results := [.lit (.bool true)], args := [d1, d2, d3] }
  | _ => none }
def packCutsRow : OpenClaim := { program := "ytfjdnoonediibaa", sum := "8b4efa1c248b4a74e25b6a85e52f2f08d9db862f5c2a252ba9316d9b40357b8d", func := "honeycomb/honeycomblaw2.PackCuts", spec := "packCuts", unfollowed := true, recurses := true, apart := false }
def PackCutsSaid : Prop := packCutsRow.holds Try.pinned (OpenSpec.ofChange packCutsSpec)

/-- ITS FALSE NEIGHBOUR: 'it returns false'. Refute it at one input. -/
def packCutsWrong : ChangeSpec := { name := "packCuts", fn := fun _ => fun
  | [d1, d2, d3] => { results := [.lit (.bool false)], args := [d1, d2, d3] }
  | _ => none }
def PackCutsWrongFalsely : Prop := packCutsRow.holds Try.pinned (OpenSpec.ofChange packCutsWrong)

/-- 'honeycomblaw2.PackTexts': WHATEVER THE INPUT: true; the input reads as it did. -/
def packTextsSpec : ChangeSpec := { name := "packTexts", fn := fun _ => fun
  | [d] => { results := [.lit (.bool true)], args := [d] }
  | _ => none }
def packTextsRow : OpenClaim := { program := "ytfjdnoonediibaa", sum := "8b4efa1c248b4a74e25b6a85e52f2f08d9db862f5c2a252ba9316d9b40357b8d", func := "honeycomb/honeycomblaw2.PackTexts", spec := "packTexts", unfollowed := true, recurses := true, apart := false }
def PackTextsSaid : Prop := packTextsRow.holds Try.pinned (OpenSpec.ofChange packTextsSpec)

/-- ITS FALSE NEIGHBOUR: 'it returns false'. Refute it at one input. -/
def packTextsWrong : ChangeSpec := { name := "packTexts", fn := fun _ => fun
  | [d] => { results := [.lit (.bool false)], args := [d] }
  | _ => none }
def PackTextsWrongFalsely : Prop := packTextsRow.holds Try.pinned (OpenSpec.ofChange packTextsWrong)

/-- 'honeycomblaw2.PackBounds': WHATEVER THE INPUT: true; the input reads as it did. -/
def packBoundsSpec : ChangeSpec := { name := "packBounds", fn := fun _ => fun
  | [d] => { results := [.lit (.bool true)], args := [d] }
  | _ => none }
def packBoundsRow : OpenClaim := { program := "ytfjdnoonediibaa", sum := "8b4efa1c248b4a74e25b6a85e52f2f08d9db862f5c2a252ba9316d9b40357b8d", func := "honeycomb/honeycomblaw2.PackBounds", spec := "packBounds", unfollowed := true, recurses := true, apart := false }
def PackBoundsSaid : Prop := packBoundsRow.holds Try.pinned (OpenSpec.ofChange packBoundsSpec)

/-- ITS FALSE NEIGHBOUR: 'it returns false'. Refute it at one input. -/
def packBoundsWrong : ChangeSpec := { name := "packBounds", fn := fun _ => fun
  | [d] => { results := [.lit (.bool false)], args := [d] }
  | _ => none }
def PackBoundsWrongFalsely : Prop := packBoundsRow.holds Try.pinned (OpenSpec.ofChange packBoundsWrong)

/-- 'honeycomblaw2.PackHalves': WHATEVER THE INPUT: true; the input reads as it did. -/
def packHalvesSpec : ChangeSpec := { name := "packHalves", fn := fun _ => fun
  | [d] => { results := [.lit (.bool true)], args := [d] }
  | _ => none }
def packHalvesRow : OpenClaim := { program := "ytfjdnoonediibaa", sum := "8b4efa1c248b4a74e25b6a85e52f2f08d9db862f5c2a252ba9316d9b40357b8d", func := "honeycomb/honeycomblaw2.PackHalves", spec := "packHalves", unfollowed := true, recurses := true, apart := false }
def PackHalvesSaid : Prop := packHalvesRow.holds Try.pinned (OpenSpec.ofChange packHalvesSpec)

/-- ITS FALSE NEIGHBOUR: 'it returns false'. Refute it at one input. -/
def packHalvesWrong : ChangeSpec := { name := "packHalves", fn := fun _ => fun
  | [d] => { results := [.lit (.bool false)], args := [d] }
  | _ => none }
def PackHalvesWrongFalsely : Prop := packHalvesRow.holds Try.pinned (OpenSpec.ofChange packHalvesWrong)

/-- 'honeycomblaw2.PackNothing': WHATEVER THE INPUT: true; the input reads as it did. -/
def packNothingSpec : ChangeSpec := { name := "packNothing", fn := fun _ => fun
  | [d] => { results := [.lit (.bool true)], args := [d] }
  | _ => none }
def packNothingRow : OpenClaim := { program := "ytfjdnoonediibaa", sum := "8b4efa1c248b4a74e25b6a85e52f2f08d9db862f5c2a252ba9316d9b40357b8d", func := "honeycomb/honeycomblaw2.PackNothing", spec := "packNothing", unfollowed := true, recurses := true, apart := false }
def PackNothingSaid : Prop := packNothingRow.holds Try.pinned (OpenSpec.ofChange packNothingSpec)

/-- ITS FALSE NEIGHBOUR: 'it returns false'. Refute it at one input. -/
def packNothingWrong : ChangeSpec := { name := "packNothing", fn := fun _ => fun
  | [d] => { results := [.lit (.bool false)], args := [d] }
  | _ => none }
def PackNothingWrongFalsely : Prop := packNothingRow.holds Try.pinned (OpenSpec.ofChange packNothingWrong)

/-- 'honeycomblaw2.PackTells': WHATEVER THE INPUT: true; the input reads as it did. -/
def packTellsSpec : ChangeSpec := { name := "packTells", fn := fun _ => fun
  | [d] => { results := [.lit (.bool true)], args := [d] }
  | _ => none }
def packTellsRow : OpenClaim := { program := "ytfjdnoonediibaa", sum := "8b4efa1c248b4a74e25b6a85e52f2f08d9db862f5c2a252ba9316d9b40357b8d", func := "honeycomb/honeycomblaw2.PackTells", spec := "packTells", unfollowed := true, recurses := true, apart := false }
def PackTellsSaid : Prop := packTellsRow.holds Try.pinned (OpenSpec.ofChange packTellsSpec)

/-- ITS FALSE NEIGHBOUR: 'it returns false'. Refute it at one input. -/
def packTellsWrong : ChangeSpec := { name := "packTells", fn := fun _ => fun
  | [d] => { results := [.lit (.bool false)], args := [d] }
  | _ => none }
def PackTellsWrongFalsely : Prop := packTellsRow.holds Try.pinned (OpenSpec.ofChange packTellsWrong)

/-- 'honeycomblaw2.PackJoins': WHATEVER THE INPUT: true; the input reads as it did. -/
def packJoinsSpec : ChangeSpec := { name := "packJoins", fn := fun _ => fun
  | [d1, d2, d3, d4] => { results := [.lit (.bool true)], args := [d1, d2, d3, d4] }
  | _ => none }
def packJoinsRow : OpenClaim := { program := "ytfjdnoonediibaa", sum := "8b4efa1c248b4a74e25b6a85e52f2f08d9db862f5c2a252ba9316d9b40357b8d", func := "honeycomb/honeycomblaw2.PackJoins", spec := "packJoins", unfollowed := true, recurses := true, apart := false }
def PackJoinsSaid : Prop := packJoinsRow.holds Try.pinned (OpenSpec.ofChange packJoinsSpec)

/-- ITS FALSE NEIGHBOUR: 'it returns false'. Refute it at one input. -/
def packJoinsWrong : ChangeSpec := { name := "packJoins", fn := fun _ => fun
  | [d1, d2, d3, d4] => { results := [.lit (.bool false)], args := [d1, d2, d3, d4] }
  | _ => none }
def PackJoinsWrongFalsely : Prop := packJoinsRow.holds Try.pinned (OpenSpec.ofChange packJoinsWrong)

/- THE SECOND FORM. 'bulk': how many values and letters a reading holds, each counted each time it is reached (what is shared counts as often as it is met; a slice's spare places count too). A statement '..UptoSaid' is the law's where the arguments, and the package variables that the reading takes, are together of bulk at most 1048576: NARROWER than '..Said'. Prove '..Said' where nothing that the law and all that it calls make is longer than what came in: it says more and counts as full. Else prove '..UptoSaid'. A law counts once. -/
mutual
def uptoBulk {H : Type} : DataW H → Nat
  | .lit (.string bytes) => bytes.length + 1
  | .lit _ => 1
  | .nil => 1
  | .ptr d => uptoBulk d + 1
  | .slice elems spare => uptoBulkAll elems + uptoBulkAll spare + 1
  | .agg parts => uptoBulkAll parts + 1
  | .iface _ d => uptoBulk d + 1
  | .map entries => uptoBulkEntries entries + 1
  | .held _ => 1
def uptoBulkAll {H : Type} : List (DataW H) → Nat
  | [] => 0
  | d :: r => uptoBulk d + uptoBulkAll r
def uptoBulkEntries {H : Type} : List (Lit × DataW H) → Nat
  | [] => 0
  | x :: r => uptoBulkEntry x + uptoBulkEntries r
def uptoBulkEntry {H : Type} : Lit × DataW H → Nat
  | (.string bytes, d) => bytes.length + uptoBulk d + 1
  | (_, d) => uptoBulk d + 1
 end
def uptoSmall : (H : Type) → List (DataW H) → Bool := fun _ ds => decide (uptoBulkAll ds ≤ 1048576)
def OpenSpec.upto (s : _root_.Go.ChangeSpec) : _root_.Go.OpenSpec := { _root_.Go.OpenSpec.ofChange s with cond := some uptoSmall }

/-- 'honeycomblaw2.PackCuts', WHERE WHAT IT READS IS OF BULK AT MOST 1048576: true; the input reads as it did. -/
def packCutsUptoRow : OpenClaim := { program := "ytfjdnoonediibaa", sum := "8b4efa1c248b4a74e25b6a85e52f2f08d9db862f5c2a252ba9316d9b40357b8d", func := "honeycomb/honeycomblaw2.PackCuts", spec := "packCuts", unfollowed := true, recurses := true, apart := false, narrowed := true }
def PackCutsUptoSaid : Prop := packCutsUptoRow.holds Try.pinned (OpenSpec.upto packCutsSpec)

/-- 'honeycomblaw2.PackTexts', WHERE WHAT IT READS IS OF BULK AT MOST 1048576: true; the input reads as it did. -/
def packTextsUptoRow : OpenClaim := { program := "ytfjdnoonediibaa", sum := "8b4efa1c248b4a74e25b6a85e52f2f08d9db862f5c2a252ba9316d9b40357b8d", func := "honeycomb/honeycomblaw2.PackTexts", spec := "packTexts", unfollowed := true, recurses := true, apart := false, narrowed := true }
def PackTextsUptoSaid : Prop := packTextsUptoRow.holds Try.pinned (OpenSpec.upto packTextsSpec)

/-- 'honeycomblaw2.PackBounds', WHERE WHAT IT READS IS OF BULK AT MOST 1048576: true; the input reads as it did. -/
def packBoundsUptoRow : OpenClaim := { program := "ytfjdnoonediibaa", sum := "8b4efa1c248b4a74e25b6a85e52f2f08d9db862f5c2a252ba9316d9b40357b8d", func := "honeycomb/honeycomblaw2.PackBounds", spec := "packBounds", unfollowed := true, recurses := true, apart := false, narrowed := true }
def PackBoundsUptoSaid : Prop := packBoundsUptoRow.holds Try.pinned (OpenSpec.upto packBoundsSpec)

/-- 'honeycomblaw2.PackHalves', WHERE WHAT IT READS IS OF BULK AT MOST 1048576: true; the input reads as it did. -/
def packHalvesUptoRow : OpenClaim := { program := "ytfjdnoonediibaa", sum := "8b4efa1c248b4a74e25b6a85e52f2f08d9db862f5c2a252ba9316d9b40357b8d", func := "honeycomb/honeycomblaw2.PackHalves", spec := "packHalves", unfollowed := true, recurses := true, apart := false, narrowed := true }
def PackHalvesUptoSaid : Prop := packHalvesUptoRow.holds Try.pinned (OpenSpec.upto packHalvesSpec)

/-- 'honeycomblaw2.PackNothing', WHERE WHAT IT READS IS OF BULK AT MOST 1048576: true; the input reads as it did. -/
def packNothingUptoRow : OpenClaim := { program := "ytfjdnoonediibaa", sum := "8b4efa1c248b4a74e25b6a85e52f2f08d9db862f5c2a252ba9316d9b40357b8d", func := "honeycomb/honeycomblaw2.PackNothing", spec := "packNothing", unfollowed := true, recurses := true, apart := false, narrowed := true }
def PackNothingUptoSaid : Prop := packNothingUptoRow.holds Try.pinned (OpenSpec.upto packNothingSpec)

/-- 'honeycomblaw2.PackTells', WHERE WHAT IT READS IS OF BULK AT MOST 1048576: true; the input reads as it did. -/
def packTellsUptoRow : OpenClaim := { program := "ytfjdnoonediibaa", sum := "8b4efa1c248b4a74e25b6a85e52f2f08d9db862f5c2a252ba9316d9b40357b8d", func := "honeycomb/honeycomblaw2.PackTells", spec := "packTells", unfollowed := true, recurses := true, apart := false, narrowed := true }
def PackTellsUptoSaid : Prop := packTellsUptoRow.holds Try.pinned (OpenSpec.upto packTellsSpec)

/-- 'honeycomblaw2.PackJoins', WHERE WHAT IT READS IS OF BULK AT MOST 1048576: true; the input reads as it did. -/
def packJoinsUptoRow : OpenClaim := { program := "ytfjdnoonediibaa", sum := "8b4efa1c248b4a74e25b6a85e52f2f08d9db862f5c2a252ba9316d9b40357b8d", func := "honeycomb/honeycomblaw2.PackJoins", spec := "packJoins", unfollowed := true, recurses := true, apart := false, narrowed := true }
def PackJoinsUptoSaid : Prop := packJoinsUptoRow.holds Try.pinned (OpenSpec.upto packJoinsSpec)

end Rows
end Go.Proofs.Ytfjdnoonediibaa
