/-
  No cell of these rows narrows 'for every input' (looked for: loops, veiled, ifaces, maps, wideKeys, modest, calm, conditions, laid).
  DERIVED. THE GIVEN ROWS OF THIS SEAT. 8 by the template 'for every input the law returns true; each argument reads behind the call as it read before'; 0 by the template 'total and deterministic' (their statements: YtaecfgakgpndaaaTotals.lean).
  GIVEN WITH THE SEED: the statements are not yours to turn. If you find one false, say at which input.
  Laid BY PROGRAM, IN A SANDBOX (cutbox-rows.mjs): the forced cells as the released guide's own fill.sh prints them over the translation 296f1aeda668f570… (all of the seat's roots in one cut). By AI agents, Wed Nov 11 2026. No macro, syntax, notation, axiom, sorry.
-/
import Derived.Test.YtaecfgakgpndaaaChecked
import GoSem.Claim
import GoSem.ClaimJoined
import GoSem.ClaimMapViews
import Derived.JoinedTies
import Derived.KernelRfl
namespace Go.Proofs.Ytaecfgakgpndaaa
/- THE CELL 'sum', in the pinned program and in every row, IS THE sha256 OF THE DUMP (.gsa) THAT YtaecfgakgpndaaaProg.lean LOADS. Nothing in Lean hashes anything: it is a label: what it is worth is what the hold of that sum in a sandbox is worth. -/
noncomputable def Try.pinned : Pinned := { name := "ytaecfgakgpndaaa", sum := "296f1aeda668f570da1bc180c2973c4cca01f9858e22e0f283d7b27aaea8cdac", checked := Try.checked }
namespace Rows
def none {H : Type} : Left H := { results := [], args := [] }

/-- 'honeycomblaw13.FrameBack': WHATEVER THE INPUT: true; the input reads as it did. -/
def frameBackSpec : ChangeSpec := { name := "frameBack", fn := fun _ => fun
  | [d1, d2] => { results := [.lit (.bool true)], args := [d1, d2] }
  | _ => none }
def frameBackRow : OpenClaim := { program := "ytaecfgakgpndaaa", sum := "296f1aeda668f570da1bc180c2973c4cca01f9858e22e0f283d7b27aaea8cdac", func := "honeycomb/honeycomblaw13.FrameBack", spec := "frameBack", inPlace := ["internal/abi.NoEscape", "internal/bytealg.MakeNoZero"], unfollowed := true, recurses := true, apart := false }
def FrameBackSaid : Prop := frameBackRow.holds Try.pinned (OpenSpec.ofChange frameBackSpec)

/-- ITS FALSE NEIGHBOUR: 'it returns false'. Refute it at one input. -/
def frameBackWrong : ChangeSpec := { name := "frameBack", fn := fun _ => fun
  | [d1, d2] => { results := [.lit (.bool false)], args := [d1, d2] }
  | _ => none }
def FrameBackWrongFalsely : Prop := frameBackRow.holds Try.pinned (OpenSpec.ofChange frameBackWrong)

/-- 'honeycomblaw13.FrameHoles': WHATEVER THE INPUT: true; the input reads as it did. -/
def frameHolesSpec : ChangeSpec := { name := "frameHoles", fn := fun _ => fun
  | [d1, d2, d3, d4, d5] => { results := [.lit (.bool true)], args := [d1, d2, d3, d4, d5] }
  | _ => none }
def frameHolesRow : OpenClaim := { program := "ytaecfgakgpndaaa", sum := "296f1aeda668f570da1bc180c2973c4cca01f9858e22e0f283d7b27aaea8cdac", func := "honeycomb/honeycomblaw13.FrameHoles", spec := "frameHoles", inPlace := ["internal/abi.NoEscape", "internal/bytealg.MakeNoZero"], unfollowed := true, recurses := true, apart := false }
def FrameHolesSaid : Prop := frameHolesRow.holds Try.pinned (OpenSpec.ofChange frameHolesSpec)

/-- ITS FALSE NEIGHBOUR: 'it returns false'. Refute it at one input. -/
def frameHolesWrong : ChangeSpec := { name := "frameHoles", fn := fun _ => fun
  | [d1, d2, d3, d4, d5] => { results := [.lit (.bool false)], args := [d1, d2, d3, d4, d5] }
  | _ => none }
def FrameHolesWrongFalsely : Prop := frameHolesRow.holds Try.pinned (OpenSpec.ofChange frameHolesWrong)

/-- 'honeycomblaw13.FrameCuts': WHATEVER THE INPUT: true; the input reads as it did. -/
def frameCutsSpec : ChangeSpec := { name := "frameCuts", fn := fun _ => fun
  | [d1, d2] => { results := [.lit (.bool true)], args := [d1, d2] }
  | _ => none }
def frameCutsRow : OpenClaim := { program := "ytaecfgakgpndaaa", sum := "296f1aeda668f570da1bc180c2973c4cca01f9858e22e0f283d7b27aaea8cdac", func := "honeycomb/honeycomblaw13.FrameCuts", spec := "frameCuts", inPlace := ["internal/abi.NoEscape", "internal/bytealg.MakeNoZero"], unfollowed := true, recurses := true, apart := false }
def FrameCutsSaid : Prop := frameCutsRow.holds Try.pinned (OpenSpec.ofChange frameCutsSpec)

/-- ITS FALSE NEIGHBOUR: 'it returns false'. Refute it at one input. -/
def frameCutsWrong : ChangeSpec := { name := "frameCuts", fn := fun _ => fun
  | [d1, d2] => { results := [.lit (.bool false)], args := [d1, d2] }
  | _ => none }
def FrameCutsWrongFalsely : Prop := frameCutsRow.holds Try.pinned (OpenSpec.ofChange frameCutsWrong)

/-- 'honeycomblaw13.FrameOld': WHATEVER THE INPUT: true; the input reads as it did. -/
def frameOldSpec : ChangeSpec := { name := "frameOld", fn := fun _ => fun
  | [d1, d2, d3, d4] => { results := [.lit (.bool true)], args := [d1, d2, d3, d4] }
  | _ => none }
def frameOldRow : OpenClaim := { program := "ytaecfgakgpndaaa", sum := "296f1aeda668f570da1bc180c2973c4cca01f9858e22e0f283d7b27aaea8cdac", func := "honeycomb/honeycomblaw13.FrameOld", spec := "frameOld", inPlace := ["internal/abi.NoEscape", "internal/bytealg.MakeNoZero"], unfollowed := true, recurses := true, apart := false }
def FrameOldSaid : Prop := frameOldRow.holds Try.pinned (OpenSpec.ofChange frameOldSpec)

/-- ITS FALSE NEIGHBOUR: 'it returns false'. Refute it at one input. -/
def frameOldWrong : ChangeSpec := { name := "frameOld", fn := fun _ => fun
  | [d1, d2, d3, d4] => { results := [.lit (.bool false)], args := [d1, d2, d3, d4] }
  | _ => none }
def FrameOldWrongFalsely : Prop := frameOldRow.holds Try.pinned (OpenSpec.ofChange frameOldWrong)

/-- 'honeycomblaw13.FrameBatch': WHATEVER THE INPUT: true; the input reads as it did. -/
def frameBatchSpec : ChangeSpec := { name := "frameBatch", fn := fun _ => fun
  | [d1, d2, d3] => { results := [.lit (.bool true)], args := [d1, d2, d3] }
  | _ => none }
def frameBatchRow : OpenClaim := { program := "ytaecfgakgpndaaa", sum := "296f1aeda668f570da1bc180c2973c4cca01f9858e22e0f283d7b27aaea8cdac", func := "honeycomb/honeycomblaw13.FrameBatch", spec := "frameBatch", inPlace := ["internal/abi.NoEscape", "internal/bytealg.MakeNoZero"], unfollowed := true, recurses := true, apart := false }
def FrameBatchSaid : Prop := frameBatchRow.holds Try.pinned (OpenSpec.ofChange frameBatchSpec)

/-- ITS FALSE NEIGHBOUR: 'it returns false'. Refute it at one input. -/
def frameBatchWrong : ChangeSpec := { name := "frameBatch", fn := fun _ => fun
  | [d1, d2, d3] => { results := [.lit (.bool false)], args := [d1, d2, d3] }
  | _ => none }
def FrameBatchWrongFalsely : Prop := frameBatchRow.holds Try.pinned (OpenSpec.ofChange frameBatchWrong)

/-- 'honeycomblaw13.FrameTurned': WHATEVER THE INPUT: true; the input reads as it did. -/
def frameTurnedSpec : ChangeSpec := { name := "frameTurned", fn := fun _ => fun
  | [d1, d2, d3] => { results := [.lit (.bool true)], args := [d1, d2, d3] }
  | _ => none }
def frameTurnedRow : OpenClaim := { program := "ytaecfgakgpndaaa", sum := "296f1aeda668f570da1bc180c2973c4cca01f9858e22e0f283d7b27aaea8cdac", func := "honeycomb/honeycomblaw13.FrameTurned", spec := "frameTurned", inPlace := ["internal/abi.NoEscape", "internal/bytealg.MakeNoZero"], unfollowed := true, recurses := true, apart := false }
def FrameTurnedSaid : Prop := frameTurnedRow.holds Try.pinned (OpenSpec.ofChange frameTurnedSpec)

/-- ITS FALSE NEIGHBOUR: 'it returns false'. Refute it at one input. -/
def frameTurnedWrong : ChangeSpec := { name := "frameTurned", fn := fun _ => fun
  | [d1, d2, d3] => { results := [.lit (.bool false)], args := [d1, d2, d3] }
  | _ => none }
def FrameTurnedWrongFalsely : Prop := frameTurnedRow.holds Try.pinned (OpenSpec.ofChange frameTurnedWrong)

/-- 'honeycomblaw13.FramePlaces': WHATEVER THE INPUT: true; the input reads as it did. -/
def framePlacesSpec : ChangeSpec := { name := "framePlaces", fn := fun _ => fun
  | [d1, d2] => { results := [.lit (.bool true)], args := [d1, d2] }
  | _ => none }
def framePlacesRow : OpenClaim := { program := "ytaecfgakgpndaaa", sum := "296f1aeda668f570da1bc180c2973c4cca01f9858e22e0f283d7b27aaea8cdac", func := "honeycomb/honeycomblaw13.FramePlaces", spec := "framePlaces", inPlace := ["internal/abi.NoEscape", "internal/bytealg.MakeNoZero"], unfollowed := true, recurses := true, apart := false }
def FramePlacesSaid : Prop := framePlacesRow.holds Try.pinned (OpenSpec.ofChange framePlacesSpec)

/-- ITS FALSE NEIGHBOUR: 'it returns false'. Refute it at one input. -/
def framePlacesWrong : ChangeSpec := { name := "framePlaces", fn := fun _ => fun
  | [d1, d2] => { results := [.lit (.bool false)], args := [d1, d2] }
  | _ => none }
def FramePlacesWrongFalsely : Prop := framePlacesRow.holds Try.pinned (OpenSpec.ofChange framePlacesWrong)

/-- 'honeycomblaw13.FrameBegins': WHATEVER THE INPUT: true; the input reads as it did. -/
def frameBeginsSpec : ChangeSpec := { name := "frameBegins", fn := fun _ => fun
  | [d1, d2] => { results := [.lit (.bool true)], args := [d1, d2] }
  | _ => none }
def frameBeginsRow : OpenClaim := { program := "ytaecfgakgpndaaa", sum := "296f1aeda668f570da1bc180c2973c4cca01f9858e22e0f283d7b27aaea8cdac", func := "honeycomb/honeycomblaw13.FrameBegins", spec := "frameBegins", inPlace := ["internal/abi.NoEscape", "internal/bytealg.MakeNoZero"], unfollowed := true, recurses := true, apart := false }
def FrameBeginsSaid : Prop := frameBeginsRow.holds Try.pinned (OpenSpec.ofChange frameBeginsSpec)

/-- ITS FALSE NEIGHBOUR: 'it returns false'. Refute it at one input. -/
def frameBeginsWrong : ChangeSpec := { name := "frameBegins", fn := fun _ => fun
  | [d1, d2] => { results := [.lit (.bool false)], args := [d1, d2] }
  | _ => none }
def FrameBeginsWrongFalsely : Prop := frameBeginsRow.holds Try.pinned (OpenSpec.ofChange frameBeginsWrong)

/- THE SECOND FORM. 'bulk': how many values and letters a reading holds, each counted each time it is reached (what is shared counts as often as it is met; a slice's spare places count too). A statement '..UptoSaid' is the law's where the arguments, and the package variables that the reading takes, are together of bulk at most 1048576: NARROWER than '..Said'. Prove '..Said' where nothing that the law and all that it calls make is longer than what came in: it says more and counts as full. Else prove '..UptoSaid'. A law counts once. -/
mutual
def uptoBulk {H : Type} : DataW H → Nat
  | .lit (.string bytes) => bytes.length + 1
  | .lit _ => 1
  | .nil => 1
  | .ptr d => uptoBulk d + 1
  | .slice elems spare => uptoBulkAll elems + uptoBulkAll spare + 1
  | .agg parts => uptoBulkAll parts + 1
  | .iface _ d => uptoBulk d + 1
  | .map entries => uptoBulkEntries entries + 1
  | .held _ => 1
def uptoBulkAll {H : Type} : List (DataW H) → Nat
  | [] => 0
  | d :: r => uptoBulk d + uptoBulkAll r
def uptoBulkEntries {H : Type} : List (Lit × DataW H) → Nat
  | [] => 0
  | x :: r => uptoBulkEntry x + uptoBulkEntries r
def uptoBulkEntry {H : Type} : Lit × DataW H → Nat
  | (.string bytes, d) => bytes.length + uptoBulk d + 1
  | (_, d) => uptoBulk d + 1
 end
def uptoSmall : (H : Type) → List (DataW H) → Bool := fun _ ds => decide (uptoBulkAll ds ≤ 1048576)
def OpenSpec.upto (s : _root_.Go.ChangeSpec) : _root_.Go.OpenSpec := { _root_.Go.OpenSpec.ofChange s with cond := some uptoSmall }

/-- 'honeycomblaw13.FrameBack', WHERE WHAT IT READS IS OF BULK AT MOST 1048576: true; the input reads as it did. -/
def frameBackUptoRow : OpenClaim := { program := "ytaecfgakgpndaaa", sum := "296f1aeda668f570da1bc180c2973c4cca01f9858e22e0f283d7b27aaea8cdac", func := "honeycomb/honeycomblaw13.FrameBack", spec := "frameBack", inPlace := ["internal/abi.NoEscape", "internal/bytealg.MakeNoZero"], unfollowed := true, recurses := true, apart := false, narrowed := true }
def FrameBackUptoSaid : Prop := frameBackUptoRow.holds Try.pinned (OpenSpec.upto frameBackSpec)

/-- 'honeycomblaw13.FrameHoles', WHERE WHAT IT READS IS OF BULK AT MOST 1048576: true; the input reads as it did. -/
def frameHolesUptoRow : OpenClaim := { program := "ytaecfgakgpndaaa", sum := "296f1aeda668f570da1bc180c2973c4cca01f9858e22e0f283d7b27aaea8cdac", func := "honeycomb/honeycomblaw13.FrameHoles", spec := "frameHoles", inPlace := ["internal/abi.NoEscape", "internal/bytealg.MakeNoZero"], unfollowed := true, recurses := true, apart := false, narrowed := true }
def FrameHolesUptoSaid : Prop := frameHolesUptoRow.holds Try.pinned (OpenSpec.upto frameHolesSpec)

/-- 'honeycomblaw13.FrameCuts', WHERE WHAT IT READS IS OF BULK AT MOST 1048576: true; the input reads as it did. -/
def frameCutsUptoRow : OpenClaim := { program := "ytaecfgakgpndaaa", sum := "296f1aeda668f570da1bc180c2973c4cca01f9858e22e0f283d7b27aaea8cdac", func := "honeycomb/honeycomblaw13.FrameCuts", spec := "frameCuts", inPlace := ["internal/abi.NoEscape", "internal/bytealg.MakeNoZero"], unfollowed := true, recurses := true, apart := false, narrowed := true }
def FrameCutsUptoSaid : Prop := frameCutsUptoRow.holds Try.pinned (OpenSpec.upto frameCutsSpec)

/-- 'honeycomblaw13.FrameOld', WHERE WHAT IT READS IS OF BULK AT MOST 1048576: true; the input reads as it did. -/
def frameOldUptoRow : OpenClaim := { program := "ytaecfgakgpndaaa", sum := "296f1aeda668f570da1bc180c2973c4cca01f9858e22e0f283d7b27aaea8cdac", func := "honeycomb/honeycomblaw13.FrameOld", spec := "frameOld", inPlace := ["internal/abi.NoEscape", "internal/bytealg.MakeNoZero"], unfollowed := true, recurses := true, apart := false, narrowed := true }
def FrameOldUptoSaid : Prop := frameOldUptoRow.holds Try.pinned (OpenSpec.upto frameOldSpec)

/-- 'honeycomblaw13.FrameBatch', WHERE WHAT IT READS IS OF BULK AT MOST 1048576: true; the input reads as it did. -/
def frameBatchUptoRow : OpenClaim := { program := "ytaecfgakgpndaaa", sum := "296f1aeda668f570da1bc180c2973c4cca01f9858e22e0f283d7b27aaea8cdac", func := "honeycomb/honeycomblaw13.FrameBatch", spec := "frameBatch", inPlace := ["internal/abi.NoEscape", "internal/bytealg.MakeNoZero"], unfollowed := true, recurses := true, apart := false, narrowed := true }
def FrameBatchUptoSaid : Prop := frameBatchUptoRow.holds Try.pinned (OpenSpec.upto frameBatchSpec)

/-- 'honeycomblaw13.FrameTurned', WHERE WHAT IT READS IS OF BULK AT MOST 1048576: true; the input reads as it did. -/
def frameTurnedUptoRow : OpenClaim := { program := "ytaecfgakgpndaaa", sum := "296f1aeda668f570da1bc180c2973c4cca01f9858e22e0f283d7b27aaea8cdac", func := "honeycomb/honeycomblaw13.FrameTurned", spec := "frameTurned", inPlace := ["internal/abi.NoEscape", "internal/bytealg.MakeNoZero"], unfollowed := true, recurses := true, apart := false, narrowed := true }
def FrameTurnedUptoSaid : Prop := frameTurnedUptoRow.holds Try.pinned (OpenSpec.upto frameTurnedSpec)

/-- 'honeycomblaw13.FramePlaces', WHERE WHAT IT READS IS OF BULK AT MOST 1048576: true; the input reads as it did. -/
def framePlacesUptoRow : OpenClaim := { program := "ytaecfgakgpndaaa", sum := "296f1aeda668f570da1bc180c2973c4cca01f9858e22e0f283d7b27aaea8cdac", func := "honeycomb/honeycomblaw13.FramePlaces", spec := "framePlaces", inPlace := ["internal/abi.NoEscape", "internal/bytealg.MakeNoZero"], unfollowed := true, recurses := true, apart := false, narrowed := true }
def FramePlacesUptoSaid : Prop := framePlacesUptoRow.holds Try.pinned (OpenSpec.upto framePlacesSpec)

/-- 'honeycomblaw13.FrameBegins', WHERE WHAT IT READS IS OF BULK AT MOST 1048576: true; the input reads as it did. -/
def frameBeginsUptoRow : OpenClaim := { program := "ytaecfgakgpndaaa", sum := "296f1aeda668f570da1bc180c2973c4cca01f9858e22e0f283d7b27aaea8cdac", func := "honeycomb/honeycomblaw13.FrameBegins", spec := "frameBegins", inPlace := ["internal/abi.NoEscape", "internal/bytealg.MakeNoZero"], unfollowed := true, recurses := true, apart := false, narrowed := true }
def FrameBeginsUptoSaid : Prop := frameBeginsUptoRow.holds Try.pinned (OpenSpec.upto frameBeginsSpec)

end Rows
end Go.Proofs.Ytaecfgakgpndaaa
