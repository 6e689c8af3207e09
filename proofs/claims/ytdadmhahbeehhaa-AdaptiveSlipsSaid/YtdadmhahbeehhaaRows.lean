/-
  No cell of these rows narrows 'for every input' (looked for: loops, veiled, ifaces, maps, wideKeys, modest, calm, conditions, laid).
  DERIVED. THE GIVEN ROWS OF THIS SEAT. 5 by the template 'for every input the law returns true; each argument reads behind the call as it read before'; 0 by the template 'total and deterministic' (their statements: YtdadmhahbeehhaaTotals.lean).
  GIVEN WITH THE SEED: the statements are not yours to turn. If you find one false, say at which input.
  Laid BY PROGRAM, IN A SANDBOX (cutbox-rows.mjs): the forced cells as the released guide's own fill.sh prints them over the translation 4f21910de5c6eb97… (all of the seat's roots in one cut). By AI agents, Wed Nov 11 2026. No macro, syntax, notation, axiom, sorry.
-/
import Derived.Test.YtdadmhahbeehhaaChecked
import GoSem.Claim
import GoSem.ClaimJoined
import GoSem.ClaimMapViews
import Derived.JoinedTies
import Derived.KernelRfl
namespace Go.Proofs.Ytdadmhahbeehhaa
/- THE CELL 'sum', in the pinned program and in every row, IS THE sha256 OF THE DUMP (.gsa) THAT YtdadmhahbeehhaaProg.lean LOADS. Nothing in Lean hashes anything: it is a label: what it is worth is what the hold of that sum in a sandbox is worth. -/
noncomputable def Try.pinned : Pinned := { name := "ytdadmhahbeehhaa", sum := "4f21910de5c6eb97d52d28146ca7bcb7ff2f22bd90a86b6a01628bdce9892a78", checked := Try.checked }
namespace Rows
def none {H : Type} : Left H := { results := [], args := [] }

/-- 'dactyllaw42.AdaptiveNext': WHATEVER THE INPUT: true; the input reads as it did. -/
def adaptiveNextSpec : ChangeSpec := { name := "adaptiveNext", fn := fun _ => fun
  | [d1, d2, d3, d4, d5] => { results := [.lit (.bool true)], args := [d1, d2, d3, d4, d5] }
  | _ => none }
def adaptiveNextRow : OpenClaim := { program := "ytdadmhahbeehhaa", sum := "4f21910de5c6eb97d52d28146ca7bcb7ff2f22bd90a86b6a01628bdce9892a78", func := "dactyl/dactyllaw42.AdaptiveNext", spec := "adaptiveNext", unfollowed := true, recurses := true, leaving := true, apart := false }
def AdaptiveNextSaid : Prop := adaptiveNextRow.holds Try.pinned (OpenSpec.ofChange adaptiveNextSpec)

/-- ITS FALSE NEIGHBOUR: 'it returns false'. Refute it at one input. -/
def adaptiveNextWrong : ChangeSpec := { name := "adaptiveNext", fn := fun _ => fun
  | [d1, d2, d3, d4, d5] => { results := [.lit (.bool false)], args := [d1, d2, d3, d4, d5] }
  | _ => none }
def AdaptiveNextWrongFalsely : Prop := adaptiveNextRow.holds Try.pinned (OpenSpec.ofChange adaptiveNextWrong)

/-- 'dactyllaw42.AdaptiveRuns': WHATEVER THE INPUT: true; the input reads as it did. -/
def adaptiveRunsSpec : ChangeSpec := { name := "adaptiveRuns", fn := fun _ => fun
  | [d1, d2, d3, d4, d5] => { results := [.lit (.bool true)], args := [d1, d2, d3, d4, d5] }
  | _ => none }
def adaptiveRunsRow : OpenClaim := { program := "ytdadmhahbeehhaa", sum := "4f21910de5c6eb97d52d28146ca7bcb7ff2f22bd90a86b6a01628bdce9892a78", func := "dactyl/dactyllaw42.AdaptiveRuns", spec := "adaptiveRuns", unfollowed := true, recurses := true, leaving := true, apart := false }
def AdaptiveRunsSaid : Prop := adaptiveRunsRow.holds Try.pinned (OpenSpec.ofChange adaptiveRunsSpec)

/-- ITS FALSE NEIGHBOUR: 'it returns false'. Refute it at one input. -/
def adaptiveRunsWrong : ChangeSpec := { name := "adaptiveRuns", fn := fun _ => fun
  | [d1, d2, d3, d4, d5] => { results := [.lit (.bool false)], args := [d1, d2, d3, d4, d5] }
  | _ => none }
def AdaptiveRunsWrongFalsely : Prop := adaptiveRunsRow.holds Try.pinned (OpenSpec.ofChange adaptiveRunsWrong)

/-- 'dactyllaw42.AdaptiveOrder': WHATEVER THE INPUT: true; the input reads as it did. -/
def adaptiveOrderSpec : ChangeSpec := { name := "adaptiveOrder", fn := fun _ => fun
  | [d1, d2, d3, d4] => { results := [.lit (.bool true)], args := [d1, d2, d3, d4] }
  | _ => none }
def adaptiveOrderRow : OpenClaim := { program := "ytdadmhahbeehhaa", sum := "4f21910de5c6eb97d52d28146ca7bcb7ff2f22bd90a86b6a01628bdce9892a78", func := "dactyl/dactyllaw42.AdaptiveOrder", spec := "adaptiveOrder", unfollowed := true, recurses := true, leaving := true, apart := false }
def AdaptiveOrderSaid : Prop := adaptiveOrderRow.holds Try.pinned (OpenSpec.ofChange adaptiveOrderSpec)

/-- ITS FALSE NEIGHBOUR: 'it returns false'. Refute it at one input. -/
def adaptiveOrderWrong : ChangeSpec := { name := "adaptiveOrder", fn := fun _ => fun
  | [d1, d2, d3, d4] => { results := [.lit (.bool false)], args := [d1, d2, d3, d4] }
  | _ => none }
def AdaptiveOrderWrongFalsely : Prop := adaptiveOrderRow.holds Try.pinned (OpenSpec.ofChange adaptiveOrderWrong)

/-- 'dactyllaw42.AdaptiveTrue': WHATEVER THE INPUT: true; the input reads as it did. -/
def adaptiveTrueSpec : ChangeSpec := { name := "adaptiveTrue", fn := fun _ => fun
  | [d1, d2, d3, d4] => { results := [.lit (.bool true)], args := [d1, d2, d3, d4] }
  | _ => none }
def adaptiveTrueRow : OpenClaim := { program := "ytdadmhahbeehhaa", sum := "4f21910de5c6eb97d52d28146ca7bcb7ff2f22bd90a86b6a01628bdce9892a78", func := "dactyl/dactyllaw42.AdaptiveTrue", spec := "adaptiveTrue", unfollowed := true, recurses := true, leaving := true, apart := false }
def AdaptiveTrueSaid : Prop := adaptiveTrueRow.holds Try.pinned (OpenSpec.ofChange adaptiveTrueSpec)

/-- ITS FALSE NEIGHBOUR: 'it returns false'. Refute it at one input. -/
def adaptiveTrueWrong : ChangeSpec := { name := "adaptiveTrue", fn := fun _ => fun
  | [d1, d2, d3, d4] => { results := [.lit (.bool false)], args := [d1, d2, d3, d4] }
  | _ => none }
def AdaptiveTrueWrongFalsely : Prop := adaptiveTrueRow.holds Try.pinned (OpenSpec.ofChange adaptiveTrueWrong)

/-- 'dactyllaw42.AdaptiveSlips': WHATEVER THE INPUT: true; the input reads as it did. -/
def adaptiveSlipsSpec : ChangeSpec := { name := "adaptiveSlips", fn := fun _ => fun
  | [d1, d2, d3, d4] => { results := [.lit (.bool true)], args := [d1, d2, d3, d4] }
  | _ => none }
def adaptiveSlipsRow : OpenClaim := { program := "ytdadmhahbeehhaa", sum := "4f21910de5c6eb97d52d28146ca7bcb7ff2f22bd90a86b6a01628bdce9892a78", func := "dactyl/dactyllaw42.AdaptiveSlips", spec := "adaptiveSlips", unfollowed := true, recurses := true, leaving := true, apart := false }
def AdaptiveSlipsSaid : Prop := adaptiveSlipsRow.holds Try.pinned (OpenSpec.ofChange adaptiveSlipsSpec)

/-- ITS FALSE NEIGHBOUR: 'it returns false'. Refute it at one input. -/
def adaptiveSlipsWrong : ChangeSpec := { name := "adaptiveSlips", fn := fun _ => fun
  | [d1, d2, d3, d4] => { results := [.lit (.bool false)], args := [d1, d2, d3, d4] }
  | _ => none }
def AdaptiveSlipsWrongFalsely : Prop := adaptiveSlipsRow.holds Try.pinned (OpenSpec.ofChange adaptiveSlipsWrong)

/- THE SECOND FORM. 'bulk': how many values and letters a reading holds, each counted each time it is reached (what is shared counts as often as it is met; a slice's spare places count too). A statement '..UptoSaid' is the law's where the arguments, and the package variables that the reading takes, are together of bulk at most 1048576: NARROWER than '..Said'. Prove '..Said' where nothing that the law and all that it calls make is longer than what came in: it says more and counts as full. Else prove '..UptoSaid'. A law counts once. -/
mutual
def uptoBulk {H : Type} : DataW H → Nat
  | .lit (.string bytes) => bytes.length + 1
  | .lit _ => 1
  | .nil => 1
  | .ptr d => uptoBulk d + 1
  | .slice elems spare => uptoBulkAll elems + uptoBulkAll spare + 1
  | .agg parts => uptoBulkAll parts + 1
  | .iface _ d => uptoBulk d + 1
  | .map entries => uptoBulkEntries entries + 1
  | .held _ => 1
def uptoBulkAll {H : Type} : List (DataW H) → Nat
  | [] => 0
  | d :: r => uptoBulk d + uptoBulkAll r
def uptoBulkEntries {H : Type} : List (Lit × DataW H) → Nat
  | [] => 0
  | x :: r => uptoBulkEntry x + uptoBulkEntries r
def uptoBulkEntry {H : Type} : Lit × DataW H → Nat
  | (.string bytes, d) => bytes.length + uptoBulk d + 1
  | (_, d) => uptoBulk d + 1
 end
def uptoSmall : (H : Type) → List (DataW H) → Bool := fun _ ds => decide (uptoBulkAll ds ≤ 1048576)
def OpenSpec.upto (s : _root_.Go.ChangeSpec) : _root_.Go.OpenSpec := { _root_.Go.OpenSpec.ofChange s with cond := some uptoSmall }

/-- 'dactyllaw42.AdaptiveNext', WHERE WHAT IT READS IS OF BULK AT MOST 1048576: true; the input reads as it did. -/
def adaptiveNextUptoRow : OpenClaim := { program := "ytdadmhahbeehhaa", sum := "4f21910de5c6eb97d52d28146ca7bcb7ff2f22bd90a86b6a01628bdce9892a78", func := "dactyl/dactyllaw42.AdaptiveNext", spec := "adaptiveNext", unfollowed := true, recurses := true, leaving := true, apart := false, narrowed := true }
def AdaptiveNextUptoSaid : Prop := adaptiveNextUptoRow.holds Try.pinned (OpenSpec.upto adaptiveNextSpec)

/-- 'dactyllaw42.AdaptiveRuns', WHERE WHAT IT READS IS OF BULK AT MOST 1048576: true; the input reads as it did. -/
def adaptiveRunsUptoRow : OpenClaim := { program := "ytdadmhahbeehhaa", sum := "4f21910de5c6eb97d52d28146ca7bcb7ff2f22bd90a86b6a01628bdce9892a78", func := "dactyl/dactyllaw42.AdaptiveRuns", spec := "adaptiveRuns", unfollowed := true, recurses := true, leaving := true, apart := false, narrowed := true }
def AdaptiveRunsUptoSaid : Prop := adaptiveRunsUptoRow.holds Try.pinned (OpenSpec.upto adaptiveRunsSpec)

/-- 'dactyllaw42.AdaptiveOrder', WHERE WHAT IT READS IS OF BULK AT MOST 1048576: true; the input reads as it did. -/
def adaptiveOrderUptoRow : OpenClaim := { program := "ytdadmhahbeehhaa", sum := "4f21910de5c6eb97d52d28146ca7bcb7ff2f22bd90a86b6a01628bdce9892a78", func := "dactyl/dactyllaw42.AdaptiveOrder", spec := "adaptiveOrder", unfollowed := true, recurses := true, leaving := true, apart := false, narrowed := true }
def AdaptiveOrderUptoSaid : Prop := adaptiveOrderUptoRow.holds Try.pinned (OpenSpec.upto adaptiveOrderSpec)

/-- 'dactyllaw42.AdaptiveTrue', WHERE WHAT IT READS IS OF BULK AT MOST 1048576: true; the input reads as it did. -/
def adaptiveTrueUptoRow : OpenClaim := { program := "ytdadmhahbeehhaa", sum := "4f21910de5c6eb97d52d28146ca7bcb7ff2f22bd90a86b6a01628bdce9892a78", func := "dactyl/dactyllaw42.AdaptiveTrue", spec := "adaptiveTrue", unfollowed := true, recurses := true, leaving := true, apart := false, narrowed := true }
def AdaptiveTrueUptoSaid : Prop := adaptiveTrueUptoRow.holds Try.pinned (OpenSpec.upto adaptiveTrueSpec)

/-- 'dactyllaw42.AdaptiveSlips', WHERE WHAT IT READS IS OF BULK AT MOST 1048576: true; the input reads as it did. -/
def adaptiveSlipsUptoRow : OpenClaim := { program := "ytdadmhahbeehhaa", sum := "4f21910de5c6eb97d52d28146ca7bcb7ff2f22bd90a86b6a01628bdce9892a78", func := "dactyl/dactyllaw42.AdaptiveSlips", spec := "adaptiveSlips", unfollowed := true, recurses := true, leaving := true, apart := false, narrowed := true }
def AdaptiveSlipsUptoSaid : Prop := adaptiveSlipsUptoRow.holds Try.pinned (OpenSpec.upto adaptiveSlipsSpec)

end Rows
end Go.Proofs.Ytdadmhahbeehhaa
