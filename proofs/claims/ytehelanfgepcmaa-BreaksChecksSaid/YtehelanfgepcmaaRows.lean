/-
  No cell of these rows narrows 'for every input' (looked for: loops, veiled, ifaces, maps, wideKeys, modest, calm, conditions, laid).
  DERIVED. THE GIVEN ROWS OF THIS SEAT. 7 by the template 'for every input the law returns true; each argument reads behind the call as it read before'; 0 by the template 'total and deterministic' (their statements: YtehelanfgepcmaaTotals.lean).
  GIVEN WITH THE SEED: the statements are not yours to turn. If you find one false, say at which input.
  Laid BY PROGRAM, IN A SANDBOX (cutbox-rows.mjs): the forced cells as the released guide's own fill.sh prints them over the translation 111dc8f80f78d03a… (all of the seat's roots in one cut). By AI agents, Wed Nov 11 2026. No macro, syntax, notation, axiom, sorry.
-/
import Derived.Test.YtehelanfgepcmaaChecked
import GoSem.Claim
import GoSem.ClaimJoined
import GoSem.ClaimMapViews
import Derived.JoinedTies
import Derived.KernelRfl
namespace Go.Proofs.Ytehelanfgepcmaa
/- THE CELL 'sum', in the pinned program and in every row, IS THE sha256 OF THE DUMP (.gsa) THAT YtehelanfgepcmaaProg.lean LOADS. Nothing in Lean hashes anything: it is a label: what it is worth is what the hold of that sum in a sandbox is worth. -/
noncomputable def Try.pinned : Pinned := { name := "ytehelanfgepcmaa", sum := "111dc8f80f78d03abcc63f00d87a1278f7af53ad5f16e8591328be8182619482", checked := Try.checked }
namespace Rows
def none {H : Type} : Left H := { results := [], args := [] }

/-- 'dactyllaw11.BreaksFills': WHATEVER THE INPUT: true; the input reads as it did. -/
def breaksFillsSpec : ChangeSpec := { name := "breaksFills", fn := fun _ => fun
  | [d1, d2, d3, d4, d5] => { results := [.lit (.bool true)], args := [d1, d2, d3, d4, d5] }
  | _ => none }
def breaksFillsRow : OpenClaim := { program := "ytehelanfgepcmaa", sum := "111dc8f80f78d03abcc63f00d87a1278f7af53ad5f16e8591328be8182619482", func := "dactyl/dactyllaw11.BreaksFills", spec := "breaksFills", unfollowed := true, recurses := true, plainKeys := false, apart := false }
def BreaksFillsSaid : Prop := breaksFillsRow.holds Try.pinned (OpenSpec.ofChange breaksFillsSpec)

/-- ITS FALSE NEIGHBOUR: 'it returns false'. Refute it at one input. -/
def breaksFillsWrong : ChangeSpec := { name := "breaksFills", fn := fun _ => fun
  | [d1, d2, d3, d4, d5] => { results := [.lit (.bool false)], args := [d1, d2, d3, d4, d5] }
  | _ => none }
def BreaksFillsWrongFalsely : Prop := breaksFillsRow.holds Try.pinned (OpenSpec.ofChange breaksFillsWrong)

/-- 'dactyllaw11.BreaksWider': WHATEVER THE INPUT: true; the input reads as it did. -/
def breaksWiderSpec : ChangeSpec := { name := "breaksWider", fn := fun _ => fun
  | [d1, d2, d3, d4] => { results := [.lit (.bool true)], args := [d1, d2, d3, d4] }
  | _ => none }
def breaksWiderRow : OpenClaim := { program := "ytehelanfgepcmaa", sum := "111dc8f80f78d03abcc63f00d87a1278f7af53ad5f16e8591328be8182619482", func := "dactyl/dactyllaw11.BreaksWider", spec := "breaksWider", unfollowed := true, recurses := true, plainKeys := false, apart := false }
def BreaksWiderSaid : Prop := breaksWiderRow.holds Try.pinned (OpenSpec.ofChange breaksWiderSpec)

/-- ITS FALSE NEIGHBOUR: 'it returns false'. Refute it at one input. -/
def breaksWiderWrong : ChangeSpec := { name := "breaksWider", fn := fun _ => fun
  | [d1, d2, d3, d4] => { results := [.lit (.bool false)], args := [d1, d2, d3, d4] }
  | _ => none }
def BreaksWiderWrongFalsely : Prop := breaksWiderRow.holds Try.pinned (OpenSpec.ofChange breaksWiderWrong)

/-- 'dactyllaw11.BreaksPoints': WHATEVER THE INPUT: true; the input reads as it did. -/
def breaksPointsSpec : ChangeSpec := { name := "breaksPoints", fn := fun _ => fun
  | [d1, d2, d3, d4, d5] => { results := [.lit (.bool true)], args := [d1, d2, d3, d4, d5] }
  | _ => none }
def breaksPointsRow : OpenClaim := { program := "ytehelanfgepcmaa", sum := "111dc8f80f78d03abcc63f00d87a1278f7af53ad5f16e8591328be8182619482", func := "dactyl/dactyllaw11.BreaksPoints", spec := "breaksPoints", unfollowed := true, recurses := true, plainKeys := false, apart := false }
def BreaksPointsSaid : Prop := breaksPointsRow.holds Try.pinned (OpenSpec.ofChange breaksPointsSpec)

/-- ITS FALSE NEIGHBOUR: 'it returns false'. Refute it at one input. -/
def breaksPointsWrong : ChangeSpec := { name := "breaksPoints", fn := fun _ => fun
  | [d1, d2, d3, d4, d5] => { results := [.lit (.bool false)], args := [d1, d2, d3, d4, d5] }
  | _ => none }
def BreaksPointsWrongFalsely : Prop := breaksPointsRow.holds Try.pinned (OpenSpec.ofChange breaksPointsWrong)

/-- 'dactyllaw11.BreaksPages': WHATEVER THE INPUT: true; the input reads as it did. -/
def breaksPagesSpec : ChangeSpec := { name := "breaksPages", fn := fun _ => fun
  | [d1, d2, d3, d4, d5] => { results := [.lit (.bool true)], args := [d1, d2, d3, d4, d5] }
  | _ => none }
def breaksPagesRow : OpenClaim := { program := "ytehelanfgepcmaa", sum := "111dc8f80f78d03abcc63f00d87a1278f7af53ad5f16e8591328be8182619482", func := "dactyl/dactyllaw11.BreaksPages", spec := "breaksPages", unfollowed := true, recurses := true, plainKeys := false, apart := false }
def BreaksPagesSaid : Prop := breaksPagesRow.holds Try.pinned (OpenSpec.ofChange breaksPagesSpec)

/-- ITS FALSE NEIGHBOUR: 'it returns false'. Refute it at one input. -/
def breaksPagesWrong : ChangeSpec := { name := "breaksPages", fn := fun _ => fun
  | [d1, d2, d3, d4, d5] => { results := [.lit (.bool false)], args := [d1, d2, d3, d4, d5] }
  | _ => none }
def BreaksPagesWrongFalsely : Prop := breaksPagesRow.holds Try.pinned (OpenSpec.ofChange breaksPagesWrong)

/-- 'dactyllaw11.BreaksPaged': WHATEVER THE INPUT: true; the input reads as it did. -/
def breaksPagedSpec : ChangeSpec := { name := "breaksPaged", fn := fun _ => fun
  | [d1, d2, d3] => { results := [.lit (.bool true)], args := [d1, d2, d3] }
  | _ => none }
def breaksPagedRow : OpenClaim := { program := "ytehelanfgepcmaa", sum := "111dc8f80f78d03abcc63f00d87a1278f7af53ad5f16e8591328be8182619482", func := "dactyl/dactyllaw11.BreaksPaged", spec := "breaksPaged", unfollowed := true, recurses := true, plainKeys := false, apart := false }
def BreaksPagedSaid : Prop := breaksPagedRow.holds Try.pinned (OpenSpec.ofChange breaksPagedSpec)

/-- ITS FALSE NEIGHBOUR: 'it returns false'. Refute it at one input. -/
def breaksPagedWrong : ChangeSpec := { name := "breaksPaged", fn := fun _ => fun
  | [d1, d2, d3] => { results := [.lit (.bool false)], args := [d1, d2, d3] }
  | _ => none }
def BreaksPagedWrongFalsely : Prop := breaksPagedRow.holds Try.pinned (OpenSpec.ofChange breaksPagedWrong)

/-- 'dactyllaw11.BreaksChecks': WHATEVER THE INPUT: true; the input reads as it did. -/
def breaksChecksSpec : ChangeSpec := { name := "breaksChecks", fn := fun _ => fun
  | [d1, d2, d3, d4, d5] => { results := [.lit (.bool true)], args := [d1, d2, d3, d4, d5] }
  | _ => none }
def breaksChecksRow : OpenClaim := { program := "ytehelanfgepcmaa", sum := "111dc8f80f78d03abcc63f00d87a1278f7af53ad5f16e8591328be8182619482", func := "dactyl/dactyllaw11.BreaksChecks", spec := "breaksChecks", unfollowed := true, recurses := true, plainKeys := false, apart := false }
def BreaksChecksSaid : Prop := breaksChecksRow.holds Try.pinned (OpenSpec.ofChange breaksChecksSpec)

/-- ITS FALSE NEIGHBOUR: 'it returns false'. Refute it at one input. -/
def breaksChecksWrong : ChangeSpec := { name := "breaksChecks", fn := fun _ => fun
  | [d1, d2, d3, d4, d5] => { results := [.lit (.bool false)], args := [d1, d2, d3, d4, d5] }
  | _ => none }
def BreaksChecksWrongFalsely : Prop := breaksChecksRow.holds Try.pinned (OpenSpec.ofChange breaksChecksWrong)

/-- 'dactyllaw11.BreaksOthers': WHATEVER THE INPUT: true; the input reads as it did. -/
def breaksOthersSpec : ChangeSpec := { name := "breaksOthers", fn := fun _ => fun
  | [d1, d2, d3] => { results := [.lit (.bool true)], args := [d1, d2, d3] }
  | _ => none }
def breaksOthersRow : OpenClaim := { program := "ytehelanfgepcmaa", sum := "111dc8f80f78d03abcc63f00d87a1278f7af53ad5f16e8591328be8182619482", func := "dactyl/dactyllaw11.BreaksOthers", spec := "breaksOthers", unfollowed := true, recurses := true, plainKeys := false, apart := false }
def BreaksOthersSaid : Prop := breaksOthersRow.holds Try.pinned (OpenSpec.ofChange breaksOthersSpec)

/-- ITS FALSE NEIGHBOUR: 'it returns false'. Refute it at one input. -/
def breaksOthersWrong : ChangeSpec := { name := "breaksOthers", fn := fun _ => fun
  | [d1, d2, d3] => { results := [.lit (.bool false)], args := [d1, d2, d3] }
  | _ => none }
def BreaksOthersWrongFalsely : Prop := breaksOthersRow.holds Try.pinned (OpenSpec.ofChange breaksOthersWrong)

/- THE SECOND FORM. 'bulk': how many values and letters a reading holds, each counted each time it is reached (what is shared counts as often as it is met; a slice's spare places count too). A statement '..UptoSaid' is the law's where the arguments, and the package variables that the reading takes, are together of bulk at most 1048576: NARROWER than '..Said'. Prove '..Said' where nothing that the law and all that it calls make is longer than what came in: it says more and counts as full. Else prove '..UptoSaid'. A law counts once. -/
mutual
def uptoBulk {H : Type} : DataW H → Nat
  | .lit (.string bytes) => bytes.length + 1
  | .lit _ => 1
  | .nil => 1
  | .ptr d => uptoBulk d + 1
  | .slice elems spare => uptoBulkAll elems + uptoBulkAll spare + 1
  | .agg parts => uptoBulkAll parts + 1
  | .iface _ d => uptoBulk d + 1
  | .map entries => uptoBulkEntries entries + 1
  | .held _ => 1
def uptoBulkAll {H : Type} : List (DataW H) → Nat
  | [] => 0
  | d :: r => uptoBulk d + uptoBulkAll r
def uptoBulkEntries {H : Type} : List (Lit × DataW H) → Nat
  | [] => 0
  | x :: r => uptoBulkEntry x + uptoBulkEntries r
def uptoBulkEntry {H : Type} : Lit × DataW H → Nat
  | (.string bytes, d) => bytes.length + uptoBulk d + 1
  | (_, d) => uptoBulk d + 1
 end
def uptoSmall : (H : Type) → List (DataW H) → Bool := fun _ ds => decide (uptoBulkAll ds ≤ 1048576)
def OpenSpec.upto (s : _root_.Go.ChangeSpec) : _root_.Go.OpenSpec := { _root_.Go.OpenSpec.ofChange s with cond := some uptoSmall }

/-- 'dactyllaw11.BreaksFills', WHERE WHAT IT READS IS OF BULK AT MOST 1048576: true; the input reads as it did. -/
def breaksFillsUptoRow : OpenClaim := { program := "ytehelanfgepcmaa", sum := "111dc8f80f78d03abcc63f00d87a1278f7af53ad5f16e8591328be8182619482", func := "dactyl/dactyllaw11.BreaksFills", spec := "breaksFills", unfollowed := true, recurses := true, plainKeys := false, apart := false, narrowed := true }
def BreaksFillsUptoSaid : Prop := breaksFillsUptoRow.holds Try.pinned (OpenSpec.upto breaksFillsSpec)

/-- 'dactyllaw11.BreaksWider', WHERE WHAT IT READS IS OF BULK AT MOST 1048576: true; the input reads as it did. -/
def breaksWiderUptoRow : OpenClaim := { program := "ytehelanfgepcmaa", sum := "111dc8f80f78d03abcc63f00d87a1278f7af53ad5f16e8591328be8182619482", func := "dactyl/dactyllaw11.BreaksWider", spec := "breaksWider", unfollowed := true, recurses := true, plainKeys := false, apart := false, narrowed := true }
def BreaksWiderUptoSaid : Prop := breaksWiderUptoRow.holds Try.pinned (OpenSpec.upto breaksWiderSpec)

/-- 'dactyllaw11.BreaksPoints', WHERE WHAT IT READS IS OF BULK AT MOST 1048576: true; the input reads as it did. -/
def breaksPointsUptoRow : OpenClaim := { program := "ytehelanfgepcmaa", sum := "111dc8f80f78d03abcc63f00d87a1278f7af53ad5f16e8591328be8182619482", func := "dactyl/dactyllaw11.BreaksPoints", spec := "breaksPoints", unfollowed := true, recurses := true, plainKeys := false, apart := false, narrowed := true }
def BreaksPointsUptoSaid : Prop := breaksPointsUptoRow.holds Try.pinned (OpenSpec.upto breaksPointsSpec)

/-- 'dactyllaw11.BreaksPages', WHERE WHAT IT READS IS OF BULK AT MOST 1048576: true; the input reads as it did. -/
def breaksPagesUptoRow : OpenClaim := { program := "ytehelanfgepcmaa", sum := "111dc8f80f78d03abcc63f00d87a1278f7af53ad5f16e8591328be8182619482", func := "dactyl/dactyllaw11.BreaksPages", spec := "breaksPages", unfollowed := true, recurses := true, plainKeys := false, apart := false, narrowed := true }
def BreaksPagesUptoSaid : Prop := breaksPagesUptoRow.holds Try.pinned (OpenSpec.upto breaksPagesSpec)

/-- 'dactyllaw11.BreaksPaged', WHERE WHAT IT READS IS OF BULK AT MOST 1048576: true; the input reads as it did. -/
def breaksPagedUptoRow : OpenClaim := { program := "ytehelanfgepcmaa", sum := "111dc8f80f78d03abcc63f00d87a1278f7af53ad5f16e8591328be8182619482", func := "dactyl/dactyllaw11.BreaksPaged", spec := "breaksPaged", unfollowed := true, recurses := true, plainKeys := false, apart := false, narrowed := true }
def BreaksPagedUptoSaid : Prop := breaksPagedUptoRow.holds Try.pinned (OpenSpec.upto breaksPagedSpec)

/-- 'dactyllaw11.BreaksChecks', WHERE WHAT IT READS IS OF BULK AT MOST 1048576: true; the input reads as it did. -/
def breaksChecksUptoRow : OpenClaim := { program := "ytehelanfgepcmaa", sum := "111dc8f80f78d03abcc63f00d87a1278f7af53ad5f16e8591328be8182619482", func := "dactyl/dactyllaw11.BreaksChecks", spec := "breaksChecks", unfollowed := true, recurses := true, plainKeys := false, apart := false, narrowed := true }
def BreaksChecksUptoSaid : Prop := breaksChecksUptoRow.holds Try.pinned (OpenSpec.upto breaksChecksSpec)

/-- 'dactyllaw11.BreaksOthers', WHERE WHAT IT READS IS OF BULK AT MOST 1048576: true; the input reads as it did. -/
def breaksOthersUptoRow : OpenClaim := { program := "ytehelanfgepcmaa", sum := "111dc8f80f78d03abcc63f00d87a1278f7af53ad5f16e8591328be8182619482", func := "dactyl/dactyllaw11.BreaksOthers", spec := "breaksOthers", unfollowed := true, recurses := true, plainKeys := false, apart := false, narrowed := true }
def BreaksOthersUptoSaid : Prop := breaksOthersUptoRow.holds Try.pinned (OpenSpec.upto breaksOthersSpec)

end Rows
end Go.Proofs.Ytehelanfgepcmaa
