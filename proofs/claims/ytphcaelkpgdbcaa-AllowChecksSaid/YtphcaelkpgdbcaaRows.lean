/-
  No cell of these rows narrows 'for every input' (looked for: loops, veiled, ifaces, maps, wideKeys, modest, calm, conditions, laid).
  DERIVED. THE GIVEN ROWS OF THIS SEAT. 5 by the template 'for every input the law returns true; each argument reads behind the call as it read before'; 0 by the template 'total and deterministic' (their statements: YtphcaelkpgdbcaaTotals.lean).
  GIVEN WITH THE SEED: the statements are not yours to turn. If you find one false, say at which input.
  Laid BY PROGRAM, IN A SANDBOX (cutbox-rows.mjs): the forced cells as the released guide's own fill.sh prints them over the translation 1aedcbf424b354ca… (all of the seat's roots in one cut). By AI agents, Wed Nov 11 2026. No macro, syntax, notation, axiom, sorry.
-/
import Derived.Test.YtphcaelkpgdbcaaChecked
import GoSem.Claim
import GoSem.ClaimJoined
import GoSem.ClaimMapViews
import Derived.JoinedTies
import Derived.KernelRfl
namespace Go.Proofs.Ytphcaelkpgdbcaa
/- THE CELL 'sum', in the pinned program and in every row, IS THE sha256 OF THE DUMP (.gsa) THAT YtphcaelkpgdbcaaProg.lean LOADS. Nothing in Lean hashes anything: it is a label: what it is worth is what the hold of that sum in a sandbox is worth. -/
noncomputable def Try.pinned : Pinned := { name := "ytphcaelkpgdbcaa", sum := "1aedcbf424b354ca8fc4cbe6d8a637dfe2e2a8a522169cc34f4feafda0160c66", checked := Try.checked }
namespace Rows
def none {H : Type} : Left H := { results := [], args := [] }

/-- 'dactyllaw32.AllowFinds': WHATEVER THE INPUT: true; the input reads as it did. -/
def allowFindsSpec : ChangeSpec := { name := "allowFinds", fn := fun _ => fun
  | [d1, d2, d3, d4, d5, d6] => { results := [.lit (.bool true)], args := [d1, d2, d3, d4, d5, d6] }
  | _ => none }
def allowFindsRow : OpenClaim := { program := "ytphcaelkpgdbcaa", sum := "1aedcbf424b354ca8fc4cbe6d8a637dfe2e2a8a522169cc34f4feafda0160c66", func := "dactyl/dactyllaw32.AllowFinds", spec := "allowFinds", unfollowed := true, recurses := true, apart := false }
def AllowFindsSaid : Prop := allowFindsRow.holds Try.pinned (OpenSpec.ofChange allowFindsSpec)

/-- ITS FALSE NEIGHBOUR: 'it returns false'. Refute it at one input. -/
def allowFindsWrong : ChangeSpec := { name := "allowFinds", fn := fun _ => fun
  | [d1, d2, d3, d4, d5, d6] => { results := [.lit (.bool false)], args := [d1, d2, d3, d4, d5, d6] }
  | _ => none }
def AllowFindsWrongFalsely : Prop := allowFindsRow.holds Try.pinned (OpenSpec.ofChange allowFindsWrong)

/-- 'dactyllaw32.AllowChecks': WHATEVER THE INPUT: true; the input reads as it did. -/
def allowChecksSpec : ChangeSpec := { name := "allowChecks", fn := fun _ => fun
  | [d1, d2, d3, d4, d5, d6, d7] => { results := [.lit (.bool true)], args := [d1, d2, d3, d4, d5, d6, d7] }
  | _ => none }
def allowChecksRow : OpenClaim := { program := "ytphcaelkpgdbcaa", sum := "1aedcbf424b354ca8fc4cbe6d8a637dfe2e2a8a522169cc34f4feafda0160c66", func := "dactyl/dactyllaw32.AllowChecks", spec := "allowChecks", unfollowed := true, recurses := true, apart := false }
def AllowChecksSaid : Prop := allowChecksRow.holds Try.pinned (OpenSpec.ofChange allowChecksSpec)

/-- ITS FALSE NEIGHBOUR: 'it returns false'. Refute it at one input. -/
def allowChecksWrong : ChangeSpec := { name := "allowChecks", fn := fun _ => fun
  | [d1, d2, d3, d4, d5, d6, d7] => { results := [.lit (.bool false)], args := [d1, d2, d3, d4, d5, d6, d7] }
  | _ => none }
def AllowChecksWrongFalsely : Prop := allowChecksRow.holds Try.pinned (OpenSpec.ofChange allowChecksWrong)

/-- 'dactyllaw32.AllowBest': WHATEVER THE INPUT: true; the input reads as it did. -/
def allowBestSpec : ChangeSpec := { name := "allowBest", fn := fun _ => fun
  | [d1, d2, d3, d4, d5] => { results := [.lit (.bool true)], args := [d1, d2, d3, d4, d5] }
  | _ => none }
def allowBestRow : OpenClaim := { program := "ytphcaelkpgdbcaa", sum := "1aedcbf424b354ca8fc4cbe6d8a637dfe2e2a8a522169cc34f4feafda0160c66", func := "dactyl/dactyllaw32.AllowBest", spec := "allowBest", unfollowed := true, recurses := true, apart := false }
def AllowBestSaid : Prop := allowBestRow.holds Try.pinned (OpenSpec.ofChange allowBestSpec)

/-- ITS FALSE NEIGHBOUR: 'it returns false'. Refute it at one input. -/
def allowBestWrong : ChangeSpec := { name := "allowBest", fn := fun _ => fun
  | [d1, d2, d3, d4, d5] => { results := [.lit (.bool false)], args := [d1, d2, d3, d4, d5] }
  | _ => none }
def AllowBestWrongFalsely : Prop := allowBestRow.holds Try.pinned (OpenSpec.ofChange allowBestWrong)

/-- 'dactyllaw32.AllowMore': WHATEVER THE INPUT: true; the input reads as it did. -/
def allowMoreSpec : ChangeSpec := { name := "allowMore", fn := fun _ => fun
  | [d1, d2, d3, d4, d5, d6, d7] => { results := [.lit (.bool true)], args := [d1, d2, d3, d4, d5, d6, d7] }
  | _ => none }
def allowMoreRow : OpenClaim := { program := "ytphcaelkpgdbcaa", sum := "1aedcbf424b354ca8fc4cbe6d8a637dfe2e2a8a522169cc34f4feafda0160c66", func := "dactyl/dactyllaw32.AllowMore", spec := "allowMore", unfollowed := true, recurses := true, apart := false }
def AllowMoreSaid : Prop := allowMoreRow.holds Try.pinned (OpenSpec.ofChange allowMoreSpec)

/-- ITS FALSE NEIGHBOUR: 'it returns false'. Refute it at one input. -/
def allowMoreWrong : ChangeSpec := { name := "allowMore", fn := fun _ => fun
  | [d1, d2, d3, d4, d5, d6, d7] => { results := [.lit (.bool false)], args := [d1, d2, d3, d4, d5, d6, d7] }
  | _ => none }
def AllowMoreWrongFalsely : Prop := allowMoreRow.holds Try.pinned (OpenSpec.ofChange allowMoreWrong)

/-- 'dactyllaw32.AllowFactors': WHATEVER THE INPUT: true; the input reads as it did. -/
def allowFactorsSpec : ChangeSpec := { name := "allowFactors", fn := fun _ => fun
  | [d1, d2, d3, d4, d5, d6, d7] => { results := [.lit (.bool true)], args := [d1, d2, d3, d4, d5, d6, d7] }
  | _ => none }
def allowFactorsRow : OpenClaim := { program := "ytphcaelkpgdbcaa", sum := "1aedcbf424b354ca8fc4cbe6d8a637dfe2e2a8a522169cc34f4feafda0160c66", func := "dactyl/dactyllaw32.AllowFactors", spec := "allowFactors", unfollowed := true, recurses := true, apart := false }
def AllowFactorsSaid : Prop := allowFactorsRow.holds Try.pinned (OpenSpec.ofChange allowFactorsSpec)

/-- ITS FALSE NEIGHBOUR: 'it returns false'. Refute it at one input. -/
def allowFactorsWrong : ChangeSpec := { name := "allowFactors", fn := fun _ => fun
  | [d1, d2, d3, d4, d5, d6, d7] => { results := [.lit (.bool false)], args := [d1, d2, d3, d4, d5, d6, d7] }
  | _ => none }
def AllowFactorsWrongFalsely : Prop := allowFactorsRow.holds Try.pinned (OpenSpec.ofChange allowFactorsWrong)

/- THE SECOND FORM. 'bulk': how many values and letters a reading holds, each counted each time it is reached (what is shared counts as often as it is met; a slice's spare places count too). A statement '..UptoSaid' is the law's where the arguments, and the package variables that the reading takes, are together of bulk at most 1048576: NARROWER than '..Said'. Prove '..Said' where nothing that the law and all that it calls make is longer than what came in: it says more and counts as full. Else prove '..UptoSaid'. A law counts once. -/
mutual
def uptoBulk {H : Type} : DataW H → Nat
  | .lit (.string bytes) => bytes.length + 1
  | .lit _ => 1
  | .nil => 1
  | .ptr d => uptoBulk d + 1
  | .slice elems spare => uptoBulkAll elems + uptoBulkAll spare + 1
  | .agg parts => uptoBulkAll parts + 1
  | .iface _ d => uptoBulk d + 1
  | .map entries => uptoBulkEntries entries + 1
  | .held _ => 1
def uptoBulkAll {H : Type} : List (DataW H) → Nat
  | [] => 0
  | d :: r => uptoBulk d + uptoBulkAll r
def uptoBulkEntries {H : Type} : List (Lit × DataW H) → Nat
  | [] => 0
  | x :: r => uptoBulkEntry x + uptoBulkEntries r
def uptoBulkEntry {H : Type} : Lit × DataW H → Nat
  | (.string bytes, d) => bytes.length + uptoBulk d + 1
  | (_, d) => uptoBulk d + 1
 end
def uptoSmall : (H : Type) → List (DataW H) → Bool := fun _ ds => decide (uptoBulkAll ds ≤ 1048576)
def OpenSpec.upto (s : _root_.Go.ChangeSpec) : _root_.Go.OpenSpec := { _root_.Go.OpenSpec.ofChange s with cond := some uptoSmall }

/-- 'dactyllaw32.AllowFinds', WHERE WHAT IT READS IS OF BULK AT MOST 1048576: true; the input reads as it did. -/
def allowFindsUptoRow : OpenClaim := { program := "ytphcaelkpgdbcaa", sum := "1aedcbf424b354ca8fc4cbe6d8a637dfe2e2a8a522169cc34f4feafda0160c66", func := "dactyl/dactyllaw32.AllowFinds", spec := "allowFinds", unfollowed := true, recurses := true, apart := false, narrowed := true }
def AllowFindsUptoSaid : Prop := allowFindsUptoRow.holds Try.pinned (OpenSpec.upto allowFindsSpec)

/-- 'dactyllaw32.AllowChecks', WHERE WHAT IT READS IS OF BULK AT MOST 1048576: true; the input reads as it did. -/
def allowChecksUptoRow : OpenClaim := { program := "ytphcaelkpgdbcaa", sum := "1aedcbf424b354ca8fc4cbe6d8a637dfe2e2a8a522169cc34f4feafda0160c66", func := "dactyl/dactyllaw32.AllowChecks", spec := "allowChecks", unfollowed := true, recurses := true, apart := false, narrowed := true }
def AllowChecksUptoSaid : Prop := allowChecksUptoRow.holds Try.pinned (OpenSpec.upto allowChecksSpec)

/-- 'dactyllaw32.AllowBest', WHERE WHAT IT READS IS OF BULK AT MOST 1048576: true; the input reads as it did. -/
def allowBestUptoRow : OpenClaim := { program := "ytphcaelkpgdbcaa", sum := "1aedcbf424b354ca8fc4cbe6d8a637dfe2e2a8a522169cc34f4feafda0160c66", func := "dactyl/dactyllaw32.AllowBest", spec := "allowBest", unfollowed := true, recurses := true, apart := false, narrowed := true }
def AllowBestUptoSaid : Prop := allowBestUptoRow.holds Try.pinned (OpenSpec.upto allowBestSpec)

/-- 'dactyllaw32.AllowMore', WHERE WHAT IT READS IS OF BULK AT MOST 1048576: true; the input reads as it did. -/
def allowMoreUptoRow : OpenClaim := { program := "ytphcaelkpgdbcaa", sum := "1aedcbf424b354ca8fc4cbe6d8a637dfe2e2a8a522169cc34f4feafda0160c66", func := "dactyl/dactyllaw32.AllowMore", spec := "allowMore", unfollowed := true, recurses := true, apart := false, narrowed := true }
def AllowMoreUptoSaid : Prop := allowMoreUptoRow.holds Try.pinned (OpenSpec.upto allowMoreSpec)

/-- 'dactyllaw32.AllowFactors', WHERE WHAT IT READS IS OF BULK AT MOST 1048576: true; the input reads as it did. -/
def allowFactorsUptoRow : OpenClaim := { program := "ytphcaelkpgdbcaa", sum := "1aedcbf424b354ca8fc4cbe6d8a637dfe2e2a8a522169cc34f4feafda0160c66", func := "dactyl/dactyllaw32.AllowFactors", spec := "allowFactors", unfollowed := true, recurses := true, apart := false, narrowed := true }
def AllowFactorsUptoSaid : Prop := allowFactorsUptoRow.holds Try.pinned (OpenSpec.upto allowFactorsSpec)

end Rows
end Go.Proofs.Ytphcaelkpgdbcaa
