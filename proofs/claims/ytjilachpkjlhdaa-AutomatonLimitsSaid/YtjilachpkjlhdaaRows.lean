/-
  No cell of these rows narrows 'for every input' (looked for: loops, veiled, ifaces, maps, wideKeys, modest, calm, conditions, laid).
  DERIVED. THE GIVEN ROWS OF THIS SEAT. 7 by the template 'for every input the law returns true; each argument reads behind the call as it read before'; 0 by the template 'total and deterministic' (their statements: YtjilachpkjlhdaaTotals.lean).
  GIVEN WITH THE SEED: the statements are not yours to turn. If you find one false, say at which input.
  Laid BY PROGRAM, IN A SANDBOX (cutbox-rows.mjs): the forced cells as the released guide's own fill.sh prints them over the translation 557ec13e31ba1fd0… (all of the seat's roots in one cut). By AI agents, Wed Nov 11 2026. No macro, syntax, notation, axiom, sorry.
-/
import Derived.Test.YtjilachpkjlhdaaChecked
import GoSem.Claim
import GoSem.ClaimJoined
import GoSem.ClaimMapViews
import Derived.JoinedTies
import Derived.KernelRfl
namespace Go.Proofs.Ytjilachpkjlhdaa
/- THE CELL 'sum', in the pinned program and in every row, IS THE sha256 OF THE DUMP (.gsa) THAT YtjilachpkjlhdaaProg.lean LOADS. Nothing in Lean hashes anything: it is a label: what it is worth is what the hold of that sum in a sandbox is worth. -/
noncomputable def Try.pinned : Pinned := { name := "ytjilachpkjlhdaa", sum := "557ec13e31ba1fd0f1e2b2a1a0280cef28aaba42c325b848704d1e288d1fd4f2", checked := Try.checked }
namespace Rows
def none {H : Type} : Left H := { results := [], args := [] }

/-- 'dactyllaw05.AutomatonValid': WHATEVER THE INPUT: true; the input reads as it did. -/
def automatonValidSpec : ChangeSpec := { name := "automatonValid", fn := fun _ => fun
  | [d1, d2, d3, d4, d5, d6] => { results := [.lit (.bool true)], args := [d1, d2, d3, d4, d5, d6] }
  | _ => none }
def automatonValidRow : OpenClaim := { program := "ytjilachpkjlhdaa", sum := "557ec13e31ba1fd0f1e2b2a1a0280cef28aaba42c325b848704d1e288d1fd4f2", func := "dactyl/dactyllaw05.AutomatonValid", spec := "automatonValid", unfollowed := true, recurses := true, plainKeys := false, apart := false }
def AutomatonValidSaid : Prop := automatonValidRow.holds Try.pinned (OpenSpec.ofChange automatonValidSpec)

/-- ITS FALSE NEIGHBOUR: 'it returns false'. Refute it at one input. -/
def automatonValidWrong : ChangeSpec := { name := "automatonValid", fn := fun _ => fun
  | [d1, d2, d3, d4, d5, d6] => { results := [.lit (.bool false)], args := [d1, d2, d3, d4, d5, d6] }
  | _ => none }
def AutomatonValidWrongFalsely : Prop := automatonValidRow.holds Try.pinned (OpenSpec.ofChange automatonValidWrong)

/-- 'dactyllaw05.AutomatonFixed': WHATEVER THE INPUT: true; the input reads as it did. -/
def automatonFixedSpec : ChangeSpec := { name := "automatonFixed", fn := fun _ => fun
  | [d1, d2, d3, d4, d5] => { results := [.lit (.bool true)], args := [d1, d2, d3, d4, d5] }
  | _ => none }
def automatonFixedRow : OpenClaim := { program := "ytjilachpkjlhdaa", sum := "557ec13e31ba1fd0f1e2b2a1a0280cef28aaba42c325b848704d1e288d1fd4f2", func := "dactyl/dactyllaw05.AutomatonFixed", spec := "automatonFixed", unfollowed := true, recurses := true, plainKeys := false, apart := false }
def AutomatonFixedSaid : Prop := automatonFixedRow.holds Try.pinned (OpenSpec.ofChange automatonFixedSpec)

/-- ITS FALSE NEIGHBOUR: 'it returns false'. Refute it at one input. -/
def automatonFixedWrong : ChangeSpec := { name := "automatonFixed", fn := fun _ => fun
  | [d1, d2, d3, d4, d5] => { results := [.lit (.bool false)], args := [d1, d2, d3, d4, d5] }
  | _ => none }
def AutomatonFixedWrongFalsely : Prop := automatonFixedRow.holds Try.pinned (OpenSpec.ofChange automatonFixedWrong)

/-- 'dactyllaw05.AutomatonDiffers': WHATEVER THE INPUT: true; the input reads as it did. -/
def automatonDiffersSpec : ChangeSpec := { name := "automatonDiffers", fn := fun _ => fun
  | [d1, d2, d3, d4, d5, d6] => { results := [.lit (.bool true)], args := [d1, d2, d3, d4, d5, d6] }
  | _ => none }
def automatonDiffersRow : OpenClaim := { program := "ytjilachpkjlhdaa", sum := "557ec13e31ba1fd0f1e2b2a1a0280cef28aaba42c325b848704d1e288d1fd4f2", func := "dactyl/dactyllaw05.AutomatonDiffers", spec := "automatonDiffers", unfollowed := true, recurses := true, plainKeys := false, apart := false }
def AutomatonDiffersSaid : Prop := automatonDiffersRow.holds Try.pinned (OpenSpec.ofChange automatonDiffersSpec)

/-- ITS FALSE NEIGHBOUR: 'it returns false'. Refute it at one input. -/
def automatonDiffersWrong : ChangeSpec := { name := "automatonDiffers", fn := fun _ => fun
  | [d1, d2, d3, d4, d5, d6] => { results := [.lit (.bool false)], args := [d1, d2, d3, d4, d5, d6] }
  | _ => none }
def AutomatonDiffersWrongFalsely : Prop := automatonDiffersRow.holds Try.pinned (OpenSpec.ofChange automatonDiffersWrong)

/-- 'dactyllaw05.AutomatonShortest': WHATEVER THE INPUT: true; the input reads as it did. -/
def automatonShortestSpec : ChangeSpec := { name := "automatonShortest", fn := fun _ => fun
  | [d1, d2] => { results := [.lit (.bool true)], args := [d1, d2] }
  | _ => none }
def automatonShortestRow : OpenClaim := { program := "ytjilachpkjlhdaa", sum := "557ec13e31ba1fd0f1e2b2a1a0280cef28aaba42c325b848704d1e288d1fd4f2", func := "dactyl/dactyllaw05.AutomatonShortest", spec := "automatonShortest", unfollowed := true, recurses := true, plainKeys := false, apart := false }
def AutomatonShortestSaid : Prop := automatonShortestRow.holds Try.pinned (OpenSpec.ofChange automatonShortestSpec)

/-- ITS FALSE NEIGHBOUR: 'it returns false'. Refute it at one input. -/
def automatonShortestWrong : ChangeSpec := { name := "automatonShortest", fn := fun _ => fun
  | [d1, d2] => { results := [.lit (.bool false)], args := [d1, d2] }
  | _ => none }
def AutomatonShortestWrongFalsely : Prop := automatonShortestRow.holds Try.pinned (OpenSpec.ofChange automatonShortestWrong)

/-- 'dactyllaw05.AutomatonLimits': WHATEVER THE INPUT: true; the input reads as it did. -/
def automatonLimitsSpec : ChangeSpec := { name := "automatonLimits", fn := fun _ => fun
  | [d] => { results := [.lit (.bool true)], args := [d] }
  | _ => none }
def automatonLimitsRow : OpenClaim := { program := "ytjilachpkjlhdaa", sum := "557ec13e31ba1fd0f1e2b2a1a0280cef28aaba42c325b848704d1e288d1fd4f2", func := "dactyl/dactyllaw05.AutomatonLimits", spec := "automatonLimits", unfollowed := true, recurses := true, plainKeys := false, apart := false }
def AutomatonLimitsSaid : Prop := automatonLimitsRow.holds Try.pinned (OpenSpec.ofChange automatonLimitsSpec)

/-- ITS FALSE NEIGHBOUR: 'it returns false'. Refute it at one input. -/
def automatonLimitsWrong : ChangeSpec := { name := "automatonLimits", fn := fun _ => fun
  | [d] => { results := [.lit (.bool false)], args := [d] }
  | _ => none }
def AutomatonLimitsWrongFalsely : Prop := automatonLimitsRow.holds Try.pinned (OpenSpec.ofChange automatonLimitsWrong)

/-- 'dactyllaw05.AutomatonCombines': WHATEVER THE INPUT: true; the input reads as it did. -/
def automatonCombinesSpec : ChangeSpec := { name := "automatonCombines", fn := fun _ => fun
  | [d1, d2, d3, d4, d5, d6] => { results := [.lit (.bool true)], args := [d1, d2, d3, d4, d5, d6] }
  | _ => none }
def automatonCombinesRow : OpenClaim := { program := "ytjilachpkjlhdaa", sum := "557ec13e31ba1fd0f1e2b2a1a0280cef28aaba42c325b848704d1e288d1fd4f2", func := "dactyl/dactyllaw05.AutomatonCombines", spec := "automatonCombines", unfollowed := true, recurses := true, plainKeys := false, apart := false }
def AutomatonCombinesSaid : Prop := automatonCombinesRow.holds Try.pinned (OpenSpec.ofChange automatonCombinesSpec)

/-- ITS FALSE NEIGHBOUR: 'it returns false'. Refute it at one input. -/
def automatonCombinesWrong : ChangeSpec := { name := "automatonCombines", fn := fun _ => fun
  | [d1, d2, d3, d4, d5, d6] => { results := [.lit (.bool false)], args := [d1, d2, d3, d4, d5, d6] }
  | _ => none }
def AutomatonCombinesWrongFalsely : Prop := automatonCombinesRow.holds Try.pinned (OpenSpec.ofChange automatonCombinesWrong)

/-- 'dactyllaw05.AutomatonWords': WHATEVER THE INPUT: true; the input reads as it did. -/
def automatonWordsSpec : ChangeSpec := { name := "automatonWords", fn := fun _ => fun
  | [d1, d2, d3] => { results := [.lit (.bool true)], args := [d1, d2, d3] }
  | _ => none }
def automatonWordsRow : OpenClaim := { program := "ytjilachpkjlhdaa", sum := "557ec13e31ba1fd0f1e2b2a1a0280cef28aaba42c325b848704d1e288d1fd4f2", func := "dactyl/dactyllaw05.AutomatonWords", spec := "automatonWords", unfollowed := true, recurses := true, plainKeys := false, apart := false }
def AutomatonWordsSaid : Prop := automatonWordsRow.holds Try.pinned (OpenSpec.ofChange automatonWordsSpec)

/-- ITS FALSE NEIGHBOUR: 'it returns false'. Refute it at one input. -/
def automatonWordsWrong : ChangeSpec := { name := "automatonWords", fn := fun _ => fun
  | [d1, d2, d3] => { results := [.lit (.bool false)], args := [d1, d2, d3] }
  | _ => none }
def AutomatonWordsWrongFalsely : Prop := automatonWordsRow.holds Try.pinned (OpenSpec.ofChange automatonWordsWrong)

/- THE SECOND FORM. 'bulk': how many values and letters a reading holds, each counted each time it is reached (what is shared counts as often as it is met; a slice's spare places count too). A statement '..UptoSaid' is the law's where the arguments, and the package variables that the reading takes, are together of bulk at most 1048576: NARROWER than '..Said'. Prove '..Said' where nothing that the law and all that it calls make is longer than what came in: it says more and counts as full. Else prove '..UptoSaid'. A law counts once. -/
mutual
def uptoBulk {H : Type} : DataW H → Nat
  | .lit (.string bytes) => bytes.length + 1
  | .lit _ => 1
  | .nil => 1
  | .ptr d => uptoBulk d + 1
  | .slice elems spare => uptoBulkAll elems + uptoBulkAll spare + 1
  | .agg parts => uptoBulkAll parts + 1
  | .iface _ d => uptoBulk d + 1
  | .map entries => uptoBulkEntries entries + 1
  | .held _ => 1
def uptoBulkAll {H : Type} : List (DataW H) → Nat
  | [] => 0
  | d :: r => uptoBulk d + uptoBulkAll r
def uptoBulkEntries {H : Type} : List (Lit × DataW H) → Nat
  | [] => 0
  | x :: r => uptoBulkEntry x + uptoBulkEntries r
def uptoBulkEntry {H : Type} : Lit × DataW H → Nat
  | (.string bytes, d) => bytes.length + uptoBulk d + 1
  | (_, d) => uptoBulk d + 1
 end
def uptoSmall : (H : Type) → List (DataW H) → Bool := fun _ ds => decide (uptoBulkAll ds ≤ 1048576)
def OpenSpec.upto (s : _root_.Go.ChangeSpec) : _root_.Go.OpenSpec := { _root_.Go.OpenSpec.ofChange s with cond := some uptoSmall }

/-- 'dactyllaw05.AutomatonValid', WHERE WHAT IT READS IS OF BULK AT MOST 1048576: true; the input reads as it did. -/
def automatonValidUptoRow : OpenClaim := { program := "ytjilachpkjlhdaa", sum := "557ec13e31ba1fd0f1e2b2a1a0280cef28aaba42c325b848704d1e288d1fd4f2", func := "dactyl/dactyllaw05.AutomatonValid", spec := "automatonValid", unfollowed := true, recurses := true, plainKeys := false, apart := false, narrowed := true }
def AutomatonValidUptoSaid : Prop := automatonValidUptoRow.holds Try.pinned (OpenSpec.upto automatonValidSpec)

/-- 'dactyllaw05.AutomatonFixed', WHERE WHAT IT READS IS OF BULK AT MOST 1048576: true; the input reads as it did. -/
def automatonFixedUptoRow : OpenClaim := { program := "ytjilachpkjlhdaa", sum := "557ec13e31ba1fd0f1e2b2a1a0280cef28aaba42c325b848704d1e288d1fd4f2", func := "dactyl/dactyllaw05.AutomatonFixed", spec := "automatonFixed", unfollowed := true, recurses := true, plainKeys := false, apart := false, narrowed := true }
def AutomatonFixedUptoSaid : Prop := automatonFixedUptoRow.holds Try.pinned (OpenSpec.upto automatonFixedSpec)

/-- 'dactyllaw05.AutomatonDiffers', WHERE WHAT IT READS IS OF BULK AT MOST 1048576: true; the input reads as it did. -/
def automatonDiffersUptoRow : OpenClaim := { program := "ytjilachpkjlhdaa", sum := "557ec13e31ba1fd0f1e2b2a1a0280cef28aaba42c325b848704d1e288d1fd4f2", func := "dactyl/dactyllaw05.AutomatonDiffers", spec := "automatonDiffers", unfollowed := true, recurses := true, plainKeys := false, apart := false, narrowed := true }
def AutomatonDiffersUptoSaid : Prop := automatonDiffersUptoRow.holds Try.pinned (OpenSpec.upto automatonDiffersSpec)

/-- 'dactyllaw05.AutomatonShortest', WHERE WHAT IT READS IS OF BULK AT MOST 1048576: true; the input reads as it did. -/
def automatonShortestUptoRow : OpenClaim := { program := "ytjilachpkjlhdaa", sum := "557ec13e31ba1fd0f1e2b2a1a0280cef28aaba42c325b848704d1e288d1fd4f2", func := "dactyl/dactyllaw05.AutomatonShortest", spec := "automatonShortest", unfollowed := true, recurses := true, plainKeys := false, apart := false, narrowed := true }
def AutomatonShortestUptoSaid : Prop := automatonShortestUptoRow.holds Try.pinned (OpenSpec.upto automatonShortestSpec)

/-- 'dactyllaw05.AutomatonLimits', WHERE WHAT IT READS IS OF BULK AT MOST 1048576: true; the input reads as it did. -/
def automatonLimitsUptoRow : OpenClaim := { program := "ytjilachpkjlhdaa", sum := "557ec13e31ba1fd0f1e2b2a1a0280cef28aaba42c325b848704d1e288d1fd4f2", func := "dactyl/dactyllaw05.AutomatonLimits", spec := "automatonLimits", unfollowed := true, recurses := true, plainKeys := false, apart := false, narrowed := true }
def AutomatonLimitsUptoSaid : Prop := automatonLimitsUptoRow.holds Try.pinned (OpenSpec.upto automatonLimitsSpec)

/-- 'dactyllaw05.AutomatonCombines', WHERE WHAT IT READS IS OF BULK AT MOST 1048576: true; the input reads as it did. -/
def automatonCombinesUptoRow : OpenClaim := { program := "ytjilachpkjlhdaa", sum := "557ec13e31ba1fd0f1e2b2a1a0280cef28aaba42c325b848704d1e288d1fd4f2", func := "dactyl/dactyllaw05.AutomatonCombines", spec := "automatonCombines", unfollowed := true, recurses := true, plainKeys := false, apart := false, narrowed := true }
def AutomatonCombinesUptoSaid : Prop := automatonCombinesUptoRow.holds Try.pinned (OpenSpec.upto automatonCombinesSpec)

/-- 'dactyllaw05.AutomatonWords', WHERE WHAT IT READS IS OF BULK AT MOST 1048576: true; the input reads as it did. -/
def automatonWordsUptoRow : OpenClaim := { program := "ytjilachpkjlhdaa", sum := "557ec13e31ba1fd0f1e2b2a1a0280cef28aaba42c325b848704d1e288d1fd4f2", func := "dactyl/dactyllaw05.AutomatonWords", spec := "automatonWords", unfollowed := true, recurses := true, plainKeys := false, apart := false, narrowed := true }
def AutomatonWordsUptoSaid : Prop := automatonWordsUptoRow.holds Try.pinned (OpenSpec.upto automatonWordsSpec)

end Rows
end Go.Proofs.Ytjilachpkjlhdaa
