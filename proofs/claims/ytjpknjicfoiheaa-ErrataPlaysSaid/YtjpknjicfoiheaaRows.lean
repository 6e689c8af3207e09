/-
  No cell of these rows narrows 'for every input' (looked for: loops, veiled, ifaces, maps, wideKeys, modest, calm, conditions, laid).
  DERIVED. THE GIVEN ROWS OF THIS SEAT. 5 by the template 'for every input the law returns true; each argument reads behind the call as it read before'; 0 by the template 'total and deterministic' (their statements: YtjpknjicfoiheaaTotals.lean).
  GIVEN WITH THE SEED: the statements are not yours to turn. If you find one false, say at which input.
  Laid BY PROGRAM, IN A SANDBOX (cutbox-rows.mjs): the forced cells as the released guide's own fill.sh prints them over the translation 8ddea6e5f848a917… (all of the seat's roots in one cut). By AI agents, Wed Nov 11 2026. No macro, syntax, notation, axiom, sorry.
-/
import Derived.Test.YtjpknjicfoiheaaChecked
import GoSem.Claim
import GoSem.ClaimJoined
import GoSem.ClaimMapViews
import Derived.JoinedTies
import Derived.KernelRfl
namespace Go.Proofs.Ytjpknjicfoiheaa
/- THE CELL 'sum', in the pinned program and in every row, IS THE sha256 OF THE DUMP (.gsa) THAT YtjpknjicfoiheaaProg.lean LOADS. Nothing in Lean hashes anything: it is a label: what it is worth is what the hold of that sum in a sandbox is worth. -/
noncomputable def Try.pinned : Pinned := { name := "ytjpknjicfoiheaa", sum := "8ddea6e5f848a917fa45366562adbfaf92f2822e17e7a2cca966c610218743a9", checked := Try.checked }
namespace Rows
def none {H : Type} : Left H := { results := [], args := [] }

/-- 'dactyllaw41.ErrataFacts': WHATEVER THE INPUT: true; the input reads as it did. -/
def errataFactsSpec : ChangeSpec := { name := "errataFacts", fn := fun _ => fun
  | [d1, d2] => { results := [.lit (.bool true)], args := [d1, d2] }
  | _ => none }
def errataFactsRow : OpenClaim := { program := "ytjpknjicfoiheaa", sum := "8ddea6e5f848a917fa45366562adbfaf92f2822e17e7a2cca966c610218743a9", func := "dactyl/dactyllaw41.ErrataFacts", spec := "errataFacts", unfollowed := true, recurses := true, apart := false }
def ErrataFactsSaid : Prop := errataFactsRow.holds Try.pinned (OpenSpec.ofChange errataFactsSpec)

/-- ITS FALSE NEIGHBOUR: 'it returns false'. Refute it at one input. -/
def errataFactsWrong : ChangeSpec := { name := "errataFacts", fn := fun _ => fun
  | [d1, d2] => { results := [.lit (.bool false)], args := [d1, d2] }
  | _ => none }
def ErrataFactsWrongFalsely : Prop := errataFactsRow.holds Try.pinned (OpenSpec.ofChange errataFactsWrong)

/-- 'dactyllaw41.ErrataMoment': WHATEVER THE INPUT: true; the input reads as it did. -/
def errataMomentSpec : ChangeSpec := { name := "errataMoment", fn := fun _ => fun
  | [d1, d2] => { results := [.lit (.bool true)], args := [d1, d2] }
  | _ => none }
def errataMomentRow : OpenClaim := { program := "ytjpknjicfoiheaa", sum := "8ddea6e5f848a917fa45366562adbfaf92f2822e17e7a2cca966c610218743a9", func := "dactyl/dactyllaw41.ErrataMoment", spec := "errataMoment", unfollowed := true, recurses := true, apart := false }
def ErrataMomentSaid : Prop := errataMomentRow.holds Try.pinned (OpenSpec.ofChange errataMomentSpec)

/-- ITS FALSE NEIGHBOUR: 'it returns false'. Refute it at one input. -/
def errataMomentWrong : ChangeSpec := { name := "errataMoment", fn := fun _ => fun
  | [d1, d2] => { results := [.lit (.bool false)], args := [d1, d2] }
  | _ => none }
def ErrataMomentWrongFalsely : Prop := errataMomentRow.holds Try.pinned (OpenSpec.ofChange errataMomentWrong)

/-- 'dactyllaw41.ErrataThrough': WHATEVER THE INPUT: true; the input reads as it did. -/
def errataThroughSpec : ChangeSpec := { name := "errataThrough", fn := fun _ => fun
  | [d1, d2, d3] => { results := [.lit (.bool true)], args := [d1, d2, d3] }
  | _ => none }
def errataThroughRow : OpenClaim := { program := "ytjpknjicfoiheaa", sum := "8ddea6e5f848a917fa45366562adbfaf92f2822e17e7a2cca966c610218743a9", func := "dactyl/dactyllaw41.ErrataThrough", spec := "errataThrough", unfollowed := true, recurses := true, apart := false }
def ErrataThroughSaid : Prop := errataThroughRow.holds Try.pinned (OpenSpec.ofChange errataThroughSpec)

/-- ITS FALSE NEIGHBOUR: 'it returns false'. Refute it at one input. -/
def errataThroughWrong : ChangeSpec := { name := "errataThrough", fn := fun _ => fun
  | [d1, d2, d3] => { results := [.lit (.bool false)], args := [d1, d2, d3] }
  | _ => none }
def ErrataThroughWrongFalsely : Prop := errataThroughRow.holds Try.pinned (OpenSpec.ofChange errataThroughWrong)

/-- 'dactyllaw41.ErrataNetwork': WHATEVER THE INPUT: true; the input reads as it did. -/
def errataNetworkSpec : ChangeSpec := { name := "errataNetwork", fn := fun _ => fun
  | [d1, d2] => { results := [.lit (.bool true)], args := [d1, d2] }
  | _ => none }
def errataNetworkRow : OpenClaim := { program := "ytjpknjicfoiheaa", sum := "8ddea6e5f848a917fa45366562adbfaf92f2822e17e7a2cca966c610218743a9", func := "dactyl/dactyllaw41.ErrataNetwork", spec := "errataNetwork", unfollowed := true, recurses := true, apart := false }
def ErrataNetworkSaid : Prop := errataNetworkRow.holds Try.pinned (OpenSpec.ofChange errataNetworkSpec)

/-- ITS FALSE NEIGHBOUR: 'it returns false'. Refute it at one input. -/
def errataNetworkWrong : ChangeSpec := { name := "errataNetwork", fn := fun _ => fun
  | [d1, d2] => { results := [.lit (.bool false)], args := [d1, d2] }
  | _ => none }
def ErrataNetworkWrongFalsely : Prop := errataNetworkRow.holds Try.pinned (OpenSpec.ofChange errataNetworkWrong)

/-- 'dactyllaw41.ErrataPlays': WHATEVER THE INPUT: true; the input reads as it did. -/
def errataPlaysSpec : ChangeSpec := { name := "errataPlays", fn := fun _ => fun
  | [d1, d2, d3, d4, d5, d6] => { results := [.lit (.bool true)], args := [d1, d2, d3, d4, d5, d6] }
  | _ => none }
def errataPlaysRow : OpenClaim := { program := "ytjpknjicfoiheaa", sum := "8ddea6e5f848a917fa45366562adbfaf92f2822e17e7a2cca966c610218743a9", func := "dactyl/dactyllaw41.ErrataPlays", spec := "errataPlays", unfollowed := true, recurses := true, apart := false }
def ErrataPlaysSaid : Prop := errataPlaysRow.holds Try.pinned (OpenSpec.ofChange errataPlaysSpec)

/-- ITS FALSE NEIGHBOUR: 'it returns false'. Refute it at one input. -/
def errataPlaysWrong : ChangeSpec := { name := "errataPlays", fn := fun _ => fun
  | [d1, d2, d3, d4, d5, d6] => { results := [.lit (.bool false)], args := [d1, d2, d3, d4, d5, d6] }
  | _ => none }
def ErrataPlaysWrongFalsely : Prop := errataPlaysRow.holds Try.pinned (OpenSpec.ofChange errataPlaysWrong)

/- THE SECOND FORM. 'bulk': how many values and letters a reading holds, each counted each time it is reached (what is shared counts as often as it is met; a slice's spare places count too). A statement '..UptoSaid' is the law's where the arguments, and the package variables that the reading takes, are together of bulk at most 1048576: NARROWER than '..Said'. Prove '..Said' where nothing that the law and all that it calls make is longer than what came in: it says more and counts as full. Else prove '..UptoSaid'. A law counts once. -/
mutual
def uptoBulk {H : Type} : DataW H → Nat
  | .lit (.string bytes) => bytes.length + 1
  | .lit _ => 1
  | .nil => 1
  | .ptr d => uptoBulk d + 1
  | .slice elems spare => uptoBulkAll elems + uptoBulkAll spare + 1
  | .agg parts => uptoBulkAll parts + 1
  | .iface _ d => uptoBulk d + 1
  | .map entries => uptoBulkEntries entries + 1
  | .held _ => 1
def uptoBulkAll {H : Type} : List (DataW H) → Nat
  | [] => 0
  | d :: r => uptoBulk d + uptoBulkAll r
def uptoBulkEntries {H : Type} : List (Lit × DataW H) → Nat
  | [] => 0
  | x :: r => uptoBulkEntry x + uptoBulkEntries r
def uptoBulkEntry {H : Type} : Lit × DataW H → Nat
  | (.string bytes, d) => bytes.length + uptoBulk d + 1
  | (_, d) => uptoBulk d + 1
 end
def uptoSmall : (H : Type) → List (DataW H) → Bool := fun _ ds => decide (uptoBulkAll ds ≤ 1048576)
def OpenSpec.upto (s : _root_.Go.ChangeSpec) : _root_.Go.OpenSpec := { _root_.Go.OpenSpec.ofChange s with cond := some uptoSmall }

/-- 'dactyllaw41.ErrataFacts', WHERE WHAT IT READS IS OF BULK AT MOST 1048576: true; the input reads as it did. -/
def errataFactsUptoRow : OpenClaim := { program := "ytjpknjicfoiheaa", sum := "8ddea6e5f848a917fa45366562adbfaf92f2822e17e7a2cca966c610218743a9", func := "dactyl/dactyllaw41.ErrataFacts", spec := "errataFacts", unfollowed := true, recurses := true, apart := false, narrowed := true }
def ErrataFactsUptoSaid : Prop := errataFactsUptoRow.holds Try.pinned (OpenSpec.upto errataFactsSpec)

/-- 'dactyllaw41.ErrataMoment', WHERE WHAT IT READS IS OF BULK AT MOST 1048576: true; the input reads as it did. -/
def errataMomentUptoRow : OpenClaim := { program := "ytjpknjicfoiheaa", sum := "8ddea6e5f848a917fa45366562adbfaf92f2822e17e7a2cca966c610218743a9", func := "dactyl/dactyllaw41.ErrataMoment", spec := "errataMoment", unfollowed := true, recurses := true, apart := false, narrowed := true }
def ErrataMomentUptoSaid : Prop := errataMomentUptoRow.holds Try.pinned (OpenSpec.upto errataMomentSpec)

/-- 'dactyllaw41.ErrataThrough', WHERE WHAT IT READS IS OF BULK AT MOST 1048576: true; the input reads as it did. -/
def errataThroughUptoRow : OpenClaim := { program := "ytjpknjicfoiheaa", sum := "8ddea6e5f848a917fa45366562adbfaf92f2822e17e7a2cca966c610218743a9", func := "dactyl/dactyllaw41.ErrataThrough", spec := "errataThrough", unfollowed := true, recurses := true, apart := false, narrowed := true }
def ErrataThroughUptoSaid : Prop := errataThroughUptoRow.holds Try.pinned (OpenSpec.upto errataThroughSpec)

/-- 'dactyllaw41.ErrataNetwork', WHERE WHAT IT READS IS OF BULK AT MOST 1048576: true; the input reads as it did. -/
def errataNetworkUptoRow : OpenClaim := { program := "ytjpknjicfoiheaa", sum := "8ddea6e5f848a917fa45366562adbfaf92f2822e17e7a2cca966c610218743a9", func := "dactyl/dactyllaw41.ErrataNetwork", spec := "errataNetwork", unfollowed := true, recurses := true, apart := false, narrowed := true }
def ErrataNetworkUptoSaid : Prop := errataNetworkUptoRow.holds Try.pinned (OpenSpec.upto errataNetworkSpec)

/-- 'dactyllaw41.ErrataPlays', WHERE WHAT IT READS IS OF BULK AT MOST 1048576: true; the input reads as it did. -/
def errataPlaysUptoRow : OpenClaim := { program := "ytjpknjicfoiheaa", sum := "8ddea6e5f848a917fa45366562adbfaf92f2822e17e7a2cca966c610218743a9", func := "dactyl/dactyllaw41.ErrataPlays", spec := "errataPlays", unfollowed := true, recurses := true, apart := false, narrowed := true }
def ErrataPlaysUptoSaid : Prop := errataPlaysUptoRow.holds Try.pinned (OpenSpec.upto errataPlaysSpec)

end Rows
end Go.Proofs.Ytjpknjicfoiheaa
