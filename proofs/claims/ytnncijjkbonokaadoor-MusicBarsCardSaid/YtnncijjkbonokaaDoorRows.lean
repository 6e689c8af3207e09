/-
  NARROWER THAN 'FOR EVERY INPUT', by the rows' own cells (each row's printed sentence says how): MusicBars: laid · MusicEncodes: laid · MusicReads: laid · MusicAligned: laid · MusicNeeded: laid · MusicLines: laid · MusicValid: laid.
  DERIVED. THE GIVEN ROWS OF THIS SEAT. 7 by the template 'for every input the law returns true; each argument reads behind the call as it read before'; 0 by the template 'total and deterministic' (their statements: YtnncijjkbonokaaDoorTotals.lean).
  GIVEN WITH THE SEED: the statements are not yours to turn. If you find one false, say at which input.
  Laid BY PROGRAM, IN A SANDBOX (cutbox-rows.mjs): the forced cells as the released guide's own fill.sh prints them over the translation 17b9559dea1309c7… (all of the seat's roots in one cut). By AI agents, Wed Nov 11 2026. No macro, syntax, notation, axiom, sorry.
-/
import Derived.Test.YtnncijjkbonokaaDoorChecked
import GoSem.Claim
import GoSem.ClaimJoined
import GoSem.ClaimMapViews
import Derived.JoinedTies
import Derived.KernelRfl
namespace Go.Proofs.YtnncijjkbonokaaDoor
/- THE CELL 'sum', in the pinned program and in every row, IS THE sha256 OF THE DUMP (.gsa) THAT YtnncijjkbonokaaDoorProg.lean LOADS. Nothing in Lean hashes anything: it is a label: what it is worth is what the hold of that sum in a sandbox is worth. -/
noncomputable def Tryd.pinned : Pinned := { name := "ytnncijjkbonokaadoor", sum := "17b9559dea1309c7e2d9af0564d7f68217c0bafe25dd0ead8f4a724e5733f13a", checked := Tryd.checked }
namespace Rows
def none {H : Type} : Left H := { results := [], args := [] }

/- WHAT THE LISTED PACKAGE-LEVEL VARIABLES READ AS WHEN THE CALL BEGINS. Each datum BY PROGRAM (the guide's laid-datum.mjs) off the statement by which the dump's own 'gosem.cut.vars' lays the variable. In a bare row this is a premise. The card (YtnncijjkbonokaaDoorCards.lean) ties it to the program's text. -/
def laid_dactyl_music_octaves {H : Type} : DataW H := .agg [.lit (.int .u8 8), .lit (.int .u8 24), .lit (.int .u8 56), .lit (.int .u8 16), .lit (.int .u8 40), .lit (.int .u8 48), .lit (.int .u8 32)]
def laid_dactyl_music_names {H : Type} : DataW H := .agg [.lit (.int .u8 25), .lit (.int .u8 17), .lit (.int .u8 11), .lit (.int .u8 27), .lit (.int .u8 19), .lit (.int .u8 10), .lit (.int .u8 26), .lit (.int .u8 9)]
def laid_dactyl_music_lengths {H : Type} : DataW H := .agg [.lit (.int .u8 36), .lit (.int .u8 4), .lit (.int .u8 32), .lit (.int .u8 0), .lit (.int .u8 36)]

/-- 'dactyllaw16.MusicBars': WHATEVER THE INPUT: true; the input reads as it did. -/
def musicBarsSpec : ChangeSpec := { name := "musicBars", fn := fun _ => fun
  | [d1, d2, d3, d4, d5] => { results := [.lit (.bool true)], args := [d1, d2, d3, d4, d5] }
  | _ => none }
def musicBarsRow : OpenClaim := { program := "ytnncijjkbonokaadoor", sum := "17b9559dea1309c7e2d9af0564d7f68217c0bafe25dd0ead8f4a724e5733f13a", func := "dactyl/dactyllaw16.MusicBars", spec := "musicBars", unfollowed := true, recurses := true, named := ["dactyl/music.octaves", "dactyl/music.names", "dactyl/music.lengths"], apart := false, laid := [("dactyl/music.octaves", laid_dactyl_music_octaves), ("dactyl/music.names", laid_dactyl_music_names), ("dactyl/music.lengths", laid_dactyl_music_lengths)] }
def MusicBarsSaid : Prop := musicBarsRow.holds Tryd.pinned (OpenSpec.ofChange musicBarsSpec)

/-- ITS FALSE NEIGHBOUR: 'it returns false'. Refute it at one input. -/
def musicBarsWrong : ChangeSpec := { name := "musicBars", fn := fun _ => fun
  | [d1, d2, d3, d4, d5] => { results := [.lit (.bool false)], args := [d1, d2, d3, d4, d5] }
  | _ => none }
def MusicBarsWrongFalsely : Prop := musicBarsRow.holds Tryd.pinned (OpenSpec.ofChange musicBarsWrong)

/-- 'dactyllaw16.MusicEncodes': WHATEVER THE INPUT: true; the input reads as it did. -/
def musicEncodesSpec : ChangeSpec := { name := "musicEncodes", fn := fun _ => fun
  | [d1, d2, d3, d4, d5] => { results := [.lit (.bool true)], args := [d1, d2, d3, d4, d5] }
  | _ => none }
def musicEncodesRow : OpenClaim := { program := "ytnncijjkbonokaadoor", sum := "17b9559dea1309c7e2d9af0564d7f68217c0bafe25dd0ead8f4a724e5733f13a", func := "dactyl/dactyllaw16.MusicEncodes", spec := "musicEncodes", unfollowed := true, recurses := true, named := ["dactyl/music.octaves", "dactyl/music.names", "dactyl/music.lengths"], apart := false, laid := [("dactyl/music.octaves", laid_dactyl_music_octaves), ("dactyl/music.names", laid_dactyl_music_names), ("dactyl/music.lengths", laid_dactyl_music_lengths)] }
def MusicEncodesSaid : Prop := musicEncodesRow.holds Tryd.pinned (OpenSpec.ofChange musicEncodesSpec)

/-- ITS FALSE NEIGHBOUR: 'it returns false'. Refute it at one input. -/
def musicEncodesWrong : ChangeSpec := { name := "musicEncodes", fn := fun _ => fun
  | [d1, d2, d3, d4, d5] => { results := [.lit (.bool false)], args := [d1, d2, d3, d4, d5] }
  | _ => none }
def MusicEncodesWrongFalsely : Prop := musicEncodesRow.holds Tryd.pinned (OpenSpec.ofChange musicEncodesWrong)

/-- 'dactyllaw16.MusicReads': WHATEVER THE INPUT: true; the input reads as it did. -/
def musicReadsSpec : ChangeSpec := { name := "musicReads", fn := fun _ => fun
  | [d1, d2, d3, d4, d5, d6] => { results := [.lit (.bool true)], args := [d1, d2, d3, d4, d5, d6] }
  | _ => none }
def musicReadsRow : OpenClaim := { program := "ytnncijjkbonokaadoor", sum := "17b9559dea1309c7e2d9af0564d7f68217c0bafe25dd0ead8f4a724e5733f13a", func := "dactyl/dactyllaw16.MusicReads", spec := "musicReads", unfollowed := true, recurses := true, named := ["dactyl/music.names", "dactyl/music.lengths", "dactyl/music.octaves"], apart := false, laid := [("dactyl/music.octaves", laid_dactyl_music_octaves), ("dactyl/music.names", laid_dactyl_music_names), ("dactyl/music.lengths", laid_dactyl_music_lengths)] }
def MusicReadsSaid : Prop := musicReadsRow.holds Tryd.pinned (OpenSpec.ofChange musicReadsSpec)

/-- ITS FALSE NEIGHBOUR: 'it returns false'. Refute it at one input. -/
def musicReadsWrong : ChangeSpec := { name := "musicReads", fn := fun _ => fun
  | [d1, d2, d3, d4, d5, d6] => { results := [.lit (.bool false)], args := [d1, d2, d3, d4, d5, d6] }
  | _ => none }
def MusicReadsWrongFalsely : Prop := musicReadsRow.holds Tryd.pinned (OpenSpec.ofChange musicReadsWrong)

/-- 'dactyllaw16.MusicAligned': WHATEVER THE INPUT: true; the input reads as it did. -/
def musicAlignedSpec : ChangeSpec := { name := "musicAligned", fn := fun _ => fun
  | [d1, d2] => { results := [.lit (.bool true)], args := [d1, d2] }
  | _ => none }
def musicAlignedRow : OpenClaim := { program := "ytnncijjkbonokaadoor", sum := "17b9559dea1309c7e2d9af0564d7f68217c0bafe25dd0ead8f4a724e5733f13a", func := "dactyl/dactyllaw16.MusicAligned", spec := "musicAligned", unfollowed := true, recurses := true, named := ["dactyl/music.octaves", "dactyl/music.names", "dactyl/music.lengths"], apart := false, laid := [("dactyl/music.octaves", laid_dactyl_music_octaves), ("dactyl/music.names", laid_dactyl_music_names), ("dactyl/music.lengths", laid_dactyl_music_lengths)] }
def MusicAlignedSaid : Prop := musicAlignedRow.holds Tryd.pinned (OpenSpec.ofChange musicAlignedSpec)

/-- ITS FALSE NEIGHBOUR: 'it returns false'. Refute it at one input. -/
def musicAlignedWrong : ChangeSpec := { name := "musicAligned", fn := fun _ => fun
  | [d1, d2] => { results := [.lit (.bool false)], args := [d1, d2] }
  | _ => none }
def MusicAlignedWrongFalsely : Prop := musicAlignedRow.holds Tryd.pinned (OpenSpec.ofChange musicAlignedWrong)

/-- 'dactyllaw16.MusicNeeded': WHATEVER THE INPUT: true; the input reads as it did. -/
def musicNeededSpec : ChangeSpec := { name := "musicNeeded", fn := fun _ => fun
  | [d1, d2] => { results := [.lit (.bool true)], args := [d1, d2] }
  | _ => none }
def musicNeededRow : OpenClaim := { program := "ytnncijjkbonokaadoor", sum := "17b9559dea1309c7e2d9af0564d7f68217c0bafe25dd0ead8f4a724e5733f13a", func := "dactyl/dactyllaw16.MusicNeeded", spec := "musicNeeded", unfollowed := true, recurses := true, named := ["dactyl/music.octaves", "dactyl/music.names", "dactyl/music.lengths"], apart := false, laid := [("dactyl/music.octaves", laid_dactyl_music_octaves), ("dactyl/music.names", laid_dactyl_music_names), ("dactyl/music.lengths", laid_dactyl_music_lengths)] }
def MusicNeededSaid : Prop := musicNeededRow.holds Tryd.pinned (OpenSpec.ofChange musicNeededSpec)

/-- ITS FALSE NEIGHBOUR: 'it returns false'. Refute it at one input. -/
def musicNeededWrong : ChangeSpec := { name := "musicNeeded", fn := fun _ => fun
  | [d1, d2] => { results := [.lit (.bool false)], args := [d1, d2] }
  | _ => none }
def MusicNeededWrongFalsely : Prop := musicNeededRow.holds Tryd.pinned (OpenSpec.ofChange musicNeededWrong)

/-- 'dactyllaw16.MusicLines': WHATEVER THE INPUT: true; the input reads as it did. -/
def musicLinesSpec : ChangeSpec := { name := "musicLines", fn := fun _ => fun
  | [d1, d2] => { results := [.lit (.bool true)], args := [d1, d2] }
  | _ => none }
def musicLinesRow : OpenClaim := { program := "ytnncijjkbonokaadoor", sum := "17b9559dea1309c7e2d9af0564d7f68217c0bafe25dd0ead8f4a724e5733f13a", func := "dactyl/dactyllaw16.MusicLines", spec := "musicLines", unfollowed := true, recurses := true, named := ["dactyl/music.octaves", "dactyl/music.names", "dactyl/music.lengths"], apart := false, laid := [("dactyl/music.octaves", laid_dactyl_music_octaves), ("dactyl/music.names", laid_dactyl_music_names), ("dactyl/music.lengths", laid_dactyl_music_lengths)] }
def MusicLinesSaid : Prop := musicLinesRow.holds Tryd.pinned (OpenSpec.ofChange musicLinesSpec)

/-- ITS FALSE NEIGHBOUR: 'it returns false'. Refute it at one input. -/
def musicLinesWrong : ChangeSpec := { name := "musicLines", fn := fun _ => fun
  | [d1, d2] => { results := [.lit (.bool false)], args := [d1, d2] }
  | _ => none }
def MusicLinesWrongFalsely : Prop := musicLinesRow.holds Tryd.pinned (OpenSpec.ofChange musicLinesWrong)

/-- 'dactyllaw16.MusicValid': WHATEVER THE INPUT: true; the input reads as it did. -/
def musicValidSpec : ChangeSpec := { name := "musicValid", fn := fun _ => fun
  | [d1, d2, d3, d4, d5] => { results := [.lit (.bool true)], args := [d1, d2, d3, d4, d5] }
  | _ => none }
def musicValidRow : OpenClaim := { program := "ytnncijjkbonokaadoor", sum := "17b9559dea1309c7e2d9af0564d7f68217c0bafe25dd0ead8f4a724e5733f13a", func := "dactyl/dactyllaw16.MusicValid", spec := "musicValid", unfollowed := true, recurses := true, named := ["dactyl/music.octaves", "dactyl/music.names", "dactyl/music.lengths"], apart := false, laid := [("dactyl/music.octaves", laid_dactyl_music_octaves), ("dactyl/music.names", laid_dactyl_music_names), ("dactyl/music.lengths", laid_dactyl_music_lengths)] }
def MusicValidSaid : Prop := musicValidRow.holds Tryd.pinned (OpenSpec.ofChange musicValidSpec)

/-- ITS FALSE NEIGHBOUR: 'it returns false'. Refute it at one input. -/
def musicValidWrong : ChangeSpec := { name := "musicValid", fn := fun _ => fun
  | [d1, d2, d3, d4, d5] => { results := [.lit (.bool false)], args := [d1, d2, d3, d4, d5] }
  | _ => none }
def MusicValidWrongFalsely : Prop := musicValidRow.holds Tryd.pinned (OpenSpec.ofChange musicValidWrong)

/- THE SECOND FORM. 'bulk': how many values and letters a reading holds, each counted each time it is reached (what is shared counts as often as it is met; a slice's spare places count too). A statement '..UptoSaid' is the law's where the arguments, and the package variables that the reading takes, are together of bulk at most 1048576: NARROWER than '..Said'. Prove '..Said' where nothing that the law and all that it calls make is longer than what came in: it says more and counts as full. Else prove '..UptoSaid'. A law counts once. -/
mutual
def uptoBulk {H : Type} : DataW H → Nat
  | .lit (.string bytes) => bytes.length + 1
  | .lit _ => 1
  | .nil => 1
  | .ptr d => uptoBulk d + 1
  | .slice elems spare => uptoBulkAll elems + uptoBulkAll spare + 1
  | .agg parts => uptoBulkAll parts + 1
  | .iface _ d => uptoBulk d + 1
  | .map entries => uptoBulkEntries entries + 1
  | .held _ => 1
def uptoBulkAll {H : Type} : List (DataW H) → Nat
  | [] => 0
  | d :: r => uptoBulk d + uptoBulkAll r
def uptoBulkEntries {H : Type} : List (Lit × DataW H) → Nat
  | [] => 0
  | x :: r => uptoBulkEntry x + uptoBulkEntries r
def uptoBulkEntry {H : Type} : Lit × DataW H → Nat
  | (.string bytes, d) => bytes.length + uptoBulk d + 1
  | (_, d) => uptoBulk d + 1
 end
def uptoSmall : (H : Type) → List (DataW H) → Bool := fun _ ds => decide (uptoBulkAll ds ≤ 1048576)
def OpenSpec.upto (s : _root_.Go.ChangeSpec) : _root_.Go.OpenSpec := { _root_.Go.OpenSpec.ofChange s with cond := some uptoSmall }

/-- 'dactyllaw16.MusicBars', WHERE WHAT IT READS IS OF BULK AT MOST 1048576: true; the input reads as it did. -/
def musicBarsUptoRow : OpenClaim := { program := "ytnncijjkbonokaadoor", sum := "17b9559dea1309c7e2d9af0564d7f68217c0bafe25dd0ead8f4a724e5733f13a", func := "dactyl/dactyllaw16.MusicBars", spec := "musicBars", unfollowed := true, recurses := true, named := ["dactyl/music.octaves", "dactyl/music.names", "dactyl/music.lengths"], apart := false, laid := [("dactyl/music.octaves", laid_dactyl_music_octaves), ("dactyl/music.names", laid_dactyl_music_names), ("dactyl/music.lengths", laid_dactyl_music_lengths)], narrowed := true }
def MusicBarsUptoSaid : Prop := musicBarsUptoRow.holds Tryd.pinned (OpenSpec.upto musicBarsSpec)

/-- 'dactyllaw16.MusicEncodes', WHERE WHAT IT READS IS OF BULK AT MOST 1048576: true; the input reads as it did. -/
def musicEncodesUptoRow : OpenClaim := { program := "ytnncijjkbonokaadoor", sum := "17b9559dea1309c7e2d9af0564d7f68217c0bafe25dd0ead8f4a724e5733f13a", func := "dactyl/dactyllaw16.MusicEncodes", spec := "musicEncodes", unfollowed := true, recurses := true, named := ["dactyl/music.octaves", "dactyl/music.names", "dactyl/music.lengths"], apart := false, laid := [("dactyl/music.octaves", laid_dactyl_music_octaves), ("dactyl/music.names", laid_dactyl_music_names), ("dactyl/music.lengths", laid_dactyl_music_lengths)], narrowed := true }
def MusicEncodesUptoSaid : Prop := musicEncodesUptoRow.holds Tryd.pinned (OpenSpec.upto musicEncodesSpec)

/-- 'dactyllaw16.MusicReads', WHERE WHAT IT READS IS OF BULK AT MOST 1048576: true; the input reads as it did. -/
def musicReadsUptoRow : OpenClaim := { program := "ytnncijjkbonokaadoor", sum := "17b9559dea1309c7e2d9af0564d7f68217c0bafe25dd0ead8f4a724e5733f13a", func := "dactyl/dactyllaw16.MusicReads", spec := "musicReads", unfollowed := true, recurses := true, named := ["dactyl/music.names", "dactyl/music.lengths", "dactyl/music.octaves"], apart := false, laid := [("dactyl/music.octaves", laid_dactyl_music_octaves), ("dactyl/music.names", laid_dactyl_music_names), ("dactyl/music.lengths", laid_dactyl_music_lengths)], narrowed := true }
def MusicReadsUptoSaid : Prop := musicReadsUptoRow.holds Tryd.pinned (OpenSpec.upto musicReadsSpec)

/-- 'dactyllaw16.MusicAligned', WHERE WHAT IT READS IS OF BULK AT MOST 1048576: true; the input reads as it did. -/
def musicAlignedUptoRow : OpenClaim := { program := "ytnncijjkbonokaadoor", sum := "17b9559dea1309c7e2d9af0564d7f68217c0bafe25dd0ead8f4a724e5733f13a", func := "dactyl/dactyllaw16.MusicAligned", spec := "musicAligned", unfollowed := true, recurses := true, named := ["dactyl/music.octaves", "dactyl/music.names", "dactyl/music.lengths"], apart := false, laid := [("dactyl/music.octaves", laid_dactyl_music_octaves), ("dactyl/music.names", laid_dactyl_music_names), ("dactyl/music.lengths", laid_dactyl_music_lengths)], narrowed := true }
def MusicAlignedUptoSaid : Prop := musicAlignedUptoRow.holds Tryd.pinned (OpenSpec.upto musicAlignedSpec)

/-- 'dactyllaw16.MusicNeeded', WHERE WHAT IT READS IS OF BULK AT MOST 1048576: true; the input reads as it did. -/
def musicNeededUptoRow : OpenClaim := { program := "ytnncijjkbonokaadoor", sum := "17b9559dea1309c7e2d9af0564d7f68217c0bafe25dd0ead8f4a724e5733f13a", func := "dactyl/dactyllaw16.MusicNeeded", spec := "musicNeeded", unfollowed := true, recurses := true, named := ["dactyl/music.octaves", "dactyl/music.names", "dactyl/music.lengths"], apart := false, laid := [("dactyl/music.octaves", laid_dactyl_music_octaves), ("dactyl/music.names", laid_dactyl_music_names), ("dactyl/music.lengths", laid_dactyl_music_lengths)], narrowed := true }
def MusicNeededUptoSaid : Prop := musicNeededUptoRow.holds Tryd.pinned (OpenSpec.upto musicNeededSpec)

/-- 'dactyllaw16.MusicLines', WHERE WHAT IT READS IS OF BULK AT MOST 1048576: true; the input reads as it did. -/
def musicLinesUptoRow : OpenClaim := { program := "ytnncijjkbonokaadoor", sum := "17b9559dea1309c7e2d9af0564d7f68217c0bafe25dd0ead8f4a724e5733f13a", func := "dactyl/dactyllaw16.MusicLines", spec := "musicLines", unfollowed := true, recurses := true, named := ["dactyl/music.octaves", "dactyl/music.names", "dactyl/music.lengths"], apart := false, laid := [("dactyl/music.octaves", laid_dactyl_music_octaves), ("dactyl/music.names", laid_dactyl_music_names), ("dactyl/music.lengths", laid_dactyl_music_lengths)], narrowed := true }
def MusicLinesUptoSaid : Prop := musicLinesUptoRow.holds Tryd.pinned (OpenSpec.upto musicLinesSpec)

/-- 'dactyllaw16.MusicValid', WHERE WHAT IT READS IS OF BULK AT MOST 1048576: true; the input reads as it did. -/
def musicValidUptoRow : OpenClaim := { program := "ytnncijjkbonokaadoor", sum := "17b9559dea1309c7e2d9af0564d7f68217c0bafe25dd0ead8f4a724e5733f13a", func := "dactyl/dactyllaw16.MusicValid", spec := "musicValid", unfollowed := true, recurses := true, named := ["dactyl/music.octaves", "dactyl/music.names", "dactyl/music.lengths"], apart := false, laid := [("dactyl/music.octaves", laid_dactyl_music_octaves), ("dactyl/music.names", laid_dactyl_music_names), ("dactyl/music.lengths", laid_dactyl_music_lengths)], narrowed := true }
def MusicValidUptoSaid : Prop := musicValidUptoRow.holds Tryd.pinned (OpenSpec.upto musicValidSpec)

end Rows
end Go.Proofs.YtnncijjkbonokaaDoor
