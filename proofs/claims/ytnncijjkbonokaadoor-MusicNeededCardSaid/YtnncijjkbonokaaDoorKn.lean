/- Lemmas used by Encodes, Needed, Reads. -/
import Derived.Test.YtnncijjkbonokaaDoorKa
import Derived.Test.YtnncijjkbonokaaDoorKb
import Derived.Test.YtnncijjkbonokaaDoorKc
import Derived.Test.YtnncijjkbonokaaDoorKd
import Derived.Test.YtnncijjkbonokaaDoorKe
import Derived.Test.YtnncijjkbonokaaDoorKf
import Derived.Test.YtnncijjkbonokaaDoorKl
import Derived.Test.YtnncijjkbonokaaDoorProg
import Derived.WalkKit
import Derived.WalkSpells
import Derived.WalkLawsBesides
import Derived.Orders
import Derived.Laws.MakeOwn
import Derived.Deep.AppendSrc
import Derived.Lib.AppendZerosOnto
import Derived.Defers
import Derived.Laws.StructEq
import Derived.Scope
import Derived.Deep.LoopGhost
import Derived.OrdersIn
import Derived.ControlIn
import Derived.Sort.LoopGhostIn
import Derived.RangeFuncLeaves
import Derived.RangeFuncRecord
import Derived.RangeFuncFrom
import Derived.RangeFuncBox
import Derived.OwnWalkIn
import Derived.TacticsInMore
import Derived.LoopNIn
import Derived.LoopIn
import Derived.Sort.QuietTacIn
set_option linter.unusedSimpArgs false
set_option linter.unusedVariables false
set_option linter.unusedSectionVars false
namespace Go.Proofs.YtnncijjkbonokaaDoor
open Go.RowKit Dak
theorem read_lenM (p : List (List Int)) : lenM (readP p).1 := by
 have hz : ∀ n, fitsW p (guessP p n) = true -> lenM (guessP p n).1 := fun n h => by
  simp only [fitsW, Bool.and_eq_true] at h
  exact (vm_len (vm_of (guess_vm h.1))).1
 unfold readP
 split
 ·rename_i h; exact hz 1 h
 ·split
  ·rename_i h; exact hz 2 h
  ·exact ⟨by simp, fun r h => by cases h⟩
end Go.Proofs.YtnncijjkbonokaaDoor
