/- Lemmas used by Encodes, Needed. -/
import Derived.Test.YtnncijjkbonokaaDoorKa
import Derived.Test.YtnncijjkbonokaaDoorKb
import Derived.Test.YtnncijjkbonokaaDoorKc
import Derived.Test.YtnncijjkbonokaaDoorKd
import Derived.Test.YtnncijjkbonokaaDoorKe
import Derived.Test.YtnncijjkbonokaaDoorKf
import Derived.Test.YtnncijjkbonokaaDoorKg
import Derived.Test.YtnncijjkbonokaaDoorKh
import Derived.Test.YtnncijjkbonokaaDoorKl
import Derived.Test.YtnncijjkbonokaaDoorKn
import Derived.Test.YtnncijjkbonokaaDoorProg
import Derived.WalkKit
import Derived.WalkSpells
import Derived.WalkLawsBesides
import Derived.Orders
import Derived.Laws.MakeOwn
import Derived.Deep.AppendSrc
import Derived.Lib.AppendZerosOnto
import Derived.Defers
import Derived.Laws.StructEq
import Derived.Scope
import Derived.Deep.LoopGhost
import Derived.OrdersIn
import Derived.ControlIn
import Derived.Sort.LoopGhostIn
import Derived.RangeFuncLeaves
import Derived.RangeFuncRecord
import Derived.RangeFuncFrom
import Derived.RangeFuncBox
import Derived.OwnWalkIn
import Derived.TacticsInMore
import Derived.LoopNIn
import Derived.LoopIn
import Derived.Sort.QuietTacIn
set_option linter.unusedSimpArgs false
set_option linter.unusedVariables false
set_option linter.unusedSectionVars false
namespace Go.Proofs.YtnncijjkbonokaaDoor
open Go.RowKit Dak
theorem fits_self {m : List (List (List Nt))} {width : Int} {p : List (List Int)} (h : encP m width = (p, 0)) : fitsW p (m, true) = true := by
 obtain ⟨_, h1, h40, _⟩ := enc_page h
 simp only [fitsW, Bool.true_and, List.any_eq_true]
 refine ⟨(width - 1).toNat, List.mem_range.2 (by omega), ?_⟩
 have : (((width - 1).toNat + 1 : Nat) : Int) = width := by omega
 rw [this]
 simp [fitsP, h]
end Go.Proofs.YtnncijjkbonokaaDoor
