/- Lemmas used by Aligned, Lines, Needed, Reads. -/
import Derived.Test.YtnncijjkbonokaaDoorKa
import Derived.Test.YtnncijjkbonokaaDoorKb
import Derived.Test.YtnncijjkbonokaaDoorKc
import Derived.Test.YtnncijjkbonokaaDoorKd
import Derived.Test.YtnncijjkbonokaaDoorKe
import Derived.Test.YtnncijjkbonokaaDoorKf
import Derived.WalkKit
import Derived.WalkSpells
import Derived.WalkLawsBesides
import Derived.Orders
import Derived.Laws.MakeOwn
import Derived.Deep.AppendSrc
import Derived.Lib.AppendZerosOnto
import Derived.Defers
import Derived.Laws.StructEq
import Derived.Scope
import Derived.Deep.LoopGhost
import Derived.OrdersIn
import Derived.ControlIn
import Derived.Sort.LoopGhostIn
import Derived.RangeFuncLeaves
import Derived.RangeFuncRecord
import Derived.Test.YtnncijjkbonokaaDoorProg
import Derived.RangeFuncFrom
import Derived.RangeFuncBox
import Derived.OwnWalkIn
import Derived.TacticsInMore
import Derived.LoopNIn
import Derived.LoopIn
import Derived.Sort.QuietTacIn
set_option linter.unusedSimpArgs false
set_option linter.unusedVariables false
set_option linter.unusedSectionVars false
namespace Dak
open Go Go.RowKit
variable [Globs]
variable {P : Program} {F0 : FD} {w0 : World} {n : Nat}
theorem CwpE.mono {c : CCode} {Q Q' : Exit -> Est -> Prop} {s : Est} (h : CwpE P F0 w0 n c Q s) (k : ∀ e s, Q e s -> Q' e s) : CwpE P F0 w0 n c Q' s := h.post fun e s hq => ⟨s, .refl _ _, k e s hq⟩
end Dak
namespace Go.Proofs.YtnncijjkbonokaaDoor
open Go.RowKit Dak
theorem aroundL_bd {n most : Int} (h : 1 <= most) : 0 <= aroundL n most /\ aroundL n most < most := by
 unfold aroundL
 rw [if_neg (by omega)]
 exact ⟨Int.emod_nonneg _ (by omega), Int.emod_lt_of_pos _ (by omega)⟩
end Go.Proofs.YtnncijjkbonokaaDoor
