/- Lemmas used by Aligned, Encodes, Lines, Needed, Valid. -/
import Derived.Test.YtnncijjkbonokaaDoorKa
import Derived.Test.YtnncijjkbonokaaDoorKb
import Derived.Test.YtnncijjkbonokaaDoorKc
import Derived.Test.YtnncijjkbonokaaDoorKd
import Derived.Test.YtnncijjkbonokaaDoorKe
import Derived.Test.YtnncijjkbonokaaDoorProg
import Derived.WalkKit
import Derived.WalkSpells
import Derived.WalkLawsBesides
import Derived.Orders
import Derived.Laws.MakeOwn
import Derived.Deep.AppendSrc
import Derived.Lib.AppendZerosOnto
import Derived.Defers
import Derived.Laws.StructEq
import Derived.Scope
import Derived.Deep.LoopGhost
import Derived.OrdersIn
import Derived.ControlIn
import Derived.Sort.LoopGhostIn
import Derived.RangeFuncLeaves
import Derived.RangeFuncRecord
import Derived.RangeFuncFrom
import Derived.RangeFuncBox
import Derived.OwnWalkIn
import Derived.TacticsInMore
import Derived.LoopNIn
import Derived.LoopIn
import Derived.Sort.QuietTacIn
set_option linter.unusedSimpArgs false
set_option linter.unusedVariables false
set_option linter.unusedSectionVars false
namespace Go.Proofs.YtnncijjkbonokaaDoor
open Go.RowKit Dak
theorem vm_valid {m : List (List (List Nt))} (hm : Vm m) : validE m = 0 := by
 have h2 := hm.hands
 have hp := hm.pos
 have h1 : (decide (2 < m.length) || m.any longP) = false := by
  rw [Bool.or_eq_false_iff, decide_eq_false_iff_not, List.any_eq_false]
  refine ⟨by omega, fun h hh => ?_⟩
  have hb := hm.bars h hh
  have : longP h = false := by
   unfold longP
   rw [Bool.or_eq_false_iff, decide_eq_false_iff_not, List.any_eq_false]
   exact ⟨by omega, fun b hb' => by have := (hm.notes h hh b hb').1; simp; omega⟩
  simp [this]
 have h2' : (decide (m.length = 0) || m.any (wrongP (m.headD []).length)) = false := by
  rw [Bool.or_eq_false_iff, decide_eq_false_iff_not, List.any_eq_false]
  refine ⟨by omega, fun h hh => ?_⟩
  have hb := hm.bars h hh
  have : wrongP (m.headD []).length h = false := by
   unfold wrongP
   rw [Bool.or_eq_false_iff, decide_eq_false_iff_not, List.any_eq_false]
   refine ⟨by simp only [manyP] at hb hp; omega, fun b hb' => ?_⟩
   have hn := hm.notes h hh b hb'
   rw [barP_pos hn.2.1]
   have : b.all rightP = true := List.all_eq_true.2 hn.2.2
   simp [this]
  rw [this]; decide
 rw [validE, h1, h2']; rfl
end Go.Proofs.YtnncijjkbonokaaDoor
