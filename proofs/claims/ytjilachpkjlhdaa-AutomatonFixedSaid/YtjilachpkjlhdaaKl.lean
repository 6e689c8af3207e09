/- Lemmas used by Fixed, Words. -/
import Derived.Test.YtjilachpkjlhdaaKa
import Derived.Test.YtjilachpkjlhdaaKb
import Derived.Test.YtjilachpkjlhdaaKc
import Derived.Test.YtjilachpkjlhdaaKd
import Derived.Test.YtjilachpkjlhdaaKe
import Derived.Test.YtjilachpkjlhdaaKf
import Derived.Test.YtjilachpkjlhdaaKg
import Derived.Test.YtjilachpkjlhdaaKi
import Derived.Test.YtjilachpkjlhdaaProg
import Derived.WalkKit
import Derived.WalkSpells
import Derived.WalkLawsBesides
import Derived.Orders
import Derived.Laws.MakeOwn
import Derived.Deep.AppendSrc
import Derived.Lib.AppendZerosOnto
import Derived.Defers
import Derived.Laws.BytesString
import Derived.Laws.StructEq
import Derived.Scope
import Derived.Deep.LoopGhost
import Derived.OrdersIn
import Derived.ControlIn
import Derived.Sort.LoopGhostIn
import Derived.RangeFuncLeaves
import Derived.RangeFuncRecord
import Derived.RangeFuncFrom
import Derived.RangeFuncNested
set_option linter.unusedSimpArgs false
set_option linter.unusedVariables false
set_option linter.unusedSectionVars false
set_option maxRecDepth 100000
namespace Go.Proofs.Ytjilachpkjlhdaa
open Go.RowKit Dak P5
open Nat (reduceEqDiff reduceLT reduceAdd)
theorem fixed_sz (a:Au):SzA (fixedM a).1:=by
 rcases fixed_cases a with h | ⟨h,_⟩
 ·obtain ⟨_,g,d,_,_,h3,h4,_⟩:=fixed_norm h
  rw [h3];exact szA_va h4.va
 ·rw [h];exact ⟨by simp,by simp⟩
end Go.Proofs.Ytjilachpkjlhdaa
