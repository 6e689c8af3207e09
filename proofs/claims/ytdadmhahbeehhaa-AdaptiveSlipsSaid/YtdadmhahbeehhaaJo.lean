/- Lemmas used by Runs, Slips. -/
import Derived.Test.YtdadmhahbeehhaaJa
import Derived.Test.YtdadmhahbeehhaaJb
import Derived.Test.YtdadmhahbeehhaaJc
import Derived.Test.YtdadmhahbeehhaaJd
import Derived.Test.YtdadmhahbeehhaaJe
import Derived.Test.YtdadmhahbeehhaaJf
import Derived.Test.YtdadmhahbeehhaaJg
import Derived.Test.YtdadmhahbeehhaaJi
import Derived.Test.YtdadmhahbeehhaaJk
set_option linter.unusedSimpArgs false
set_option linter.unusedVariables false
set_option linter.unusedSectionVars false
set_option maxRecDepth 100000
namespace Go.Proofs.Ytdadmhahbeehhaa
open Go.RowKit Dak A42
theorem sh_ints (k:Nat) (n:Nat) (l:List Int):AObj.shiftO k (.arr n 1 3 (l.map vi)) = .arr n 1 3 (l.map vi):=by
 simp [AObj.shiftO,AV.shift,AV.shift1,Function.comp_def]
theorem inn_ints (k n:Nat) (l:List Int):AObj.innO k (.arr n 1 3 (l.map vi))=true:=by
 simp [AObj.innO];intro x _;rfl
end Go.Proofs.Ytdadmhahbeehhaa
