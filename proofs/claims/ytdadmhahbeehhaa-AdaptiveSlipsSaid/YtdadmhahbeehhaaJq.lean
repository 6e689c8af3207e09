/- Lemmas used by Slips, True. -/
import Derived.Test.YtdadmhahbeehhaaJa
import Derived.Test.YtdadmhahbeehhaaJb
import Derived.Test.YtdadmhahbeehhaaJc
import Derived.Test.YtdadmhahbeehhaaJd
import Derived.Test.YtdadmhahbeehhaaJe
import Derived.Test.YtdadmhahbeehhaaJf
import Derived.Test.YtdadmhahbeehhaaJg
import Derived.Test.YtdadmhahbeehhaaJk
set_option linter.unusedSimpArgs false
set_option linter.unusedVariables false
set_option linter.unusedSectionVars false
set_option maxRecDepth 100000
namespace A42
def wd (L:List Int) (c:Int) (out:List Int):Int:=(shown L (truth L c out)).2-(shown L (truth L c out)).1
end A42
