/- Lemmas used by Order, Slips. -/
import Derived.Test.YtdadmhahbeehhaaJa
import Derived.Test.YtdadmhahbeehhaaJb
import Derived.Test.YtdadmhahbeehhaaJc
import Derived.Test.YtdadmhahbeehhaaJd
import Derived.Test.YtdadmhahbeehhaaJe
import Derived.Test.YtdadmhahbeehhaaJf
import Derived.Test.YtdadmhahbeehhaaJh
set_option linter.unusedSimpArgs false
set_option linter.unusedVariables false
set_option linter.unusedSectionVars false
set_option maxRecDepth 100000
namespace A42
theorem zip_set {α β : Type}:∀ (a:List α) (b:List β) (p:Nat) (x : α) (y : β),(a.set p x).zip (b.set p y)=(a.zip b).set p (x,y)
 | [],_,_,_,_=>by simp
 | _::_,[],_,_,_=>by simp
 | a::az,b::bs,0,x,y=>by simp
 | a::az,b::bs,p+1,x,y=>by simp [zip_set az bs p x y]
end A42
