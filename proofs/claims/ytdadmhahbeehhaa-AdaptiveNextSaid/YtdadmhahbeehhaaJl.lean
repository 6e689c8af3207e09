/- Lemmas used by Next, Order. -/
import Derived.Test.YtdadmhahbeehhaaJa
import Derived.Test.YtdadmhahbeehhaaJb
import Derived.Test.YtdadmhahbeehhaaJc
import Derived.Test.YtdadmhahbeehhaaJd
import Derived.Test.YtdadmhahbeehhaaJe
import Derived.Test.YtdadmhahbeehhaaJf
import Derived.Test.YtdadmhahbeehhaaJh
set_option linter.unusedSimpArgs false
set_option linter.unusedVariables false
set_option linter.unusedSectionVars false
set_option maxRecDepth 100000
namespace Go.Proofs.Ytdadmhahbeehhaa
open Go.RowKit Dak A42
theorem rights_s (l:List Int) (N:Nat) (hl:∀ x ∈ l,I64 x) (hN:N<=1000):Ctr Try.lprog 10 [vints l,vi N] (vints (rightsK l N)):=by
 refine specC f10 (by simp) fun F0 w0=>rights_c l N hl hN (CwpE.vc ?_)
 simp only [go_sem]
 exact snapInts 0 N _ rfl (rights_len l N).symm
end Go.Proofs.Ytdadmhahbeehhaa
