/- Lemmas used by Next, Runs, Slips, True. -/
import Derived.Test.YtdadmhahbeehhaaJa
import Derived.Test.YtdadmhahbeehhaaJb
import Derived.Test.YtdadmhahbeehhaaJc
import Derived.Test.YtdadmhahbeehhaaJd
import Derived.Test.YtdadmhahbeehhaaJe
import Derived.Test.YtdadmhahbeehhaaJf
set_option linter.unusedSimpArgs false
set_option linter.unusedVariables false
set_option linter.unusedSectionVars false
set_option maxRecDepth 100000
namespace A42
structure Sh (L:List Int) (ps:List PI) (f l:Int) (best:Nat):Prop where
 f1 : -1<=f
 l9:l<=9
 fc:cnt L ps f=best
 lc:cnt L ps l=best
 le:∀ x,-1<=x->x<=9->best<=cnt L ps x
 in_:∀ x,-1<=x->x<=9->cnt L ps x=best->f<=x/\x<=l
theorem shown_spec {L:List Int} {ps:List PI} (h:ps.length<=L.length):Sh L ps (shown L ps).1 (shown L ps).2 (sh3 L ps).2.2:=by
 have hs:=sh3_spec h
 unfold shown
 generalize sh3 L ps=s at hs
 obtain ⟨a1,a2,a3,a4⟩:=hs.at_ (by decide)
 exact ⟨(mem_levels.1 a1).1,(mem_levels.1 a2).2,a3,a4,fun x h1 h2=>hs.le x (mem_levels.2 ⟨h1,h2⟩),fun x h1 h2 he=>hs.fst x (mem_levels.2 ⟨h1,h2⟩) he⟩
end A42
