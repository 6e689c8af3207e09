/- Lemmas used by Next, Runs, True. -/
import Derived.Test.YtdadmhahbeehhaaJa
import Derived.Test.YtdadmhahbeehhaaJb
import Derived.Test.YtdadmhahbeehhaaJc
import Derived.Test.YtdadmhahbeehhaaJd
import Derived.Test.YtdadmhahbeehhaaJe
import Derived.Test.YtdadmhahbeehhaaJf
import Derived.Test.YtdadmhahbeehhaaJg
set_option linter.unusedSimpArgs false
set_option linter.unusedVariables false
set_option linter.unusedSectionVars false
set_option maxRecDepth 100000
namespace A42
theorem cmp_neg {L:List Int} {s:PI} {n m:Int}:cmpM L s n m<0 ↔ far L s n<far L s m \/ (far L s n=far L s m/\(lv L n<lv L m \/ (lv L n=lv L m/\n<m))):=by
 unfold cmpM or3
 split
 ·omega
 ·split <;> omega
theorem min_le {L:List Int} {s:PI}:∀ (r:List Int) (m:Int),∀ x,x=m \/ x ∈ r->¬ cmpM L s x (r.foldl (minStep (cmpM L s)) m)<0
 | [],m,x,h=>by
  rcases h with rfl | h
  ·rw [List.foldl_nil,cmp_neg];omega
  ·cases h
 | a::r,m,x,h=>by
  rw [List.foldl_cons]
  have ih:=min_le (L:=L) (s:=s) r (minStep (cmpM L s) m a)
  have h0:=ih _ (.inl rfl)
  rcases h with rfl | h
  ·have:=ih (minStep (cmpM L s) x a) (.inl rfl)
   rw [cmp_neg] at this ⊢
   unfold minStep at this ⊢
   split at this
   ·rename_i hc
    rw [cmp_neg] at hc
    simp only [if_pos (cmp_neg.2 hc)]
    omega
   ·rename_i hc
    simp only [if_neg hc]
    exact this
  ·rcases List.mem_cons.1 h with rfl | h
   ·have:=ih (minStep (cmpM L s) m x) (.inl rfl)
    rw [cmp_neg] at this ⊢
    unfold minStep at this ⊢
    split at this
    ·rename_i hc
     simp only [if_pos hc]
     exact this
    ·rename_i hc
     simp only [if_neg hc]
     rw [cmp_neg] at hc
     omega
   ·exact ih x (.inr h)
theorem minF_le {L:List Int} {s:PI} {l:List Int} {x:Int} (h:x ∈ l):¬ cmpM L s x (minF (cmpM L s) l)<0:=by
 cases l with
 | nil=>cases h
 | cons a r=>exact min_le r a x (List.mem_cons.1 h)
end A42
