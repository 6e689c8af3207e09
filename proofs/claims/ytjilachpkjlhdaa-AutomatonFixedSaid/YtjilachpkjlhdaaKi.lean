/- Lemmas used by Fixed, Shortest, Words. -/
import Derived.Test.YtjilachpkjlhdaaKa
import Derived.Test.YtjilachpkjlhdaaKb
import Derived.Test.YtjilachpkjlhdaaKc
import Derived.Test.YtjilachpkjlhdaaKd
import Derived.Test.YtjilachpkjlhdaaKe
import Derived.Test.YtjilachpkjlhdaaKf
import Derived.Test.YtjilachpkjlhdaaKg
set_option linter.unusedSimpArgs false
set_option linter.unusedVariables false
set_option linter.unusedSectionVars false
set_option maxRecDepth 100000
namespace P5
theorem fixed_cases (a:Au):(fixedM a).2=0 \/ (fixedM a).1=nilA/\((fixedM a).2=4 \/ ¬ VA a/\(fixedM a).2=validM a):=by
 unfold fixedM
 by_cases hv:validM a=0
 ·rw [if_pos hv]
  cases setsM a with
  | none=>exact .inr ⟨rfl,.inl rfl⟩
  | some d =>
   simp only
   rcases checked_cases (leastR d) with ⟨_,c2⟩ | ⟨_,c2⟩
   ·exact .inl (by rw [c2])
   ·exact .inr ⟨by rw [c2],.inl (by rw [c2])⟩
 ·rw [if_neg hv]
  exact .inr ⟨rfl,.inr ⟨fun h=>hv (valid_VA.2 h),rfl⟩⟩
end P5
