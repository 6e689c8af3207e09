/- Lemmas used by Shortest, Valid. -/
import Derived.Test.YtjilachpkjlhdaaKa
import Derived.Test.YtjilachpkjlhdaaKb
import Derived.Test.YtjilachpkjlhdaaKc
import Derived.Test.YtjilachpkjlhdaaKd
import Derived.Test.YtjilachpkjlhdaaKe
import Derived.Test.YtjilachpkjlhdaaKf
import Derived.Test.YtjilachpkjlhdaaKg
import Derived.Test.YtjilachpkjlhdaaProg
import Derived.WalkKit
import Derived.WalkSpells
import Derived.WalkLawsBesides
import Derived.Orders
import Derived.Laws.MakeOwn
import Derived.Deep.AppendSrc
import Derived.Lib.AppendZerosOnto
import Derived.Defers
import Derived.Laws.BytesString
import Derived.Laws.StructEq
import Derived.Scope
import Derived.Deep.LoopGhost
import Derived.OrdersIn
import Derived.ControlIn
import Derived.Sort.LoopGhostIn
import Derived.RangeFuncLeaves
import Derived.RangeFuncRecord
import Derived.RangeFuncFrom
import Derived.RangeFuncNested
set_option linter.unusedSimpArgs false
set_option linter.unusedVariables false
set_option linter.unusedSectionVars false
set_option maxRecDepth 100000
namespace Go.Proofs.Ytjilachpkjlhdaa
open Go.RowKit Dak P5
open Nat (reduceEqDiff reduceLT reduceAdd)
theorem short_len {a:Au} (w:List Int) (h:shortestM a=some w):w.length<=1000:=by
 by_cases hv:validM a=0
 ·have key:∀ (f:Nat) (L:List RS) (i:Nat) (z:List Bool),ShOk a L z i->i+f<=600->∀ w,shG a f L i z=some w->w.length<=1000:=by
   intro f
   induction f with
   | zero=>intro L i z _ _ w hw;simp [shG,shortGo] at hw
   | succ f ih =>
    intro L i z hL hif w hw
    by_cases hi:i<L.length
    ·have hl:=hL.len _ (List.getElem_mem hi)
     cases ht:meets L[i].1 a.acc with
     | true =>
      rw [shG_tell hi ht] at hw
      rw [<-Option.some.inj hw];omega
     | false =>
      rw [shG_step hi ht] at hw
      exact ih _ _ _ (hL.row hl _) (by omega) w hw
    ·rw [shG_end (by omega)] at hw;cases hw
  rw [shortestM_G hv] at h
  have hn:=(valid_VA.1 hv).n
  exact key _ _ 0 _ (shOk_one a) (by omega) w h
 ·rw [shortestM,if_neg hv] at h;cases h
end Go.Proofs.Ytjilachpkjlhdaa
