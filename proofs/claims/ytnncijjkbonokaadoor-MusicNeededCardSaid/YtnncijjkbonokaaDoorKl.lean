/- Lemmas used by Encodes, Needed, Reads, Valid. -/
import Derived.Test.YtnncijjkbonokaaDoorKa
import Derived.Test.YtnncijjkbonokaaDoorKb
import Derived.Test.YtnncijjkbonokaaDoorKc
import Derived.Test.YtnncijjkbonokaaDoorKd
import Derived.Test.YtnncijjkbonokaaDoorKe
import Derived.WalkKit
import Derived.WalkSpells
import Derived.WalkLawsBesides
import Derived.Orders
import Derived.Laws.MakeOwn
import Derived.Deep.AppendSrc
import Derived.Lib.AppendZerosOnto
import Derived.Defers
import Derived.Laws.StructEq
import Derived.Scope
import Derived.Deep.LoopGhost
import Derived.OrdersIn
import Derived.ControlIn
import Derived.Sort.LoopGhostIn
import Derived.RangeFuncLeaves
import Derived.RangeFuncRecord
set_option linter.unusedSimpArgs false
set_option linter.unusedVariables false
set_option linter.unusedSectionVars false
namespace Dak
open Go Go.RowKit
variable [Globs]
variable {P : Program} {F0 : FD} {w0 : World} {n : Nat} {Q : Exit -> Est -> Prop} {s : Est}
variable {K : Est -> Prop} {rest : List COper} {d : Option Nat} {g : Option (Nat × Bool)}
variable {objs0 : List AObj} {KQ : List (Nat × AV) -> List AObj -> Prop} {env : List (Nat × AV)} {cr : List AObj}
theorem Q_gmov {x : Operand} {t : Nat} {w : Bool} : QopsE P n objs0 (⟨d, some (t, w), .mov x⟩ :: rest) KQ env cr = guardE (gdB (lk env t)) w (qK (qstepK (objs0 ++ cr) objs0 (evE env) (objs0.length + cr.length) (.mov x)) n d env cr (QopsE P n objs0 rest KQ)) (okD n d /\ QopsE P n objs0 rest KQ (putE env d nov) cr) := nrfl rfl
theorem Q_pick {c a b : Operand} : QopsE P n objs0 (⟨d, none, .pick c a b⟩ :: rest) KQ env cr = (qK (qstepK (objs0 ++ cr) objs0 (evE env) (objs0.length + cr.length) (.pick c a b)) n d env cr (QopsE P n objs0 rest KQ)) := nrfl rfl
theorem Q_gload {agg : Bool} {m : Nat} {x : Operand} {t : Nat} {w : Bool} : QopsE P n objs0 (⟨d, some (t, w), .load agg m x⟩ :: rest) KQ env cr = guardE (gdB (lk env t)) w (qK (qstepK (objs0 ++ cr) objs0 (evE env) (objs0.length + cr.length) (.load agg m x)) n d env cr (QopsE P n objs0 rest KQ)) (okD n d /\ QopsE P n objs0 rest KQ (putE env d nov) cr) := nrfl rfl
theorem Q_gibin {op : BinOp} {x y : Operand} {t : Nat} {w : Bool} : QopsE P n objs0 (⟨d, some (t, w), .ibin op x y⟩ :: rest) KQ env cr = guardE (gdB (lk env t)) w (qK (qstepK (objs0 ++ cr) objs0 (evE env) (objs0.length + cr.length) (.ibin op x y)) n d env cr (QopsE P n objs0 rest KQ)) (okD n d /\ QopsE P n objs0 rest KQ (putE env d nov) cr) := nrfl rfl
theorem Q_gidxS {size : Nat} {x i : Operand} {t : Nat} {w : Bool} : QopsE P n objs0 (⟨d, some (t, w), .idxS size x i⟩ :: rest) KQ env cr = guardE (gdB (lk env t)) w (qK (qstepK (objs0 ++ cr) objs0 (evE env) (objs0.length + cr.length) (.idxS size x i)) n d env cr (QopsE P n objs0 rest KQ)) (okD n d /\ QopsE P n objs0 rest KQ (putE env d nov) cr) := nrfl rfl
attribute [go_sem] Q_gmov Q_pick Q_gload Q_gibin Q_gidxS
end Dak
