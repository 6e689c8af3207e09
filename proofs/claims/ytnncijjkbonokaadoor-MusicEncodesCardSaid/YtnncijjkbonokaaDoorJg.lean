/- Lemmas used by Encodes, Valid. -/
import Derived.Test.YtnncijjkbonokaaDoorJa
import Derived.Test.YtnncijjkbonokaaDoorJb
import Derived.Test.YtnncijjkbonokaaDoorJc
import Derived.Test.YtnncijjkbonokaaDoorJd
import Derived.Test.YtnncijjkbonokaaDoorJe
import Derived.WalkKit
import Derived.WalkSpells
import Derived.WalkLawsBesides
import Derived.Orders
import Derived.Laws.MakeOwn
import Derived.Deep.AppendSrc
import Derived.Lib.AppendZerosOnto
import Derived.Defers
import Derived.Laws.StructEq
import Derived.Scope
import Derived.Deep.LoopGhost
import Derived.OrdersIn
import Derived.ControlIn
import Derived.Sort.LoopGhostIn
import Derived.RangeFuncLeaves
import Derived.RangeFuncRecord
import Derived.Test.YtnncijjkbonokaaDoorProg
import Derived.RangeFuncFrom
set_option linter.unusedSimpArgs false
set_option linter.unusedVariables false
set_option linter.unusedSectionVars false
set_option maxRecDepth 100000
namespace Dak
open Go Go.RowKit
variable [Globs]
variable {P : Program} {F0 : FD} {w0 : World} {n : Nat} {Q : Exit -> Est -> Prop} {s : Est}
variable {K : Est -> Prop} {rest : List COper} {d : Option Nat} {g : Option (Nat × Bool)}
variable {objs0 : List AObj} {KQ : List (Nat × AV) -> List AObj -> Prop} {env : List (Nat × AV)} {cr : List AObj}
theorem Q_gmov {x : Operand} {t : Nat} {w : Bool} : QopsE P n objs0 (⟨d, some (t, w), .mov x⟩ :: rest) KQ env cr = guardE (gdB (lk env t)) w (qK (qstepK (objs0 ++ cr) objs0 (evE env) (objs0.length + cr.length) (.mov x)) n d env cr (QopsE P n objs0 rest KQ)) (okD n d /\ QopsE P n objs0 rest KQ (putE env d nov) cr) := nrfl rfl
theorem Q_pick {c a b : Operand} : QopsE P n objs0 (⟨d, none, .pick c a b⟩ :: rest) KQ env cr = (qK (qstepK (objs0 ++ cr) objs0 (evE env) (objs0.length + cr.length) (.pick c a b)) n d env cr (QopsE P n objs0 rest KQ)) := nrfl rfl
theorem Q_gload {agg : Bool} {m : Nat} {x : Operand} {t : Nat} {w : Bool} : QopsE P n objs0 (⟨d, some (t, w), .load agg m x⟩ :: rest) KQ env cr = guardE (gdB (lk env t)) w (qK (qstepK (objs0 ++ cr) objs0 (evE env) (objs0.length + cr.length) (.load agg m x)) n d env cr (QopsE P n objs0 rest KQ)) (okD n d /\ QopsE P n objs0 rest KQ (putE env d nov) cr) := nrfl rfl
theorem Q_gibin {op : BinOp} {x y : Operand} {t : Nat} {w : Bool} : QopsE P n objs0 (⟨d, some (t, w), .ibin op x y⟩ :: rest) KQ env cr = guardE (gdB (lk env t)) w (qK (qstepK (objs0 ++ cr) objs0 (evE env) (objs0.length + cr.length) (.ibin op x y)) n d env cr (QopsE P n objs0 rest KQ)) (okD n d /\ QopsE P n objs0 rest KQ (putE env d nov) cr) := nrfl rfl
theorem Q_gfieldAddr {off : Nat} {x : Operand} {t : Nat} {w : Bool} : QopsE P n objs0 (⟨d, some (t, w), .fieldAddr off x⟩ :: rest) KQ env cr = guardE (gdB (lk env t)) w (qK (qstepK (objs0 ++ cr) objs0 (evE env) (objs0.length + cr.length) (.fieldAddr off x)) n d env cr (QopsE P n objs0 rest KQ)) (okD n d /\ QopsE P n objs0 rest KQ (putE env d nov) cr) := nrfl rfl
theorem Q_gidxS {size : Nat} {x i : Operand} {t : Nat} {w : Bool} : QopsE P n objs0 (⟨d, some (t, w), .idxS size x i⟩ :: rest) KQ env cr = guardE (gdB (lk env t)) w (qK (qstepK (objs0 ++ cr) objs0 (evE env) (objs0.length + cr.length) (.idxS size x i)) n d env cr (QopsE P n objs0 rest KQ)) (okD n d /\ QopsE P n objs0 rest KQ (putE env d nov) cr) := nrfl rfl
theorem Q_glen {x : Operand} {t : Nat} {w : Bool} : QopsE P n objs0 (⟨d, some (t, w), .len x⟩ :: rest) KQ env cr = guardE (gdB (lk env t)) w (qK (qstepK (objs0 ++ cr) objs0 (evE env) (objs0.length + cr.length) (.len x)) n d env cr (QopsE P n objs0 rest KQ)) (okD n d /\ QopsE P n objs0 rest KQ (putE env d nov) cr) := nrfl rfl
attribute [go_sem] Q_gmov Q_pick Q_gload Q_gibin Q_gfieldAddr Q_gidxS Q_glen
end Dak
namespace Go.Proofs.YtnncijjkbonokaaDoor
open Dak
def c29 : CCode :=
 (.seq (.region [oo 1 (.box 25 (T 0)), oo 2 (.mov (kk 0))])
 (.seq (.seq (.region [oo 7 (.fieldAddr 0 (T 1)), oo 8 (.load false 1 (T 7)), oo 9 (.len (T 8)), oo 10 (.ibin .gtr (T 9) (kk 2))])
 (.cond (T 10)
 (.seq (.region [oo 2 (.mov (kk 4))])
 .ret)
 .skip))
 (.seq (.seq (.region [oo 3 (.mov (kk 0))])
 (.block 0 (.loop
 (.seq (.seq (.region [vv 11 3, oo 12 (.fieldAddr 0 (T 1)), oo 13 (.load false 1 (T 12)), oo 14 (.len (T 13)), oo 15 (.ibin .lss (T 11) (T 14))])
 (.cond (T 15)
 .skip
 (.exit 0)))
 (.seq (.block 1 (.seq (.seq (.region [oo 18 (.fieldAddr 0 (T 1)), oo 19 (.load false 1 (T 18)), vv 20 3, oo 21 (.idxS 1 (T 19) (T 20)), oo 22 (.load false 1 (T 21)), oo 23 (.len (T 22)), oo 24 (.ibin .gtr (T 23) (kk 32))])
 (.cond (T 24)
 (.seq (.region [oo 2 (.mov (kk 4))])
 .ret)
 .skip))
 (.seq (.region [oo 4 (.mov (kk 0))])
 (.block 2 (.loop
 (.seq (.seq (.region [vv 25 4, oo 26 (.fieldAddr 0 (T 1)), oo 27 (.load false 1 (T 26)), vv 28 3, oo 29 (.idxS 1 (T 27) (T 28)), oo 30 (.load false 1 (T 29)), oo 31 (.len (T 30)), oo 32 (.ibin .lss (T 25) (T 31))])
 (.cond (T 32)
 .skip
 (.exit 2)))
 (.seq (.block 3 (.seq (.region [oo 35 (.fieldAddr 0 (T 1)), oo 36 (.load false 1 (T 35)), vv 37 3, oo 38 (.idxS 1 (T 36) (T 37)), oo 39 (.load false 1 (T 38)), vv 40 4, oo 41 (.idxS 1 (T 39) (T 40)), oo 42 (.load false 1 (T 41)), oo 43 (.len (T 42)), oo 44 (.ibin .gtr (T 43) (kk 16))])
 (.cond (T 44)
 (.seq (.region [oo 2 (.mov (kk 4))])
 .ret)
 .skip)))
 (.region [vv 33 4, oo 34 (.ibin .add (T 33) (kk 1)), vv 4 34]))))))))
 (.region [vv 16 3, oo 17 (.ibin .add (T 16) (kk 1)), vv 3 17]))))))
 (.seq (.seq (.region [oo 45 (.fieldAddr 0 (T 1)), oo 46 (.load false 1 (T 45)), oo 47 (.len (T 46)), oo 48 (.ibin .eql (T 47) (kk 0))])
 (.cond (T 48)
 (.seq (.region [oo 2 (.mov (kk 1))])
 .ret)
 .skip))
 (.seq (.seq (.region [oo 5 (.mov (kk 0))])
 (.block 4 (.loop
 (.seq (.seq (.region [vv 49 5, oo 50 (.fieldAddr 0 (T 1)), oo 51 (.load false 1 (T 50)), oo 52 (.len (T 51)), oo 53 (.ibin .lss (T 49) (T 52))])
 (.cond (T 53)
 .skip
 (.exit 4)))
 (.seq (.block 5 (.seq (.seq (.drawn [oo 56 (.fieldAddr 0 (T 1)), oo 57 (.load false 1 (T 56)), vv 58 5, oo 59 (.idxS 1 (T 57) (T 58)), oo 60 (.load false 1 (T 59)), oo 61 (.len (T 60)), oo 62 (.ibin .eql (T 61) (kk 0)), vv 63 62, gf 64 63 (.fieldAddr 0 (T 1)), gf 65 63 (.load false 1 (T 64)), vf 66 63 5, gf 67 63 (.idxS 1 (T 65) (T 66)), gf 68 63 (.load false 1 (T 67)), gf 69 63 (.len (T 68)), gf 70 63 (.fieldAddr 0 (T 1)), gf 71 63 (.load false 1 (T 70)), gf 72 63 (.idxS 1 (T 71) (kk 0)), gf 73 63 (.load false 1 (T 72)), gf 74 63 (.len (T 73)), gf 75 63 (.ibin .neq (T 69) (T 74)), oo 76 (.pick (T 63) (.const (.bool true)) (T 75))] [])
 (.cond (T 76)
 (.seq (.region [oo 2 (.mov (kk 1))])
 .ret)
 .skip))
 (.seq (.region [oo 6 (.mov (kk 0))])
 (.block 6 (.loop
 (.seq (.seq (.region [vv 77 6, oo 78 (.fieldAddr 0 (T 1)), oo 79 (.load false 1 (T 78)), vv 80 5, oo 81 (.idxS 1 (T 79) (T 80)), oo 82 (.load false 1 (T 81)), oo 83 (.len (T 82)), oo 84 (.ibin .lss (T 77) (T 83))])
 (.cond (T 84)
 .skip
 (.exit 6)))
 (.seq (.block 7 (.seq (.region [oo 87 (.fieldAddr 0 (T 1)), oo 88 (.load false 1 (T 87)), vv 89 5, oo 90 (.idxS 1 (T 88) (T 89)), oo 91 (.load false 1 (T 90)), vv 92 6, oo 93 (.idxS 1 (T 91) (T 92)), oo 94 (.load false 1 (T 93)), oo 95 (.call (.func 37) [(T 94)]), oo 96 (.ibin .neq (T 95) (kk 0))])
 (.cond (T 96)
 (.seq (.region [oo 2 (.mov (kk 1))])
 .ret)
 .skip)))
 (.region [vv 85 6, oo 86 (.ibin .add (T 85) (kk 1)), vv 6 86]))))))))
 (.region [vv 54 5, oo 55 (.ibin .add (T 54) (kk 1)), vv 5 55]))))))
 (.seq (.region [oo 2 (.mov (kk 0))])
 .ret))))))
theorem f29 : fnC Tryd.prog 29 = some (c29, 97, [(.tmp 2)]) := by kernel_rfl
end Go.Proofs.YtnncijjkbonokaaDoor
namespace Go.Proofs.YtnncijjkbonokaaDoor
open Go.RowKit Dak
theorem any_take_succ {α : Type} {p : α -> Bool} {l : List α} {k : Nat} (h : (l.take k).any p = false) (hk : k < l.length) (hp : p l[k] = false) : (l.take (k + 1)).any p = false := by
 rw [List.take_succ_eq_append_getElem hk, List.any_append, h]; simp [hp]
theorem any_take_all {α : Type} {p : α -> Bool} {l : List α} {k : Nat} (h : (l.take k).any p = false) (hk : l.length <= k) : l.any p = false := by
 rwa [List.take_of_length_le hk] at h
theorem any_at {α : Type} {p : α -> Bool} {l : List α} {k : Nat} (hk : k < l.length) (hp : p l[k] = true) : l.any p = true := List.any_eq_true.2 ⟨_, List.getElem_mem hk, hp⟩
theorem refValid_s (m : List (List (List Nt))) (hl : lenM m) : Ctr Tryd.prog 29 [vmel m] (ve (validE m)) := by
 refine specE f29 (by simp) fun F0 w0 => ?_
 by_cases a : (2 : Int) < (m.length : Int)
 ·have a' : 2 < m.length := by omega
  have e : validE m = 4 := by simp only [validE, a', decide_true, Bool.true_or, cond_true]
  simp only [c29, go_sem, ↓reduceIte, Nat.reduceLT, Nat.reduceEqDiff, a]
  rw [e]
  exact .tree _ rfl
 have a' : ¬ 2 < m.length := by omega
 simp only [c29, go_sem, ↓reduceIte, Nat.reduceLT, Nat.reduceEqDiff, a]
 refine loopX 0 (fun x s => ∃ k : Nat, x = m.length - k /\ k <= m.length /\ (m.take k).any longP = false /\ s = ⟨[(1, .ref 0 1 0 0), (3, vi k)], [.arr 1 1 25 [vmel m]]⟩)
  (fun s => m.any longP = false /\ s = ⟨[(1, .ref 0 1 0 0)], [.arr 1 1 25 [vmel m]]⟩) m.length ⟨[(1, .ref 0 1 0 0), (3, vi (0 : Nat))], [.arr 1 1 25 [vmel m]]⟩ (WkE.keep (by simp only [go_sem, ↓reduceIte, Nat.reduceEqDiff]; rfl)) ⟨0, by omega, by omega, rfl, rfl⟩ ?_ ?_
 ·rintro x s ⟨k, rfl, hk, ht, rfl⟩
  by_cases hlt : k < m.length
  ·have h1 : (k : Int) < (m.length : Int) := by omega
   have h0 : (0 : Int) <= (k : Int) := by omega
   have hw : IntKind.i64.wrap ((k : Int) + 1) = ((k + 1 : Nat) : Int) := by rw [wrap_id (by omega) (by omega)]; omega
   have lk := hl.2 _ (List.getElem_mem hlt)
   obtain ⟨h, hh⟩ : ∃ h, m[k] = h := ⟨_, rfl⟩
   rw [hh] at lk
   by_cases b : (32 : Int) < (h.length : Int)
   ·simp only [go_sem, ↓reduceIte, Nat.reduceLT, Nat.reduceEqDiff, h1, h0, List.getElem?_map, List.getElem?_eq_getElem hlt, hh, b]
    have e : validE m = 4 := by
     have := any_at (p := longP) hlt (by rw [hh]; simp only [longP, show 32 < h.length from by omega, decide_true, Bool.true_or])
     simp only [validE, this, Bool.or_true, cond_true]
    rw [e]
    exact .tree _ rfl
   simp only [go_sem, ↓reduceIte, Nat.reduceLT, Nat.reduceEqDiff, h1, h0, List.getElem?_map, List.getElem?_eq_getElem hlt, hh, b]
   refine loopX 2 (fun x s => ∃ j : Nat, x = h.length - j /\ j <= h.length /\ (h.take j).any (fun b => decide (16 < b.length)) = false /\ s = ⟨[(1, .ref 0 1 0 0), (3, vi k), (4, vi j)], [.arr 1 1 25 [vmel m]]⟩)
    (fun s => longP h = false /\ s = ⟨[(1, .ref 0 1 0 0), (3, vi k)], [.arr 1 1 25 [vmel m]]⟩) h.length ⟨[(1, .ref 0 1 0 0), (3, vi k), (4, vi (0 : Nat))], [.arr 1 1 25 [vmel m]]⟩ (WkE.keep (by simp only [go_sem, ↓reduceIte, Nat.reduceEqDiff]; rfl)) ⟨0, by omega, by omega, rfl, rfl⟩ ?_ ?_
   rotate_left
   ·rintro s ⟨e, rfl⟩
    simp only [go_sem, ↓reduceIte, Nat.reduceLT, Nat.reduceEqDiff, hw]
    exact ⟨m.length - (k + 1), ⟨[(1, .ref 0 1 0 0), (3, vi (k + 1 : Nat))], [.arr 1 1 25 [vmel m]]⟩, by omega, WkE.keep (by simp only [go_sem, ↓reduceIte, Nat.reduceEqDiff]), k + 1, rfl, by omega, any_take_succ ht hlt (by rw [hh]; exact e), rfl⟩
   rintro x s ⟨j, rfl, hj, hjt, rfl⟩
   by_cases jlt : j < h.length
   ·have j1 : (j : Int) < (h.length : Int) := by omega
    have j0 : (0 : Int) <= (j : Int) := by omega
    have jw : IntKind.i64.wrap ((j : Int) + 1) = ((j + 1 : Nat) : Int) := by rw [wrap_id (by omega) (by omega)]; omega
    by_cases c : (16 : Int) < (h[j].length : Int)
    ·simp only [go_sem, ↓reduceIte, Nat.reduceLT, Nat.reduceEqDiff, h0, List.getElem?_map, List.getElem?_eq_getElem hlt, hh, j1, j0, List.getElem?_eq_getElem jlt, c]
     have e : validE m = 4 := by
      have := any_at (p := longP) hlt (by rw [hh, longP, any_at (p := fun b => decide (16 < b.length)) jlt (by simp only [decide_eq_true_eq]; omega), Bool.or_true])
      simp only [validE, this, Bool.or_true, cond_true]
     rw [e]
     exact .tree _ rfl
    ·simp only [go_sem, ↓reduceIte, Nat.reduceLT, Nat.reduceEqDiff, h0, List.getElem?_map, List.getElem?_eq_getElem hlt, hh, j1, j0, List.getElem?_eq_getElem jlt, c, jw]
     exact ⟨h.length - (j + 1), ⟨[(1, .ref 0 1 0 0), (3, vi k), (4, vi (j + 1 : Nat))], [.arr 1 1 25 [vmel m]]⟩, by omega, WkE.keep (by simp only [go_sem, ↓reduceIte, Nat.reduceEqDiff]), j + 1, rfl, by omega, any_take_succ hjt jlt (by simp only [decide_eq_false_iff_not]; omega), rfl⟩
   ·have j1 : ¬ (j : Int) < (h.length : Int) := by omega
    simp only [go_sem, ↓reduceIte, Nat.reduceLT, Nat.reduceEqDiff, h0, List.getElem?_map, List.getElem?_eq_getElem hlt, hh, j1]
    refine ⟨⟨[(1, .ref 0 1 0 0), (3, vi k)], [.arr 1 1 25 [vmel m]]⟩, WkE.keep (by simp only [go_sem, ↓reduceIte, Nat.reduceEqDiff]), ?_, rfl⟩
    have hn : ¬ 32 < h.length := by omega
    simp only [longP, any_take_all hjt (by omega), hn, decide_false, Bool.or_false]
  ·have h1 : ¬ (k : Int) < (m.length : Int) := by omega
   simp only [go_sem, ↓reduceIte, Nat.reduceLT, Nat.reduceEqDiff, h1]
   exact ⟨⟨[(1, .ref 0 1 0 0)], [.arr 1 1 25 [vmel m]]⟩, WkE.keep (by simp only [go_sem, ↓reduceIte, Nat.reduceEqDiff]), any_take_all ht (by omega), rfl⟩
 rintro s ⟨hlg, rfl⟩
 by_cases z : (m.length : Int) = 0
 ·have z' : m.length = 0 := by omega
  have e : validE m = 1 := by simp only [validE, hlg, z', decide_true, Bool.true_or, cond_true] <;> rfl
  simp only [go_sem, ↓reduceIte, Nat.reduceLT, z]
  rw [e]
  exact .tree _ rfl
 have z' : ¬ m.length = 0 := by omega
 have zlt : (0 : Int) < (m.length : Int) := by omega
 obtain ⟨g, hg⟩ : ∃ h0, m[0]? = some h0 := ⟨_, List.getElem?_eq_getElem (by omega)⟩
 have hd : m.headD [] = g := by cases m with | nil => cases hg | cons x l => simpa using hg
 have fail : ∀ {k : Nat} (hlt : k < m.length), wrongP g.length m[k] = true -> validE m = 1 := fun hlt hw => by
  have := any_at (p := wrongP g.length) hlt hw
  simp only [validE, a', z', hlg, hd, this, decide_false, Bool.or_false, Bool.false_or, cond_false, cond_true]
 simp only [go_sem, ↓reduceIte, Nat.reduceLT, z]
 refine loopX 4 (fun x s => ∃ k : Nat, x = m.length - k /\ k <= m.length /\ (m.take k).any (wrongP g.length) = false /\ s = ⟨[(1, .ref 0 1 0 0), (5, vi k)], [.arr 1 1 25 [vmel m]]⟩)
  (fun s => validE m = 0 /\ s = ⟨[], []⟩) m.length ⟨[(1, .ref 0 1 0 0), (5, vi (0 : Nat))], [.arr 1 1 25 [vmel m]]⟩ (WkE.keep (by simp only [go_sem, ↓reduceIte, Nat.reduceEqDiff]; rfl)) ⟨0, by omega, by omega, rfl, rfl⟩ ?_ ?_
 rotate_left
 ·rintro s ⟨e, rfl⟩
  rw [e]
  simp only [go_sem, ↓reduceIte, Nat.reduceLT]
  exact .tree _ rfl
 rintro x s ⟨k, rfl, hk, ht, rfl⟩
 by_cases hlt : k < m.length
 ·have h1 : (k : Int) < (m.length : Int) := by omega
  have h0 : (0 : Int) <= (k : Int) := by omega
  have hw : IntKind.i64.wrap ((k : Int) + 1) = ((k + 1 : Nat) : Int) := by rw [wrap_id (by omega) (by omega)]; omega
  have lk := hl.2 _ (List.getElem_mem hlt)
  have fk := fail hlt
  obtain ⟨h, hh⟩ : ∃ h, m[k] = h := ⟨_, rfl⟩
  rw [hh] at lk fk
  by_cases b : (h.length : Int) = 0
  ·simp only [go_sem, ↓reduceIte, Nat.reduceLT, Nat.reduceEqDiff, h1, h0, List.getElem?_map, List.getElem?_eq_getElem hlt, hh, b]
   rw [fk (by simp only [wrongP, show h.length = 0 from by omega, true_or, decide_true, Bool.true_or])]
   exact .tree _ rfl
  by_cases e : (h.length : Int) = (g.length : Int)
  rotate_left
  ·simp only [go_sem, ↓reduceIte, Nat.reduceLT, Nat.reduceEqDiff, Int.reduceToNat, Int.reduceToNat, Int.le_refl, h1, h0, List.getElem?_map, List.getElem?_eq_getElem hlt, hg, hh, b, e]
   rw [fk (by
    have : (h.length = 0 \/ h.length ≠ g.length) := by omega
    simp only [wrongP, this, decide_true, Bool.true_or])]
   exact .tree _ rfl
  have b' : ¬ (g.length : Int) = 0 := by omega
  simp only [go_sem, ↓reduceIte, Nat.reduceLT, Nat.reduceEqDiff, Int.reduceToNat, Int.reduceToNat, Int.le_refl, h1, h0, List.getElem?_map, List.getElem?_eq_getElem hlt, hg, hh, b', e]
  refine loopX 6 (fun x s => ∃ j : Nat, x = h.length - j /\ j <= h.length /\ (h.take j).any (fun b => !barP b) = false /\ s = ⟨[(1, .ref 0 1 0 0), (5, vi k), (6, vi j)], [.arr 1 1 25 [vmel m]]⟩)
   (fun s => wrongP g.length h = false /\ s = ⟨[(1, .ref 0 1 0 0), (5, vi k)], [.arr 1 1 25 [vmel m]]⟩) h.length ⟨[(1, .ref 0 1 0 0), (5, vi k), (6, vi (0 : Nat))], [.arr 1 1 25 [vmel m]]⟩ (WkE.keep (by simp only [go_sem, ↓reduceIte, Nat.reduceEqDiff]; rfl)) ⟨0, by omega, by omega, rfl, rfl⟩ ?_ ?_
  rotate_left
  ·rintro s ⟨e, rfl⟩
   simp only [go_sem, ↓reduceIte, Nat.reduceLT, Nat.reduceEqDiff, hw]
   exact ⟨m.length - (k + 1), ⟨[(1, .ref 0 1 0 0), (5, vi (k + 1 : Nat))], [.arr 1 1 25 [vmel m]]⟩, by omega, WkE.keep (by simp only [go_sem, ↓reduceIte, Nat.reduceEqDiff]), k + 1, rfl, by omega, any_take_succ ht hlt (by rw [hh]; exact e), rfl⟩
  rintro x s ⟨j, rfl, hj, hjt, rfl⟩
  by_cases jlt : j < h.length
  ·have j1 : (j : Int) < (h.length : Int) := by omega
   have j0 : (0 : Int) <= (j : Int) := by omega
   have jw : IntKind.i64.wrap ((j : Int) + 1) = ((j + 1 : Nat) : Int) := by rw [wrap_id (by omega) (by omega)]; omega
   simp only [go_sem, ↓reduceIte, Nat.reduceLT, Nat.reduceEqDiff, h0, List.getElem?_map, List.getElem?_eq_getElem hlt, hh, j1, j0, List.getElem?_eq_getElem jlt]
   refine callT (bar_s h[j] (lk.2 _ (List.getElem_mem jlt))) rfl ?_
   cases hb : barP h[j] with
   | true =>
    have be : barE h[j] = 0 := by rw [barE, hb]; rfl
    simp only [go_sem, ↓reduceIte, Nat.reduceLT, Nat.reduceEqDiff, be, jw]
    exact ⟨h.length - (j + 1), ⟨[(1, .ref 0 1 0 0), (5, vi k), (6, vi (j + 1 : Nat))], [.arr 1 1 25 [vmel m]]⟩, by omega, WkE.keep (by simp only [go_sem, ↓reduceIte, Nat.reduceEqDiff]), j + 1, rfl, by omega, any_take_succ hjt jlt (by rw [hb]; rfl), rfl⟩
   | false =>
    have be : barE h[j] = 1 := by rw [barE, hb]; rfl
    simp only [go_sem, ↓reduceIte, Nat.reduceLT, Int.reduceEq, be]
    rw [fk (by rw [wrongP, any_at (p := fun b => !barP b) jlt (by rw [hb]; rfl), Bool.or_true])]
    exact .tree _ rfl
  ·have j1 : ¬ (j : Int) < (h.length : Int) := by omega
   simp only [go_sem, ↓reduceIte, Nat.reduceLT, Nat.reduceEqDiff, h0, List.getElem?_map, List.getElem?_eq_getElem hlt, hh, j1]
   refine ⟨⟨[(1, .ref 0 1 0 0), (5, vi k)], [.arr 1 1 25 [vmel m]]⟩, WkE.keep (by simp only [go_sem, ↓reduceIte, Nat.reduceEqDiff]), ?_, rfl⟩
   have : ¬ (h.length = 0 \/ h.length ≠ g.length) := by omega
   simp only [wrongP, any_take_all hjt (by omega), this, decide_false, Bool.or_false]
 ·have h1 : ¬ (k : Int) < (m.length : Int) := by omega
  simp only [go_sem, ↓reduceIte, Nat.reduceLT, Nat.reduceEqDiff, h1]
  refine ⟨⟨[], []⟩, ?_, ?_, rfl⟩
  ·exact (WkE.keep (env' := []) trivial).trans (WkE.drop 0 (fun p h => by cases h) (fun o h => by cases h))
  ·simp only [validE, a', z', hlg, hd, any_take_all ht (by omega), decide_false, Bool.or_false, cond_false]
end Go.Proofs.YtnncijjkbonokaaDoor
