/- Lemmas used by Lines, Needed. -/
import Derived.Test.YtnncijjkbonokaaDoorKa
import Derived.Test.YtnncijjkbonokaaDoorKb
import Derived.Test.YtnncijjkbonokaaDoorKc
import Derived.Test.YtnncijjkbonokaaDoorKd
import Derived.Test.YtnncijjkbonokaaDoorKe
import Derived.Test.YtnncijjkbonokaaDoorKf
import Derived.Test.YtnncijjkbonokaaDoorKg
import Derived.Test.YtnncijjkbonokaaDoorKh
import Derived.Test.YtnncijjkbonokaaDoorKi
import Derived.Test.YtnncijjkbonokaaDoorProg
import Derived.WalkKit
import Derived.WalkSpells
import Derived.WalkLawsBesides
import Derived.Orders
import Derived.Laws.MakeOwn
import Derived.Deep.AppendSrc
import Derived.Lib.AppendZerosOnto
import Derived.Defers
import Derived.Laws.StructEq
import Derived.Scope
import Derived.Deep.LoopGhost
import Derived.OrdersIn
import Derived.ControlIn
import Derived.Sort.LoopGhostIn
import Derived.RangeFuncLeaves
import Derived.RangeFuncRecord
import Derived.RangeFuncFrom
import Derived.RangeFuncBox
import Derived.OwnWalkIn
import Derived.TacticsInMore
import Derived.LoopNIn
import Derived.LoopIn
import Derived.Sort.QuietTacIn
set_option linter.unusedSimpArgs false
set_option linter.unusedVariables false
set_option linter.unusedSectionVars false
namespace Go.Proofs.YtnncijjkbonokaaDoor
open Dak
def c25 : CCode :=
 (.seq (.region [oo 2 (.mov (.const (.bool false)))])
 (.seq (.region [vv 3 0, oo 4 (.call (.func 49) [(T 3), (.func 50)]), oo 5 (.lnot (T 4)), vv 2 5])
 .ret))
theorem f25 : fnC Tryd.prog 25 = some (c25, 6, [(.tmp 2)]) := by kernel_rfl
end Go.Proofs.YtnncijjkbonokaaDoor
namespace Go.Proofs.YtnncijjkbonokaaDoor
open Dak
def c49 : CCode :=
 (.seq (.region [oo 4 (.mov (.const (.bool false)))])
 (.seq (.region [vv 5 0, vv 6 1, oo 7 (.call (.func 79) [(T 5), (T 6)]), oo 8 (.ibin .geq (T 7) (kk 0)), vv 4 8])
 .ret))
theorem f49 : fnC Tryd.prog 49 = some (c49, 9, [(.tmp 4)]) := by kernel_rfl
def c50 : CCode :=
 (.seq (.region [oo 2 (.mov (.const (.bool false)))])
 (.seq (.region [vv 3 0, oo 4 (.ibin .geq (T 3) (.const (.int .u8 64))), vv 2 4])
 .ret))
theorem f50 : fnC Tryd.prog 50 = some (c50, 5, [(.tmp 2)]) := by kernel_rfl
end Go.Proofs.YtnncijjkbonokaaDoor
namespace Go.Proofs.YtnncijjkbonokaaDoor
open Dak
def c79 : CCode :=
 (.seq (.region [oo 4 (.mov (kk 0))])
 (.seq (.seq (.region [vv 6 0, oo 7 (.len (T 6)), oo 8 (.mov (kk 0))])
 (.block 0 (.loop
 (.seq (.region [oo 9 (.ibin .lss (T 8) (T 7))])
 (.seq (.cond (T 9)
 .skip
 (.exit 0))
 (.seq (.block 1 (.seq (.region [vv 10 8, vv 5 10])
 (.seq (.region [vv 11 1, vv 12 0, vv 13 5, oo 14 (.idxS 1 (T 12) (T 13)), oo 15 (.load false 1 (T 14)), oo 16 (.call (T 11) [(T 15)])])
 (.cond (T 16)
 (.seq (.region [vv 17 5, vv 4 17])
 .ret)
 .skip))))
 (.region [oo 18 (.ibin .add (T 8) (kk 1)), vv 8 18])))))))
 (.seq (.region [oo 4 (.mov (kk (-1)))])
 .ret)))
theorem f79 : fnC Tryd.prog 79 = some (c79, 19, [(.tmp 4)]) := by kernel_rfl
end Go.Proofs.YtnncijjkbonokaaDoor
namespace Go.Proofs.YtnncijjkbonokaaDoor
open Go.RowKit Dak
set_option maxRecDepth 100000 in
theorem IndexFunc79_s (g : FuncId) (caps : List AV) (hcap : (caps.all AV.isT1) = true) (p : Int -> Bool) (l : List (Int)) (hl : l.length <= 9223372036854775806) (hp : ∀ x ∈ l, Ctr Tryd.prog g (vu x :: caps) (vb (p x))) : Ctr Tryd.prog 79 [.list 1 (l.map vu), .clo (.func g) caps] (vi (idxGo p l 0)) := by
 refine specC f79 (by simp) fun F0 w0 => ?_
 unfold c79
 refine CwpE.cut (st := ⟨[(0, .list 1 (l.map vu)), (1, .clo (.func g) caps)], []⟩) ?_ ?_
 ·simp only [go_sem, ↓reduceIte, Nat.reduceLT]
  exact ⟨_, WkE.keep (by simp only [go_sem, ↓reduceIte, reduceCtorEq, Nat.reduceEqDiff]), rfl⟩
 refine CwpE.step (fun s => idxGo p l 0 = -1 /\ s = ⟨[], []⟩) ?_ ?_
 rotate_left
 ·rintro s ⟨h, rfl⟩
  rw [h]
  refine CwpE.vc ?_
  simp only [go_sem, ↓reduceIte, Nat.reduceLT]
  exact .tree _ rfl
 simp only [go_sem, ↓reduceIte, Nat.reduceLT]
 refine loopX 0 (fun m s => ∃ k : Nat, m = l.length - k /\ k <= l.length /\ idxGo p l 0 = idxGo p (l.drop k) k /\ s = ⟨[(0, .list 1 (l.map vu)), (1, .clo (.func g) caps), (7, vi l.length), (8, vi k)], []⟩)
  (fun s => idxGo p l 0 = -1 /\ s = ⟨[], []⟩) l.length
  ⟨[(0, .list 1 (l.map vu)), (1, .clo (.func g) caps), (7, vi l.length), (8, vi (0 : Nat))], []⟩ (WkE.keep (by simp only [go_sem, ↓reduceIte, reduceCtorEq, Nat.reduceEqDiff]; rfl)) ⟨0, by omega, by omega, rfl, rfl⟩ ?_ ?_
 rotate_left
 ·rintro s ⟨h, rfl⟩
  simp only [go_sem, ↓reduceIte]
  exact ⟨_, .refl _ _, h, rfl⟩
 rintro m s ⟨k, rfl, hk, hi, rfl⟩
 by_cases hlt : k < l.length
 ·have g1 : (k : Int) < (l.length : Int) := by omega
  have g0 : (0 : Int) <= (k : Int) := by omega
  have w1 : IntKind.i64.wrap ((k : Int) + 1) = ((k + 1 : Nat) : Int) := by rw [wrap_id (by omega) (by omega)]; omega
  rw [List.drop_eq_getElem_cons hlt, idxGo] at hi
  simp only [go_sem, ↓reduceIte, reduceCtorEq, Nat.reduceLT, Nat.reduceEqDiff, g1, g0, List.getElem?_map, List.getElem?_eq_getElem hlt]
  refine callCN (hp l[k] (List.getElem_mem hlt)) (snaps_self (vu l[k] :: caps) (by simp only [List.all_cons, isT1s hcap, Bool.and_true]; rfl) _) ?_
  cases hb : p l[k] with
  | true =>
   rw [if_pos hb] at hi
   rw [hi]
   simp only [go_sem, ↓reduceIte, reduceCtorEq, Nat.reduceLT, Nat.reduceEqDiff]
   exact .tree _ rfl
  | false =>
   rw [if_neg (by rw [hb]; simp)] at hi
   simp only [go_sem, ↓reduceIte, reduceCtorEq, Nat.reduceLT, Nat.reduceEqDiff, w1]
   exact ⟨l.length - (k + 1), ⟨[(0, .list 1 (l.map vu)), (1, .clo (.func g) caps), (7, vi l.length), (8, vi (k + 1 : Nat))], []⟩, by omega, WkE.keep (by simp only [go_sem, ↓reduceIte, reduceCtorEq, Nat.reduceEqDiff]), k + 1, rfl, by omega, hi, rfl⟩
 ·have g1 : ¬ (k : Int) < (l.length : Int) := by omega
  rw [List.drop_eq_nil_of_le (by omega), idxGo] at hi
  simp only [go_sem, ↓reduceIte, reduceCtorEq, Nat.reduceLT, Nat.reduceEqDiff, g1]
  exact ⟨⟨[], []⟩, WkE.keep trivial, hi, rfl⟩
set_option maxRecDepth 100000 in
theorem ContainsFunc49_s (g : FuncId) (caps : List AV) (hcap : (caps.all AV.isT1) = true) (p : Int -> Bool) (l : List (Int)) (hl : l.length <= 9223372036854775806) (hp : ∀ x ∈ l, Ctr Tryd.prog g (vu x :: caps) (vb (p x))) : Ctr Tryd.prog 49 [.list 1 (l.map vu), .clo (.func g) caps] (vb (l.any p)) := by
 refine specE f49 (by simp) fun F0 w0 => ?_
 simp only [c49, go_sem, ↓reduceIte, reduceCtorEq, Nat.reduceLT, Nat.reduceEqDiff]
 refine callN (IndexFunc79_s g caps hcap p l hl hp) (snaps_self [.list 1 (l.map vu), .clo (.func g) caps] (by simp only [List.all_cons, List.all_nil, Bool.and_true]; exact Bool.and_eq_true_iff.2 ⟨rfl, isT_clo hcap⟩) _) ?_
 simp only [go_sem, ↓reduceIte, Nat.reduceLT]
 rw [idxGo_any]
 exact .tree _ rfl
end Go.Proofs.YtnncijjkbonokaaDoor
namespace Go.Proofs.YtnncijjkbonokaaDoor
open Go.RowKit Dak
theorem cell1_s (x : Int) (h0 : 0 <= x) (h1 : x < 64) : Ctr Tryd.prog 50 [vu x] (vb false) := by
 refine specE f50 (by simp) fun F0 w0 => ?_
 have e : ¬ (64 : Int) <= x := by omega
 simp only [c50, go_sem, ↓reduceIte, reduceCtorEq, e]
 exact .tree _ rfl
theorem cellValid_s (l : List Int) (hl : l.length <= 9223372036854775806) (h : ∀ x ∈ l, 0 <= x /\ x < 64) : Ctr Tryd.prog 25 [vbytes l] (vb true) := by
 refine specE f25 (by simp) fun F0 w0 => ?_
 simp only [c25, go_sem, ↓reduceIte, reduceCtorEq, Nat.reduceLT]
 refine callT (ContainsFunc49_s 50 [] rfl (fun _ => false) l hl fun x hx => cell1_s x (h x hx).1 (h x hx).2) rfl ?_
 rw [show l.any (fun _ => false) = false by simp]
 simp only [go_sem, ↓reduceIte, Nat.reduceLT]
 exact .tree _ rfl
end Go.Proofs.YtnncijjkbonokaaDoor
namespace Go.Proofs.YtnncijjkbonokaaDoor
open Go.RowKit Dak
theorem row_grow {m : List (List (List Nt))} (hm : Vm m) {fr k : Nat} (h1 : 1 <= k) (hk : fr + k < manyP m) {i : Nat} (hi : i < m.length) :
 ((lineP m fr k).ls.getD i []).length + 2 <= ((lineP m fr (k + 1)).ls.getD i []).length := by
 have hl := line_len hm (fr := fr) (k := k) (by omega)
 rw [line_add (m := m) (fr := fr) (k := k) (fun h hh => by have := hm.bars h hh; omega)]
 rw [List.getD_eq_getElem?_getD, List.getD_eq_getElem?_getD, List.getElem?_eq_getElem (by omega), List.getElem?_eq_getElem (by simp; omega)]
 simp only [Option.getD_some, List.getElem_zipWith, List.getElem_map, List.length_append, padC, if_pos (show 0 < k by omega)]
 have hr := getD_right hm (List.getElem_mem hi) (i := fr + k) (by omega)
 have := cells_ge (m[i].getD (fr + k) []) (segL (cutH fr k m[i]) (-1))
 simp only [List.length_replicate, List.length_singleton]; omega
end Go.Proofs.YtnncijjkbonokaaDoor
