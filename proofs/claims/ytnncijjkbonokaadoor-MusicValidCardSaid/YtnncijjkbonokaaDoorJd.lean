/- Lemmas used by all laws. -/
import Derived.Test.YtnncijjkbonokaaDoorJa
import Derived.Test.YtnncijjkbonokaaDoorJb
import Derived.Test.YtnncijjkbonokaaDoorJc
import Derived.Test.YtnncijjkbonokaaDoorProg
import Derived.WalkKit
import Derived.WalkSpells
import Derived.WalkLawsBesides
import Derived.Orders
import Derived.Laws.MakeOwn
import Derived.Deep.AppendSrc
import Derived.Lib.AppendZerosOnto
import Derived.Defers
import Derived.Laws.StructEq
import Derived.Scope
import Derived.Deep.LoopGhost
import Derived.OrdersIn
import Derived.ControlIn
import Derived.Sort.LoopGhostIn
import Derived.RangeFuncLeaves
import Derived.RangeFuncRecord
import Derived.RangeFuncFrom
import Derived.RangeFuncBox
import Derived.OwnWalkIn
import Derived.TacticsInMore
import Derived.LoopNIn
import Derived.LoopIn
import Derived.Sort.QuietTacIn
set_option linter.unusedSimpArgs false
set_option linter.unusedVariables false
set_option linter.unusedSectionVars false
set_option maxRecDepth 100000
namespace Go.Proofs.YtnncijjkbonokaaDoor
open Go.RowKit Dak
theorem rightBar_s (l : List Nt) (hl : l.length <= 9223372036854775806) (hn : ∀ n ∈ l, okA n) : Ctr Tryd.prog 35 [vbar l] (vb (barP l)) := by
 refine specE f35 (by simp) fun F0 w0 => ?_
 by_cases h : (0 : Int) < (l.length : Int)
 ·simp only [c35, go_sem, ↓reduceIte, reduceCtorEq, Nat.reduceLT, Nat.reduceEqDiff, h]
  refine callT (ContainsFunc66_s 67 [] rfl (fun n => !rightP n) l hl fun n hm => notRight_s n (hn n hm)) rfl ?_
  simp only [go_sem, ↓reduceIte, Nat.reduceLT, Nat.reduceEqDiff]
  rw [any_not, barP_pos (by omega)]
  exact .tree _ rfl
 ·simp only [c35, go_sem, ↓reduceIte, reduceCtorEq, Nat.reduceLT, Nat.reduceEqDiff, h]
  rw [barP_nil (by omega)]
  exact .tree _ rfl
def barE (l : List Nt) : Int := bif barP l then 0 else 1
theorem bar_s (l : List Nt) (hl : l.length <= 9223372036854775806) : Ctr Tryd.prog 37 [vbar l] (ve (barE l)) := by
 refine specE f37 (by simp) fun F0 w0 => ?_
 by_cases h : (l.length : Int) = 0
 ·simp only [c37, go_sem, ↓reduceIte, reduceCtorEq, Nat.reduceLT, h]
  rw [barE, barP_nil (by omega)]
  exact .tree _ rfl
 simp only [c37, go_sem, ↓reduceIte, reduceCtorEq, Nat.reduceLT, h]
 refine loopX 0 (fun m s => ∃ k : Nat, m = l.length - k /\ k <= l.length /\ (l.take k).all rightP = true /\ s = ⟨[(0, vbar l), (3, vi k)], []⟩) (fun s => barE l = 0 /\ s = ⟨[], []⟩) l.length ⟨[(0, vbar l), (3, vi (0 : Nat))], []⟩ (WkE.keep (by simp only [go_sem, ↓reduceIte, reduceCtorEq]; rfl)) ⟨0, by omega, by omega, rfl, rfl⟩ ?_ ?_
 rotate_left
 ·rintro s ⟨e, rfl⟩
  rw [e]
  simp only [go_sem, ↓reduceIte, Nat.reduceLT]
  exact .tree _ rfl
 rintro m s ⟨k, rfl, hk, ht, rfl⟩
 by_cases hlt : k < l.length
 ·have h1 : (k : Int) < (l.length : Int) := by omega
  have h0 : (0 : Int) <= (k : Int) := by omega
  have hw : IntKind.i64.wrap ((k : Int) + 1) = ((k + 1 : Nat) : Int) := by rw [wrap_id (by omega) (by omega)]; omega
  simp only [go_sem, ↓reduceIte, reduceCtorEq, Nat.reduceLT, Nat.reduceEqDiff, Nat.reduceAdd, h1, h0, List.getElem?_map, List.getElem?_eq_getElem hlt]
  refine callT (note_s l[k]) rfl ?_
  cases hr : rightP l[k] with
  | true =>
   simp only [go_sem, ↓reduceIte, reduceCtorEq, Nat.reduceLT, Nat.reduceEqDiff, hw]
   exact ⟨l.length - (k + 1), ⟨[(0, vbar l), (3, vi (k + 1 : Nat))], []⟩, by omega, WkE.keep (by simp only [go_sem, ↓reduceIte, reduceCtorEq]), k + 1, rfl, by omega, by rw [List.take_succ_eq_append_getElem hlt, List.all_append, ht]; simp [hr], rfl⟩
  | false =>
   simp only [go_sem, ↓reduceIte, Nat.reduceLT]
   have : barE l = 1 := by
    have hb : barP l = false := by
     rw [Bool.eq_false_iff]
     intro hh
     have := List.all_eq_true.1 (Bool.and_eq_true_iff.1 hh).2 _ (List.getElem_mem hlt)
     rw [hr] at this; cases this
    rw [barE, hb]; rfl
   rw [this]
   exact .tree _ rfl
 ·have h1 : ¬ (k : Int) < (l.length : Int) := by omega
  simp only [go_sem, ↓reduceIte, reduceCtorEq, Nat.reduceLT, Nat.reduceEqDiff, h1]
  refine ⟨⟨[], []⟩, WkE.keep trivial, ?_, rfl⟩
  rw [List.take_of_length_le (by omega)] at ht
  rw [barE, barP_pos (by omega), ht]; rfl
end Go.Proofs.YtnncijjkbonokaaDoor
namespace Go.Proofs.YtnncijjkbonokaaDoor
open Go.RowKit Dak
theorem snap_box {objs : List AObj} {id g el c : Nat} {x : AV} (h : cellsAt objs (.ref id g el c) = some [x]) (hx : x.isT = true) : Snap objs (.ref id g el c) (.ptr [x]) :=
 .ref _ _ _ _ _ _ h rfl fun i h1 h2 => by
  obtain rfl : i = 0 := by simpa using h1
  exact .tree _ hx
theorem snap_clo1 {objs : List AObj} {fn : Fn} {a b : AV} (h : Snap objs a b) : Snap objs (.clo fn [a]) (.clo fn [b]) :=
 .clo _ _ _ rfl fun i h1 h2 => by
  obtain rfl : i = 0 := by simpa using h1
  exact h
def okM (m : List (List (List Nt))) : Prop := ∀ h ∈ m, ∀ b ∈ h, ∀ n ∈ b, okA n
theorem long11_s (b : List Nt) : Ctr Tryd.prog 55 [vbar b] (vb (decide (16 < b.length))) := by
 refine specE f55 (by simp) fun F0 w0 => ?_
 have e : ((16 : Int) < (b.length : Int)) = (16 < b.length) := by apply propext; omega
 simp only [c55, go_sem, ↓reduceIte, reduceCtorEq, Nat.reduceLT, e]
 exact .tree _ rfl
def longP (h : List (List Nt)) : Bool := decide (32 < h.length) || h.any fun b => decide (16 < b.length)
theorem long1_s (h : List (List Nt)) (hl : h.length <= 9223372036854775806) : Ctr Tryd.prog 53 [vhand h] (vb (longP h)) := by
 refine specE f53 (by simp) fun F0 w0 => ?_
 by_cases a : (32 : Int) < (h.length : Int)
 ·simp only [c53, go_sem, ↓reduceIte, reduceCtorEq, Nat.reduceLT, Nat.reduceEqDiff, a]
  rw [show longP h = true by simp only [longP, show 32 < h.length from by omega, decide_true, Bool.true_or]]
  exact .tree _ rfl
 ·simp only [c53, go_sem, ↓reduceIte, reduceCtorEq, Nat.reduceLT, Nat.reduceEqDiff, a]
  refine callT (ContainsFunc54_s 55 [] rfl (fun b => decide (16 < b.length)) h hl fun b _ => long11_s b) rfl ?_
  simp only [go_sem, ↓reduceIte, Nat.reduceLT, Nat.reduceEqDiff]
  rw [show longP h = (h.any fun b => decide (16 < b.length)) by simp only [longP, show ¬ 32 < h.length from by omega, decide_false, Bool.false_or]]
  exact .tree _ rfl
theorem notBar_s (b : List Nt) (hl : b.length <= 9223372036854775806) (hn : ∀ n ∈ b, okA n) : Ctr Tryd.prog 57 [vbar b] (vb (!barP b)) := by
 refine specE f57 (by simp) fun F0 w0 => ?_
 simp only [c57, go_sem, ↓reduceIte, reduceCtorEq, Nat.reduceLT]
 refine callT (rightBar_s b hl hn) rfl ?_
 simp only [go_sem, ↓reduceIte, Nat.reduceLT]
 exact .tree _ rfl
def wrongP (n : Nat) (h : List (List Nt)) : Bool := decide (h.length = 0 \/ h.length ≠ n) || h.any fun b => !barP b
theorem wrong2_s (m : List (List (List Nt))) (h0 h : List (List Nt)) (hm : m[0]? = some h0) (hl : h.length <= 9223372036854775806) (hb : ∀ b ∈ h, b.length <= 9223372036854775806 /\ ∀ n ∈ b, okA n) : Ctr Tryd.prog 56 [vhand h, .ptr [vhands m]] (vb (wrongP h0.length h)) := by
 refine specE f56 (by simp) fun F0 w0 => ?_
 have hlt : 0 < m.length := (List.getElem?_eq_some_iff.1 hm).1
 have hlt' : (0 : Int) < (m.length : Int) := by omega
 by_cases a : (h.length : Int) = 0
 ·simp only [c56, go_sem, ↓reduceIte, reduceCtorEq, Nat.reduceLT, Nat.reduceEqDiff, a]
  rw [show wrongP h0.length h = true by simp only [wrongP, show h.length = 0 from by omega, true_or, decide_true, Bool.true_or]]
  exact .tree _ rfl
 ·by_cases e : (h.length : Int) = (h0.length : Int)
  ·have e0 : ¬ (h0.length : Int) = 0 := by omega
   simp only [c56, go_sem, ↓reduceIte, reduceCtorEq, Nat.reduceLT, Nat.reduceEqDiff, Int.reduceToNat, Int.reduceToNat, Int.le_refl, e, e0, List.getElem?_map, hm]
   refine callT (ContainsFunc54_s 57 [] rfl (fun b => !barP b) h hl fun b hbm => notBar_s b (hb b hbm).1 (hb b hbm).2) rfl ?_
   simp only [go_sem, ↓reduceIte, Nat.reduceLT, Nat.reduceEqDiff]
   rw [show wrongP h0.length h = (h.any fun b => !barP b) by
    have : ¬ (h.length = 0 \/ h.length ≠ h0.length) := by omega
    simp only [wrongP, this, decide_false, Bool.false_or]]
   exact .tree _ rfl
  ·simp only [c56, go_sem, ↓reduceIte, reduceCtorEq, Nat.reduceLT, Nat.reduceEqDiff, Int.reduceToNat, Int.reduceToNat, Int.le_refl, a, e, List.getElem?_map, hm]
   rw [show wrongP h0.length h = true by
    have : (h.length = 0 \/ h.length ≠ h0.length) := by omega
    simp only [wrongP, this, decide_true, Bool.true_or]]
   exact .tree _ rfl
def validE (m : List (List (List Nt))) : Int := bif decide (2 < m.length) || m.any longP then 4 else bif decide (m.length = 0) || m.any (wrongP (m.headD []).length) then 1 else 0
theorem Valid_s (m : List (List (List Nt))) (hl : lenM m) (ho : okM m) : Ctr Tryd.prog 28 [vmel m] (ve (validE m)) := by
 refine specE f28 (by simp) fun F0 w0 => ?_
 have hlong : ∀ h ∈ m, Ctr Tryd.prog 53 [vhand h] (vb (longP h)) := fun h hm => long1_s h (hl.2 h hm).1
 by_cases a : (2 : Int) < (m.length : Int)
 ·have a' : 2 < m.length := by omega
  have e : validE m = 4 := by simp only [validE, a', decide_true, Bool.true_or, cond_true]
  simp only [c28, go_sem, ↓reduceIte, Nat.reduceLT, Nat.reduceEqDiff, a]
  rw [e]
  exact .tree _ rfl
 have a' : ¬ 2 < m.length := by omega
 simp only [c28, go_sem, ↓reduceIte, Nat.reduceLT, Nat.reduceEqDiff, a]
 refine callT (ContainsFunc58_s 53 [] rfl longP m hl.1 hlong) rfl ?_
 cases hlg : m.any longP with
 | true =>
  have e : validE m = 4 := by simp only [validE, hlg, Bool.or_true, cond_true]
  simp only [go_sem, ↓reduceIte, Nat.reduceLT, Nat.reduceEqDiff]
  rw [e]
  exact .tree _ rfl
 | false =>
  by_cases z : (m.length : Int) = 0
  ·have z' : m.length = 0 := by omega
   have e : validE m = 1 := by simp only [validE, hlg, z', decide_true, Bool.true_or, cond_true] <;> rfl
   simp only [go_sem, ↓reduceIte, Nat.reduceLT, Nat.reduceEqDiff, z]
   rw [e]
   exact .tree _ rfl
  have z' : ¬ m.length = 0 := by omega
  obtain ⟨h0, hh⟩ : ∃ h0, m[0]? = some h0 := ⟨_, List.getElem?_eq_getElem (by omega)⟩
  have hd : m.headD [] = h0 := by cases m with | nil => cases hh | cons x l => simpa using hh
  simp only [go_sem, ↓reduceIte, Nat.reduceLT, Nat.reduceEqDiff, z]
  refine callF (ContainsFunc58_s 56 [.ptr [vhands m]] rfl (wrongP h0.length) m hl.1 fun h hm => wrong2_s m h0 h hh (hl.2 h hm).1 fun b hb => ⟨(hl.2 h hm).2 b hb, ho h hm b hb⟩)
   (.cons (.tree _ rfl) (.cons (snap_clo1 (snap_box (by simp only [go_sem, ↓reduceIte]) rfl)) .nil)) rfl ?_
  cases hw : m.any (wrongP h0.length) with
  | true =>
   have e : validE m = 1 := by simp only [validE, a', z', hlg, hd, hw, decide_false, Bool.or_false, Bool.false_or, cond_false, cond_true]
   simp only [go_sem, ↓reduceIte, Nat.reduceLT, Nat.reduceEqDiff]
   rw [e]
   exact .tree _ rfl
  | false =>
   have e : validE m = 0 := by simp only [validE, a', z', hlg, hd, hw, decide_false, Bool.or_false, cond_false]
   simp only [go_sem, ↓reduceIte, Nat.reduceLT, Nat.reduceEqDiff]
   rw [e]
   exact .tree _ rfl
end Go.Proofs.YtnncijjkbonokaaDoor
namespace Go.Proofs.YtnncijjkbonokaaDoor
open Go.RowKit Dak
def distP (a b : Int) : Int := if a - b < b - a then b - a else a - b
def needP (s l : Int) : Bool := decide (l < 0 \/ 5 <= distP s l \/ (3 <= distP s l /\ s.tdiv 7 ≠ l.tdiv 7))
def small (n : Int) : Prop := -1000 <= n /\ n <= 1000
theorem quo7 {n : Int} (h : small n) : IntKind.i64.wrap (n.tdiv 7) = n.tdiv 7 := by
 obtain ⟨h1, h2⟩ := h
 have : -1000 <= n.tdiv 7 /\ n.tdiv 7 <= 1000 := by
  rcases Int.le_total 0 n with h | h
  ·rw [Int.tdiv_eq_ediv_of_nonneg h]; omega
  ·have e : n.tdiv 7 = -((-n).tdiv 7) := by rw [Int.neg_tdiv]; omega
   rw [e, Int.tdiv_eq_ediv_of_nonneg (by omega)]; omega
 exact wrap_id (by omega) (by omega)
theorem needs_s (s l : Int) (hs : small s) (hl : small l) : Ctr Tryd.prog 59 [vi s, vi l] (vb (needP s l)) := by
 refine specE f59 (by simp) fun F0 w0 => ?_
 have h1 := hs.1; have h2 := hs.2; have h3 := hl.1; have h4 := hl.2
 have w1 : IntKind.i64.wrap (s - l) = s - l := wrap_id (by omega) (by omega)
 have w2 : IntKind.i64.wrap (l - s) = l - s := wrap_id (by omega) (by omega)
 obtain ⟨d, hd⟩ : ∃ d, (if s - l < l - s then l - s else s - l) = d := ⟨_, rfl⟩
 have hd' : distP s l = d := hd
 by_cases a : l < 0
 ·simp only [c59, go_sem, ↓reduceIte, reduceCtorEq, Nat.reduceLT, Nat.reduceEqDiff, w1, w2, hd, a]
  rw [show needP s l = true by simp only [needP, a, true_or, decide_true]]
  exact .tree _ rfl
 by_cases b : 5 <= d
 ·simp only [c59, go_sem, ↓reduceIte, reduceCtorEq, Nat.reduceLT, Nat.reduceEqDiff, w1, w2, hd, a, b]
  rw [show needP s l = true by simp only [needP, hd', b, true_or, or_true, decide_true]]
  exact .tree _ rfl
 by_cases c : 3 <= d
 ·by_cases e : s.tdiv 7 = l.tdiv 7
  ·simp only [c59, go_sem, ↓reduceIte, reduceCtorEq, Nat.reduceLT, Nat.reduceEqDiff, Int.reduceEq, w1, w2, hd, a, b, c, quo7 hl, e]
   rw [show needP s l = false by simp only [needP, hd', a, b, e, ne_eq, not_true_eq_false, and_false, or_false, decide_false]]
   exact .tree _ rfl
  ·simp only [c59, go_sem, ↓reduceIte, reduceCtorEq, Nat.reduceLT, Nat.reduceEqDiff, Int.reduceEq, w1, w2, hd, a, b, c, quo7 hs, quo7 hl, e]
   rw [show needP s l = true by simp only [needP, hd', c, e, ne_eq, not_false_eq_true, and_self, or_true, decide_true]]
   exact .tree _ rfl
 ·simp only [c59, go_sem, ↓reduceIte, reduceCtorEq, Nat.reduceLT, Nat.reduceEqDiff, w1, w2, hd, a, b, c]
  rw [show needP s l = false by simp only [needP, hd', a, b, c, false_and, or_false, decide_false]]
  exact .tree _ rfl
def markP (s l : Int) : Bool := decide (0 <= s) && needP s l
theorem marked_s (s l : Int) (hs : small s) (hl : small l) : Ctr Tryd.prog 60 [vi s, vi l] (vb (markP s l)) := by
 refine specE f60 (by simp) fun F0 w0 => ?_
 have h1 := hs.1; have h2 := hs.2; have h3 := hl.1; have h4 := hl.2
 have w1 : IntKind.i64.wrap (s - l) = s - l := wrap_id (by omega) (by omega)
 have w2 : IntKind.i64.wrap (l - s) = l - s := wrap_id (by omega) (by omega)
 obtain ⟨d, hd⟩ : ∃ d, (if s - l < l - s then l - s else s - l) = d := ⟨_, rfl⟩
 have hd' : distP s l = d := hd
 by_cases z : s < 0
 ·simp only [c60, go_sem, ↓reduceIte, reduceCtorEq, Nat.reduceLT, z]
  rw [show markP s l = false by simp only [markP, show ¬ 0 <= s from by omega, decide_false, Bool.false_and]]
  exact .tree _ rfl
 have z' : 0 <= s := by omega
 have mk : markP s l = needP s l := by simp only [markP, z', decide_true, Bool.true_and]
 by_cases a : l < 0
 ·simp only [c60, go_sem, ↓reduceIte, reduceCtorEq, Nat.reduceLT, Nat.reduceEqDiff, z, a]
  rw [mk, show needP s l = true by simp only [needP, a, true_or, decide_true]]
  exact .tree _ rfl
 by_cases b : 5 <= d
 ·simp only [c60, go_sem, ↓reduceIte, reduceCtorEq, Nat.reduceLT, Nat.reduceEqDiff, w1, w2, hd, z, a, b]
  rw [mk, show needP s l = true by simp only [needP, hd', b, true_or, or_true, decide_true]]
  exact .tree _ rfl
 by_cases c : 3 <= d
 ·by_cases e : s.tdiv 7 = l.tdiv 7
  ·simp only [c60, go_sem, ↓reduceIte, reduceCtorEq, Nat.reduceLT, Nat.reduceEqDiff, Int.reduceEq, w1, w2, hd, z, a, b, c, quo7 hl, e]
   rw [mk, show needP s l = false by simp only [needP, hd', a, b, e, ne_eq, not_true_eq_false, and_false, or_false, decide_false]]
   exact .tree _ rfl
  ·simp only [c60, go_sem, ↓reduceIte, reduceCtorEq, Nat.reduceLT, Nat.reduceEqDiff, Int.reduceEq, w1, w2, hd, z, a, b, c, quo7 hs, quo7 hl, e]
   rw [mk, show needP s l = true by simp only [needP, hd', c, e, ne_eq, not_false_eq_true, and_self, or_true, decide_true]]
   exact .tree _ rfl
 ·simp only [c60, go_sem, ↓reduceIte, reduceCtorEq, Nat.reduceLT, Nat.reduceEqDiff, w1, w2, hd, z, a, b, c]
  rw [mk, show needP s l = false by simp only [needP, hd', a, b, c, false_and, or_false, decide_false]]
  exact .tree _ rfl
end Go.Proofs.YtnncijjkbonokaaDoor
namespace Go.Proofs.YtnncijjkbonokaaDoor
open Go.RowKit Dak
def octs : List Int := [8, 24, 56, 16, 40, 48, 32]
def names : List Int := [25, 17, 11, 27, 19, 10, 26, 9]
def lens : List Int := [36, 4, 32, 0, 36]
def alterC (a : Int) : List Int := if a = 1 then [33] else if a = -1 then [34] else []
def octC (s : Int) (mark : Bool) : List Int := if mark = true then [octs.getD (s.tdiv 7).toNat 0] else []
def smallC (l : Int) : List Int := if l = 4 then [3] else []
def nameC (s l : Int) : Int := (if 0 <= s then names.getD (s.tmod 7).toNat 0 else 9) + lens.getD l.toNat 0
def noteC (n : Nt) (mark : Bool) : List Int := alterC n.a ++ (octC n.s mark ++ (smallC n.l ++ [nameC n.s n.l]))
def stepP (n : Nt) (l : Int) : Int := if 0 <= n.s then n.s else l
def cellsP : List Nt -> Int -> List Int
 | [], _ => []
 | n :: r, l => noteC n (markP n.s l) ++ cellsP r (stepP n l)
def lastP : List Nt -> Int -> Int
 | [], l => l
 | n :: r, l => lastP r (stepP n l)
theorem gAV0 : gAV 0 = .ptr [vu 8, vu 24, vu 56, vu 16, vu 40, vu 48, vu 32] := rfl
theorem gAV1 : gAV 1 = .ptr [vu 25, vu 17, vu 11, vu 27, vu 19, vu 10, vu 26, vu 9] := rfl
theorem gAV2 : gAV 2 = .ptr [vu 36, vu 4, vu 32, vu 0, vu 36] := rfl
theorem take_snoc {X : List AV} {L : Nat} {a : AV} (h : X.length = L) : List.take (L + 1) (X ++ [a]) = X ++ [a] := List.take_of_length_le (by simp [h])
theorem oct_at {q : Nat} (h : q <= 6) : (List.drop q [vu 8, vu 24, vu 56, vu 16, vu 40, vu 48, vu 32])[0]? = some (vu (octs.getD q 0)) := by
 match q, h with
 | 0, _ | 1, _ | 2, _ | 3, _ | 4, _ | 5, _ | 6, _ => rfl
theorem name_at {q : Nat} (h : q <= 7) : (List.drop q [vu 25, vu 17, vu 11, vu 27, vu 19, vu 10, vu 26, vu 9])[0]? = some (vu (names.getD q 0)) := by
 match q, h with
 | 0, _ | 1, _ | 2, _ | 3, _ | 4, _ | 5, _ | 6, _ | 7, _ => rfl
theorem len_at {q : Nat} (h : q <= 4) : (List.drop q [vu 36, vu 4, vu 32, vu 0, vu 36])[0]? = some (vu (lens.getD q 0)) := by
 match q, h with
 | 0, _ | 1, _ | 2, _ | 3, _ | 4, _ => rfl
theorem sum_ok {p q : Nat} (hp : p <= 7) (hq : q <= 4) : IntKind.u8.wrap (names.getD p 0 + lens.getD q 0) = names.getD p 0 + lens.getD q 0 := by
 match p, hp, q, hq with
 | 0, _, 0, _ | 0, _, 1, _ | 0, _, 2, _ | 0, _, 3, _ | 0, _, 4, _ | 1, _, 0, _ | 1, _, 1, _ | 1, _, 2, _ | 1, _, 3, _ | 1, _, 4, _ | 2, _, 0, _ | 2, _, 1, _ | 2, _, 2, _ | 2, _, 3, _ | 2, _, 4, _ | 3, _, 0, _ | 3, _, 1, _ | 3, _, 2, _ | 3, _, 3, _ | 3, _, 4, _
 | 4, _, 0, _ | 4, _, 1, _ | 4, _, 2, _ | 4, _, 3, _ | 4, _, 4, _ | 5, _, 0, _ | 5, _, 1, _ | 5, _, 2, _ | 5, _, 3, _ | 5, _, 4, _ | 6, _, 0, _ | 6, _, 1, _ | 6, _, 2, _ | 6, _, 3, _ | 6, _, 4, _ | 7, _, 0, _ | 7, _, 1, _ | 7, _, 2, _ | 7, _, 3, _ | 7, _, 4, _ => decide
abbrev putS (G : AObj) (l : List Nt) (gg L : Nat) (X : List AV) (last : Int) (k : Nat) : Est :=
 ⟨[(0, .own 0 gg 0 L), (2, vi last), (11, vbar l), (12, vi l.length), (13, vi k)], [.arr gg 1 5 X, G]⟩
def putB : CCode := match c36 with | .seq _ (.seq (.seq _ (.block _ (.loop (.seq _ (.seq _ b))))) _) => b | _ => .skip
theorem rightP_iff {n : Nt} (h : rightP n = true) : -1 <= n.s /\ n.s <= 48 /\ 0 <= n.l /\ n.l <= 4 /\ -1 <= n.a /\ n.a <= 1 /\ (0 <= n.s \/ n.a = 0) := by simpa only [rightP, decide_eq_true_eq] using h
theorem put_round_am4 (F0 : FD) (w0 : World) (G : AObj) (hG : ∀ m, 1 <= m -> G.innO m = true) (l : List Nt) (gg L : Nat) (X : List AV) (hXi : (X.all (AV.inn 2)) = true) (last : Int) (k : Nat) (hk : k < l.length) (hlen : l.length <= 1000000) (hX : X.length = L) (hL : L + 4 <= 1000000) (n : Nt) (hn : l[k]? = some n) (hr : rightP n = true) (hl : small last)
 {Q : Exit -> Est -> Prop} (hQ : ∀ s, WkE 69 s (putS G l (gg + (noteC n (markP n.s last)).length) (L + (noteC n (markP n.s last)).length) (X ++ (noteC n (markP n.s last)).map vu) (stepP n last) (k + 1)) -> Q .normal s) (h1 : n.a = 1) (h2 : 0 <= n.s) (hne : needP n.s last = true) (h4 : n.l = 4) : vcE Tryd.prog F0 w0 69 putB Q (putS G l gg L X last k) := by
 have g1 : (k : Int) < (l.length : Int) := by omega
 have g0 : (0 : Int) <= (k : Int) := by omega
 have w1 : IntKind.i64.wrap ((k : Int) + 1) = ((k + 1 : Nat) : Int) := by rw [wrap_id (by omega) (by omega)]; omega
 have hT0 : List.take L X = X := List.take_of_length_le (by omega)
 have b1 : L + 1 <= 140737488355328 := by omega
 have b2 : L + 1 + 1 <= 140737488355328 := by omega
 have b3 : L + 1 + 1 + 1 <= 140737488355328 := by omega
 have b4 : L + 1 + 1 + 1 + 1 <= 140737488355328 := by omega
 have k8 : ((8 : Nat) : Int) = 8 := rfl
 have k7 : ((7 : Nat) : Int) = 7 := rfl
 have k5 : ((5 : Nat) : Int) = 5 := rfl
 obtain ⟨r1, r2, r3, r4, r5, r6, r7⟩ := rightP_iff hr
 have l5 : n.l < 5 := by omega
 have la := len_at (q := n.l.toNat) (by omega)
 have s9 := sum_ok (p := 7) (q := n.l.toNat) (by omega) (by omega)
 rw [show names.getD 7 0 = 9 from rfl] at s9
 rw [h4] at la s9
 simp only [Int.reduceToNat] at la s9
 rw [show lens.getD 4 0 = 36 from rfl] at s9
 have s45 : IntKind.u8.wrap 45 = 45 := by decide
 have r3' : (0 : Int) <= 4 := by decide
 have l5' : (4 : Int) < 5 := by decide
 have hm : markP n.s last = true := by simp only [markP, h2, decide_true, Bool.true_and, hne]
 have hsm : small n.s := ⟨by omega, by omega⟩
 have q7 := quo7 hsm
 have d1 : n.s.tdiv 7 = n.s / 7 := Int.tdiv_eq_ediv_of_nonneg h2
 have d2 : n.s.tmod 7 = n.s % 7 := Int.tmod_eq_emod_of_nonneg h2
 have q0 : 0 <= n.s.tdiv 7 := by omega
 have q1 : n.s.tdiv 7 < 7 := by omega
 have m0 : 0 <= n.s.tmod 7 := by omega
 have m1 : n.s.tmod 7 < 8 := by omega
 have oa := oct_at (q := (n.s.tdiv 7).toNat) (by omega)
 have na := name_at (q := (n.s.tmod 7).toNat) (by omega)
 have sa := sum_ok (p := (n.s.tmod 7).toNat) (q := 4) (by omega) (by omega)
 rw [show lens.getD 4 0 = 36 from rfl] at sa
 have hE : putS G l (gg + (noteC n (markP n.s last)).length) (L + (noteC n (markP n.s last)).length) (X ++ (noteC n (markP n.s last)).map vu) (stepP n last) (k + 1) = ⟨[(0, .own 0 (gg + 1 + 1 + 1 + 1) 0 (L + 1 + 1 + 1 + 1)), (2, vi n.s), (11, vbar l), (12, vi l.length), (13, vi (k + 1 : Nat))], [.arr (gg + 1 + 1 + 1 + 1) 1 5 (X ++ [vu (33)] ++ [vu (octs.getD (n.s.tdiv 7).toNat 0)] ++ [vu (3)] ++ [vu (names.getD (n.s.tmod 7).toNat 0 + 36)]), G]⟩ := by
  rw [hm]
  simp [putS, noteC, alterC, octC, smallC, nameC, stepP, h1, h2, h4, lens]
 simp only [putS, putB, c36, go_sem, Nat.reducePow, Nat.reduceLeDiff, ↓reduceIte, reduceCtorEq, Nat.reduceLT, Nat.reduceEqDiff, Nat.reduceAdd, Int.reduceEq, Int.reduceNeg, g0, List.getElem?_map, hn, Option.map_some, h1, h2, h4, hT0, hX, Nat.mul_one, Nat.zero_add, b1, List.drop_zero]
 refine callT (needs_s n.s last hsm hl) rfl ?_
 simp only [go_sem, Nat.reducePow, Nat.reduceLeDiff, ↓reduceIte, reduceCtorEq, Nat.reduceLT, Nat.reduceEqDiff, Nat.reduceAdd, Int.reduceToNat, Int.reduceEq, Int.reduceToNat, w1, Option.map_some, hX, Nat.mul_one, Nat.zero_add, b2, b3, b4, take_snoc, List.length_append, gAV0, gAV1, gAV2, List.drop_zero, Int.reduceToNat, k8, k7, k5, r3', l5', q7, q0, q1, m0, m1, oa, na, sa, hne]
 refine hQ _ ?_
 rw [hE]
 exact WkE.round ⟨rfl, rfl, rfl, rfl, rfl, trivial⟩ (by simp [AV.inn, AV.inn1]) (by rw [List.all_cons, List.all_cons, List.all_nil, hG _ (by simp)]; simp only [AObj.innO, List.all_append, List.all_cons, List.all_nil, hXi, List.length_cons, List.length_nil, AV.inn, AV.inn1, Nat.zero_add, Nat.reduceAdd, Bool.and_self]) (by simp)
theorem put_round_amo (F0 : FD) (w0 : World) (G : AObj) (hG : ∀ m, 1 <= m -> G.innO m = true) (l : List Nt) (gg L : Nat) (X : List AV) (hXi : (X.all (AV.inn 2)) = true) (last : Int) (k : Nat) (hk : k < l.length) (hlen : l.length <= 1000000) (hX : X.length = L) (hL : L + 4 <= 1000000) (n : Nt) (hn : l[k]? = some n) (hr : rightP n = true) (hl : small last)
 {Q : Exit -> Est -> Prop} (hQ : ∀ s, WkE 69 s (putS G l (gg + (noteC n (markP n.s last)).length) (L + (noteC n (markP n.s last)).length) (X ++ (noteC n (markP n.s last)).map vu) (stepP n last) (k + 1)) -> Q .normal s) (h1 : n.a = 1) (h2 : 0 <= n.s) (hne : needP n.s last = true) (h4 : ¬ n.l = 4) : vcE Tryd.prog F0 w0 69 putB Q (putS G l gg L X last k) := by
 have g1 : (k : Int) < (l.length : Int) := by omega
 have g0 : (0 : Int) <= (k : Int) := by omega
 have w1 : IntKind.i64.wrap ((k : Int) + 1) = ((k + 1 : Nat) : Int) := by rw [wrap_id (by omega) (by omega)]; omega
 have hT0 : List.take L X = X := List.take_of_length_le (by omega)
 have b1 : L + 1 <= 140737488355328 := by omega
 have b2 : L + 1 + 1 <= 140737488355328 := by omega
 have b3 : L + 1 + 1 + 1 <= 140737488355328 := by omega
 have b4 : L + 1 + 1 + 1 + 1 <= 140737488355328 := by omega
 have k8 : ((8 : Nat) : Int) = 8 := rfl
 have k7 : ((7 : Nat) : Int) = 7 := rfl
 have k5 : ((5 : Nat) : Int) = 5 := rfl
 obtain ⟨r1, r2, r3, r4, r5, r6, r7⟩ := rightP_iff hr
 have l5 : n.l < 5 := by omega
 have la := len_at (q := n.l.toNat) (by omega)
 have s9 := sum_ok (p := 7) (q := n.l.toNat) (by omega) (by omega)
 rw [show names.getD 7 0 = 9 from rfl] at s9
 have hm : markP n.s last = true := by simp only [markP, h2, decide_true, Bool.true_and, hne]
 have hsm : small n.s := ⟨by omega, by omega⟩
 have q7 := quo7 hsm
 have d1 : n.s.tdiv 7 = n.s / 7 := Int.tdiv_eq_ediv_of_nonneg h2
 have d2 : n.s.tmod 7 = n.s % 7 := Int.tmod_eq_emod_of_nonneg h2
 have q0 : 0 <= n.s.tdiv 7 := by omega
 have q1 : n.s.tdiv 7 < 7 := by omega
 have m0 : 0 <= n.s.tmod 7 := by omega
 have m1 : n.s.tmod 7 < 8 := by omega
 have oa := oct_at (q := (n.s.tdiv 7).toNat) (by omega)
 have na := name_at (q := (n.s.tmod 7).toNat) (by omega)
 have sa := sum_ok (p := (n.s.tmod 7).toNat) (q := n.l.toNat) (by omega) (by omega)
 have hE : putS G l (gg + (noteC n (markP n.s last)).length) (L + (noteC n (markP n.s last)).length) (X ++ (noteC n (markP n.s last)).map vu) (stepP n last) (k + 1) = ⟨[(0, .own 0 (gg + 1 + 1 + 1) 0 (L + 1 + 1 + 1)), (2, vi n.s), (11, vbar l), (12, vi l.length), (13, vi (k + 1 : Nat))], [.arr (gg + 1 + 1 + 1) 1 5 (X ++ [vu (33)] ++ [vu (octs.getD (n.s.tdiv 7).toNat 0)] ++ [vu (names.getD (n.s.tmod 7).toNat 0 + lens.getD n.l.toNat 0)]), G]⟩ := by
  rw [hm]
  simp [putS, noteC, alterC, octC, smallC, nameC, stepP, h1, h2, h4]
 simp only [putS, putB, c36, go_sem, Nat.reducePow, Nat.reduceLeDiff, ↓reduceIte, reduceCtorEq, Nat.reduceLT, Nat.reduceEqDiff, Nat.reduceAdd, Int.reduceEq, Int.reduceNeg, g0, List.getElem?_map, hn, Option.map_some, h1, h2, hT0, hX, Nat.mul_one, Nat.zero_add, b1, List.drop_zero]
 refine callT (needs_s n.s last hsm hl) rfl ?_
 simp only [go_sem, Nat.reducePow, Nat.reduceLeDiff, ↓reduceIte, reduceCtorEq, Nat.reduceLT, Nat.reduceEqDiff, Nat.reduceAdd, Int.reduceEq, w1, Option.map_some, h4, hX, Nat.mul_one, Nat.zero_add, b2, b3, take_snoc, List.length_append, gAV0, gAV1, gAV2, List.drop_zero, k8, k7, k5, r3, l5, la, q7, q0, q1, m0, m1, oa, na, sa, hne]
 refine hQ _ ?_
 rw [hE]
 exact WkE.round ⟨rfl, rfl, rfl, rfl, rfl, trivial⟩ (by simp [AV.inn, AV.inn1]) (by rw [List.all_cons, List.all_cons, List.all_nil, hG _ (by simp)]; simp only [AObj.innO, List.all_append, List.all_cons, List.all_nil, hXi, List.length_cons, List.length_nil, AV.inn, AV.inn1, Nat.zero_add, Nat.reduceAdd, Bool.and_self]) (by simp)
theorem put_round_an4 (F0 : FD) (w0 : World) (G : AObj) (hG : ∀ m, 1 <= m -> G.innO m = true) (l : List Nt) (gg L : Nat) (X : List AV) (hXi : (X.all (AV.inn 2)) = true) (last : Int) (k : Nat) (hk : k < l.length) (hlen : l.length <= 1000000) (hX : X.length = L) (hL : L + 4 <= 1000000) (n : Nt) (hn : l[k]? = some n) (hr : rightP n = true) (hl : small last)
 {Q : Exit -> Est -> Prop} (hQ : ∀ s, WkE 69 s (putS G l (gg + (noteC n (markP n.s last)).length) (L + (noteC n (markP n.s last)).length) (X ++ (noteC n (markP n.s last)).map vu) (stepP n last) (k + 1)) -> Q .normal s) (h1 : n.a = 1) (h2 : 0 <= n.s) (hne : needP n.s last = false) (h4 : n.l = 4) : vcE Tryd.prog F0 w0 69 putB Q (putS G l gg L X last k) := by
 have g1 : (k : Int) < (l.length : Int) := by omega
 have g0 : (0 : Int) <= (k : Int) := by omega
 have w1 : IntKind.i64.wrap ((k : Int) + 1) = ((k + 1 : Nat) : Int) := by rw [wrap_id (by omega) (by omega)]; omega
 have hT0 : List.take L X = X := List.take_of_length_le (by omega)
 have b1 : L + 1 <= 140737488355328 := by omega
 have b2 : L + 1 + 1 <= 140737488355328 := by omega
 have b3 : L + 1 + 1 + 1 <= 140737488355328 := by omega
 have b4 : L + 1 + 1 + 1 + 1 <= 140737488355328 := by omega
 have k8 : ((8 : Nat) : Int) = 8 := rfl
 have k7 : ((7 : Nat) : Int) = 7 := rfl
 have k5 : ((5 : Nat) : Int) = 5 := rfl
 obtain ⟨r1, r2, r3, r4, r5, r6, r7⟩ := rightP_iff hr
 have l5 : n.l < 5 := by omega
 have la := len_at (q := n.l.toNat) (by omega)
 have s9 := sum_ok (p := 7) (q := n.l.toNat) (by omega) (by omega)
 rw [show names.getD 7 0 = 9 from rfl] at s9
 rw [h4] at la s9
 simp only [Int.reduceToNat] at la s9
 rw [show lens.getD 4 0 = 36 from rfl] at s9
 have s45 : IntKind.u8.wrap 45 = 45 := by decide
 have r3' : (0 : Int) <= 4 := by decide
 have l5' : (4 : Int) < 5 := by decide
 have hm : markP n.s last = false := by simp only [markP, h2, decide_true, Bool.true_and, hne]
 have hsm : small n.s := ⟨by omega, by omega⟩
 have q7 := quo7 hsm
 have d1 : n.s.tdiv 7 = n.s / 7 := Int.tdiv_eq_ediv_of_nonneg h2
 have d2 : n.s.tmod 7 = n.s % 7 := Int.tmod_eq_emod_of_nonneg h2
 have q0 : 0 <= n.s.tdiv 7 := by omega
 have q1 : n.s.tdiv 7 < 7 := by omega
 have m0 : 0 <= n.s.tmod 7 := by omega
 have m1 : n.s.tmod 7 < 8 := by omega
 have oa := oct_at (q := (n.s.tdiv 7).toNat) (by omega)
 have na := name_at (q := (n.s.tmod 7).toNat) (by omega)
 have sa := sum_ok (p := (n.s.tmod 7).toNat) (q := 4) (by omega) (by omega)
 rw [show lens.getD 4 0 = 36 from rfl] at sa
 have hE : putS G l (gg + (noteC n (markP n.s last)).length) (L + (noteC n (markP n.s last)).length) (X ++ (noteC n (markP n.s last)).map vu) (stepP n last) (k + 1) = ⟨[(0, .own 0 (gg + 1 + 1 + 1) 0 (L + 1 + 1 + 1)), (2, vi n.s), (11, vbar l), (12, vi l.length), (13, vi (k + 1 : Nat))], [.arr (gg + 1 + 1 + 1) 1 5 (X ++ [vu (33)] ++ [vu (3)] ++ [vu (names.getD (n.s.tmod 7).toNat 0 + 36)]), G]⟩ := by
  rw [hm]
  simp [putS, noteC, alterC, octC, smallC, nameC, stepP, h1, h2, h4, lens]
 simp only [putS, putB, c36, go_sem, Nat.reducePow, Nat.reduceLeDiff, ↓reduceIte, reduceCtorEq, Nat.reduceLT, Nat.reduceEqDiff, Nat.reduceAdd, Int.reduceEq, Int.reduceNeg, g0, List.getElem?_map, hn, Option.map_some, h1, h2, h4, hT0, hX, Nat.mul_one, Nat.zero_add, b1, List.drop_zero]
 refine callT (needs_s n.s last hsm hl) rfl ?_
 simp only [go_sem, Nat.reducePow, Nat.reduceLeDiff, ↓reduceIte, reduceCtorEq, Nat.reduceLT, Nat.reduceEqDiff, Nat.reduceAdd, Int.reduceToNat, Int.reduceToNat, w1, Option.map_some, hX, Nat.mul_one, Nat.zero_add, b2, b3, take_snoc, List.length_append, gAV1, gAV2, List.drop_zero, Int.reduceToNat, k8, k5, r3', l5', m0, m1, na, sa, hne]
 refine hQ _ ?_
 rw [hE]
 exact WkE.round ⟨rfl, rfl, rfl, rfl, rfl, trivial⟩ (by simp [AV.inn, AV.inn1]) (by rw [List.all_cons, List.all_cons, List.all_nil, hG _ (by simp)]; simp only [AObj.innO, List.all_append, List.all_cons, List.all_nil, hXi, List.length_cons, List.length_nil, AV.inn, AV.inn1, Nat.zero_add, Nat.reduceAdd, Bool.and_self]) (by simp)
theorem put_round_ano (F0 : FD) (w0 : World) (G : AObj) (hG : ∀ m, 1 <= m -> G.innO m = true) (l : List Nt) (gg L : Nat) (X : List AV) (hXi : (X.all (AV.inn 2)) = true) (last : Int) (k : Nat) (hk : k < l.length) (hlen : l.length <= 1000000) (hX : X.length = L) (hL : L + 4 <= 1000000) (n : Nt) (hn : l[k]? = some n) (hr : rightP n = true) (hl : small last)
 {Q : Exit -> Est -> Prop} (hQ : ∀ s, WkE 69 s (putS G l (gg + (noteC n (markP n.s last)).length) (L + (noteC n (markP n.s last)).length) (X ++ (noteC n (markP n.s last)).map vu) (stepP n last) (k + 1)) -> Q .normal s) (h1 : n.a = 1) (h2 : 0 <= n.s) (hne : needP n.s last = false) (h4 : ¬ n.l = 4) : vcE Tryd.prog F0 w0 69 putB Q (putS G l gg L X last k) := by
 have g1 : (k : Int) < (l.length : Int) := by omega
 have g0 : (0 : Int) <= (k : Int) := by omega
 have w1 : IntKind.i64.wrap ((k : Int) + 1) = ((k + 1 : Nat) : Int) := by rw [wrap_id (by omega) (by omega)]; omega
 have hT0 : List.take L X = X := List.take_of_length_le (by omega)
 have b1 : L + 1 <= 140737488355328 := by omega
 have b2 : L + 1 + 1 <= 140737488355328 := by omega
 have b3 : L + 1 + 1 + 1 <= 140737488355328 := by omega
 have b4 : L + 1 + 1 + 1 + 1 <= 140737488355328 := by omega
 have k8 : ((8 : Nat) : Int) = 8 := rfl
 have k7 : ((7 : Nat) : Int) = 7 := rfl
 have k5 : ((5 : Nat) : Int) = 5 := rfl
 obtain ⟨r1, r2, r3, r4, r5, r6, r7⟩ := rightP_iff hr
 have l5 : n.l < 5 := by omega
 have la := len_at (q := n.l.toNat) (by omega)
 have s9 := sum_ok (p := 7) (q := n.l.toNat) (by omega) (by omega)
 rw [show names.getD 7 0 = 9 from rfl] at s9
 have hm : markP n.s last = false := by simp only [markP, h2, decide_true, Bool.true_and, hne]
 have hsm : small n.s := ⟨by omega, by omega⟩
 have q7 := quo7 hsm
 have d1 : n.s.tdiv 7 = n.s / 7 := Int.tdiv_eq_ediv_of_nonneg h2
 have d2 : n.s.tmod 7 = n.s % 7 := Int.tmod_eq_emod_of_nonneg h2
 have q0 : 0 <= n.s.tdiv 7 := by omega
 have q1 : n.s.tdiv 7 < 7 := by omega
 have m0 : 0 <= n.s.tmod 7 := by omega
 have m1 : n.s.tmod 7 < 8 := by omega
 have oa := oct_at (q := (n.s.tdiv 7).toNat) (by omega)
 have na := name_at (q := (n.s.tmod 7).toNat) (by omega)
 have sa := sum_ok (p := (n.s.tmod 7).toNat) (q := n.l.toNat) (by omega) (by omega)
 have hE : putS G l (gg + (noteC n (markP n.s last)).length) (L + (noteC n (markP n.s last)).length) (X ++ (noteC n (markP n.s last)).map vu) (stepP n last) (k + 1) = ⟨[(0, .own 0 (gg + 1 + 1) 0 (L + 1 + 1)), (2, vi n.s), (11, vbar l), (12, vi l.length), (13, vi (k + 1 : Nat))], [.arr (gg + 1 + 1) 1 5 (X ++ [vu (33)] ++ [vu (names.getD (n.s.tmod 7).toNat 0 + lens.getD n.l.toNat 0)]), G]⟩ := by
  rw [hm]
  simp [putS, noteC, alterC, octC, smallC, nameC, stepP, h1, h2, h4]
 simp only [putS, putB, c36, go_sem, Nat.reducePow, Nat.reduceLeDiff, ↓reduceIte, reduceCtorEq, Nat.reduceLT, Nat.reduceEqDiff, Nat.reduceAdd, Int.reduceEq, Int.reduceNeg, g0, List.getElem?_map, hn, Option.map_some, h1, h2, hT0, hX, Nat.mul_one, Nat.zero_add, b1, List.drop_zero]
 refine callT (needs_s n.s last hsm hl) rfl ?_
 simp only [go_sem, Nat.reducePow, Nat.reduceLeDiff, ↓reduceIte, reduceCtorEq, Nat.reduceLT, Nat.reduceEqDiff, Nat.reduceAdd, w1, Option.map_some, h4, hX, Nat.mul_one, Nat.zero_add, b2, take_snoc, List.length_append, gAV1, gAV2, List.drop_zero, k8, k5, r3, l5, la, m0, m1, na, sa, hne]
 refine hQ _ ?_
 rw [hE]
 exact WkE.round ⟨rfl, rfl, rfl, rfl, rfl, trivial⟩ (by simp [AV.inn, AV.inn1]) (by rw [List.all_cons, List.all_cons, List.all_nil, hG _ (by simp)]; simp only [AObj.innO, List.all_append, List.all_cons, List.all_nil, hXi, List.length_cons, List.length_nil, AV.inn, AV.inn1, Nat.zero_add, Nat.reduceAdd, Bool.and_self]) (by simp)
theorem put_round_bm4 (F0 : FD) (w0 : World) (G : AObj) (hG : ∀ m, 1 <= m -> G.innO m = true) (l : List Nt) (gg L : Nat) (X : List AV) (hXi : (X.all (AV.inn 2)) = true) (last : Int) (k : Nat) (hk : k < l.length) (hlen : l.length <= 1000000) (hX : X.length = L) (hL : L + 4 <= 1000000) (n : Nt) (hn : l[k]? = some n) (hr : rightP n = true) (hl : small last)
 {Q : Exit -> Est -> Prop} (hQ : ∀ s, WkE 69 s (putS G l (gg + (noteC n (markP n.s last)).length) (L + (noteC n (markP n.s last)).length) (X ++ (noteC n (markP n.s last)).map vu) (stepP n last) (k + 1)) -> Q .normal s) (h1 : n.a = -1) (h2 : 0 <= n.s) (hne : needP n.s last = true) (h4 : n.l = 4) : vcE Tryd.prog F0 w0 69 putB Q (putS G l gg L X last k) := by
 have g1 : (k : Int) < (l.length : Int) := by omega
 have g0 : (0 : Int) <= (k : Int) := by omega
 have w1 : IntKind.i64.wrap ((k : Int) + 1) = ((k + 1 : Nat) : Int) := by rw [wrap_id (by omega) (by omega)]; omega
 have hT0 : List.take L X = X := List.take_of_length_le (by omega)
 have b1 : L + 1 <= 140737488355328 := by omega
 have b2 : L + 1 + 1 <= 140737488355328 := by omega
 have b3 : L + 1 + 1 + 1 <= 140737488355328 := by omega
 have b4 : L + 1 + 1 + 1 + 1 <= 140737488355328 := by omega
 have k8 : ((8 : Nat) : Int) = 8 := rfl
 have k7 : ((7 : Nat) : Int) = 7 := rfl
 have k5 : ((5 : Nat) : Int) = 5 := rfl
 obtain ⟨r1, r2, r3, r4, r5, r6, r7⟩ := rightP_iff hr
 have l5 : n.l < 5 := by omega
 have la := len_at (q := n.l.toNat) (by omega)
 have s9 := sum_ok (p := 7) (q := n.l.toNat) (by omega) (by omega)
 rw [show names.getD 7 0 = 9 from rfl] at s9
 rw [h4] at la s9
 simp only [Int.reduceToNat] at la s9
 rw [show lens.getD 4 0 = 36 from rfl] at s9
 have s45 : IntKind.u8.wrap 45 = 45 := by decide
 have r3' : (0 : Int) <= 4 := by decide
 have l5' : (4 : Int) < 5 := by decide
 have hm : markP n.s last = true := by simp only [markP, h2, decide_true, Bool.true_and, hne]
 have hsm : small n.s := ⟨by omega, by omega⟩
 have q7 := quo7 hsm
 have d1 : n.s.tdiv 7 = n.s / 7 := Int.tdiv_eq_ediv_of_nonneg h2
 have d2 : n.s.tmod 7 = n.s % 7 := Int.tmod_eq_emod_of_nonneg h2
 have q0 : 0 <= n.s.tdiv 7 := by omega
 have q1 : n.s.tdiv 7 < 7 := by omega
 have m0 : 0 <= n.s.tmod 7 := by omega
 have m1 : n.s.tmod 7 < 8 := by omega
 have oa := oct_at (q := (n.s.tdiv 7).toNat) (by omega)
 have na := name_at (q := (n.s.tmod 7).toNat) (by omega)
 have sa := sum_ok (p := (n.s.tmod 7).toNat) (q := 4) (by omega) (by omega)
 rw [show lens.getD 4 0 = 36 from rfl] at sa
 have hE : putS G l (gg + (noteC n (markP n.s last)).length) (L + (noteC n (markP n.s last)).length) (X ++ (noteC n (markP n.s last)).map vu) (stepP n last) (k + 1) = ⟨[(0, .own 0 (gg + 1 + 1 + 1 + 1) 0 (L + 1 + 1 + 1 + 1)), (2, vi n.s), (11, vbar l), (12, vi l.length), (13, vi (k + 1 : Nat))], [.arr (gg + 1 + 1 + 1 + 1) 1 5 (X ++ [vu (34)] ++ [vu (octs.getD (n.s.tdiv 7).toNat 0)] ++ [vu (3)] ++ [vu (names.getD (n.s.tmod 7).toNat 0 + 36)]), G]⟩ := by
  rw [hm]
  simp [putS, noteC, alterC, octC, smallC, nameC, stepP, h1, h2, h4, lens]
 simp only [putS, putB, c36, go_sem, Nat.reducePow, Nat.reduceLeDiff, ↓reduceIte, reduceCtorEq, Nat.reduceLT, Nat.reduceEqDiff, Nat.reduceAdd, Int.reduceEq, Int.reduceNeg, g0, List.getElem?_map, hn, Option.map_some, h1, h2, h4, hT0, hX, Nat.mul_one, Nat.zero_add, b1, List.drop_zero]
 refine callT (needs_s n.s last hsm hl) rfl ?_
 simp only [go_sem, Nat.reducePow, Nat.reduceLeDiff, ↓reduceIte, reduceCtorEq, Nat.reduceLT, Nat.reduceEqDiff, Nat.reduceAdd, Int.reduceToNat, Int.reduceEq, Int.reduceNeg, Int.reduceToNat, w1, Option.map_some, hX, Nat.mul_one, Nat.zero_add, b2, b3, b4, take_snoc, List.length_append, gAV0, gAV1, gAV2, List.drop_zero, Int.reduceToNat, k8, k7, k5, r3', l5', q7, q0, q1, m0, m1, oa, na, sa, hne]
 refine hQ _ ?_
 rw [hE]
 exact WkE.round ⟨rfl, rfl, rfl, rfl, rfl, trivial⟩ (by simp [AV.inn, AV.inn1]) (by rw [List.all_cons, List.all_cons, List.all_nil, hG _ (by simp)]; simp only [AObj.innO, List.all_append, List.all_cons, List.all_nil, hXi, List.length_cons, List.length_nil, AV.inn, AV.inn1, Nat.zero_add, Nat.reduceAdd, Bool.and_self]) (by simp)
theorem put_round_bmo (F0 : FD) (w0 : World) (G : AObj) (hG : ∀ m, 1 <= m -> G.innO m = true) (l : List Nt) (gg L : Nat) (X : List AV) (hXi : (X.all (AV.inn 2)) = true) (last : Int) (k : Nat) (hk : k < l.length) (hlen : l.length <= 1000000) (hX : X.length = L) (hL : L + 4 <= 1000000) (n : Nt) (hn : l[k]? = some n) (hr : rightP n = true) (hl : small last)
 {Q : Exit -> Est -> Prop} (hQ : ∀ s, WkE 69 s (putS G l (gg + (noteC n (markP n.s last)).length) (L + (noteC n (markP n.s last)).length) (X ++ (noteC n (markP n.s last)).map vu) (stepP n last) (k + 1)) -> Q .normal s) (h1 : n.a = -1) (h2 : 0 <= n.s) (hne : needP n.s last = true) (h4 : ¬ n.l = 4) : vcE Tryd.prog F0 w0 69 putB Q (putS G l gg L X last k) := by
 have g1 : (k : Int) < (l.length : Int) := by omega
 have g0 : (0 : Int) <= (k : Int) := by omega
 have w1 : IntKind.i64.wrap ((k : Int) + 1) = ((k + 1 : Nat) : Int) := by rw [wrap_id (by omega) (by omega)]; omega
 have hT0 : List.take L X = X := List.take_of_length_le (by omega)
 have b1 : L + 1 <= 140737488355328 := by omega
 have b2 : L + 1 + 1 <= 140737488355328 := by omega
 have b3 : L + 1 + 1 + 1 <= 140737488355328 := by omega
 have b4 : L + 1 + 1 + 1 + 1 <= 140737488355328 := by omega
 have k8 : ((8 : Nat) : Int) = 8 := rfl
 have k7 : ((7 : Nat) : Int) = 7 := rfl
 have k5 : ((5 : Nat) : Int) = 5 := rfl
 obtain ⟨r1, r2, r3, r4, r5, r6, r7⟩ := rightP_iff hr
 have l5 : n.l < 5 := by omega
 have la := len_at (q := n.l.toNat) (by omega)
 have s9 := sum_ok (p := 7) (q := n.l.toNat) (by omega) (by omega)
 rw [show names.getD 7 0 = 9 from rfl] at s9
 have hm : markP n.s last = true := by simp only [markP, h2, decide_true, Bool.true_and, hne]
 have hsm : small n.s := ⟨by omega, by omega⟩
 have q7 := quo7 hsm
 have d1 : n.s.tdiv 7 = n.s / 7 := Int.tdiv_eq_ediv_of_nonneg h2
 have d2 : n.s.tmod 7 = n.s % 7 := Int.tmod_eq_emod_of_nonneg h2
 have q0 : 0 <= n.s.tdiv 7 := by omega
 have q1 : n.s.tdiv 7 < 7 := by omega
 have m0 : 0 <= n.s.tmod 7 := by omega
 have m1 : n.s.tmod 7 < 8 := by omega
 have oa := oct_at (q := (n.s.tdiv 7).toNat) (by omega)
 have na := name_at (q := (n.s.tmod 7).toNat) (by omega)
 have sa := sum_ok (p := (n.s.tmod 7).toNat) (q := n.l.toNat) (by omega) (by omega)
 have hE : putS G l (gg + (noteC n (markP n.s last)).length) (L + (noteC n (markP n.s last)).length) (X ++ (noteC n (markP n.s last)).map vu) (stepP n last) (k + 1) = ⟨[(0, .own 0 (gg + 1 + 1 + 1) 0 (L + 1 + 1 + 1)), (2, vi n.s), (11, vbar l), (12, vi l.length), (13, vi (k + 1 : Nat))], [.arr (gg + 1 + 1 + 1) 1 5 (X ++ [vu (34)] ++ [vu (octs.getD (n.s.tdiv 7).toNat 0)] ++ [vu (names.getD (n.s.tmod 7).toNat 0 + lens.getD n.l.toNat 0)]), G]⟩ := by
  rw [hm]
  simp [putS, noteC, alterC, octC, smallC, nameC, stepP, h1, h2, h4]
 simp only [putS, putB, c36, go_sem, Nat.reducePow, Nat.reduceLeDiff, ↓reduceIte, reduceCtorEq, Nat.reduceLT, Nat.reduceEqDiff, Nat.reduceAdd, Int.reduceEq, Int.reduceNeg, g0, List.getElem?_map, hn, Option.map_some, h1, h2, hT0, hX, Nat.mul_one, Nat.zero_add, b1, List.drop_zero]
 refine callT (needs_s n.s last hsm hl) rfl ?_
 simp only [go_sem, Nat.reducePow, Nat.reduceLeDiff, ↓reduceIte, reduceCtorEq, Nat.reduceLT, Nat.reduceEqDiff, Nat.reduceAdd, Int.reduceEq, Int.reduceNeg, w1, Option.map_some, h4, hX, Nat.mul_one, Nat.zero_add, b2, b3, take_snoc, List.length_append, gAV0, gAV1, gAV2, List.drop_zero, k8, k7, k5, r3, l5, la, q7, q0, q1, m0, m1, oa, na, sa, hne]
 refine hQ _ ?_
 rw [hE]
 exact WkE.round ⟨rfl, rfl, rfl, rfl, rfl, trivial⟩ (by simp [AV.inn, AV.inn1]) (by rw [List.all_cons, List.all_cons, List.all_nil, hG _ (by simp)]; simp only [AObj.innO, List.all_append, List.all_cons, List.all_nil, hXi, List.length_cons, List.length_nil, AV.inn, AV.inn1, Nat.zero_add, Nat.reduceAdd, Bool.and_self]) (by simp)
theorem put_round_bn4 (F0 : FD) (w0 : World) (G : AObj) (hG : ∀ m, 1 <= m -> G.innO m = true) (l : List Nt) (gg L : Nat) (X : List AV) (hXi : (X.all (AV.inn 2)) = true) (last : Int) (k : Nat) (hk : k < l.length) (hlen : l.length <= 1000000) (hX : X.length = L) (hL : L + 4 <= 1000000) (n : Nt) (hn : l[k]? = some n) (hr : rightP n = true) (hl : small last)
 {Q : Exit -> Est -> Prop} (hQ : ∀ s, WkE 69 s (putS G l (gg + (noteC n (markP n.s last)).length) (L + (noteC n (markP n.s last)).length) (X ++ (noteC n (markP n.s last)).map vu) (stepP n last) (k + 1)) -> Q .normal s) (h1 : n.a = -1) (h2 : 0 <= n.s) (hne : needP n.s last = false) (h4 : n.l = 4) : vcE Tryd.prog F0 w0 69 putB Q (putS G l gg L X last k) := by
 have g1 : (k : Int) < (l.length : Int) := by omega
 have g0 : (0 : Int) <= (k : Int) := by omega
 have w1 : IntKind.i64.wrap ((k : Int) + 1) = ((k + 1 : Nat) : Int) := by rw [wrap_id (by omega) (by omega)]; omega
 have hT0 : List.take L X = X := List.take_of_length_le (by omega)
 have b1 : L + 1 <= 140737488355328 := by omega
 have b2 : L + 1 + 1 <= 140737488355328 := by omega
 have b3 : L + 1 + 1 + 1 <= 140737488355328 := by omega
 have b4 : L + 1 + 1 + 1 + 1 <= 140737488355328 := by omega
 have k8 : ((8 : Nat) : Int) = 8 := rfl
 have k7 : ((7 : Nat) : Int) = 7 := rfl
 have k5 : ((5 : Nat) : Int) = 5 := rfl
 obtain ⟨r1, r2, r3, r4, r5, r6, r7⟩ := rightP_iff hr
 have l5 : n.l < 5 := by omega
 have la := len_at (q := n.l.toNat) (by omega)
 have s9 := sum_ok (p := 7) (q := n.l.toNat) (by omega) (by omega)
 rw [show names.getD 7 0 = 9 from rfl] at s9
 rw [h4] at la s9
 simp only [Int.reduceToNat] at la s9
 rw [show lens.getD 4 0 = 36 from rfl] at s9
 have s45 : IntKind.u8.wrap 45 = 45 := by decide
 have r3' : (0 : Int) <= 4 := by decide
 have l5' : (4 : Int) < 5 := by decide
 have hm : markP n.s last = false := by simp only [markP, h2, decide_true, Bool.true_and, hne]
 have hsm : small n.s := ⟨by omega, by omega⟩
 have q7 := quo7 hsm
 have d1 : n.s.tdiv 7 = n.s / 7 := Int.tdiv_eq_ediv_of_nonneg h2
 have d2 : n.s.tmod 7 = n.s % 7 := Int.tmod_eq_emod_of_nonneg h2
 have q0 : 0 <= n.s.tdiv 7 := by omega
 have q1 : n.s.tdiv 7 < 7 := by omega
 have m0 : 0 <= n.s.tmod 7 := by omega
 have m1 : n.s.tmod 7 < 8 := by omega
 have oa := oct_at (q := (n.s.tdiv 7).toNat) (by omega)
 have na := name_at (q := (n.s.tmod 7).toNat) (by omega)
 have sa := sum_ok (p := (n.s.tmod 7).toNat) (q := 4) (by omega) (by omega)
 rw [show lens.getD 4 0 = 36 from rfl] at sa
 have hE : putS G l (gg + (noteC n (markP n.s last)).length) (L + (noteC n (markP n.s last)).length) (X ++ (noteC n (markP n.s last)).map vu) (stepP n last) (k + 1) = ⟨[(0, .own 0 (gg + 1 + 1 + 1) 0 (L + 1 + 1 + 1)), (2, vi n.s), (11, vbar l), (12, vi l.length), (13, vi (k + 1 : Nat))], [.arr (gg + 1 + 1 + 1) 1 5 (X ++ [vu (34)] ++ [vu (3)] ++ [vu (names.getD (n.s.tmod 7).toNat 0 + 36)]), G]⟩ := by
  rw [hm]
  simp [putS, noteC, alterC, octC, smallC, nameC, stepP, h1, h2, h4, lens]
 simp only [putS, putB, c36, go_sem, Nat.reducePow, Nat.reduceLeDiff, ↓reduceIte, reduceCtorEq, Nat.reduceLT, Nat.reduceEqDiff, Nat.reduceAdd, Int.reduceEq, Int.reduceNeg, g0, List.getElem?_map, hn, Option.map_some, h1, h2, h4, hT0, hX, Nat.mul_one, Nat.zero_add, b1, List.drop_zero]
 refine callT (needs_s n.s last hsm hl) rfl ?_
 simp only [go_sem, Nat.reducePow, Nat.reduceLeDiff, ↓reduceIte, reduceCtorEq, Nat.reduceLT, Nat.reduceEqDiff, Nat.reduceAdd, Int.reduceToNat, Int.reduceNeg, Int.reduceToNat, w1, Option.map_some, hX, Nat.mul_one, Nat.zero_add, b2, b3, take_snoc, List.length_append, gAV1, gAV2, List.drop_zero, Int.reduceToNat, k8, k5, r3', l5', m0, m1, na, sa, hne]
 refine hQ _ ?_
 rw [hE]
 exact WkE.round ⟨rfl, rfl, rfl, rfl, rfl, trivial⟩ (by simp [AV.inn, AV.inn1]) (by rw [List.all_cons, List.all_cons, List.all_nil, hG _ (by simp)]; simp only [AObj.innO, List.all_append, List.all_cons, List.all_nil, hXi, List.length_cons, List.length_nil, AV.inn, AV.inn1, Nat.zero_add, Nat.reduceAdd, Bool.and_self]) (by simp)
theorem put_round_bno (F0 : FD) (w0 : World) (G : AObj) (hG : ∀ m, 1 <= m -> G.innO m = true) (l : List Nt) (gg L : Nat) (X : List AV) (hXi : (X.all (AV.inn 2)) = true) (last : Int) (k : Nat) (hk : k < l.length) (hlen : l.length <= 1000000) (hX : X.length = L) (hL : L + 4 <= 1000000) (n : Nt) (hn : l[k]? = some n) (hr : rightP n = true) (hl : small last)
 {Q : Exit -> Est -> Prop} (hQ : ∀ s, WkE 69 s (putS G l (gg + (noteC n (markP n.s last)).length) (L + (noteC n (markP n.s last)).length) (X ++ (noteC n (markP n.s last)).map vu) (stepP n last) (k + 1)) -> Q .normal s) (h1 : n.a = -1) (h2 : 0 <= n.s) (hne : needP n.s last = false) (h4 : ¬ n.l = 4) : vcE Tryd.prog F0 w0 69 putB Q (putS G l gg L X last k) := by
 have g1 : (k : Int) < (l.length : Int) := by omega
 have g0 : (0 : Int) <= (k : Int) := by omega
 have w1 : IntKind.i64.wrap ((k : Int) + 1) = ((k + 1 : Nat) : Int) := by rw [wrap_id (by omega) (by omega)]; omega
 have hT0 : List.take L X = X := List.take_of_length_le (by omega)
 have b1 : L + 1 <= 140737488355328 := by omega
 have b2 : L + 1 + 1 <= 140737488355328 := by omega
 have b3 : L + 1 + 1 + 1 <= 140737488355328 := by omega
 have b4 : L + 1 + 1 + 1 + 1 <= 140737488355328 := by omega
 have k8 : ((8 : Nat) : Int) = 8 := rfl
 have k7 : ((7 : Nat) : Int) = 7 := rfl
 have k5 : ((5 : Nat) : Int) = 5 := rfl
 obtain ⟨r1, r2, r3, r4, r5, r6, r7⟩ := rightP_iff hr
 have l5 : n.l < 5 := by omega
 have la := len_at (q := n.l.toNat) (by omega)
 have s9 := sum_ok (p := 7) (q := n.l.toNat) (by omega) (by omega)
 rw [show names.getD 7 0 = 9 from rfl] at s9
 have hm : markP n.s last = false := by simp only [markP, h2, decide_true, Bool.true_and, hne]
 have hsm : small n.s := ⟨by omega, by omega⟩
 have q7 := quo7 hsm
 have d1 : n.s.tdiv 7 = n.s / 7 := Int.tdiv_eq_ediv_of_nonneg h2
 have d2 : n.s.tmod 7 = n.s % 7 := Int.tmod_eq_emod_of_nonneg h2
 have q0 : 0 <= n.s.tdiv 7 := by omega
 have q1 : n.s.tdiv 7 < 7 := by omega
 have m0 : 0 <= n.s.tmod 7 := by omega
 have m1 : n.s.tmod 7 < 8 := by omega
 have oa := oct_at (q := (n.s.tdiv 7).toNat) (by omega)
 have na := name_at (q := (n.s.tmod 7).toNat) (by omega)
 have sa := sum_ok (p := (n.s.tmod 7).toNat) (q := n.l.toNat) (by omega) (by omega)
 have hE : putS G l (gg + (noteC n (markP n.s last)).length) (L + (noteC n (markP n.s last)).length) (X ++ (noteC n (markP n.s last)).map vu) (stepP n last) (k + 1) = ⟨[(0, .own 0 (gg + 1 + 1) 0 (L + 1 + 1)), (2, vi n.s), (11, vbar l), (12, vi l.length), (13, vi (k + 1 : Nat))], [.arr (gg + 1 + 1) 1 5 (X ++ [vu (34)] ++ [vu (names.getD (n.s.tmod 7).toNat 0 + lens.getD n.l.toNat 0)]), G]⟩ := by
  rw [hm]
  simp [putS, noteC, alterC, octC, smallC, nameC, stepP, h1, h2, h4]
 simp only [putS, putB, c36, go_sem, Nat.reducePow, Nat.reduceLeDiff, ↓reduceIte, reduceCtorEq, Nat.reduceLT, Nat.reduceEqDiff, Nat.reduceAdd, Int.reduceEq, Int.reduceNeg, g0, List.getElem?_map, hn, Option.map_some, h1, h2, hT0, hX, Nat.mul_one, Nat.zero_add, b1, List.drop_zero]
 refine callT (needs_s n.s last hsm hl) rfl ?_
 simp only [go_sem, Nat.reducePow, Nat.reduceLeDiff, ↓reduceIte, reduceCtorEq, Nat.reduceLT, Nat.reduceEqDiff, Nat.reduceAdd, Int.reduceNeg, w1, Option.map_some, h4, hX, Nat.mul_one, Nat.zero_add, b2, take_snoc, List.length_append, gAV1, gAV2, List.drop_zero, k8, k5, r3, l5, la, m0, m1, na, sa, hne]
 refine hQ _ ?_
 rw [hE]
 exact WkE.round ⟨rfl, rfl, rfl, rfl, rfl, trivial⟩ (by simp [AV.inn, AV.inn1]) (by rw [List.all_cons, List.all_cons, List.all_nil, hG _ (by simp)]; simp only [AObj.innO, List.all_append, List.all_cons, List.all_nil, hXi, List.length_cons, List.length_nil, AV.inn, AV.inn1, Nat.zero_add, Nat.reduceAdd, Bool.and_self]) (by simp)
theorem put_round_cr4 (F0 : FD) (w0 : World) (G : AObj) (hG : ∀ m, 1 <= m -> G.innO m = true) (l : List Nt) (gg L : Nat) (X : List AV) (hXi : (X.all (AV.inn 2)) = true) (last : Int) (k : Nat) (hk : k < l.length) (hlen : l.length <= 1000000) (hX : X.length = L) (hL : L + 4 <= 1000000) (n : Nt) (hn : l[k]? = some n) (hr : rightP n = true) (hl : small last)
 {Q : Exit -> Est -> Prop} (hQ : ∀ s, WkE 69 s (putS G l (gg + (noteC n (markP n.s last)).length) (L + (noteC n (markP n.s last)).length) (X ++ (noteC n (markP n.s last)).map vu) (stepP n last) (k + 1)) -> Q .normal s) (h1 : n.a = 0) (h2 : ¬ 0 <= n.s) (h4 : n.l = 4) : vcE Tryd.prog F0 w0 69 putB Q (putS G l gg L X last k) := by
 have g1 : (k : Int) < (l.length : Int) := by omega
 have g0 : (0 : Int) <= (k : Int) := by omega
 have w1 : IntKind.i64.wrap ((k : Int) + 1) = ((k + 1 : Nat) : Int) := by rw [wrap_id (by omega) (by omega)]; omega
 have hT0 : List.take L X = X := List.take_of_length_le (by omega)
 have b1 : L + 1 <= 140737488355328 := by omega
 have b2 : L + 1 + 1 <= 140737488355328 := by omega
 have b3 : L + 1 + 1 + 1 <= 140737488355328 := by omega
 have b4 : L + 1 + 1 + 1 + 1 <= 140737488355328 := by omega
 have k8 : ((8 : Nat) : Int) = 8 := rfl
 have k7 : ((7 : Nat) : Int) = 7 := rfl
 have k5 : ((5 : Nat) : Int) = 5 := rfl
 obtain ⟨r1, r2, r3, r4, r5, r6, r7⟩ := rightP_iff hr
 have l5 : n.l < 5 := by omega
 have la := len_at (q := n.l.toNat) (by omega)
 have s9 := sum_ok (p := 7) (q := n.l.toNat) (by omega) (by omega)
 rw [show names.getD 7 0 = 9 from rfl] at s9
 rw [h4] at la s9
 simp only [Int.reduceToNat] at la s9
 rw [show lens.getD 4 0 = 36 from rfl] at s9
 have s45 : IntKind.u8.wrap 45 = 45 := by decide
 have r3' : (0 : Int) <= 4 := by decide
 have l5' : (4 : Int) < 5 := by decide
 have hm : markP n.s last = false := by simp only [markP, h2, decide_false, Bool.false_and]
 have hE : putS G l (gg + (noteC n (markP n.s last)).length) (L + (noteC n (markP n.s last)).length) (X ++ (noteC n (markP n.s last)).map vu) (stepP n last) (k + 1) = ⟨[(0, .own 0 (gg + 1 + 1) 0 (L + 1 + 1)), (2, vi last), (11, vbar l), (12, vi l.length), (13, vi (k + 1 : Nat))], [.arr (gg + 1 + 1) 1 5 (X ++ [vu (3)] ++ [vu (45)]), G]⟩ := by
  rw [hm]
  simp [putS, noteC, alterC, octC, smallC, nameC, stepP, h1, h2, h4, lens]
 simp only [putS, putB, c36, go_sem, Nat.reducePow, Nat.reduceLeDiff, ↓reduceIte, reduceCtorEq, Nat.reduceLT, Nat.reduceEqDiff, Nat.reduceAdd, Int.reduceToNat, Int.reduceLT, Int.reduceLE, Int.reduceEq, Int.reduceNeg, Int.reduceToNat, g0, w1, List.getElem?_map, hn, Option.map_some, h1, h2, h4, hT0, hX, Nat.mul_one, Nat.zero_add, b1, b2, take_snoc, List.length_append, gAV1, gAV2, List.drop_zero, Int.reduceToNat, k8, k5, s9, r3', l5']
 refine hQ _ ?_
 rw [hE]
 exact WkE.round ⟨rfl, rfl, rfl, rfl, rfl, trivial⟩ (by simp [AV.inn, AV.inn1]) (by rw [List.all_cons, List.all_cons, List.all_nil, hG _ (by simp)]; simp only [AObj.innO, List.all_append, List.all_cons, List.all_nil, hXi, List.length_cons, List.length_nil, AV.inn, AV.inn1, Nat.zero_add, Nat.reduceAdd, Bool.and_self]) (by simp)
theorem put_round_cro (F0 : FD) (w0 : World) (G : AObj) (hG : ∀ m, 1 <= m -> G.innO m = true) (l : List Nt) (gg L : Nat) (X : List AV) (hXi : (X.all (AV.inn 2)) = true) (last : Int) (k : Nat) (hk : k < l.length) (hlen : l.length <= 1000000) (hX : X.length = L) (hL : L + 4 <= 1000000) (n : Nt) (hn : l[k]? = some n) (hr : rightP n = true) (hl : small last)
 {Q : Exit -> Est -> Prop} (hQ : ∀ s, WkE 69 s (putS G l (gg + (noteC n (markP n.s last)).length) (L + (noteC n (markP n.s last)).length) (X ++ (noteC n (markP n.s last)).map vu) (stepP n last) (k + 1)) -> Q .normal s) (h1 : n.a = 0) (h2 : ¬ 0 <= n.s) (h4 : ¬ n.l = 4) : vcE Tryd.prog F0 w0 69 putB Q (putS G l gg L X last k) := by
 have g1 : (k : Int) < (l.length : Int) := by omega
 have g0 : (0 : Int) <= (k : Int) := by omega
 have w1 : IntKind.i64.wrap ((k : Int) + 1) = ((k + 1 : Nat) : Int) := by rw [wrap_id (by omega) (by omega)]; omega
 have hT0 : List.take L X = X := List.take_of_length_le (by omega)
 have b1 : L + 1 <= 140737488355328 := by omega
 have b2 : L + 1 + 1 <= 140737488355328 := by omega
 have b3 : L + 1 + 1 + 1 <= 140737488355328 := by omega
 have b4 : L + 1 + 1 + 1 + 1 <= 140737488355328 := by omega
 have k8 : ((8 : Nat) : Int) = 8 := rfl
 have k7 : ((7 : Nat) : Int) = 7 := rfl
 have k5 : ((5 : Nat) : Int) = 5 := rfl
 obtain ⟨r1, r2, r3, r4, r5, r6, r7⟩ := rightP_iff hr
 have l5 : n.l < 5 := by omega
 have la := len_at (q := n.l.toNat) (by omega)
 have s9 := sum_ok (p := 7) (q := n.l.toNat) (by omega) (by omega)
 rw [show names.getD 7 0 = 9 from rfl] at s9
 have hm : markP n.s last = false := by simp only [markP, h2, decide_false, Bool.false_and]
 have hE : putS G l (gg + (noteC n (markP n.s last)).length) (L + (noteC n (markP n.s last)).length) (X ++ (noteC n (markP n.s last)).map vu) (stepP n last) (k + 1) = ⟨[(0, .own 0 (gg + 1) 0 (L + 1)), (2, vi last), (11, vbar l), (12, vi l.length), (13, vi (k + 1 : Nat))], [.arr (gg + 1) 1 5 (X ++ [vu (9 + lens.getD n.l.toNat 0)]), G]⟩ := by
  rw [hm]
  simp [putS, noteC, alterC, octC, smallC, nameC, stepP, h1, h2, h4]
 simp only [putS, putB, c36, go_sem, Nat.reducePow, Nat.reduceLeDiff, ↓reduceIte, reduceCtorEq, Nat.reduceLT, Nat.reduceEqDiff, Nat.reduceAdd, Int.reduceToNat, Int.reduceLT, Int.reduceLE, Int.reduceEq, Int.reduceNeg, Int.reduceToNat, g0, w1, List.getElem?_map, hn, Option.map_some, h1, h2, h4, hT0, hX, Nat.mul_one, Nat.zero_add, b1, gAV1, gAV2, List.drop_zero, Int.reduceToNat, k8, k5, r3, l5, la, s9]
 refine hQ _ ?_
 rw [hE]
 exact WkE.round ⟨rfl, rfl, rfl, rfl, rfl, trivial⟩ (by simp [AV.inn, AV.inn1]) (by rw [List.all_cons, List.all_cons, List.all_nil, hG _ (by simp)]; simp only [AObj.innO, List.all_append, List.all_cons, List.all_nil, hXi, List.length_cons, List.length_nil, AV.inn, AV.inn1, Nat.zero_add, Nat.reduceAdd, Bool.and_self]) (by simp)
theorem put_round_cm4 (F0 : FD) (w0 : World) (G : AObj) (hG : ∀ m, 1 <= m -> G.innO m = true) (l : List Nt) (gg L : Nat) (X : List AV) (hXi : (X.all (AV.inn 2)) = true) (last : Int) (k : Nat) (hk : k < l.length) (hlen : l.length <= 1000000) (hX : X.length = L) (hL : L + 4 <= 1000000) (n : Nt) (hn : l[k]? = some n) (hr : rightP n = true) (hl : small last)
 {Q : Exit -> Est -> Prop} (hQ : ∀ s, WkE 69 s (putS G l (gg + (noteC n (markP n.s last)).length) (L + (noteC n (markP n.s last)).length) (X ++ (noteC n (markP n.s last)).map vu) (stepP n last) (k + 1)) -> Q .normal s) (h1 : n.a = 0) (h2 : 0 <= n.s) (hne : needP n.s last = true) (h4 : n.l = 4) : vcE Tryd.prog F0 w0 69 putB Q (putS G l gg L X last k) := by
 have g1 : (k : Int) < (l.length : Int) := by omega
 have g0 : (0 : Int) <= (k : Int) := by omega
 have w1 : IntKind.i64.wrap ((k : Int) + 1) = ((k + 1 : Nat) : Int) := by rw [wrap_id (by omega) (by omega)]; omega
 have hT0 : List.take L X = X := List.take_of_length_le (by omega)
 have b1 : L + 1 <= 140737488355328 := by omega
 have b2 : L + 1 + 1 <= 140737488355328 := by omega
 have b3 : L + 1 + 1 + 1 <= 140737488355328 := by omega
 have b4 : L + 1 + 1 + 1 + 1 <= 140737488355328 := by omega
 have k8 : ((8 : Nat) : Int) = 8 := rfl
 have k7 : ((7 : Nat) : Int) = 7 := rfl
 have k5 : ((5 : Nat) : Int) = 5 := rfl
 obtain ⟨r1, r2, r3, r4, r5, r6, r7⟩ := rightP_iff hr
 have l5 : n.l < 5 := by omega
 have la := len_at (q := n.l.toNat) (by omega)
 have s9 := sum_ok (p := 7) (q := n.l.toNat) (by omega) (by omega)
 rw [show names.getD 7 0 = 9 from rfl] at s9
 rw [h4] at la s9
 simp only [Int.reduceToNat] at la s9
 rw [show lens.getD 4 0 = 36 from rfl] at s9
 have s45 : IntKind.u8.wrap 45 = 45 := by decide
 have r3' : (0 : Int) <= 4 := by decide
 have l5' : (4 : Int) < 5 := by decide
 have hm : markP n.s last = true := by simp only [markP, h2, decide_true, Bool.true_and, hne]
 have hsm : small n.s := ⟨by omega, by omega⟩
 have q7 := quo7 hsm
 have d1 : n.s.tdiv 7 = n.s / 7 := Int.tdiv_eq_ediv_of_nonneg h2
 have d2 : n.s.tmod 7 = n.s % 7 := Int.tmod_eq_emod_of_nonneg h2
 have q0 : 0 <= n.s.tdiv 7 := by omega
 have q1 : n.s.tdiv 7 < 7 := by omega
 have m0 : 0 <= n.s.tmod 7 := by omega
 have m1 : n.s.tmod 7 < 8 := by omega
 have oa := oct_at (q := (n.s.tdiv 7).toNat) (by omega)
 have na := name_at (q := (n.s.tmod 7).toNat) (by omega)
 have sa := sum_ok (p := (n.s.tmod 7).toNat) (q := 4) (by omega) (by omega)
 rw [show lens.getD 4 0 = 36 from rfl] at sa
 have hE : putS G l (gg + (noteC n (markP n.s last)).length) (L + (noteC n (markP n.s last)).length) (X ++ (noteC n (markP n.s last)).map vu) (stepP n last) (k + 1) = ⟨[(0, .own 0 (gg + 1 + 1 + 1) 0 (L + 1 + 1 + 1)), (2, vi n.s), (11, vbar l), (12, vi l.length), (13, vi (k + 1 : Nat))], [.arr (gg + 1 + 1 + 1) 1 5 (X ++ [vu (octs.getD (n.s.tdiv 7).toNat 0)] ++ [vu (3)] ++ [vu (names.getD (n.s.tmod 7).toNat 0 + 36)]), G]⟩ := by
  rw [hm]
  simp [putS, noteC, alterC, octC, smallC, nameC, stepP, h1, h2, h4, lens]
 simp only [putS, putB, c36, go_sem, ↓reduceIte, reduceCtorEq, Nat.reduceLT, Nat.reduceEqDiff, Nat.reduceAdd, Int.reduceEq, Int.reduceNeg, g0, List.getElem?_map, hn, Option.map_some, h1, h2, h4, Nat.zero_add, List.drop_zero]
 refine callT (needs_s n.s last hsm hl) rfl ?_
 simp only [go_sem, Nat.reducePow, Nat.reduceLeDiff, ↓reduceIte, reduceCtorEq, Nat.reduceLT, Nat.reduceEqDiff, Nat.reduceAdd, Int.reduceToNat, Int.reduceEq, Int.reduceToNat, w1, Option.map_some, hT0, hX, Nat.mul_one, Nat.zero_add, b1, b2, b3, take_snoc, List.length_append, gAV0, gAV1, gAV2, List.drop_zero, Int.reduceToNat, k8, k7, k5, r3', l5', q7, q0, q1, m0, m1, oa, na, sa, hne]
 refine hQ _ ?_
 rw [hE]
 exact WkE.round ⟨rfl, rfl, rfl, rfl, rfl, trivial⟩ (by simp [AV.inn, AV.inn1]) (by rw [List.all_cons, List.all_cons, List.all_nil, hG _ (by simp)]; simp only [AObj.innO, List.all_append, List.all_cons, List.all_nil, hXi, List.length_cons, List.length_nil, AV.inn, AV.inn1, Nat.zero_add, Nat.reduceAdd, Bool.and_self]) (by simp)
theorem put_round_cmo (F0 : FD) (w0 : World) (G : AObj) (hG : ∀ m, 1 <= m -> G.innO m = true) (l : List Nt) (gg L : Nat) (X : List AV) (hXi : (X.all (AV.inn 2)) = true) (last : Int) (k : Nat) (hk : k < l.length) (hlen : l.length <= 1000000) (hX : X.length = L) (hL : L + 4 <= 1000000) (n : Nt) (hn : l[k]? = some n) (hr : rightP n = true) (hl : small last)
 {Q : Exit -> Est -> Prop} (hQ : ∀ s, WkE 69 s (putS G l (gg + (noteC n (markP n.s last)).length) (L + (noteC n (markP n.s last)).length) (X ++ (noteC n (markP n.s last)).map vu) (stepP n last) (k + 1)) -> Q .normal s) (h1 : n.a = 0) (h2 : 0 <= n.s) (hne : needP n.s last = true) (h4 : ¬ n.l = 4) : vcE Tryd.prog F0 w0 69 putB Q (putS G l gg L X last k) := by
 have g1 : (k : Int) < (l.length : Int) := by omega
 have g0 : (0 : Int) <= (k : Int) := by omega
 have w1 : IntKind.i64.wrap ((k : Int) + 1) = ((k + 1 : Nat) : Int) := by rw [wrap_id (by omega) (by omega)]; omega
 have hT0 : List.take L X = X := List.take_of_length_le (by omega)
 have b1 : L + 1 <= 140737488355328 := by omega
 have b2 : L + 1 + 1 <= 140737488355328 := by omega
 have b3 : L + 1 + 1 + 1 <= 140737488355328 := by omega
 have b4 : L + 1 + 1 + 1 + 1 <= 140737488355328 := by omega
 have k8 : ((8 : Nat) : Int) = 8 := rfl
 have k7 : ((7 : Nat) : Int) = 7 := rfl
 have k5 : ((5 : Nat) : Int) = 5 := rfl
 obtain ⟨r1, r2, r3, r4, r5, r6, r7⟩ := rightP_iff hr
 have l5 : n.l < 5 := by omega
 have la := len_at (q := n.l.toNat) (by omega)
 have s9 := sum_ok (p := 7) (q := n.l.toNat) (by omega) (by omega)
 rw [show names.getD 7 0 = 9 from rfl] at s9
 have hm : markP n.s last = true := by simp only [markP, h2, decide_true, Bool.true_and, hne]
 have hsm : small n.s := ⟨by omega, by omega⟩
 have q7 := quo7 hsm
 have d1 : n.s.tdiv 7 = n.s / 7 := Int.tdiv_eq_ediv_of_nonneg h2
 have d2 : n.s.tmod 7 = n.s % 7 := Int.tmod_eq_emod_of_nonneg h2
 have q0 : 0 <= n.s.tdiv 7 := by omega
 have q1 : n.s.tdiv 7 < 7 := by omega
 have m0 : 0 <= n.s.tmod 7 := by omega
 have m1 : n.s.tmod 7 < 8 := by omega
 have oa := oct_at (q := (n.s.tdiv 7).toNat) (by omega)
 have na := name_at (q := (n.s.tmod 7).toNat) (by omega)
 have sa := sum_ok (p := (n.s.tmod 7).toNat) (q := n.l.toNat) (by omega) (by omega)
 have hE : putS G l (gg + (noteC n (markP n.s last)).length) (L + (noteC n (markP n.s last)).length) (X ++ (noteC n (markP n.s last)).map vu) (stepP n last) (k + 1) = ⟨[(0, .own 0 (gg + 1 + 1) 0 (L + 1 + 1)), (2, vi n.s), (11, vbar l), (12, vi l.length), (13, vi (k + 1 : Nat))], [.arr (gg + 1 + 1) 1 5 (X ++ [vu (octs.getD (n.s.tdiv 7).toNat 0)] ++ [vu (names.getD (n.s.tmod 7).toNat 0 + lens.getD n.l.toNat 0)]), G]⟩ := by
  rw [hm]
  simp [putS, noteC, alterC, octC, smallC, nameC, stepP, h1, h2, h4]
 simp only [putS, putB, c36, go_sem, ↓reduceIte, reduceCtorEq, Nat.reduceLT, Nat.reduceEqDiff, Nat.reduceAdd, Int.reduceEq, Int.reduceNeg, g0, List.getElem?_map, hn, Option.map_some, h1, h2, Nat.zero_add, List.drop_zero]
 refine callT (needs_s n.s last hsm hl) rfl ?_
 simp only [go_sem, Nat.reducePow, Nat.reduceLeDiff, ↓reduceIte, reduceCtorEq, Nat.reduceLT, Nat.reduceEqDiff, Nat.reduceAdd, Int.reduceEq, w1, Option.map_some, h4, hT0, hX, Nat.mul_one, Nat.zero_add, b1, b2, take_snoc, List.length_append, gAV0, gAV1, gAV2, List.drop_zero, k8, k7, k5, r3, l5, la, q7, q0, q1, m0, m1, oa, na, sa, hne]
 refine hQ _ ?_
 rw [hE]
 exact WkE.round ⟨rfl, rfl, rfl, rfl, rfl, trivial⟩ (by simp [AV.inn, AV.inn1]) (by rw [List.all_cons, List.all_cons, List.all_nil, hG _ (by simp)]; simp only [AObj.innO, List.all_append, List.all_cons, List.all_nil, hXi, List.length_cons, List.length_nil, AV.inn, AV.inn1, Nat.zero_add, Nat.reduceAdd, Bool.and_self]) (by simp)
theorem put_round_cn4 (F0 : FD) (w0 : World) (G : AObj) (hG : ∀ m, 1 <= m -> G.innO m = true) (l : List Nt) (gg L : Nat) (X : List AV) (hXi : (X.all (AV.inn 2)) = true) (last : Int) (k : Nat) (hk : k < l.length) (hlen : l.length <= 1000000) (hX : X.length = L) (hL : L + 4 <= 1000000) (n : Nt) (hn : l[k]? = some n) (hr : rightP n = true) (hl : small last)
 {Q : Exit -> Est -> Prop} (hQ : ∀ s, WkE 69 s (putS G l (gg + (noteC n (markP n.s last)).length) (L + (noteC n (markP n.s last)).length) (X ++ (noteC n (markP n.s last)).map vu) (stepP n last) (k + 1)) -> Q .normal s) (h1 : n.a = 0) (h2 : 0 <= n.s) (hne : needP n.s last = false) (h4 : n.l = 4) : vcE Tryd.prog F0 w0 69 putB Q (putS G l gg L X last k) := by
 have g1 : (k : Int) < (l.length : Int) := by omega
 have g0 : (0 : Int) <= (k : Int) := by omega
 have w1 : IntKind.i64.wrap ((k : Int) + 1) = ((k + 1 : Nat) : Int) := by rw [wrap_id (by omega) (by omega)]; omega
 have hT0 : List.take L X = X := List.take_of_length_le (by omega)
 have b1 : L + 1 <= 140737488355328 := by omega
 have b2 : L + 1 + 1 <= 140737488355328 := by omega
 have b3 : L + 1 + 1 + 1 <= 140737488355328 := by omega
 have b4 : L + 1 + 1 + 1 + 1 <= 140737488355328 := by omega
 have k8 : ((8 : Nat) : Int) = 8 := rfl
 have k7 : ((7 : Nat) : Int) = 7 := rfl
 have k5 : ((5 : Nat) : Int) = 5 := rfl
 obtain ⟨r1, r2, r3, r4, r5, r6, r7⟩ := rightP_iff hr
 have l5 : n.l < 5 := by omega
 have la := len_at (q := n.l.toNat) (by omega)
 have s9 := sum_ok (p := 7) (q := n.l.toNat) (by omega) (by omega)
 rw [show names.getD 7 0 = 9 from rfl] at s9
 rw [h4] at la s9
 simp only [Int.reduceToNat] at la s9
 rw [show lens.getD 4 0 = 36 from rfl] at s9
 have s45 : IntKind.u8.wrap 45 = 45 := by decide
 have r3' : (0 : Int) <= 4 := by decide
 have l5' : (4 : Int) < 5 := by decide
 have hm : markP n.s last = false := by simp only [markP, h2, decide_true, Bool.true_and, hne]
 have hsm : small n.s := ⟨by omega, by omega⟩
 have q7 := quo7 hsm
 have d1 : n.s.tdiv 7 = n.s / 7 := Int.tdiv_eq_ediv_of_nonneg h2
 have d2 : n.s.tmod 7 = n.s % 7 := Int.tmod_eq_emod_of_nonneg h2
 have q0 : 0 <= n.s.tdiv 7 := by omega
 have q1 : n.s.tdiv 7 < 7 := by omega
 have m0 : 0 <= n.s.tmod 7 := by omega
 have m1 : n.s.tmod 7 < 8 := by omega
 have oa := oct_at (q := (n.s.tdiv 7).toNat) (by omega)
 have na := name_at (q := (n.s.tmod 7).toNat) (by omega)
 have sa := sum_ok (p := (n.s.tmod 7).toNat) (q := 4) (by omega) (by omega)
 rw [show lens.getD 4 0 = 36 from rfl] at sa
 have hE : putS G l (gg + (noteC n (markP n.s last)).length) (L + (noteC n (markP n.s last)).length) (X ++ (noteC n (markP n.s last)).map vu) (stepP n last) (k + 1) = ⟨[(0, .own 0 (gg + 1 + 1) 0 (L + 1 + 1)), (2, vi n.s), (11, vbar l), (12, vi l.length), (13, vi (k + 1 : Nat))], [.arr (gg + 1 + 1) 1 5 (X ++ [vu (3)] ++ [vu (names.getD (n.s.tmod 7).toNat 0 + 36)]), G]⟩ := by
  rw [hm]
  simp [putS, noteC, alterC, octC, smallC, nameC, stepP, h1, h2, h4, lens]
 simp only [putS, putB, c36, go_sem, ↓reduceIte, reduceCtorEq, Nat.reduceLT, Nat.reduceEqDiff, Nat.reduceAdd, Int.reduceEq, Int.reduceNeg, g0, List.getElem?_map, hn, Option.map_some, h1, h2, h4, Nat.zero_add, List.drop_zero]
 refine callT (needs_s n.s last hsm hl) rfl ?_
 simp only [go_sem, Nat.reducePow, Nat.reduceLeDiff, ↓reduceIte, reduceCtorEq, Nat.reduceLT, Nat.reduceEqDiff, Nat.reduceAdd, Int.reduceToNat, Int.reduceToNat, w1, Option.map_some, hT0, hX, Nat.mul_one, Nat.zero_add, b1, b2, take_snoc, List.length_append, gAV1, gAV2, List.drop_zero, Int.reduceToNat, k8, k5, r3', l5', m0, m1, na, sa, hne]
 refine hQ _ ?_
 rw [hE]
 exact WkE.round ⟨rfl, rfl, rfl, rfl, rfl, trivial⟩ (by simp [AV.inn, AV.inn1]) (by rw [List.all_cons, List.all_cons, List.all_nil, hG _ (by simp)]; simp only [AObj.innO, List.all_append, List.all_cons, List.all_nil, hXi, List.length_cons, List.length_nil, AV.inn, AV.inn1, Nat.zero_add, Nat.reduceAdd, Bool.and_self]) (by simp)
theorem put_round_cno (F0 : FD) (w0 : World) (G : AObj) (hG : ∀ m, 1 <= m -> G.innO m = true) (l : List Nt) (gg L : Nat) (X : List AV) (hXi : (X.all (AV.inn 2)) = true) (last : Int) (k : Nat) (hk : k < l.length) (hlen : l.length <= 1000000) (hX : X.length = L) (hL : L + 4 <= 1000000) (n : Nt) (hn : l[k]? = some n) (hr : rightP n = true) (hl : small last)
 {Q : Exit -> Est -> Prop} (hQ : ∀ s, WkE 69 s (putS G l (gg + (noteC n (markP n.s last)).length) (L + (noteC n (markP n.s last)).length) (X ++ (noteC n (markP n.s last)).map vu) (stepP n last) (k + 1)) -> Q .normal s) (h1 : n.a = 0) (h2 : 0 <= n.s) (hne : needP n.s last = false) (h4 : ¬ n.l = 4) : vcE Tryd.prog F0 w0 69 putB Q (putS G l gg L X last k) := by
 have g1 : (k : Int) < (l.length : Int) := by omega
 have g0 : (0 : Int) <= (k : Int) := by omega
 have w1 : IntKind.i64.wrap ((k : Int) + 1) = ((k + 1 : Nat) : Int) := by rw [wrap_id (by omega) (by omega)]; omega
 have hT0 : List.take L X = X := List.take_of_length_le (by omega)
 have b1 : L + 1 <= 140737488355328 := by omega
 have b2 : L + 1 + 1 <= 140737488355328 := by omega
 have b3 : L + 1 + 1 + 1 <= 140737488355328 := by omega
 have b4 : L + 1 + 1 + 1 + 1 <= 140737488355328 := by omega
 have k8 : ((8 : Nat) : Int) = 8 := rfl
 have k7 : ((7 : Nat) : Int) = 7 := rfl
 have k5 : ((5 : Nat) : Int) = 5 := rfl
 obtain ⟨r1, r2, r3, r4, r5, r6, r7⟩ := rightP_iff hr
 have l5 : n.l < 5 := by omega
 have la := len_at (q := n.l.toNat) (by omega)
 have s9 := sum_ok (p := 7) (q := n.l.toNat) (by omega) (by omega)
 rw [show names.getD 7 0 = 9 from rfl] at s9
 have hm : markP n.s last = false := by simp only [markP, h2, decide_true, Bool.true_and, hne]
 have hsm : small n.s := ⟨by omega, by omega⟩
 have q7 := quo7 hsm
 have d1 : n.s.tdiv 7 = n.s / 7 := Int.tdiv_eq_ediv_of_nonneg h2
 have d2 : n.s.tmod 7 = n.s % 7 := Int.tmod_eq_emod_of_nonneg h2
 have q0 : 0 <= n.s.tdiv 7 := by omega
 have q1 : n.s.tdiv 7 < 7 := by omega
 have m0 : 0 <= n.s.tmod 7 := by omega
 have m1 : n.s.tmod 7 < 8 := by omega
 have oa := oct_at (q := (n.s.tdiv 7).toNat) (by omega)
 have na := name_at (q := (n.s.tmod 7).toNat) (by omega)
 have sa := sum_ok (p := (n.s.tmod 7).toNat) (q := n.l.toNat) (by omega) (by omega)
 have hE : putS G l (gg + (noteC n (markP n.s last)).length) (L + (noteC n (markP n.s last)).length) (X ++ (noteC n (markP n.s last)).map vu) (stepP n last) (k + 1) = ⟨[(0, .own 0 (gg + 1) 0 (L + 1)), (2, vi n.s), (11, vbar l), (12, vi l.length), (13, vi (k + 1 : Nat))], [.arr (gg + 1) 1 5 (X ++ [vu (names.getD (n.s.tmod 7).toNat 0 + lens.getD n.l.toNat 0)]), G]⟩ := by
  rw [hm]
  simp [putS, noteC, alterC, octC, smallC, nameC, stepP, h1, h2, h4]
 simp only [putS, putB, c36, go_sem, ↓reduceIte, reduceCtorEq, Nat.reduceLT, Nat.reduceEqDiff, Nat.reduceAdd, Int.reduceEq, Int.reduceNeg, g0, List.getElem?_map, hn, Option.map_some, h1, h2, Nat.zero_add, List.drop_zero]
 refine callT (needs_s n.s last hsm hl) rfl ?_
 simp only [go_sem, Nat.reducePow, Nat.reduceLeDiff, ↓reduceIte, reduceCtorEq, Nat.reduceLT, Nat.reduceEqDiff, Nat.reduceAdd, w1, Option.map_some, h4, hT0, hX, Nat.mul_one, Nat.zero_add, b1, gAV1, gAV2, List.drop_zero, k8, k5, r3, l5, la, m0, m1, na, sa, hne]
 refine hQ _ ?_
 rw [hE]
 exact WkE.round ⟨rfl, rfl, rfl, rfl, rfl, trivial⟩ (by simp [AV.inn, AV.inn1]) (by rw [List.all_cons, List.all_cons, List.all_nil, hG _ (by simp)]; simp only [AObj.innO, List.all_append, List.all_cons, List.all_nil, hXi, List.length_cons, List.length_nil, AV.inn, AV.inn1, Nat.zero_add, Nat.reduceAdd, Bool.and_self]) (by simp)
end Go.Proofs.YtnncijjkbonokaaDoor
namespace Go.Proofs.YtnncijjkbonokaaDoor
open Go.RowKit Dak
theorem put_any (F0 : FD) (w0 : World) (G : AObj) (hG : ∀ m, 1 <= m -> G.innO m = true) (l : List Nt) (gg L : Nat) (X : List AV) (hXi : (X.all (AV.inn 2)) = true) (last : Int) (k : Nat) (hk : k < l.length) (hlen : l.length <= 1000000) (hX : X.length = L) (hL : L + 4 <= 1000000) (n : Nt) (hn : l[k]? = some n) (hr : rightP n = true) (hl : small last)
 {Q : Exit -> Est -> Prop} (hQ : ∀ s, WkE 69 s (putS G l (gg + (noteC n (markP n.s last)).length) (L + (noteC n (markP n.s last)).length) (X ++ (noteC n (markP n.s last)).map vu) (stepP n last) (k + 1)) -> Q .normal s) : vcE Tryd.prog F0 w0 69 putB Q (putS G l gg L X last k) := by
 obtain ⟨r1, r2, r3, r4, r5, r6, r7⟩ := rightP_iff hr
 by_cases h4 : n.l = 4
 ·by_cases h2 : 0 <= n.s
  ·cases hne : needP n.s last with
   | true =>
    by_cases a1 : n.a = 1
    ·exact put_round_am4 F0 w0 G hG l gg L X hXi last k hk hlen hX hL n hn hr hl hQ a1 h2 hne h4
    by_cases a2 : n.a = -1
    ·exact put_round_bm4 F0 w0 G hG l gg L X hXi last k hk hlen hX hL n hn hr hl hQ a2 h2 hne h4
    exact put_round_cm4 F0 w0 G hG l gg L X hXi last k hk hlen hX hL n hn hr hl hQ (by omega) h2 hne h4
   | false =>
    by_cases a1 : n.a = 1
    ·exact put_round_an4 F0 w0 G hG l gg L X hXi last k hk hlen hX hL n hn hr hl hQ a1 h2 hne h4
    by_cases a2 : n.a = -1
    ·exact put_round_bn4 F0 w0 G hG l gg L X hXi last k hk hlen hX hL n hn hr hl hQ a2 h2 hne h4
    exact put_round_cn4 F0 w0 G hG l gg L X hXi last k hk hlen hX hL n hn hr hl hQ (by omega) h2 hne h4
  ·exact put_round_cr4 F0 w0 G hG l gg L X hXi last k hk hlen hX hL n hn hr hl hQ (by omega) h2 h4
 ·by_cases h2 : 0 <= n.s
  ·cases hne : needP n.s last with
   | true =>
    by_cases a1 : n.a = 1
    ·exact put_round_amo F0 w0 G hG l gg L X hXi last k hk hlen hX hL n hn hr hl hQ a1 h2 hne h4
    by_cases a2 : n.a = -1
    ·exact put_round_bmo F0 w0 G hG l gg L X hXi last k hk hlen hX hL n hn hr hl hQ a2 h2 hne h4
    exact put_round_cmo F0 w0 G hG l gg L X hXi last k hk hlen hX hL n hn hr hl hQ (by omega) h2 hne h4
   | false =>
    by_cases a1 : n.a = 1
    ·exact put_round_ano F0 w0 G hG l gg L X hXi last k hk hlen hX hL n hn hr hl hQ a1 h2 hne h4
    by_cases a2 : n.a = -1
    ·exact put_round_bno F0 w0 G hG l gg L X hXi last k hk hlen hX hL n hn hr hl hQ a2 h2 hne h4
    exact put_round_cno F0 w0 G hG l gg L X hXi last k hk hlen hX hL n hn hr hl hQ (by omega) h2 hne h4
  ·exact put_round_cro F0 w0 G hG l gg L X hXi last k hk hlen hX hL n hn hr hl hQ (by omega) h2 h4
theorem noteC_len (n : Nt) (m : Bool) : (noteC n m).length <= 4 := by
 unfold noteC alterC octC smallC
 split <;> split <;> (try split) <;> (try split) <;> simp
theorem step_small {n : Nt} {last : Int} (hr : rightP n = true) (hl : small last) : small (stepP n last) := by
 obtain ⟨r1, r2, _⟩ := rightP_iff hr
 unfold stepP; split
 ·exact ⟨by omega, by omega⟩
 ·exact hl
theorem inn_map {α : Type} {f : α -> AV} {l : List α} {k : Nat} (h : ∀ x, (f x).inn k = true) : (l.map f).all (AV.inn k) = true := by
 refine List.all_eq_true.2 fun y hy => ?_
 obtain ⟨x, _, rfl⟩ := List.mem_map.1 hy
 exact h x
theorem put_s (g : Nat) (b : List Int) (l : List Nt) (last : Int) (hlen : l.length <= 10000) (hb : b.length <= 100000) (hr : ∀ n ∈ l, rightP n = true) (hl : small last) :
 CtrM Tryd.prog 36 [.own 0 g 0 b.length, vbar l, vi last] [.arr g 1 5 (b.map vu)] (.tup [.own 0 (g + (cellsP l last).length) 0 (b.length + (cellsP l last).length), vi (lastP l last)]) [.arr (g + (cellsP l last).length) 1 5 ((b ++ cellsP l last).map vu)] := by
 refine specM f36 (by simp) rfl (by simp only [List.all_cons, List.all_nil, AObj.innO, inn_map (f := vu) fun _ => rfl]; rfl) (by rfl) fun F0 w0 G hG => ?_
 have hG1 : ∀ m, 1 <= m -> G.innO m = true := fun m hm => hG m (by simpa using hm)
 unfold c36
 refine CwpE.cut (st := ⟨[(0, .own 0 g 0 b.length), (1, vbar l), (2, vi last)], [.arr g 1 5 (b.map vu), G]⟩) ?_ ?_
 ·simp only [go_sem, ↓reduceIte, Nat.reduceLT, Nat.reduceAdd]
  exact ⟨_, WkE.keep (by simp only [go_sem, ↓reduceIte, reduceCtorEq, Nat.reduceEqDiff]), rfl⟩
 refine CwpE.seqJ (fun s => s = ⟨[(0, .own 0 (g + (cellsP l last).length) 0 (b.length + (cellsP l last).length)), (2, vi (lastP l last))], [.arr (g + (cellsP l last).length) 1 5 ((b ++ cellsP l last).map vu), G]⟩) ?_ ?_
 ·refine CwpE.cut (st := putS G l g b.length (b.map vu) last 0) ?_ ?_
  ·simp only [go_sem, ↓reduceIte, reduceCtorEq, Nat.reduceLT]
   exact ⟨_, WkE.keep (by simp only [go_sem, ↓reduceIte, reduceCtorEq, Nat.reduceEqDiff]; rfl), rfl⟩
  refine CwpE.block ?_
  refine loopXC 0 (fun m s => ∃ (k : Nat) (out : List Int) (lst : Int), m = l.length - k /\ k <= l.length /\ out ++ cellsP (l.drop k) lst = cellsP l last /\ lastP (l.drop k) lst = lastP l last /\ out.length <= 4 * k /\ small lst /\ s = putS G l (g + out.length) (b.length + out.length) ((b ++ out).map vu) lst k)
   (fun s => s = ⟨[(0, .own 0 (g + (cellsP l last).length) 0 (b.length + (cellsP l last).length)), (2, vi (lastP l last))], [.arr (g + (cellsP l last).length) 1 5 ((b ++ cellsP l last).map vu), G]⟩) l.length
   (putS G l g b.length (b.map vu) last 0) (.refl _ _) ⟨0, [], last, by omega, by omega, rfl, rfl, by simp, hl, by simp⟩ ?_ ?_
  rotate_left
  ·rintro s rfl
   simp only [inBlockE, if_true, thenE]
   exact ⟨_, .refl _ _, rfl⟩
  rintro m s ⟨k, out, lst, rfl, hk, ho, hls, hol, hsm, rfl⟩
  by_cases hlt : k < l.length
  ·have g1 : (k : Int) < (l.length : Int) := by omega
   refine CwpE.cut (st := ⟨(14, vb true) :: (putS G l (g + out.length) (b.length + out.length) ((b ++ out).map vu) lst k).env, (putS G l (g + out.length) (b.length + out.length) ((b ++ out).map vu) lst k).objs⟩) ?_ ?_
   ·simp only [go_sem, ↓reduceIte, reduceCtorEq, Nat.reduceLT, Nat.reduceEqDiff, g1]
    exact ⟨_, WkE.keep (by simp only [go_sem, ↓reduceIte, reduceCtorEq, Nat.reduceEqDiff]), rfl⟩
   refine CwpE.cut (st := putS G l (g + out.length) (b.length + out.length) ((b ++ out).map vu) lst k) ?_ ?_
   ·simp only [go_sem, ↓reduceIte]
    exact ⟨_, WkE.keep (by simp only [go_sem, ↓reduceIte, reduceCtorEq, Nat.reduceEqDiff]), rfl⟩
   have hrn := hr _ (List.getElem_mem hlt)
   rw [List.drop_eq_getElem_cons hlt, cellsP] at ho
   rw [List.drop_eq_getElem_cons hlt, lastP] at hls
   refine CwpE.vc (put_any F0 w0 G hG1 l _ _ _ (inn_map (f := vu) fun _ => rfl) lst k hlt (by omega) (by simp) (by omega) l[k] (List.getElem?_eq_getElem hlt) hrn hsm fun s hs => ?_)
   have hnl := noteC_len l[k] (markP l[k].s lst)
   refine ⟨l.length - (k + 1), _, by omega, hs, k + 1, out ++ noteC l[k] (markP l[k].s lst), stepP l[k] lst, rfl, by omega, by rw [List.append_assoc]; exact ho, hls, by rw [List.length_append]; omega, step_small hrn hsm, ?_⟩
   rw [List.length_append, <- Nat.add_assoc, <- Nat.add_assoc, <- List.append_assoc, List.map_append (l₁ := b ++ out)]
  ·have g1 : ¬ (k : Int) < (l.length : Int) := by omega
   rw [List.drop_eq_nil_of_le (by omega), cellsP, List.append_nil] at ho
   rw [List.drop_eq_nil_of_le (by omega), lastP] at hls
   subst ho; subst hls
   refine CwpE.vc ?_
   simp only [go_sem, ↓reduceIte, reduceCtorEq, Nat.reduceLT, Nat.reduceEqDiff, g1]
   exact ⟨_, WkE.keep (by simp only [go_sem, ↓reduceIte, reduceCtorEq, Nat.reduceEqDiff]), rfl⟩
 ·rintro s rfl
  refine CwpE.vc ?_
  simp only [go_sem, ↓reduceIte, reduceCtorEq, Nat.reduceLT, Nat.reduceEqDiff, retM]
  exact .refl _ _
end Go.Proofs.YtnncijjkbonokaaDoor
namespace Go.Proofs.YtnncijjkbonokaaDoor
open Go.RowKit Dak
theorem CtrM.nilN {f : FuncId} {xs : List AV} {r : AV} {base' : List AObj} {size : Nat} {e : TypeId} (h : CtrM Tryd.prog f (.own 0 0 0 0 :: xs) [.arr 0 size e []] r base') (hp : (base'.all AObj.plain) = true) (hi : (base'.all fun o => o.innO base'.length) = true) (hr : r.inn base'.length = true) :
 CtrN Tryd.prog f (.val (.slice none 0 0) :: xs) r base' := by
 obtain ⟨hE, hlen, h⟩ := h
 refine ⟨hE, hp, hi, hr, fun w F vs hgl hl ht => ?_⟩
 have g0 : Dak.Good ⟨fun b => F b /\ b < w.heap.size, (· < w.heap.size), []⟩ w w ⟨fun b => F b /\ b < w.heap.size, fun _ => none⟩ [.arr 0 size e []] :=
  ⟨fun id o h => by
   cases id with
   | zero => simp at h; subst h; rfl
   | succ id => simp at h, fun _ _ => rfl, fun _ _ _ _ _ _ _ h => by simp at h, fun _ _ _ _ h => by simp at h, fun b hb => ⟨.inl hb, hb.2⟩, Kept.refl fun _ h => h, hgl.stay fun b hb hl => ⟨rfl, hb, hl⟩⟩
 refine (h ⟨fun b => F b /\ b < w.heap.size, (· < w.heap.size), []⟩ w w _ vs rfl g0 (by simpa using hl) fun i h1 h2 => ?_).mono ?_
 ·cases i with
  | zero =>
   have := (ht 0 (by simp) h2).val_inv
   simp only [List.getElem_cons_zero, this]
   exact .ownN _ _ _ _ size ⟨e, [], rfl⟩
  | succ i =>
   exact .tree ((ht (i + 1) (by simpa using h1) h2).mono fun b hb hbl => ⟨hb, hbl⟩)
 ·rintro e w' ⟨v, L', rfl, g', _, hv⟩
  exact ⟨v, L', rfl, ⟨g'.obj, g'.out, g'.inj, g'.own, fun b hb => ⟨(g'.old b hb).1.imp (fun h => h.1) fun h => h, (g'.old b hb).2⟩, g'.ext, g'.gl⟩, hv⟩
theorem put_nil (l : List Nt) (last : Int) (hlen : l.length <= 10000) (hr : ∀ n ∈ l, rightP n = true) (hl : small last) :
 CtrN Tryd.prog 36 [.val (.slice none 0 0), vbar l, vi last] (.tup [.own 0 (cellsP l last).length 0 (cellsP l last).length, vi (lastP l last)]) [.arr (cellsP l last).length 1 5 ((cellsP l last).map vu)] := by
 have := put_s 0 [] l last hlen (by simp) hr hl
 simp only [Nat.zero_add, List.length_nil, List.nil_append, List.map_nil] at this
 exact CtrM.nilN this rfl (by simp only [List.all_cons, List.all_nil, AObj.innO, inn_map (f := vu) fun _ => rfl]; rfl) rfl
def barR (l : List Nt) (step : Int) : List Int × Int := if 16 < l.length then ([], 4) else if barP l = true /\ -1 <= step /\ step <= 48 then (cellsP l step, 0) else ([], 1)
theorem snap_res {objs : List AObj} {e : Int} : Snap objs (.tup [.val (.slice none 0 0), vi e]) (.tup [vbytes [], ve e]) :=
 .tup _ _ rfl fun i h1 h2 => by
  match i, h1 with
  | 0, _ => exact .nil _
  | 1, _ => exact .tree _ rfl
theorem snap_bytes {objs : List AObj} {id g : Nat} {e : TypeId} {c : List Int} (h : objs[id]? = some (.arr g 1 e (c.map vu))) : Snap objs (.own id g 0 c.length) (vbytes c) :=
 .own id g 0 c.length 1 e (c.map vu) (c.map vu) h (by simp) (by simp) fun i hi => by
  simp only [Nat.zero_add, List.getElem_map]
  exact .tree _ rfl
theorem Bar_s (l : List Nt) (step : Int) (hlen : l.length <= 9223372036854775806) (ho : ∀ n ∈ l, okA n) : Ctr Tryd.prog 13 [vbar l, vi step] (.tup [vbytes (barR l step).1, ve (barR l step).2]) := by
 refine specE f13 (by simp) fun F0 w0 => ?_
 by_cases a : (16 : Int) < (l.length : Int)
 ·have e : barR l step = ([], 4) := by simp only [barR, show 16 < l.length from by omega, if_true]
  simp only [c13, go_sem, ↓reduceIte, reduceCtorEq, Nat.reduceLT, Nat.reduceEqDiff, a]
  rw [e]
  exact snap_res
 have a' : ¬ 16 < l.length := by omega
 simp only [c13, go_sem, ↓reduceIte, reduceCtorEq, Nat.reduceLT, a]
 refine callT (rightBar_s l hlen ho) rfl ?_
 have wrong : ¬ (barP l = true /\ -1 <= step /\ step <= 48) -> barR l step = ([], 1) := fun h => by simp only [barR, a', h, if_false]
 cases hb : barP l with
 | false =>
  simp only [go_sem, ↓reduceIte, Nat.reduceLT, Nat.reduceEqDiff]
  rw [wrong (by rw [hb]; simp)]
  exact snap_res
 | true =>
  by_cases s1 : step < -1
  ·simp only [go_sem, ↓reduceIte, reduceCtorEq, Nat.reduceLT, Nat.reduceEqDiff, s1]
   rw [wrong (by omega)]
   exact snap_res
  by_cases s2 : 48 < step
  ·simp only [go_sem, ↓reduceIte, reduceCtorEq, Nat.reduceLT, Nat.reduceEqDiff, s1, s2]
   rw [wrong (by omega)]
   exact snap_res
  simp only [go_sem, ↓reduceIte, reduceCtorEq, Nat.reduceLT, Nat.reduceEqDiff, s1, s2]
  have hr : ∀ n ∈ l, rightP n = true := by
   intro n hn
   have : barP l = l.all rightP := barP_pos (List.length_pos_of_mem hn)
   rw [this] at hb
   exact List.all_eq_true.1 hb n hn
  refine callNew (put_nil l step (by omega) hr ⟨by omega, by omega⟩) (snaps_self _ rfl _) ?_
  have e : barR l step = (cellsP l step, 0) := by simp only [barR, a', if_false, hb, show -1 <= step from by omega, show step <= 48 from by omega, and_self, if_true]
  rw [e]
  have hmap : ((cellsP l step).map vu).map (AV.shift 0) = (cellsP l step).map vu := by simp [AV.shift, AV.shift1]
  simp only [go_sem, ↓reduceIte, Nat.reduceLT, Nat.reduceEqDiff, AV.shift, AV.shift1, AObj.shiftO, List.map_cons, List.map_nil, Nat.add_zero]
  rw [hmap]
  refine .tup _ _ rfl fun i h1 h2 => ?_
  match i, h1 with
  | 0, _ => exact snap_bytes rfl
  | 1, _ => exact .tree _ rfl
end Go.Proofs.YtnncijjkbonokaaDoor
namespace Go.Proofs.YtnncijjkbonokaaDoor
open Go.RowKit Dak
def wideP : List (List Int) -> Nat -> Nat
 | [], n => n
 | c :: r, n => wideP r (max n c.length)
theorem max_if (a b : Nat) : (if (a : Int) < (b : Int) then (b : Int) else (a : Int)) = ((max a b : Nat) : Int) := by
 split <;> omega
theorem wide_s (l : List (List Int)) (hl : l.length <= 9223372036854775806) : Ctr Tryd.prog 40 [vpage l] (vi (wideP l 0)) := by
 refine specE f40 (by simp) fun F0 w0 => ?_
 simp only [c40, go_sem, ↓reduceIte, reduceCtorEq, Nat.reduceLT]
 refine loopX 0 (fun m s => ∃ k n : Nat, m = l.length - k /\ k <= l.length /\ wideP (l.drop k) n = wideP l 0 /\ s = ⟨[(3, vi n), (6, vpage l), (7, vi l.length), (8, vi k)], []⟩) (fun s => s = ⟨[(3, vi (wideP l 0))], []⟩) l.length
  ⟨[(3, vi (0 : Nat)), (6, vpage l), (7, vi l.length), (8, vi (0 : Nat))], []⟩ (WkE.keep (by simp only [go_sem, ↓reduceIte, Nat.reduceEqDiff]; rfl)) ⟨0, 0, by omega, by omega, rfl, rfl⟩ ?_ ?_
 rotate_left
 ·rintro s rfl
  simp only [go_sem, ↓reduceIte, Nat.reduceLT]
  exact .tree _ rfl
 rintro m s ⟨k, n, rfl, hk, hw, rfl⟩
 by_cases hlt : k < l.length
 ·have g1 : (k : Int) < (l.length : Int) := by omega
  have g0 : (0 : Int) <= (k : Int) := by omega
  have w1 : IntKind.i64.wrap ((k : Int) + 1) = ((k + 1 : Nat) : Int) := by rw [wrap_id (by omega) (by omega)]; omega
  rw [List.drop_eq_getElem_cons hlt, wideP] at hw
  simp only [go_sem, ↓reduceIte, Nat.reduceLT, Nat.reduceEqDiff, g1, g0, List.getElem?_map, List.getElem?_eq_getElem hlt, w1, List.length_map, max_if]
  exact ⟨l.length - (k + 1), ⟨[(3, vi (max n l[k].length : Nat)), (6, vpage l), (7, vi l.length), (8, vi (k + 1 : Nat))], []⟩, by omega, WkE.keep (by simp only [go_sem, ↓reduceIte, Nat.reduceEqDiff]), k + 1, _, rfl, by omega, hw, rfl⟩
 ·have g1 : ¬ (k : Int) < (l.length : Int) := by omega
  rw [List.drop_eq_nil_of_le (by omega), wideP] at hw
  subst hw
  simp only [go_sem, ↓reduceIte, Nat.reduceLT, Nat.reduceEqDiff, g1]
  exact ⟨_, WkE.keep (by simp only [go_sem, ↓reduceIte, Nat.reduceEqDiff]), rfl⟩
end Go.Proofs.YtnncijjkbonokaaDoor
namespace Go.Proofs.YtnncijjkbonokaaDoor
open Go.RowKit Dak
abbrev vw (n : Int) : AV := .val (.int .u64 n)
theorem snap_eq {objs : List AObj} {a b : AV} (h : b = a) (hb : b.isT = true) : Snap objs a b := h ▸ .tree _ hb
theorem Mul64_11 : Ctr Tryd.prog 99 [vw 1, vw 1] (.tup [vw 0, vw 1]) := by
 refine specE f99 (by simp) fun F0 w0 => ?_
 simp only [c99, go_sem, ↓reduceIte, reduceCtorEq, Nat.reduceLT, Nat.reduceEqDiff, Int.reduceToNat, Int.reduceLT, Int.reduceToNat]
 exact snap_eq (by kernel_rfl) rfl
theorem Mul64_12 : Ctr Tryd.prog 99 [vw 1, vw 2] (.tup [vw 0, vw 2]) := by
 refine specE f99 (by simp) fun F0 w0 => ?_
 simp only [c99, go_sem, ↓reduceIte, reduceCtorEq, Nat.reduceLT, Nat.reduceEqDiff, Int.reduceToNat, Int.reduceLT, Int.reduceToNat]
 exact snap_eq (by kernel_rfl) rfl
theorem Mul_11 : Ctr Tryd.prog 84 [vw 1, vw 1] (.tup [vw 0, vw 1]) := by
 refine specE f84 (by simp) fun F0 w0 => ?_
 simp only [c84, go_sem, ↓reduceIte, reduceCtorEq, Nat.reduceLT, Nat.reduceEqDiff]
 refine callT Mul64_11 rfl ?_
 simp only [go_sem, ↓reduceIte, Nat.reduceLT, Nat.reduceEqDiff]
 exact .tree _ rfl
theorem Mul_12 : Ctr Tryd.prog 84 [vw 1, vw 2] (.tup [vw 0, vw 2]) := by
 refine specE f84 (by simp) fun F0 w0 => ?_
 simp only [c84, go_sem, ↓reduceIte, reduceCtorEq, Nat.reduceLT, Nat.reduceEqDiff]
 refine callT Mul64_12 rfl ?_
 simp only [go_sem, ↓reduceIte, Nat.reduceLT, Nat.reduceEqDiff]
 exact .tree _ rfl
end Go.Proofs.YtnncijjkbonokaaDoor
namespace Go.Proofs.YtnncijjkbonokaaDoor
open Go.RowKit Dak
theorem conv1 : IntKind.u64.wrap 1 = 1 := by decide
theorem conv2 : IntKind.u64.wrap 2 = 2 := by decide
theorem conv1i : IntKind.i64.wrap 1 = 1 := by decide
theorem conv2i : IntKind.i64.wrap 2 = 2 := by decide
theorem Repeat_1 : Ctr Tryd.prog 71 [vints [-1], vi 1] (vints [-1]) := by
 refine specE f71 (by simp) fun F0 w0 => ?_
 have k1 : ((1 : Nat) : Int) = 1 := rfl
 simp only [c71, go_sem, ↓reduceIte, reduceCtorEq, Nat.reduceLT, Nat.reduceEqDiff, Int.reduceLT, Int.reduceNeg, k1, conv1]
 refine callT Mul_11 rfl ?_
 have k8 : ((8 : Nat) : Int) = 8 := rfl
 have n1 : ¬ (1 : Int) > 9223372036854775807 := by decide
 have n2 : ¬ (9223372036854775807 : Int) < 1 := by decide
 have n3 : (8 : Int) * 1 <= 281474976710656 := by decide
 have n4 : (1 : Int) <= 9223372036854775807 := by decide
 simp only [go_sem, List.replicate_succ, ↓reduceIte, reduceCtorEq, Nat.reduceLT, Nat.reduceEqDiff, Int.reduceToNat, Int.reduceLE, Int.reduceNeg, Int.reduceToNat, Int.lt_irrefl, Int.le_refl, n1, n3, n4, conv1i, k8, List.set_cons_zero, List.take_zero]
 refine loopX 0 (fun m s => m = 0 /\ s = ⟨[(7, .own 0 1 0 1), (8, vi 1)], [.arr 1 1 3 [vi (-1)]]⟩) (fun s => s = ⟨[(7, .own 0 1 0 1)], [.arr 1 1 3 [vi (-1)]]⟩) 0 ⟨[(7, .own 0 1 0 1), (8, vi 1)], [.arr 1 1 3 [vi (-1)]]⟩ (WkE.keep (by simp only [go_sem, ↓reduceIte, Nat.reduceEqDiff]; rfl)) ⟨rfl, rfl⟩ ?_ ?_
 rotate_left
 ·rintro s rfl
  simp only [go_sem, ↓reduceIte, Nat.reduceLT]
  exact .own 0 1 0 1 1 3 _ _ rfl (by simp) (by simp) fun i hi => by
   match i, hi with
   | 0, _ => exact .tree _ rfl
 rintro m s ⟨rfl, rfl⟩
 simp only [go_sem, ↓reduceIte, Nat.reduceLT, Nat.reduceEqDiff, Int.reduceNeg, Int.lt_irrefl, k1]
 exact ⟨_, WkE.keep (by simp only [go_sem, ↓reduceIte, Nat.reduceEqDiff]), rfl⟩
theorem Repeat_2 : Ctr Tryd.prog 71 [vints [-1], vi 2] (vints [-1, -1]) := by
 refine specE f71 (by simp) fun F0 w0 => ?_
 have k1 : ((1 : Nat) : Int) = 1 := rfl
 have k2 : ((2 : Nat) : Int) = 2 := rfl
 simp only [c71, go_sem, ↓reduceIte, reduceCtorEq, Nat.reduceLT, Nat.reduceEqDiff, Int.reduceLT, Int.reduceNeg, k1, conv1, conv2]
 refine callT Mul_12 rfl ?_
 have k8 : ((8 : Nat) : Int) = 8 := rfl
 have n2 : ¬ (9223372036854775807 : Int) < 2 := by decide
 have n3 : (8 : Int) * 2 <= 281474976710656 := by decide
 have n4 : (2 : Int) <= 9223372036854775807 := by decide
 have n5 : (1 : Int) < 2 := by decide
 have n6 : (1 : Int) <= 2 := by decide
 have w2 : IntKind.i64.wrap (1 + 1) = 2 := by decide
 have m12 : ((min 2 1 : Nat) : Int) = 1 := rfl
 have m11 : ((min 1 1 : Nat) : Int) = 1 := rfl
 simp only [go_sem, List.replicate_succ, ↓reduceIte, reduceCtorEq, Nat.reduceLT, Nat.reduceEqDiff, Nat.reduceAdd, Int.reduceToNat, Int.reduceLE, Int.reduceNeg, Int.reduceToNat, Int.lt_irrefl, Int.le_refl, n2, n3, n4, conv2i, k8, List.set_cons_zero, List.take_zero]
 refine loopX 0 (fun m s => (m = 1 /\ s = ⟨[(7, .own 0 2 0 2), (8, vi 1)], [.arr 2 1 3 [vi (-1), vi 0]]⟩) \/ (m = 0 /\ s = ⟨[(7, .own 0 2 0 2), (8, vi 2)], [.arr 2 1 3 [vi (-1), vi (-1)]]⟩)) (fun s => s = ⟨[(7, .own 0 2 0 2)], [.arr 2 1 3 [vi (-1), vi (-1)]]⟩) 1 ⟨[(7, .own 0 2 0 2), (8, vi 1)], [.arr 2 1 3 [vi (-1), vi 0]]⟩ (WkE.keep (by simp only [go_sem, ↓reduceIte, Nat.reduceEqDiff]; rfl)) (.inl ⟨rfl, rfl⟩) ?_ ?_
 rotate_left
 ·rintro s rfl
  simp only [go_sem, ↓reduceIte, Nat.reduceLT]
  exact .own 0 2 0 2 1 3 _ _ rfl (by simp) (by simp) fun i hi => by
   match i, hi with
   | 0, _ => exact .tree _ rfl
   | 1, _ => exact .tree _ rfl
 rintro m s (⟨rfl, rfl⟩ | ⟨rfl, rfl⟩)
 ·simp only [go_sem, Nat.reduceLeDiff, ↓reduceIte, Nat.reduceLT, Nat.reduceEqDiff, Nat.reduceAdd, Nat.reduceSub, Int.reduceToNat, Int.reduceLE, Int.reduceNeg, Int.reduceToNat, k2, n5, n6, w2, m11, List.take_succ_cons, List.take_zero, List.drop_zero]
  exact ⟨0, _, by omega, WkE.keep (by simp only [go_sem, ↓reduceIte, Nat.reduceEqDiff]), .inr ⟨rfl, rfl⟩⟩
 ·simp only [go_sem, ↓reduceIte, Nat.reduceLT, Nat.reduceEqDiff, Int.reduceNeg, Int.lt_irrefl, k2]
  exact ⟨_, WkE.keep (by simp only [go_sem, ↓reduceIte, Nat.reduceEqDiff]), rfl⟩
end Go.Proofs.YtnncijjkbonokaaDoor
namespace Go.Proofs.YtnncijjkbonokaaDoor
open Go.RowKit Dak
def findGo (last : Int) : Nat -> Int -> Option Int
 | 0, _ => none
 | f + 1, s => if s <= 48 then if needP s last = true then findGo last f (s + 7) else some s else none
def findP (name octave last : Int) : Option Int := if name = 7 then (if octave < 0 then some (-1) else none) else if 0 <= octave then some (7 * octave + name) else findGo last 8 name
def findR (name octave last : Int) : AV := match findP name octave last with
 | some s => .tup [vi s, vb true]
 | none => .tup [vi (if name = 7 then -1 else 0), vb false]
theorem find_s (name octave last : Int) (hn : 0 <= name /\ name <= 7) (ho : -1 <= octave /\ octave <= 6) (hl : small last) : Ctr Tryd.prog 95 [vi name, vi octave, vi last] (findR name octave last) := by
 refine specE f95 (by simp) fun F0 w0 => ?_
 by_cases a : name = 7
 ·by_cases b : octave < 0
  ·have e : findR name octave last = .tup [vi (-1), vb true] := by simp only [findR, findP, a, b, if_true]
   simp only [c95, go_sem, ↓reduceIte, reduceCtorEq, Nat.reduceLT, Nat.reduceEqDiff, Nat.reduceAdd, Int.reduceNeg, a, b]
   rw [a] at e; rw [e]; exact .tree _ rfl
  ·have e : findR name octave last = .tup [vi (-1), vb false] := by simp only [findR, findP, a, b, if_true, if_false]
   simp only [c95, go_sem, ↓reduceIte, reduceCtorEq, Nat.reduceLT, Nat.reduceEqDiff, Nat.reduceAdd, Int.reduceNeg, a, b]
   rw [a] at e; rw [e]; exact .tree _ rfl
 by_cases b : 0 <= octave
 ·have w1 : IntKind.i64.wrap (7 * octave) = 7 * octave := wrap_id (by omega) (by omega)
  have w2 : IntKind.i64.wrap (7 * octave + name) = 7 * octave + name := wrap_id (by omega) (by omega)
  have e : findR name octave last = .tup [vi (7 * octave + name), vb true] := by simp only [findR, findP, a, b, if_true, if_false]
  simp only [c95, go_sem, ↓reduceIte, reduceCtorEq, Nat.reduceLT, Nat.reduceEqDiff, Nat.reduceAdd, Int.reduceNeg, a, b, w1, w2]
  rw [e]; exact .tree _ rfl
 have e0 : findR name octave last = (match findGo last 8 name with | some s => .tup [vi s, vb true] | none => .tup [vi 0, vb false]) := by
  simp only [findR, findP, a, b, if_false]
 rw [e0]
 simp only [c95, go_sem, ↓reduceIte, reduceCtorEq, Nat.reduceLT, Nat.reduceEqDiff, Nat.reduceAdd, Int.reduceNeg, a, b]
 refine loopX 1 (fun m s => ∃ x : Nat, 48 < (x : Int) + 7 * m /\ x <= 56 /\ findGo last m x = findGo last 8 name /\ s = ⟨[(2, vi last), (8, vi x)], []⟩) (fun s => findGo last 8 name = none /\ s = ⟨[], []⟩) 8 ⟨[(2, vi last), (8, vi name)], []⟩ (WkE.keep (by simp only [go_sem, ↓reduceIte, reduceCtorEq, Nat.reduceEqDiff])) ⟨name.toNat, by omega, by omega, by rw [Int.toNat_of_nonneg hn.1], by rw [Int.toNat_of_nonneg hn.1]⟩ ?_ ?_
 rotate_left
 ·rintro s ⟨e, rfl⟩
  rw [e]
  simp only [go_sem, ↓reduceIte, Nat.reduceLT, Nat.reduceEqDiff]
  exact .tree _ rfl
 rintro f s ⟨x, hf, hx, hg, rfl⟩
 by_cases c : (x : Int) <= 48
 ·cases f with
  | zero => omega
  | succ f =>
   have w1 : IntKind.i64.wrap ((x : Int) + 7) = ((x + 7 : Nat) : Int) := by rw [wrap_id (by omega) (by omega)]; omega
   rw [findGo, if_pos c] at hg
   simp only [go_sem, ↓reduceIte, Nat.reduceLT, Nat.reduceEqDiff, c]
   refine callT (needs_s x last ⟨by omega, by omega⟩ hl) rfl ?_
   cases hb : needP x last with
   | true =>
    rw [if_pos hb] at hg
    simp only [go_sem, ↓reduceIte, Nat.reduceLT, Nat.reduceEqDiff, w1]
    exact ⟨f, _, by omega, WkE.keep (by simp only [go_sem, ↓reduceIte, Nat.reduceEqDiff]), x + 7, by omega, by omega, by rw [<- hg]; rfl, rfl⟩
   | false =>
    rw [if_neg (by rw [hb]; simp)] at hg
    rw [<- hg]
    simp only [go_sem, ↓reduceIte, reduceCtorEq, Nat.reduceLT, Nat.reduceEqDiff]
    exact .tree _ rfl
 ·simp only [go_sem, ↓reduceIte, Nat.reduceLT, Nat.reduceEqDiff, c]
  refine ⟨⟨[], []⟩, WkE.keep trivial, ?_, rfl⟩
  rw [<- hg]
  cases f with
  | zero => rfl
  | succ f => rw [findGo, if_neg c]
end Go.Proofs.YtnncijjkbonokaaDoor
namespace Go.Proofs.YtnncijjkbonokaaDoor
open Go.RowKit Dak
theorem wk_nilN {s : Nat} (e : TypeId) : WkE 1 ⟨[(0, .val (.slice none 0 0))], []⟩ ⟨[(0, .own 0 0 0 0)], [.arr 0 s e []]⟩ := (WkE.nil (n := 1) (env := [(0, .val (.slice none 0 0))]) (objs := []) 0 s e (by omega) rfl).trans (WkE.keep ⟨rfl, trivial⟩)
theorem Clone72_n (l : List Int) (hl : l.length <= 100000) : CtrN Tryd.prog 72 [vbytes l] (.own 0 l.length 0 l.length) [.arr l.length 1 5 (l.map vu)] := by
 refine specN f72 (by simp) rfl (by simp only [List.all_cons, List.all_nil, Bool.and_true, AObj.innO]; exact inn_map (fun _ => rfl)) rfl fun F0 w0 => ?_
 unfold c72
 refine CwpE.cut (st := ⟨[(0, vbytes l)], []⟩) ?_ ?_
 ·simp only [go_sem, ↓reduceIte, Nat.reduceLT]
  exact ⟨_, WkE.keep (by simp only [go_sem, ↓reduceIte, reduceCtorEq]), rfl⟩
 have q1 : l.length <= 140737488355328 := by omega
 cases l with
 | nil =>
  show CwpE _ _ _ _ _ _ ⟨[(0, .list 1 [])], []⟩
  refine CwpE.seqJ (fun st => st = ⟨[(0, .list 1 [])], []⟩) ?_ ?_
  ·refine CwpE.cut (st := ⟨[(4, .anyB), (0, .list 1 [])], []⟩) ?_ ?_
   ·simp only [go_sem, ↓reduceIte, Nat.reduceLT]
    exact ⟨_, WkE.keep (by simp only [go_sem, ↓reduceIte, reduceCtorEq]), rfl⟩
   refine CwpE.split 4 rfl fun b => CwpE.vc ?_
   cases b
   ·simp only [go_sem, ↓reduceIte]
    exact ⟨_, WkE.keep (by simp only [go_sem, ↓reduceIte, reduceCtorEq]), rfl⟩
   ·simp only [go_sem, ↓reduceIte, Nat.reduceLT]
    exact ⟨_, rfl, wk_nilN 5⟩
  ·rintro _ rfl
   refine CwpE.vc ?_
   simp only [go_sem, Nat.reducePow, Nat.reduceLeDiff, ↓reduceIte, reduceCtorEq, Nat.reduceLT, Nat.reduceEqDiff, Nat.reduceMul]
   exact ⟨_, rfl, .refl _ _⟩
 | cons x l =>
  refine CwpE.vc ?_
  have q2 : (l.length + 1) * 1 <= 140737488355328 := by rw [Nat.mul_one]; exact q1
  have q3 : 0 < l.length + 1 := by omega
  simp only [go_sem, Nat.reducePow, Nat.reduceLeDiff, ↓reduceIte, reduceCtorEq, Nat.reduceLT, Nat.reduceEqDiff, Nat.reduceMul, q2, q3]
  exact ⟨_, rfl, .refl _ _⟩
theorem Clone74_n (l : List (List Int)) (hl : l.length <= 100000) : CtrN Tryd.prog 74 [vpage l] (.own 0 l.length 0 l.length) [.arr l.length 1 30 (l.map vbytes)] := by
 refine specN f74 (by simp) rfl (by simp only [List.all_cons, List.all_nil, Bool.and_true, AObj.innO]; exact inn_map (fun _ => rfl)) rfl fun F0 w0 => ?_
 unfold c74
 refine CwpE.cut (st := ⟨[(0, vpage l)], []⟩) ?_ ?_
 ·simp only [go_sem, ↓reduceIte, Nat.reduceLT]
  exact ⟨_, WkE.keep (by simp only [go_sem, ↓reduceIte, reduceCtorEq]), rfl⟩
 have q1 : l.length * 24 <= 140737488355328 := by omega
 cases l with
 | nil =>
  show CwpE _ _ _ _ _ _ ⟨[(0, .list 1 [])], []⟩
  refine CwpE.seqJ (fun st => st = ⟨[(0, .list 1 [])], []⟩) ?_ ?_
  ·refine CwpE.cut (st := ⟨[(4, .anyB), (0, .list 1 [])], []⟩) ?_ ?_
   ·simp only [go_sem, ↓reduceIte, Nat.reduceLT]
    exact ⟨_, WkE.keep (by simp only [go_sem, ↓reduceIte, reduceCtorEq]), rfl⟩
   refine CwpE.split 4 rfl fun b => CwpE.vc ?_
   cases b
   ·simp only [go_sem, ↓reduceIte]
    exact ⟨_, WkE.keep (by simp only [go_sem, ↓reduceIte, reduceCtorEq]), rfl⟩
   ·simp only [go_sem, ↓reduceIte, Nat.reduceLT]
    exact ⟨_, rfl, wk_nilN 30⟩
  ·rintro _ rfl
   refine CwpE.vc ?_
   simp only [go_sem, Nat.reducePow, Nat.reduceLeDiff, ↓reduceIte, reduceCtorEq, Nat.reduceLT, Nat.reduceEqDiff, Nat.reduceMul]
   exact ⟨_, rfl, .refl _ _⟩
 | cons x l =>
  refine CwpE.vc ?_
  have q2 : (l.length + 1) * 24 <= 140737488355328 := q1
  have q3 : 0 < l.length + 1 := by omega
  simp only [go_sem, Nat.reducePow, Nat.reduceLeDiff, ↓reduceIte, reduceCtorEq, Nat.reduceLT, Nat.reduceEqDiff, Nat.reduceMul, q2, q3]
  exact ⟨_, rfl, .refl _ _⟩
theorem getL (L X : List AObj) : (L ++ X)[L.length]? = X[0]? := by rw [List.getElem?_append_right (by omega), Nat.sub_self]
theorem ren_map {α : Type} {f : α -> AV} {l : List α} {σ : Nat -> Nat} (h : ∀ x, (f x).ren σ = f x) : (l.map f).map (AV.ren σ) = l.map f := by
 rw [List.map_map]; exact List.map_congr_left fun x _ => h x
theorem inR_map {α : Type} {f : α -> AV} {l : List α} {B : List AObj} (h : ∀ x, (f x).inR B = true) : (l.map f).all (AV.inR B) = true := by
 refine List.all_eq_true.2 fun y hy => ?_
 obtain ⟨x, _, rfl⟩ := List.mem_map.1 hy
 exact h x
theorem put_at (L : List AObj) (g : Nat) (b : List Int) (l : List Nt) (last : Int) (hlen : l.length <= 10000) (hb : b.length <= 100000) (hr : ∀ n ∈ l, rightP n = true) (hl : small last) :
 CtrM Tryd.prog 36 [.own L.length g 0 b.length, vbar l, vi last] (L ++ [.arr g 1 5 (b.map vu)]) (.tup [.own L.length (g + (cellsP l last).length) 0 (b.length + (cellsP l last).length), vi (lastP l last)]) (L ++ [.arr (g + (cellsP l last).length) 1 5 ((b ++ cellsP l last).map vu)]) := by
 have one : ∀ {g s : Nat} {e : TypeId} {xs : List AV} {i : Nat}, isArr [.arr g s e xs] i = true -> i = 0 := fun h => by have := isArr_lt h; simpa using this
 refine (put_s g b l last hlen hb hr hl).ren (fun _ => L.length) ⟨fun i j hi hj _ => by rw [one hi, one hj], fun i g z e xs h => ?_⟩ ⟨by simp, fun i h => by rw [one h]; rfl, fun i h => ?_, fun i g z e xs h => ?_, fun k hk => ?_⟩ ?_ ?_ ?_ ?_
 ·obtain rfl : i = 0 := by have := (List.getElem?_eq_some_iff.1 h).1; simpa using this
  simp only [List.getElem?_cons_zero, Option.some.injEq, AObj.arr.injEq] at h
  obtain ⟨rfl, rfl, rfl, rfl⟩ := h
  rw [getL, ren_map (fun _ => rfl)]; rfl
 ·cases i with
  | zero => cases h
  | succ i => rfl
 ·obtain rfl : i = 0 := by have := (List.getElem?_eq_some_iff.1 h).1; simpa using this
  simp only [List.getElem?_cons_zero, Option.some.injEq, AObj.arr.injEq] at h
  obtain ⟨rfl, rfl, rfl, rfl⟩ := h
  rw [getL, ren_map (fun _ => rfl)]; rfl
 ·have hk := hk 0 rfl
  by_cases hlt : k < L.length
  ·rw [List.getElem?_append_left hlt, List.getElem?_append_left hlt]
  ·rw [List.getElem?_eq_none (by simp; omega), List.getElem?_eq_none (by simp; omega)]
 ·simp only [List.all_cons, List.all_nil, AObj.inRO, inR_map (f := vu) (fun _ => rfl), Bool.and_true]
 ·simp only [List.all_cons, List.all_nil, AObj.inRO, inR_map (f := vu) (fun _ => rfl), Bool.and_true]
 ·rfl
 ·rfl
end Go.Proofs.YtnncijjkbonokaaDoor
namespace Go.Proofs.YtnncijjkbonokaaDoor
open Go.RowKit Dak
theorem snap_sys {objs : List AObj} {a b c : AV} {lines : List (List Int)} {last : List Int} {bars : Int} (hc : c = vi bars) (h1 : Snap objs a (vpage lines)) (h2 : Snap objs b (vints last)) : Snap objs (.agg [a, b, c]) (.agg [vpage lines, vints last, vi bars]) :=
 .agg _ _ rfl fun i h h' => by
  match i, h with
  | 0, _ => exact h1
  | 1, _ => exact h2
  | 2, _ => subst hc; exact .tree _ rfl
abbrev vsys (lines : List (List Int)) (last : List Int) (bars : Int) : AV := .agg [vpage lines, vints last, vi bars]
theorem newSystem_1 : Ctr Tryd.prog 39 [vi 1] (vsys [[]] [-1] 0) := by
 refine specE f39 (by simp) fun F0 w0 => ?_
 have k1 : ((1 : Nat) : Int) = 1 := rfl
 have k24 : ((24 : Nat) : Int) = 24 := rfl
 have n1 : ¬ (1 : Int) = 2 := by decide
 have n2 : (24 : Int) * 1 <= 281474976710656 := by decide
 simp only [c39, go_sem, List.replicate_succ, Nat.reducePow, Nat.reduceLeDiff, ↓reduceIte, reduceCtorEq, Nat.reduceLT, Nat.reduceEqDiff, Nat.reduceAdd, Nat.reduceMul, Int.reduceToNat, Int.reduceLE, Int.reduceNeg, Int.reduceToNat, Int.le_refl, k24, n2]
 refine callT Repeat_1 rfl ?_
 simp only [go_sem, Nat.reduceLeDiff, ↓reduceIte, reduceCtorEq, Nat.reduceLT, Nat.reduceEqDiff, Nat.reduceAdd, Int.reduceNeg, n1]
 exact snap_sys rfl (.own 1 1 0 1 1 30 _ _ rfl (by simp) (by simp) fun i hi => by
  match i, hi with
  | 0, _ => exact .nil _) (.tree _ rfl)
theorem newSystem_2 : Ctr Tryd.prog 39 [vi 2] (vsys [[60], [28]] [-1, -1] 0) := by
 refine specE f39 (by simp) fun F0 w0 => ?_
 have k2 : ((2 : Nat) : Int) = 2 := rfl
 have k24 : ((24 : Nat) : Int) = 24 := rfl
 have n2 : (24 : Int) * 2 <= 281474976710656 := by decide
 simp only [c39, go_sem, List.replicate_succ, Nat.reducePow, Nat.reduceLeDiff, ↓reduceIte, reduceCtorEq, Nat.reduceLT, Nat.reduceEqDiff, Nat.reduceAdd, Nat.reduceMul, Int.reduceToNat, Int.reduceLE, Int.reduceNeg, Int.reduceToNat, Int.le_refl, k24, n2]
 refine callT Repeat_2 rfl ?_
 simp only [go_sem, Nat.reducePow, Nat.reduceLeDiff, ↓reduceIte, reduceCtorEq, Nat.reduceLT, Nat.reduceEqDiff, Nat.reduceAdd, Nat.reduceMul, Int.reduceToNat, Int.reduceLT, Int.reduceLE, Int.reduceNeg, Int.reduceToNat, Int.le_refl, k2]
 exact snap_sys rfl (.own 1 2 0 2 1 30 _ _ rfl (by simp) (by simp) fun i hi => by
  match i, hi with
  | 0, _ => exact .tree _ rfl
  | 1, _ => exact .tree _ rfl) (.tree _ rfl)
def padC (bars : Nat) (w : Nat) (c : List Int) : List Int := if 0 < bars then c ++ List.replicate (w - c.length) 0 ++ [0] else c
def addC (bars : Nat) (w : Nat) (c : List Int) (nb : List Nt) (l : Int) : List Int := padC bars w c ++ cellsP nb l
abbrev addS (lines : List (List Int)) (last : List Int) (bars : Nat) (m : List (List (List Nt))) (bar n w h : Nat) (X Y : List AV) : Est :=
 ⟨[(2, vi bar), (3, .ref 0 1 0 0), (4, .ref 1 1 0 0), (6, .ref 2 1 0 0), (7, .ref 5 1 0 0), (8, vi w), (27, vpage lines), (28, vi n), (29, vi h)],
  [.arr 1 3 71 [vsys lines last bars], .arr 1 1 25 [vmel m], .arr 1 3 71 [.agg [.val (.slice none 0 0), .val (.slice none 0 0), .val (.int .i64 0)]], .arr n 1 30 X, .arr n 1 3 Y, .arr 1 3 71 [.agg [.own 3 n 0 n, .own 4 n 0 n, vi (bars + 1)]]]⟩
abbrev addB : CCode := match c41 with | .seq _ (.seq _ (.seq _ (.seq (.seq _ (.block _ (.loop b))) _))) => b | _ => .skip
theorem map_shift6 (z : List Int) : (z.map vu).map (AV.shift 6) = z.map vu := by simp [AV.shift, AV.shift1]
theorem inn_set {X : List AV} {k h : Nat} (hX : (X.all (AV.inn k)) = true) {v : AV} (hv : v.inn k = true) : ((X.set h v).all (AV.inn k)) = true := by
 refine List.all_eq_true.2 fun y hy => ?_
 rcases List.mem_or_eq_of_mem_set hy with h1 | rfl
 ·exact List.all_eq_true.1 hX y h1
 ·exact hv
theorem add_round (F0 : FD) (w0 : World) (lines : List (List Int)) (last : List Int) (bars : Nat) (m : List (List (List Nt))) (bar n w h : Nat) (X Y : List AV) (c : List Int) (l : Int) (hd : List (List Nt)) (nb : List Nt)
 (h1 : lines[h]? = some c) (h2 : last[h]? = some l) (h3 : m[h]? = some hd) (h4 : hd[bar]? = some nb) (hXi : ∀ k, (X.all (AV.inn k)) = true) (hYi : ∀ k, (Y.all (AV.inn k)) = true) (hx : X[h]? = some (.val (.slice none 0 0))) (hy : Y[h]? = some (vi 0)) (hX : X.length = n) (hY : Y.length = n) (hh : h < n) (hn : n <= 10000) (hc : c.length <= w) (hw : w <= 10000) (hnb : nb.length <= 10000) (hr : ∀ n ∈ nb, rightP n = true) (hl : small l)
 {Q : Exit -> Est -> Prop} (hQ : ∀ s, WkE 75 s (addS lines last bars m bar n w (h + 1) (X.set h (vbytes (addC bars w c nb l))) (Y.set h (vi (lastP nb l)))) -> Q .normal s) : CwpE Tryd.prog F0 w0 75 addB Q (addS lines last bars m bar n w h X Y) := by
 have g0 : (0 : Int) <= (h : Int) := by omega
 have g1 : (h : Int) < (n : Int) := by omega
 have gb : (0 : Int) <= (bar : Int) := by omega
 have w1 : IntKind.i64.wrap ((h : Int) + 1) = ((h + 1 : Nat) : Int) := by rw [wrap_id (by omega) (by omega)]; omega
 unfold addB c41
 refine CwpE.cut (st := ⟨(30, vb true) :: (addS lines last bars m bar n w h X Y).env, (addS lines last bars m bar n w h X Y).objs⟩) ?_ ?_
 ·simp only [go_sem, ↓reduceIte, Nat.reduceLT, Nat.reduceEqDiff, g1]
  exact ⟨_, WkE.keep (by simp only [go_sem, ↓reduceIte, Nat.reduceEqDiff]), rfl⟩
 refine CwpE.cut (st := addS lines last bars m bar n w h X Y) ?_ ?_
 ·simp only [go_sem, ↓reduceIte]
  exact ⟨_, WkE.keep (by simp only [go_sem, ↓reduceIte, Nat.reduceEqDiff]), rfl⟩
 refine CwpE.seqJ (fun s => s = (addS lines last bars m bar n w h (X.set h (vbytes (addC bars w c nb l))) (Y.set h (vi (lastP nb l))))) (CwpE.block ?_) ?_
 rotate_left
 ·rintro _ rfl
  refine CwpE.vc ?_
  simp only [go_sem, ↓reduceIte, Nat.reduceLT, Nat.reduceEqDiff, w1]
  exact hQ _ (WkE.keep (by simp only [go_sem, ↓reduceIte, Nat.reduceEqDiff]))
 refine CwpE.cut (st := ⟨[(9, vi h), (10, vbytes c)] ++ (addS lines last bars m bar n w h X Y).env, (addS lines last bars m bar n w h X Y).objs⟩) ?_ ?_
 ·simp only [go_sem, ↓reduceIte, Nat.reduceLT, Nat.reduceEqDiff, g0, List.getElem?_map, h1, Option.map_some, List.cons_append, List.nil_append]
  exact ⟨_, WkE.keep (by simp only [go_sem, ↓reduceIte, Nat.reduceEqDiff]), rfl⟩
 refine CwpE.cut (st := ⟨[(9, vi h), (10, .own 6 c.length 0 c.length)] ++ (addS lines last bars m bar n w h X Y).env, (addS lines last bars m bar n w h X Y).objs ++ [.arr c.length 1 5 (c.map vu)]⟩) ?_ ?_
 ·simp only [go_sem, ↓reduceIte, Nat.reduceLT, Nat.reduceEqDiff, List.cons_append, List.nil_append]
  refine callNew (Clone72_n c (by omega)) (.cons (.tree _ rfl) .nil) ?_
  simp only [go_sem, ↓reduceIte, Nat.reduceLT, Nat.reduceAdd, AV.shift, AV.shift1, AObj.shiftO, List.map_cons, List.map_nil, Nat.zero_add, List.length_cons, List.length_nil, Nat.reduceAdd, map_shift6, List.cons_append, List.nil_append]
  exact ⟨_, WkE.keep (by simp only [go_sem, ↓reduceIte, Nat.reduceEqDiff]), rfl⟩
 refine CwpE.seqJ (fun s => s = ⟨[(9, vi h), (10, .own 6 (padC bars w c).length 0 (padC bars w c).length)] ++ (addS lines last bars m bar n w h X Y).env, (addS lines last bars m bar n w h X Y).objs ++ [.arr (padC bars w c).length 1 5 ((padC bars w c).map vu)]⟩) ?_ ?_
 ·refine CwpE.vc ?_
  by_cases b : 0 < bars
  ·have b' : (0 : Int) < (bars : Int) := by omega
   have w2 : IntKind.i64.wrap ((w : Int) - (c.length : Int)) = ((w - c.length : Nat) : Int) := by rw [wrap_id (by omega) (by omega)]; omega
   have w3 : (0 : Int) <= ((w - c.length : Nat) : Int) /\ ((w - c.length : Nat) : Int) <= 140737488355328 := by omega
   have w4 : c.length + (w - c.length) <= 140737488355328 := by omega
   have w5 : c.length + (w - c.length) + 1 <= 140737488355328 := by omega
   simp only [go_sem, Nat.reducePow, Nat.reduceLeDiff, ↓reduceIte, Nat.reduceLT, Nat.reduceEqDiff, Nat.reduceAdd, b', w2, w3, w4, w5, List.cons_append, List.nil_append, Int.toNat_natCast, List.length_replicate, Nat.mul_one, and_self]
   have e : padC bars w c = c ++ List.replicate (w - c.length) 0 ++ [0] := by simp only [padC, b, if_true]
   have el : (padC bars w c).length = c.length + (w - c.length) + 1 := by simp only [e, List.length_append, List.length_replicate, List.length_cons, List.length_nil]
   have em : (padC bars w c).map vu = c.map vu ++ List.replicate (w - c.length) (.val (.int .u8 0)) ++ [.val (.int .u8 0)] := by rw [e]; simp
   rw [el, em]
   exact ⟨_, WkE.keep (by simp only [go_sem, ↓reduceIte, Nat.reduceEqDiff]), rfl⟩
  ·have b' : ¬ (0 : Int) < (bars : Int) := by omega
   have e : padC bars w c = c := by simp only [padC, b, if_false]
   rw [e]
   simp only [go_sem, ↓reduceIte, Nat.reduceLT, Nat.reduceEqDiff, b', List.cons_append, List.nil_append]
   exact ⟨_, WkE.keep (by simp only [go_sem, ↓reduceIte, Nat.reduceEqDiff]), rfl⟩
 rintro _ rfl
 refine CwpE.vc ?_
 simp only [go_sem, ↓reduceIte, Nat.reduceLT, Nat.reduceEqDiff, List.cons_append, List.nil_append, g0, gb, List.getElem?_map, h2, h3, h4, Option.map_some]
 have pl : (padC bars w c).length <= 30000 := by
  unfold padC; split
  ·simp only [List.length_append, List.length_replicate, List.length_cons, List.length_nil]; omega
  ·omega
 refine callM _ [] _ (put_at [.arr 1 3 71 [vsys lines last bars], .arr 1 1 25 [vmel m], .arr 1 3 71 [.agg [.val (.slice none 0 0), .val (.slice none 0 0), .val (.int .i64 0)]], .arr n 1 30 X, .arr n 1 3 Y, .arr 1 3 71 [.agg [.own 3 n 0 n, .own 4 n 0 n, vi (bars + 1)]]] (padC bars w c).length (padC bars w c) nb l hnb (by omega) hr hl) rfl ?_ rfl ?_
 ·simp only [List.cons_append, List.nil_append, List.all_cons, List.all_nil, AObj.innO, hXi, hYi, inn_map (f := vu) (fun _ => rfl), List.length_cons, List.length_nil, AV.inn, AV.inn1, Nat.zero_add, Nat.reduceAdd, Bool.and_self, Bool.and_true]
  rfl
 simp only [go_sem, ↓reduceIte, Nat.reduceLT, Nat.reduceEqDiff, Nat.reduceAdd, List.cons_append, List.nil_append, g0, g1, hx, hy]
 have fl : 0 + ((padC bars w c).length + (cellsP nb l).length) <= ((padC bars w c ++ cellsP nb l).map vu).length := by simp
 have hset : (X.set h (.own 6 ((padC bars w c).length + (cellsP nb l).length) 0 ((padC bars w c).length + (cellsP nb l).length)))[h]? = some (.own 6 ((padC bars w c).length + (cellsP nb l).length) 0 ((padC bars w c).length + (cellsP nb l).length)) := List.getElem?_set_self (by omega)
 refine ⟨_, (WkE.freezeCell 3 n 1 h 0 6 ((padC bars w c).length + (cellsP nb l).length) 0 ((padC bars w c).length + (cellsP nb l).length) 1 30 5 _ _ _ rfl hset rfl rfl (by omega) fl (List.all_eq_true.2 fun y hy => by obtain ⟨z, _, rfl⟩ := List.mem_map.1 hy; rfl)).trans (WkE.round ?_ ?_ ?_ ?_), rfl⟩
 ·simp only [go_sem, ↓reduceIte, Nat.reduceEqDiff]
 ·rfl
 ·simp only [List.all_cons, List.all_nil, AObj.innO, inn_set (hXi 6) (v := vbytes (addC bars w c nb l)) rfl, inn_set (hYi 6) (v := vi (lastP nb l)) rfl, AV.inn, AV.inn1, Nat.zero_add, Nat.reduceAdd, Bool.and_self, Bool.and_true, List.length_cons, List.length_nil]
  rfl
 ·have e : List.take ((padC bars w c).length + (cellsP nb l).length) ((padC bars w c ++ cellsP nb l).map vu) = (addC bars w c nb l).map vu := List.take_of_length_le (by simp)
  simp only [List.set_cons_succ, List.set_cons_zero, List.take_succ_cons, List.take_zero, List.length_cons, List.length_nil, Nat.zero_add, Nat.reduceAdd, recell, AV.cells, List.set_set, List.drop_zero, e]
theorem inn_data {α : Type} {f : α -> AV} (h : ∀ x k, (f x).inn k = true) (l : List α) (n : Nat) (v : AV) (hv : ∀ k, v.inn k = true) (k : Nat) : ((l.map f ++ List.replicate n v).all (AV.inn k)) = true := by
 rw [List.all_append, inn_map fun x => h x k]
 refine Bool.and_eq_true_iff.2 ⟨rfl, List.all_eq_true.2 fun y hy => ?_⟩
 rw [List.eq_of_mem_replicate hy]; exact hv k
theorem set_next {α : Type} {f : α -> AV} {l : List α} {n h : Nat} {v : AV} {x : α} (hl : l.length = n) (hh : h < n) (hx : l[h]? = some x) : (((l.take h).map f ++ List.replicate (n - h) v).set h (f x)) = (l.take (h + 1)).map f ++ List.replicate (n - (h + 1)) v := by
 have e : n - h = (n - (h + 1)) + 1 := by omega
 have hlt : h < l.length := by omega
 have hx' : l[h] = x := by rw [List.getElem?_eq_getElem hlt] at hx; exact Option.some.inj hx
 rw [e, List.replicate_succ, List.set_append_right _ _ (by simp; omega), List.length_map, List.length_take, Nat.min_eq_left (by omega), Nat.sub_self, List.set_cons_zero, List.take_succ_eq_append_getElem hlt, List.map_append, List.append_assoc, hx']; rfl
theorem get_next {α : Type} {f : α -> AV} {l : List α} {n h : Nat} {v : AV} (hl : l.length = n) (hh : h < n) : ((l.take h).map f ++ List.replicate (n - h) v)[h]? = some v := by
 rw [List.getElem?_append_right (by simp; omega), List.getElem?_replicate, if_pos (by simp; omega)]
theorem snap_all {α : Type} {objs : List AObj} {f : α -> AV} {g s : Nat} {e : TypeId} {id : Nat} (l : List α) (n : Nat) (hn : l.length = n) (h : objs[id]? = some (.arr g s e (l.map f))) (hT : ∀ x, (f x).isT = true) : Snap objs (.own id g 0 n) (.list s (l.map f)) := by
 refine .own id g 0 n s e (l.map f) (l.map f) h (by simp; omega) (by simp; omega) fun i h => ?_
 simp only [Nat.zero_add, List.getElem_map]
 exact .tree _ (hT _)
theorem add_s (lines : List (List Int)) (last : List Int) (bars : Nat) (m : List (List (List Nt))) (bar w : Nat) (outs : List (List Int)) (lasts : List Int) (hw0 : wideP lines 0 = w) (hw : w <= 10000) (hwl : ∀ c ∈ lines, c.length <= w) (hn : lines.length <= 10000) (hbars : bars <= 10000)
 (h1 : last.length = lines.length) (h2 : outs.length = lines.length) (h3 : lasts.length = lines.length)
 (H : ∀ (h : Nat) (c : List Int) (l : Int), lines[h]? = some c -> last[h]? = some l -> ∃ (hd : List (List Nt)) (nb : List Nt), m[h]? = some hd /\ hd[bar]? = some nb /\ nb.length <= 10000 /\ (∀ n ∈ nb, rightP n = true) /\ small l /\ outs[h]? = some (addC bars w c nb l) /\ lasts[h]? = some (lastP nb l)) :
 Ctr Tryd.prog 41 [vsys lines last bars, vmel m, vi bar] (vsys outs lasts (bars + 1)) := by
 refine specE f41 (by simp) fun F0 w0 => ?_
 obtain ⟨n, hnn⟩ : ∃ n, lines.length = n := ⟨_, rfl⟩
 rw [hnn] at h1 h2 h3 hn
 have k24 : ((24 : Nat) : Int) = 24 := rfl
 have k8 : ((8 : Nat) : Int) = 8 := rfl
 have n0 : (0 : Int) <= (n : Int) := by omega
 have n1 : (n : Int) <= 9223372036854775807 := by omega
 have n2 : (24 : Int) * (n : Int) <= 281474976710656 := by omega
 have n3 : (8 : Int) * (n : Int) <= 281474976710656 := by omega
 have w1 : IntKind.i64.wrap ((bars : Int) + 1) = (bars : Int) + 1 := wrap_id (by omega) (by omega)
 simp only [c41, go_sem, Nat.reduceLeDiff, ↓reduceIte, reduceCtorEq, Nat.reduceLT, Nat.reduceEqDiff, Nat.reduceAdd, Int.le_refl, k24, k8, n0, n1, n2, n3, w1, hnn, Int.toNat_natCast, List.length_map]
 refine callT (wide_s lines (by omega)) rfl ?_
 rw [hw0]
 simp only [go_sem, ↓reduceIte, Nat.reduceLT, Nat.reduceEqDiff, hnn, List.length_map]
 refine loopXC 0 (fun m' s => ∃ h : Nat, m' = n - h /\ h <= n /\ s = addS lines last bars m bar n w h ((outs.take h).map vbytes ++ List.replicate (n - h) (.val (.slice none 0 0))) ((lasts.take h).map vi ++ List.replicate (n - h) (vi 0)))
  (fun s => s = addS lines last bars m bar n w n (outs.map vbytes) (lasts.map vi)) n (addS lines last bars m bar n w 0 (List.replicate n (.val (.slice none 0 0))) (List.replicate n (vi 0))) (WkE.keep (by simp only [go_sem, ↓reduceIte, reduceCtorEq, Nat.reduceEqDiff]; rfl)) ⟨0, by omega, by omega, by simp⟩ ?_ ?_
 rotate_left
 ·rintro s rfl
  simp only [go_sem, ↓reduceIte, Nat.reduceEqDiff, Nat.reduceAdd]
  exact snap_sys rfl (snap_all outs n h2 rfl fun _ => rfl) (snap_all lasts n h3 rfl fun _ => rfl)
 rintro m' s ⟨h, rfl, hh, rfl⟩
 by_cases hlt : h < n
 ·obtain ⟨c, hc⟩ : ∃ c, lines[h]? = some c := ⟨_, List.getElem?_eq_getElem (by omega)⟩
  obtain ⟨l, hl⟩ : ∃ l, last[h]? = some l := ⟨_, List.getElem?_eq_getElem (by omega)⟩
  obtain ⟨hd, nb, q1, q2, q3, q4, q5, q6, q7⟩ := H h c l hc hl
  refine add_round F0 w0 lines last bars m bar n w h _ _ c l hd nb hc hl q1 q2 (inn_data (fun _ _ => rfl) _ _ _ fun _ => rfl) (inn_data (fun _ _ => rfl) _ _ _ fun _ => rfl) (get_next h2 hlt) (get_next h3 hlt) (by simp; omega) (by simp; omega) hlt hn (hwl c (List.mem_of_getElem? hc)) hw q3 q4 q5 fun s hs => ?_
  rw [set_next h2 hlt q6, set_next h3 hlt q7] at hs
  exact ⟨n - (h + 1), _, by omega, hs, h + 1, rfl, by omega, rfl⟩
 ·obtain rfl : h = n := by omega
  have g1 : ¬ (h : Int) < (h : Int) := by omega
  refine CwpE.vc ?_
  simp only [go_sem, ↓reduceIte, Nat.reduceLT, Nat.reduceEqDiff, g1]
  rw [List.take_of_length_le (by omega), List.take_of_length_le (by omega)]
  simp only [Nat.sub_self, List.replicate_zero, List.append_nil]
  exact ⟨_, WkE.keep (by simp only [go_sem, ↓reduceIte, Nat.reduceEqDiff]), rfl⟩
end Go.Proofs.YtnncijjkbonokaaDoor
namespace Go.Proofs.YtnncijjkbonokaaDoor
open Go.RowKit Dak
def addL (bars w bar : Nat) : List (List Int) -> List Int -> List (List (List Nt)) -> List (List Int)
 | c :: cs, l :: ls, h :: hs => addC bars w c (h.getD bar []) l :: addL bars w bar cs ls hs
 | _, _, _ => []
def addT (bar : Nat) : List Int -> List (List (List Nt)) -> List Int
 | l :: ls, h :: hs => lastP (h.getD bar []) l :: addT bar ls hs
 | _, _ => []
structure Sys where
 ls : List (List Int)
 la : List Int
 n : Nat
def Sys.add (s : Sys) (m : List (List (List Nt))) (bar : Nat) : Sys := ⟨addL s.n (wideP s.ls 0) bar s.ls s.la m, addT bar s.la m, s.n + 1⟩
def firstP (n : Nat) : Sys := ⟨if n = 2 then [[60], [28]] else List.replicate n [], List.replicate n (-1), 0⟩
abbrev vsysS (s : Sys) : AV := vsys s.ls s.la s.n
abbrev manyP (m : List (List (List Nt))) : Nat := (m.headD []).length
structure Vm (m : List (List (List Nt))) : Prop where
 hands : m.length = 1 \/ m.length = 2
 pos : 1 <= manyP m /\ manyP m <= 32
 bars : ∀ h ∈ m, h.length = manyP m
 notes : ∀ h ∈ m, ∀ b ∈ h, b.length <= 16 /\ 0 < b.length /\ ∀ n ∈ b, rightP n = true
theorem vm_of {m : List (List (List Nt))} (h : validE m = 0) : Vm m := by
 cases h1 : (decide (2 < m.length) || m.any longP) with
 | true => rw [validE, h1] at h; cases h
 | false =>
  cases h2 : (decide (m.length = 0) || m.any (wrongP (m.headD []).length)) with
  | true => rw [validE, h1, h2] at h; cases h
  | false =>
   simp only [Bool.or_eq_false_iff, decide_eq_false_iff_not] at h1 h2
   obtain ⟨a1, a2⟩ := h1
   obtain ⟨b1, b2⟩ := h2
   have long : ∀ h ∈ m, h.length <= 32 /\ ∀ b ∈ h, b.length <= 16 := fun h hm => by
    have := List.any_eq_false.1 a2 h hm
    simp only [longP, Bool.or_eq_true, decide_eq_true_eq, not_or, List.any_eq_true, not_exists, not_and] at this
    exact ⟨by omega, fun b hb => by have := this.2 b hb; omega⟩
   have wrong : ∀ h ∈ m, h.length = manyP m /\ 0 < h.length /\ ∀ b ∈ h, barP b = true := fun h hm => by
    have := List.any_eq_false.1 b2 h hm
    simp only [wrongP, Bool.or_eq_true, decide_eq_true_eq, not_or, List.any_eq_true, not_exists, not_and, Bool.not_eq_true', Bool.not_eq_false] at this
    exact ⟨by show h.length = (m.headD []).length; omega, by omega, fun b hb => this.2 b hb⟩
   have hd : m.headD [] ∈ m := by cases m with | nil => simp at b1 | cons x l => simp
   refine ⟨by omega, ⟨(wrong _ hd).2.1, (long _ hd).1⟩, fun h hm => (wrong h hm).1, fun h hm b hb => ?_⟩
   have hbp := (wrong h hm).2.2 b hb
   have hne : 0 < b.length := by
    rcases Nat.eq_zero_or_pos b.length with e | e
    ·rw [barP_nil e] at hbp; cases hbp
    ·exact e
   refine ⟨(long h hm).2 b hb, hne, ?_⟩
   rw [barP_pos hne] at hbp
   exact fun n hn => List.all_eq_true.1 hbp n hn
theorem cells_len : ∀ (l : List Nt) (s : Int), (cellsP l s).length <= 4 * l.length
 | [], _ => by simp [cellsP]
 | n :: l, s => by
  have := noteC_len n (markP n.s s)
  have := cells_len l (stepP n s)
  simp only [cellsP, List.length_append, List.length_cons]; omega
theorem last_small : ∀ (l : List Nt) (s : Int), (∀ n ∈ l, rightP n = true) -> small s -> small (lastP l s)
 | [], _, _, h => h
 | n :: l, s, hr, h => last_small l _ (fun x hx => hr x (by simp [hx])) (step_small (hr n (by simp)) h)
theorem wide_mono : ∀ (l : List (List Int)) (n : Nat), n <= wideP l n /\ (∀ c ∈ l, c.length <= wideP l n)
 | [], n => ⟨Nat.le_refl _, fun _ h => by simp at h⟩
 | c :: l, n => by
  have := wide_mono l (max n c.length)
  simp only [wideP]
  refine ⟨by omega, fun x hx => ?_⟩
  rcases List.mem_cons.1 hx with rfl | hx
  ·omega
  ·exact this.2 x hx
theorem wide_le : ∀ (l : List (List Int)) (n k : Nat), n <= k -> (∀ c ∈ l, c.length <= k) -> wideP l n <= k
 | [], n, k, h, _ => h
 | c :: l, n, k, h, hc => by
  simp only [wideP]
  exact wide_le l _ k (by have := hc c (by simp); omega) fun x hx => hc x (by simp [hx])
theorem addL_len (bars w bar : Nat) : ∀ (cs : List (List Int)) (ls : List Int) (hs : List (List (List Nt))), cs.length = hs.length -> ls.length = hs.length -> (addL bars w bar cs ls hs).length = hs.length
 | [], [], [], _, _ => rfl
 | c :: cs, l :: ls, h :: hs, h1, h2 => by
  simp only [addL, List.length_cons, addL_len bars w bar cs ls hs (by simpa using h1) (by simpa using h2)]
 | [], _ :: _, [], _, h => by simp at h
 | [], _, _ :: _, h, _ => by simp at h
 | _ :: _, _, [], h, _ => by simp at h
 | _ :: _, [], _ :: _, _, h => by simp at h
theorem addT_len (bar : Nat) : ∀ (ls : List Int) (hs : List (List (List Nt))), ls.length = hs.length -> (addT bar ls hs).length = hs.length
 | [], [], _ => rfl
 | l :: ls, h :: hs, h1 => by simp only [addT, List.length_cons, addT_len bar ls hs (by simpa using h1)]
 | [], _ :: _, h => by simp at h
 | _ :: _, [], h => by simp at h
theorem addL_get (bars w bar : Nat) : ∀ (cs : List (List Int)) (ls : List Int) (hs : List (List (List Nt))) (i : Nat) (c : List Int) (l : Int) (h : List (List Nt)), cs[i]? = some c -> ls[i]? = some l -> hs[i]? = some h ->
 (addL bars w bar cs ls hs)[i]? = some (addC bars w c (h.getD bar []) l) /\ (addT bar ls hs)[i]? = some (lastP (h.getD bar []) l)
 | [], _, _, _, _, _, _, h, _, _ => by simp at h
 | _ :: _, [], _, _, _, _, _, _, h, _ => by simp at h
 | _ :: _, _ :: _, [], _, _, _, _, _, _, h => by simp at h
 | c :: cs, l :: ls, h :: hs, 0, _, _, _, h1, h2, h3 => by
  simp only [List.getElem?_cons_zero, Option.some.injEq] at h1 h2 h3
  subst h1; subst h2; subst h3
  exact ⟨rfl, rfl⟩
 | c :: cs, l :: ls, h :: hs, i + 1, c', l', h', h1, h2, h3 => addL_get bars w bar cs ls hs i c' l' h' (by simpa using h1) (by simpa using h2) (by simpa using h3)
structure Sok (m : List (List (List Nt))) (s : Sys) : Prop where
 l1 : s.ls.length = m.length
 l2 : s.la.length = m.length
 sm : ∀ l ∈ s.la, small l
theorem sok_first {m : List (List (List Nt))} (hm : Vm m) : Sok m (firstP m.length) := by
 refine ⟨?_, by simp [firstP], fun l hl => ?_⟩
 ·rcases hm.hands with h | h <;> simp [firstP, h]
 ·rw [firstP] at hl
  rw [List.eq_of_mem_replicate hl]; exact ⟨by omega, by omega⟩
theorem getD_mem {α : Type} {l : List (List α)} {i : Nat} (h : i < l.length) : l.getD i [] ∈ l := by
 rw [List.getD_eq_getElem?_getD, List.getElem?_eq_getElem h]; exact List.getElem_mem h
theorem sok_add {m : List (List (List Nt))} (hm : Vm m) {s : Sys} (h : Sok m s) {bar : Nat} (hb : bar < manyP m) : Sok m (s.add m bar) := by
 refine ⟨addL_len _ _ _ _ _ _ h.l1 h.l2, addT_len _ _ _ h.l2, fun l hl => ?_⟩
 obtain ⟨i, hi, rfl⟩ := List.getElem_of_mem hl
 have hi' : i < m.length := by rw [show (s.add m bar).la.length = m.length from addT_len _ _ _ h.l2] at hi; exact hi
 have hs1 : i < s.ls.length := by rw [h.l1]; exact hi'
 have hs2 : i < s.la.length := by rw [h.l2]; exact hi'
 have := (addL_get s.n (wideP s.ls 0) bar s.ls s.la m i _ _ _ (List.getElem?_eq_getElem hs1) (List.getElem?_eq_getElem hs2) (List.getElem?_eq_getElem hi')).2
 have e : (s.add m bar).la[i] = lastP (m[i].getD bar []) s.la[i] := by
  have h2 : (addT bar s.la m)[i]? = some ((s.add m bar).la[i]) := List.getElem?_eq_getElem hi
  rw [this] at h2; exact (Option.some.inj h2).symm
 rw [e]
 have hbar := hm.bars m[i] (List.getElem_mem hi')
 refine last_small _ _ (fun n hn => ?_) (h.sm _ (List.getElem_mem hs2))
 exact (hm.notes _ (List.getElem_mem hi') _ (getD_mem (by omega))).2.2 n hn
theorem add_wide {m : List (List (List Nt))} (hm : Vm m) {s : Sys} (h : Sok m s) {bar : Nat} (hb : bar < manyP m) : wideP (s.add m bar).ls 0 <= wideP s.ls 0 + 65 := by
 refine wide_le _ _ _ (Nat.zero_le _) fun c hc => ?_
 obtain ⟨i, hi, rfl⟩ := List.getElem_of_mem hc
 have hi' : i < m.length := by rw [show (s.add m bar).ls.length = m.length from addL_len _ _ _ _ _ _ h.l1 h.l2] at hi; exact hi
 have hs1 : i < s.ls.length := by rw [h.l1]; exact hi'
 have hs2 : i < s.la.length := by rw [h.l2]; exact hi'
 have := (addL_get s.n (wideP s.ls 0) bar s.ls s.la m i _ _ _ (List.getElem?_eq_getElem hs1) (List.getElem?_eq_getElem hs2) (List.getElem?_eq_getElem hi')).1
 have e : (s.add m bar).ls[i] = addC s.n (wideP s.ls 0) s.ls[i] (m[i].getD bar []) s.la[i] := by
  have h2 : (addL s.n (wideP s.ls 0) bar s.ls s.la m)[i]? = some ((s.add m bar).ls[i]) := List.getElem?_eq_getElem hi
  rw [this] at h2; exact (Option.some.inj h2).symm
 rw [e]
 have hbar := hm.bars m[i] (List.getElem_mem hi')
 have h16 := (hm.notes _ (List.getElem_mem hi') _ (getD_mem (i := bar) (by omega))).1
 have h64 := cells_len (m[i].getD bar []) s.la[i]
 have hw := (wide_mono s.ls 0).2 s.ls[i] (List.getElem_mem hs1)
 simp only [addC, padC, List.length_append]
 split
 ·simp only [List.length_append, List.length_replicate, List.length_cons, List.length_nil]; omega
 ·omega
theorem addS_s (m : List (List (List Nt))) (hm : Vm m) (s : Sys) (h : Sok m s) (bar : Nat) (hb : bar < manyP m) (hw : wideP s.ls 0 <= 10000) (hn : s.n <= 10000) : Ctr Tryd.prog 41 [vsysS s, vmel m, vi bar] (vsysS (s.add m bar)) := by
 have := add_s s.ls s.la s.n m bar (wideP s.ls 0) (s.add m bar).ls (s.add m bar).la rfl hw (fun c hc => (wide_mono s.ls 0).2 c hc) (by rw [h.l1]; have := hm.hands; omega) hn (by rw [h.l1, h.l2]) (by rw [h.l1]; exact addL_len _ _ _ _ _ _ h.l1 h.l2) (by rw [h.l1]; exact addT_len _ _ _ h.l2)
  (fun i c l hc hl => by
   have hi : i < s.ls.length := (List.getElem?_eq_some_iff.1 hc).1
   have hi' : i < m.length := by rw [<- h.l1]; exact hi
   have hbar := hm.bars m[i] (List.getElem_mem hi')
   have hbl : bar < m[i].length := by omega
   have hnt := hm.notes _ (List.getElem_mem hi') _ (List.getElem_mem hbl)
   have g := addL_get s.n (wideP s.ls 0) bar s.ls s.la m i c l _ hc hl (List.getElem?_eq_getElem hi')
   have e : m[i].getD bar [] = m[i][bar] := by rw [List.getD_eq_getElem?_getD, List.getElem?_eq_getElem hbl]; rfl
   rw [e] at g
   exact ⟨m[i], m[i][bar], List.getElem?_eq_getElem hi', List.getElem?_eq_getElem hbl, by omega, hnt.2.2, h.sm l (List.mem_of_getElem? hl), g.1, g.2⟩)
 exact this
theorem newSystem_s (n : Nat) (h : n = 1 \/ n = 2) : Ctr Tryd.prog 39 [vi n] (vsysS (firstP n)) := by
 rcases h with rfl | rfl
 ·exact newSystem_1
 ·exact newSystem_2
theorem first_wide (n : Nat) : wideP (firstP n).ls 0 <= 1 := by
 refine wide_le _ _ _ (by omega) fun c hc => ?_
 simp only [firstP] at hc
 split at hc
 ·simp only [List.mem_cons, List.not_mem_nil, or_false] at hc
  rcases hc with rfl | rfl <;> simp
 ·rw [List.eq_of_mem_replicate hc]; simp
end Go.Proofs.YtnncijjkbonokaaDoor
namespace Go.Proofs.YtnncijjkbonokaaDoor
open Go.RowKit Dak
def encGo (m : List (List (List Nt))) (width : Int) : Nat -> Nat -> Sys -> List (List Int) -> List (List Int)
 | 0, _, s, p => p ++ s.ls
 | k + 1, i, s, p => if width < (wideP (s.add m i).ls 0 : Nat) then encGo m width k (i + 1) ((firstP m.length).add m i) (p ++ s.ls) else encGo m width k (i + 1) (s.add m i) p
def overP (m : List (List (List Nt))) (width : Int) (i : Nat) : Bool := decide (width < (wideP ((firstP m.length).add m i).ls 0 : Nat))
def encP (m : List (List (List Nt))) (width : Int) : List (List Int) × Int :=
 if validE m ≠ 0 then ([], validE m) else if width < 1 \/ 40 < width then ([], 1) else if (List.range (manyP m)).any (overP m width) = true then ([], 14) else (encGo m width (manyP m) 0 (firstP m.length) [], 0)
abbrev vpe (p : List (List Int) × Int) : AV := .tup [vpage p.1, ve p.2]
theorem snap_pe0 {objs : List AObj} {e : Int} : Snap objs (.tup [.val (.slice none 0 0), vi e]) (.tup [vpage [], ve e]) :=
 .tup _ _ rfl fun i h1 h2 => by
  match i, h1 with
  | 0, _ => exact .nil _
  | 1, _ => exact .tree _ rfl
theorem snap_pe {objs : List AObj} {id g : Nat} {e : TypeId} {p : List (List Int)} (n : Nat) (x : Int) (hn : p.length = n) (h : objs[id]? = some (.arr g 1 e (p.map vbytes))) : Snap objs (.tup [.own id g 0 n, vi x]) (.tup [vpage p, ve x]) :=
 .tup _ _ rfl fun i h1 h2 => by
  match i, h1 with
  | 0, _ => exact snap_all p n hn h fun _ => rfl
  | 1, _ => exact .tree _ rfl
theorem any_range {p : Nat -> Bool} {k : Nat} (h : (List.range k).any p = false) (hp : p k = false) : (List.range (k + 1)).any p = false := by
 rw [List.range_succ, List.any_append, h]; simp [hp]
theorem vm_len {m : List (List (List Nt))} (hm : Vm m) : lenM m /\ okM m := by
 refine ⟨⟨by have := hm.hands; omega, fun h hh => ⟨by have := hm.bars h hh; have := hm.pos; omega, fun b hb => by have := (hm.notes h hh b hb).1; omega⟩⟩, fun h hh b hb n hn => ?_⟩
 have := rightP_iff ((hm.notes h hh b hb).2.2 n hn)
 exact ⟨by omega, by omega⟩
abbrev encS (m : List (List (List Nt))) (width : Int) (i : Nat) (s : Sys) (p : List (List Int)) : Est :=
 ⟨[(1, vi width), (2, .ref 0 1 0 0), (7, .ref 1 1 0 0), (9, .own 3 p.length 0 p.length), (10, .ref 2 1 0 0), (50, vi (manyP m)), (51, vi i)], [.arr 1 1 25 [vmel m], .arr 1 3 71 [vsysS (firstP m.length)], .arr 1 3 71 [vsysS s], .arr p.length 1 30 (p.map vbytes)]⟩
theorem Encode_s (m : List (List (List Nt))) (width : Int) (hl : lenM m) (ho : okM m) : Ctr Tryd.prog 17 [vmel m, vi width] (vpe (encP m width)) := by
 refine specE f17 (by simp) fun F0 w0 => ?_
 simp only [c17, go_sem, ↓reduceIte, Nat.reduceLT, Nat.reduceEqDiff]
 refine callT (Valid_s m hl ho) rfl ?_
 by_cases hv : validE m = 0
 rotate_left
 ·simp only [go_sem, ↓reduceIte, Nat.reduceLT, Nat.reduceEqDiff, hv]
  rw [show encP m width = ([], validE m) by simp only [encP, ne_eq, hv, not_false_eq_true, if_true]]
  exact snap_pe0
 have hm := vm_of hv
 have hcnt : m.length <= 2 := by have := hm.hands; omega
 have hmp := hm.pos
 simp only [go_sem, ↓reduceIte, reduceCtorEq, Nat.reduceLT, Nat.reduceEqDiff, hv]
 by_cases a1 : width < 1
 ·simp only [go_sem, ↓reduceIte, a1]
  rw [show encP m width = ([], 1) by simp only [encP, ne_eq, hv, not_true_eq_false, if_false, a1, true_or, if_true]]
  exact snap_pe0
 by_cases a2 : 40 < width
 ·simp only [go_sem, ↓reduceIte, a1, a2]
  rw [show encP m width = ([], 1) by simp only [encP, ne_eq, hv, not_true_eq_false, if_false, a2, or_true, if_true]]
  exact snap_pe0
 obtain ⟨h0, hh0⟩ : ∃ h0, m[0]? = some h0 := ⟨_, List.getElem?_eq_getElem (by have := hm.hands; omega)⟩
 have hd : h0.length = manyP m := by
  show _ = (m.headD []).length
  cases m with | nil => cases hh0 | cons x l => simp at hh0; subst hh0; rfl
 have zlt : (0 : Int) < (m.length : Int) := by have := hm.hands; omega
 simp only [go_sem, ↓reduceIte, a1, a2]
 refine callT (newSystem_s m.length hm.hands) rfl ?_
 simp only [go_sem, ↓reduceIte, Nat.reduceLT, Nat.reduceEqDiff, Nat.reduceAdd, Int.reduceToNat, Int.reduceToNat, Int.le_refl, List.getElem?_map, hh0, Option.map_some, List.length_map, hd]
 refine loopX 0 (fun x s => ∃ k : Nat, x = manyP m - k /\ k <= manyP m /\ (List.range k).any (overP m width) = false /\ s = ⟨[(1, vi width), (2, .ref 0 1 0 0), (7, .ref 1 1 0 0), (32, vi (manyP m)), (33, vi k)], [.arr 1 1 25 [vmel m], .arr 1 3 71 [vsysS (firstP m.length)]]⟩)
  (fun s => (List.range (manyP m)).any (overP m width) = false /\ s = ⟨[(1, vi width), (2, .ref 0 1 0 0), (7, .ref 1 1 0 0)], [.arr 1 1 25 [vmel m], .arr 1 3 71 [vsysS (firstP m.length)]]⟩) (manyP m)
  ⟨[(1, vi width), (2, .ref 0 1 0 0), (7, .ref 1 1 0 0), (32, vi (manyP m)), (33, vi (0 : Nat))], [.arr 1 1 25 [vmel m], .arr 1 3 71 [vsysS (firstP m.length)]]⟩ (WkE.keep (by simp only [go_sem, ↓reduceIte, reduceCtorEq, Nat.reduceEqDiff]; rfl)) ⟨0, by omega, by omega, rfl, rfl⟩ ?_ ?_
 ·rintro x s ⟨k, rfl, hk, ht, rfl⟩
  by_cases hlt : k < manyP m
  ·have h1 : (k : Int) < (manyP m : Int) := by omega
   have hw : IntKind.i64.wrap ((k : Int) + 1) = ((k + 1 : Nat) : Int) := by rw [wrap_id (by omega) (by omega)]; omega
   simp only [go_sem, ↓reduceIte, Nat.reduceLT, Nat.reduceEqDiff, Nat.reduceAdd, h1]
   refine callT (addS_s m hm (firstP m.length) (sok_first hm) k hlt (by have := first_wide m.length; omega) (by show 0 <= 10000; omega)) rfl ?_
   simp only [go_sem, ↓reduceIte, Nat.reduceLT]
   refine callT (wide_s _ (by have := (sok_add hm (sok_first hm) hlt).l1; omega)) rfl ?_
   by_cases hov : width < ((wideP ((firstP m.length).add m k).ls 0 : Nat) : Int)
   ·simp only [go_sem, ↓reduceIte, Nat.reduceLT, Nat.reduceEqDiff, hov]
    have : (List.range (manyP m)).any (overP m width) = true := List.any_eq_true.2 ⟨k, List.mem_range.2 hlt, by simp only [overP, hov, decide_true]⟩
    rw [show encP m width = ([], 14) by simp only [encP, ne_eq, hv, not_true_eq_false, if_false, a1, a2, or_self, this, if_true]]
    exact snap_pe0
   ·simp only [go_sem, ↓reduceIte, Nat.reduceLT, Nat.reduceEqDiff, hov, hw]
    exact ⟨manyP m - (k + 1), _, by omega, WkE.keep (by simp only [go_sem, ↓reduceIte, Nat.reduceEqDiff]), k + 1, rfl, by omega, any_range ht (by simp only [overP, hov, decide_false]), rfl⟩
  ·obtain rfl : k = manyP m := by omega
   have h1 : ¬ (manyP m : Int) < (manyP m : Int) := by omega
   simp only [go_sem, ↓reduceIte, Nat.reduceLT, Nat.reduceEqDiff, h1]
   exact ⟨_, WkE.keep (by simp only [go_sem, ↓reduceIte, Nat.reduceEqDiff]), ht, rfl⟩
 rintro s ⟨hno, rfl⟩
 have henc : encP m width = (encGo m width (manyP m) 0 (firstP m.length) [], 0) := by simp [encP, hv, a1, a2, hno]
 simp only [go_sem, ↓reduceIte, Nat.reduceLT, Nat.reduceEqDiff, Nat.reduceAdd, Int.reduceToNat, Int.reduceToNat, Int.le_refl, List.getElem?_map, hh0, Option.map_some, List.length_map, hd]
 refine loopX 2 (fun x s => ∃ (k : Nat) (t : Sys) (p : List (List Int)), k + x = manyP m /\ Sok m t /\ wideP t.ls 0 <= 40 /\ t.n <= k /\ p.length <= 2 * k /\ encGo m width x k t p = encGo m width (manyP m) 0 (firstP m.length) [] /\ s = encS m width k t p)
  (fun s => ∃ (t : Sys) (p : List (List Int)), Sok m t /\ p.length <= 64 /\ p ++ t.ls = encGo m width (manyP m) 0 (firstP m.length) [] /\ s = encS m width (manyP m) t p) (manyP m)
  (encS m width 0 (firstP m.length) []) ?_ ⟨0, _, [], by omega, sok_first hm, by have := first_wide m.length; omega, Nat.le_refl _, by simp, rfl, rfl⟩ ?_ ?_
 ·exact (WkE.nil 9 1 30 (by omega) rfl).trans (WkE.keep (by simp only [go_sem, ↓reduceIte, Nat.reduceEqDiff, Nat.reduceAdd]; rfl))
 ·rintro x s ⟨k, t, p, hk, hs, hw4, htn, hp, hg, rfl⟩
  have hbp : (p.length : Nat) + t.ls.length <= 1000 := by have := hs.l1; omega
  have tls : t.ls.length = m.length := hs.l1
  have b1 : (p.length + t.ls.length) * 24 <= 140737488355328 := by omega
  have htk : List.take p.length (p.map vbytes) = p.map vbytes := List.take_of_length_le (by simp)
  cases x with
  | zero =>
   obtain rfl : k = manyP m := by omega
   have h1 : ¬ (manyP m : Int) < (manyP m : Int) := by omega
   simp only [go_sem, ↓reduceIte, Nat.reduceLT, Nat.reduceEqDiff, h1]
   exact ⟨_, WkE.keep (by simp only [go_sem, ↓reduceIte, Nat.reduceEqDiff]), t, p, hs, by omega, hg, rfl⟩
  | succ x =>
   have h1 : (k : Int) < (manyP m : Int) := by omega
   have hlt : k < manyP m := by omega
   have hw : IntKind.i64.wrap ((k : Int) + 1) = ((k + 1 : Nat) : Int) := by rw [wrap_id (by omega) (by omega)]; omega
   rw [encGo] at hg
   simp only [go_sem, ↓reduceIte, Nat.reduceLT, Nat.reduceEqDiff, Nat.reduceAdd, h1]
   refine callT (addS_s m hm t hs k hlt (by omega) (by omega)) rfl ?_
   have hs2 := sok_add hm hs hlt
   simp only [go_sem, ↓reduceIte, Nat.reduceLT, Nat.reduceEqDiff, Nat.reduceAdd]
   refine callT (wide_s _ (by have := hs2.l1; omega)) rfl ?_
   by_cases hov : width < ((wideP (t.add m k).ls 0 : Nat) : Int)
   ·rw [if_pos hov] at hg
    simp only [go_sem, ↓reduceIte, Nat.reduceLT, Nat.reduceEqDiff, Nat.reduceAdd, hov, b1, htk, List.length_map]
    refine callT (addS_s m hm (firstP m.length) (sok_first hm) k hlt (by have := first_wide m.length; omega) (by show 0 <= 10000; omega)) rfl ?_
    simp only [go_sem, ↓reduceIte, Nat.reduceLT, Nat.reduceEqDiff, Nat.reduceAdd, hw]
    have e1 : p.length + t.ls.length = (p ++ t.ls).length := by simp
    rw [e1, <- List.map_append]
    have hk40 : ¬ width < ((wideP ((firstP m.length).add m k).ls 0 : Nat) : Int) := by
     have := List.any_eq_false.1 hno k (List.mem_range.2 hlt)
     simpa only [overP, decide_eq_true_eq] using this
    refine ⟨x, encS m width (k + 1) _ (p ++ t.ls), by omega, WkE.round ?_ ?_ ?_ ?_, k + 1, _, _, by omega, sok_add hm (sok_first hm) hlt, by omega, by show 0 + 1 <= k + 1; omega, by simp only [List.length_append]; omega, hg, rfl⟩
    ·simp only [go_sem, ↓reduceIte, Nat.reduceEqDiff]
    ·rfl
    ·simp only [List.all_cons, List.all_nil, AObj.innO, inn_map (f := vbytes) (fun _ => rfl), AV.inn, AV.inn1, Bool.and_self]
    ·rfl
   ·rw [if_neg hov] at hg
    simp only [go_sem, ↓reduceIte, Nat.reduceLT, Nat.reduceEqDiff, Nat.reduceAdd, hov, hw]
    refine ⟨x, encS m width (k + 1) _ p, by omega, WkE.round ?_ ?_ ?_ ?_, k + 1, _, _, by omega, hs2, by omega, by show t.n + 1 <= k + 1; omega, by omega, hg, rfl⟩
    ·simp only [go_sem, ↓reduceIte, Nat.reduceEqDiff]
    ·rfl
    ·simp only [List.all_cons, List.all_nil, AObj.innO, inn_map (f := vbytes) (fun _ => rfl), AV.inn, AV.inn1, Bool.and_self]
    ·rfl
 ·rintro s ⟨t, p, hs, hp, hg, rfl⟩
  have tls : t.ls.length = m.length := hs.l1
  have b1 : (p.length + t.ls.length) * 24 <= 140737488355328 := by omega
  have htk : List.take p.length (p.map vbytes) = p.map vbytes := List.take_of_length_le (by simp)
  simp only [go_sem, ↓reduceIte, Nat.reduceLT, Nat.reduceEqDiff, Nat.reduceAdd, b1, htk, List.length_map]
  rw [<- List.map_append, henc, <- hg]
  exact snap_pe _ 0 (by simp) rfl
end Go.Proofs.YtnncijjkbonokaaDoor
namespace Go.Proofs.YtnncijjkbonokaaDoor
open Go.RowKit Dak
theorem one_of {α : Type} {l : List α} (h : l.length = 1) : ∃ a, l = [a] := by
 match l, h with
 | [a], _ => exact ⟨a, rfl⟩
theorem two_of {α : Type} {l : List α} (h : l.length = 2) : ∃ a b, l = [a, b] := by
 match l, h with
 | [a, b], _ => exact ⟨a, b, rfl⟩
end Go.Proofs.YtnncijjkbonokaaDoor
namespace Go.Proofs.YtnncijjkbonokaaDoor
open Go.RowKit Dak
theorem is33_s (x : Int) : Ctr Tryd.prog 89 [vu x] (vb (decide (x = 33))) := by
 refine specE f89 (by simp) fun F0 w0 => ?_
 simp only [c89, go_sem, ↓reduceIte, reduceCtorEq]
 exact .tree _ rfl
theorem is34_s (x : Int) : Ctr Tryd.prog 90 [vu x] (vb (decide (x = 34))) := by
 refine specE f90 (by simp) fun F0 w0 => ?_
 simp only [c90, go_sem, ↓reduceIte, reduceCtorEq]
 exact .tree _ rfl
theorem is3_s (x : Int) : Ctr Tryd.prog 93 [vu x] (vb (decide (x = 3))) := by
 refine specE f93 (by simp) fun F0 w0 => ?_
 simp only [c93, go_sem, ↓reduceIte, reduceCtorEq]
 exact .tree _ rfl
theorem isSum_s (x a b : Int) : Ctr Tryd.prog 94 [vu x, .ptr [vu a], .ptr [vu b]] (vb (decide (x = IntKind.u8.wrap (a + b)))) := by
 refine specE f94 (by simp) fun F0 w0 => ?_
 simp only [c94, go_sem, ↓reduceIte, reduceCtorEq, Nat.reduceLT, Nat.reduceEqDiff, Nat.reduceAdd]
 exact .tree _ rfl
def indexP (l : List Int) (x : Int) : Int := idxGo (fun y => decide (x = y)) l 0
theorem Index_s (l : List Int) (x : Int) (hl : l.length <= 9223372036854775806) : Ctr Tryd.prog 92 [vbytes l, vu x] (vi (indexP l x)) := by
 refine specE f92 (by simp) fun F0 w0 => ?_
 simp only [c92, go_sem, ↓reduceIte, reduceCtorEq, Nat.reduceLT]
 refine loopX 0 (fun m s => ∃ k : Nat, m = l.length - k /\ k <= l.length /\ indexP l x = idxGo (fun y => decide (x = y)) (l.drop k) k /\ s = ⟨[(0, vbytes l), (1, vu x), (7, vi l.length), (8, vi k)], []⟩)
  (fun s => indexP l x = -1 /\ s = ⟨[], []⟩) l.length ⟨[(0, vbytes l), (1, vu x), (7, vi l.length), (8, vi (0 : Nat))], []⟩ (WkE.keep (by simp only [go_sem, ↓reduceIte, reduceCtorEq, Nat.reduceEqDiff]; rfl)) ⟨0, by omega, by omega, rfl, rfl⟩ ?_ ?_
 rotate_left
 ·rintro s ⟨e, rfl⟩
  rw [e]
  simp only [go_sem, ↓reduceIte, Nat.reduceLT]
  exact .tree _ rfl
 rintro m s ⟨k, rfl, hk, hi, rfl⟩
 by_cases hlt : k < l.length
 ·have g1 : (k : Int) < (l.length : Int) := by omega
  have g0 : (0 : Int) <= (k : Int) := by omega
  have w1 : IntKind.i64.wrap ((k : Int) + 1) = ((k + 1 : Nat) : Int) := by rw [wrap_id (by omega) (by omega)]; omega
  rw [List.drop_eq_getElem_cons hlt, idxGo] at hi
  by_cases he : x = l[k]
  ·rw [if_pos (by rw [decide_eq_true_eq]; exact he)] at hi
   rw [hi]
   have he' : (x = l[k]) = True := eq_true he
   simp only [go_sem, ↓reduceIte, reduceCtorEq, Nat.reduceLT, Nat.reduceEqDiff, g1, g0, List.getElem?_map, List.getElem?_eq_getElem hlt, he']
   exact .tree _ rfl
  ·rw [if_neg (by rw [decide_eq_true_eq]; exact he)] at hi
   simp only [go_sem, ↓reduceIte, reduceCtorEq, Nat.reduceLT, Nat.reduceEqDiff, g1, g0, List.getElem?_map, List.getElem?_eq_getElem hlt, he, w1]
   exact ⟨l.length - (k + 1), _, by omega, WkE.keep (by simp only [go_sem, ↓reduceIte, reduceCtorEq, Nat.reduceEqDiff]), k + 1, rfl, by omega, hi, rfl⟩
 ·have g1 : ¬ (k : Int) < (l.length : Int) := by omega
  rw [List.drop_eq_nil_of_le (by omega), idxGo] at hi
  simp only [go_sem, ↓reduceIte, reduceCtorEq, Nat.reduceLT, Nat.reduceEqDiff, g1]
  exact ⟨⟨[], []⟩, WkE.keep trivial, hi, rfl⟩
def tookB (p : Int -> Bool) (c : List Int) (i : Nat) : Bool := match c[i]? with
 | some x => p x
 | none => false
def tookN (p : Int -> Bool) (c : List Int) (i : Nat) : Nat := if tookB p c i = true then i + 1 else i
abbrev cbO (c : List Int) : AObj := .arr 1 1 30 [vbytes c]
abbrev ibO (i : Nat) : AObj := .arr 1 1 3 [vi i]
theorem take_s (g : FuncId) (p : Int -> Bool) (h : ∀ x, Ctr Tryd.prog g [vu x] (vb (p x))) (c : List Int) (i : Nat) (hi : i <= c.length) (hc : c.length <= 1000000) :
 CtrM Tryd.prog 88 [.clo (.func g) [], .ref 1 1 0 0, .ref 0 1 0 0] [cbO c, ibO i] (vb (tookB p c i)) [cbO c, ibO (tookN p c i)] := by
 refine specM f88 (by simp) rfl rfl rfl fun F0 w0 G hG => CwpE.vc ?_
 have hw : IntKind.i64.wrap ((i : Int) + 1) = ((i + 1 : Nat) : Int) := by rw [wrap_id (by omega) (by omega)]; omega
 by_cases hlt : i < c.length
 ·have h1 : ¬ (i : Int) = (c.length : Int) := by omega
  have h2 : (i : Int) < (c.length : Int) := by omega
  have h0 : (0 : Int) <= (i : Int) := by omega
  have hb : tookB p c i = p c[i] := by simp only [tookB, List.getElem?_eq_getElem hlt]
  simp only [c88, go_sem, ↓reduceIte, reduceCtorEq, Nat.reduceLT, Nat.reduceEqDiff, Nat.reduceAdd, h1, h0, List.cons_append, List.nil_append, List.getElem?_map, List.getElem?_eq_getElem hlt]
  refine callT (h c[i]) rfl ?_
  cases hp : p c[i] with
  | true =>
   have e : tookN p c i = i + 1 := by simp only [tookN, hb, hp, if_true]
   rw [hb, hp, e]
   simp only [go_sem, ↓reduceIte, reduceCtorEq, Nat.reduceLT, Nat.reduceEqDiff, hw]
   exact ⟨_, rfl, .refl _ _⟩
  | false =>
   have e : tookN p c i = i := by simp [tookN, hb, hp]
   rw [hb, hp, e]
   simp only [go_sem, ↓reduceIte, Nat.reduceLT, Nat.reduceEqDiff]
   exact ⟨_, rfl, .refl _ _⟩
 ·have h1 : (i : Int) = (c.length : Int) := by omega
  have hb : tookB p c i = false := by simp only [tookB, List.getElem?_eq_none (show c.length <= i by omega)]
  have e : tookN p c i = i := by simp [tookN, hb]
  rw [hb, e]
  simp only [c88, go_sem, ↓reduceIte, reduceCtorEq, Nat.reduceLT, Nat.reduceEqDiff, Nat.reduceAdd, h1, List.cons_append, List.nil_append]
  exact ⟨_, rfl, .refl _ _⟩
def octI (x : Int) : Int := indexP octs x
def octT (c : List Int) (i : Nat) (o : Int) : Int := match c[i]? with
 | some x => octI x
 | none => o
theorem isOct_s (x o : Int) (A B C D : AObj) (hA : A.innO 5 = true) (hB : B.innO 5 = true) (hC : C.innO 5 = true) (hD : D.innO 5 = true) : CtrM Tryd.prog 91 [vu x, .ref 4 1 0 0] [A, B, C, D, .arr 1 1 3 [vi o]] (vb (decide (0 <= octI x))) [A, B, C, D, .arr 1 1 3 [vi (octI x)]] := by
 refine specM f91 (by simp) rfl (by simp only [List.all_cons, List.all_nil, List.length_cons, List.length_nil, Nat.zero_add, Nat.reduceAdd, hA, hB, hC, hD]; rfl) rfl fun F0 w0 G hG => CwpE.vc ?_
 have h7 : 7 <= maxLen := by decide
 simp only [c91, go_sem, ↓reduceIte, reduceCtorEq, Nat.reduceLT, Nat.reduceEqDiff, Nat.reduceAdd, List.cons_append, List.nil_append, gAV0, h7]
 refine callT (Index_s octs x (by decide)) rfl ?_
 simp only [go_sem, ↓reduceIte, reduceCtorEq, Nat.reduceLT, Nat.reduceEqDiff]
 exact ⟨_, rfl, .refl _ _⟩
theorem takeOct_s (c : List Int) (i : Nat) (o : Int) (C D : AObj) (hi : i <= c.length) (hc : c.length <= 1000000) (hC : C.innO 5 = true) (hD : D.innO 5 = true) :
 CtrM Tryd.prog 88 [.clo (.func 91) [.ref 4 1 0 0], .ref 1 1 0 0, .ref 0 1 0 0] [cbO c, ibO i, C, D, .arr 1 1 3 [vi o]] (vb (tookB (fun x => decide (0 <= octI x)) c i)) [cbO c, ibO (tookN (fun x => decide (0 <= octI x)) c i), C, D, .arr 1 1 3 [vi (octT c i o)]] := by
 refine specM f88 (by simp) rfl (by simp only [List.all_cons, List.all_nil, List.length_cons, List.length_nil, Nat.zero_add, Nat.reduceAdd, hC, hD]; rfl) rfl fun F0 w0 G hG => CwpE.vc ?_
 have hw : IntKind.i64.wrap ((i : Int) + 1) = ((i + 1 : Nat) : Int) := by rw [wrap_id (by omega) (by omega)]; omega
 generalize hp' : (fun x => decide (0 <= octI x)) = p
 by_cases hlt : i < c.length
 ·have h1 : ¬ (i : Int) = (c.length : Int) := by omega
  have h2 : (i : Int) < (c.length : Int) := by omega
  have h0 : (0 : Int) <= (i : Int) := by omega
  have hb : tookB p c i = p c[i] := by simp only [tookB, List.getElem?_eq_getElem hlt]
  have ht : octT c i o = octI c[i] := by simp only [octT, List.getElem?_eq_getElem hlt]
  have hpx : decide (0 <= octI c[i]) = p c[i] := by rw [<- hp']
  rw [ht]
  simp only [c88, go_sem, ↓reduceIte, reduceCtorEq, Nat.reduceLT, Nat.reduceEqDiff, Nat.reduceAdd, h1, h0, List.cons_append, List.nil_append, List.getElem?_map, List.getElem?_eq_getElem hlt]
  have hcall := isOct_s c[i] o (cbO c) (ibO i) C D rfl rfl hC hD
  rw [hpx] at hcall
  refine callM _ [G] _ hcall rfl (by simp only [List.all_cons, List.all_nil, List.length_cons, List.length_nil, Nat.zero_add, Nat.reduceAdd, hC, hD]; rfl) rfl ?_
  cases hp : p c[i] with
  | true =>
   have e : tookN p c i = i + 1 := by simp only [tookN, hb, hp, if_true]
   rw [hb, hp, e]
   simp only [go_sem, ↓reduceIte, reduceCtorEq, Nat.reduceLT, Nat.reduceEqDiff, hw, List.cons_append, List.nil_append]
   exact ⟨_, rfl, .refl _ _⟩
  | false =>
   have e : tookN p c i = i := by simp [tookN, hb, hp]
   rw [hb, hp, e]
   simp only [go_sem, ↓reduceIte, Nat.reduceLT, Nat.reduceEqDiff, List.cons_append, List.nil_append]
   exact ⟨_, rfl, .refl _ _⟩
 ·have h1 : (i : Int) = (c.length : Int) := by omega
  have hb : tookB p c i = false := by simp only [tookB, List.getElem?_eq_none (show c.length <= i by omega)]
  have ht : octT c i o = o := by simp only [octT, List.getElem?_eq_none (show c.length <= i by omega)]
  have e : tookN p c i = i := by simp [tookN, hb]
  rw [hb, e, ht]
  simp only [c88, go_sem, ↓reduceIte, reduceCtorEq, Nat.reduceLT, Nat.reduceEqDiff, Nat.reduceAdd, h1, List.cons_append, List.nil_append]
  exact ⟨_, rfl, .refl _ _⟩
theorem takeSum_s (c : List Int) (i : Nat) (a b : Int) (C D E : AObj) (hi : i <= c.length) (hc : c.length <= 1000000) (hC : C.innO 7 = true) (hD : D.innO 7 = true) (hE : E.innO 7 = true) :
 CtrM Tryd.prog 88 [.clo (.func 94) [.ref 5 1 0 0, .ref 6 1 0 0], .ref 1 1 0 0, .ref 0 1 0 0] [cbO c, ibO i, C, D, E, .arr 1 1 5 [vu a], .arr 1 1 5 [vu b]] (vb (tookB (fun x => decide (x = IntKind.u8.wrap (a + b))) c i)) [cbO c, ibO (tookN (fun x => decide (x = IntKind.u8.wrap (a + b))) c i), C, D, E, .arr 1 1 5 [vu a], .arr 1 1 5 [vu b]] := by
 refine specM f88 (by simp) rfl (by simp only [List.all_cons, List.all_nil, List.length_cons, List.length_nil, Nat.zero_add, Nat.reduceAdd, hC, hD, hE]; rfl) rfl fun F0 w0 G hG => CwpE.vc ?_
 have hw : IntKind.i64.wrap ((i : Int) + 1) = ((i + 1 : Nat) : Int) := by rw [wrap_id (by omega) (by omega)]; omega
 generalize hp' : (fun x => decide (x = IntKind.u8.wrap (a + b))) = p
 by_cases hlt : i < c.length
 ·have h1 : ¬ (i : Int) = (c.length : Int) := by omega
  have h2 : (i : Int) < (c.length : Int) := by omega
  have h0 : (0 : Int) <= (i : Int) := by omega
  have hb : tookB p c i = p c[i] := by simp only [tookB, List.getElem?_eq_getElem hlt]
  have hpx : decide (c[i] = IntKind.u8.wrap (a + b)) = p c[i] := by rw [<- hp']
  simp only [c88, go_sem, ↓reduceIte, reduceCtorEq, Nat.reduceLT, Nat.reduceEqDiff, Nat.reduceAdd, h1, h0, List.cons_append, List.nil_append, List.getElem?_map, List.getElem?_eq_getElem hlt]
  have hcall := isSum_s c[i] a b
  rw [hpx] at hcall
  refine callCF hcall (.cons (.tree _ rfl) (.cons (snap_box (by simp only [go_sem, ↓reduceIte]) rfl) (.cons (snap_box (by simp only [go_sem, ↓reduceIte]) rfl) .nil))) rfl ?_
  cases hp : p c[i] with
  | true =>
   have e : tookN p c i = i + 1 := by simp only [tookN, hb, hp, if_true]
   rw [hb, hp, e]
   simp only [go_sem, ↓reduceIte, reduceCtorEq, Nat.reduceLT, Nat.reduceEqDiff, hw]
   exact ⟨_, rfl, .refl _ _⟩
  | false =>
   have e : tookN p c i = i := by simp [tookN, hb, hp]
   rw [hb, hp, e]
   simp only [go_sem, ↓reduceIte, Nat.reduceLT, Nat.reduceEqDiff]
   exact ⟨_, rfl, .refl _ _⟩
 ·have h1 : (i : Int) = (c.length : Int) := by omega
  have hb : tookB p c i = false := by simp only [tookB, List.getElem?_eq_none (show c.length <= i by omega)]
  have e : tookN p c i = i := by simp [tookN, hb]
  rw [hb, e]
  simp only [c88, go_sem, ↓reduceIte, reduceCtorEq, Nat.reduceLT, Nat.reduceEqDiff, Nat.reduceAdd, h1, List.cons_append, List.nil_append]
  exact ⟨_, rfl, .refl _ _⟩
end Go.Proofs.YtnncijjkbonokaaDoor
namespace Go.Proofs.YtnncijjkbonokaaDoor
open Go.RowKit Dak
def sumP (k l : Nat) : Int := IntKind.u8.wrap (names.getD k 0 + lens.getD l 0)
def plainL (x : Int) (k : Nat) : Nat -> Nat -> Option (Nat × Nat)
 | 0, _ => none
 | f + 1, l => if x = sumP k l then some (k, l) else plainL x k f (l + 1)
def plainK (x : Int) : Nat -> Nat -> Option (Nat × Nat)
 | 0, _ => none
 | f + 1, k => match plainL x k 4 0 with
  | some r => some r
  | none => plainK x f (k + 1)
def plainP (x : Int) : Option (Nat × Nat) := plainK x 8 0
def plainAt (c : List Int) (i : Nat) : Option (Nat × Nat) := c[i]?.bind plainP
theorem plainL_lt : ∀ (f l : Nat) {x : Int} {k : Nat} {r : Nat × Nat}, plainL x k f l = some r -> r.1 = k /\ l <= r.2 /\ r.2 < l + f
 | 0, _, _, _, _, h => by simp [plainL] at h
 | f + 1, l, x, k, r, h => by
  rw [plainL] at h
  split at h
  ·simp at h; subst h; exact ⟨rfl, Nat.le_refl _, by show l < _; omega⟩
  ·have := plainL_lt f (l + 1) h; omega
theorem plainK_lt : ∀ (f k : Nat) {x : Int} {r : Nat × Nat}, plainK x f k = some r -> r.1 < k + f /\ r.2 < 4
 | 0, _, _, _, h => by simp [plainK] at h
 | f + 1, k, x, r, h => by
  rw [plainK] at h
  split at h
  ·rename_i r' h1
   simp at h; subst h
   have := plainL_lt 4 0 h1; omega
  ·have := plainK_lt f (k + 1) h; omega
theorem plainAt_lt {c : List Int} {i : Nat} {r : Nat × Nat} (h : plainAt c i = some r) : r.1 < 8 /\ r.2 < 4 /\ i < c.length := by
 obtain ⟨x, hx, hp⟩ := Option.bind_eq_some_iff.1 h
 have := plainK_lt 8 0 hp
 exact ⟨by omega, this.2, (List.getElem?_eq_some_iff.1 hx).1⟩
abbrev parE (last : Int) (n : Nat) : List (Nat × AV) := [(1, vi last), (2, .ref 0 1 0 0), (4, .own 2 n 0 n), (7, .ref 1 1 0 0), (8, .clo (.func 88) [.ref 1 1 0 0, .ref 0 1 0 0])]
abbrev parO (c : List Int) (i : Nat) (acc : List Nt) : List AObj := [cbO c, ibO i, .arr acc.length 3 64 (acc.map vnote)]
abbrev namB : CCode := match c76 with | .seq _ (.seq _ (.seq _ (.seq (.block _ (.loop (.seq _ (.block _ (.scope (.seq _ (.seq _ (.seq _ (.seq _ (.seq _ (.seq _ (.seq _ (.seq b _))))))))))))) _))) => b | _ => .skip
abbrev namO (c : List Int) (i : Nat) (acc : List Nt) (n : Nt) (o : Int) : List AObj := parO c i acc ++ [.arr 1 3 64 [vnote n], .arr 1 1 3 [vi o]]
abbrev namE (last : Int) (n : Nat) (sm : Bool) (name : Int) : List (Nat × AV) := [(9, .ref 3 1 0 0), (10, .ref 4 1 0 0), (11, vb sm), (12, vi name)] ++ parE last n
def gotK (r : Option (Nat × Nat)) : Int := match r with
 | some r => r.1
 | none => -1
def gotL (r : Option (Nat × Nat)) : Int := match r with
 | some r => r.2
 | none => 0
def gotI (r : Option (Nat × Nat)) (i : Nat) : Nat := match r with
 | some _ => i + 1
 | none => i
theorem lens4 {l : Nat} (h : l < 4) : [vu 36, vu 4, vu 32, vu 0][l]? = some (vu (lens.getD l 0)) := by
 match l, h with
 | 0, _ | 1, _ | 2, _ | 3, _ => rfl
theorem names8 {k : Nat} (h : k < 8) : [vu 25, vu 17, vu 11, vu 27, vu 19, vu 10, vu 26, vu 9][k]? = some (vu (names.getD k 0)) := by
 match k, h with
 | 0, _ | 1, _ | 2, _ | 3, _ | 4, _ | 5, _ | 6, _ | 7, _ => rfl
theorem name_s (F0 : FD) (w0 : World) (last : Int) (c : List Int) (i : Nat) (acc : List Nt) (s a o : Int) (sm : Bool) (hi : i <= c.length) (hc : c.length <= 100000)
 {Q : Exit -> Est -> Prop} (hQ : Q .normal ⟨namE last acc.length sm (gotK (plainAt c i)), namO c (gotI (plainAt c i) i) acc ⟨s, gotL (plainAt c i), a⟩ o⟩) : CwpE Tryd.prog F0 w0 91 namB Q ⟨namE last acc.length sm (-1), namO c i acc ⟨s, 0, a⟩ o⟩ := by
 unfold namB c76
 refine CwpE.cut (st := ⟨[(38, .agg [vu 25, vu 17, vu 11, vu 27, vu 19, vu 10, vu 26, vu 9]), (39, vi (0 : Nat))] ++ namE last acc.length sm (-1), namO c i acc ⟨s, 0, a⟩ o⟩) ?_ ?_
 ·simp only [go_sem, ↓reduceIte, Nat.reduceLT, Nat.reduceAdd, Int.reduceNeg, gAV1, List.cons_append, List.nil_append]
  exact ⟨_, WkE.keep (by simp only [go_sem, ↓reduceIte, Nat.reduceEqDiff]; rfl), rfl⟩
 refine CwpE.block ?_
 refine loopXC 3 (fun z st => ∃ k : Nat, k + z = 8 /\ (c[i]?.bind fun x => plainK x z k) = plainAt c i /\ st = ⟨[(38, .agg [vu 25, vu 17, vu 11, vu 27, vu 19, vu 10, vu 26, vu 9]), (39, vi k)] ++ namE last acc.length sm (-1), namO c i acc ⟨s, 0, a⟩ o⟩)
  (fun st => st = ⟨namE last acc.length sm (gotK (plainAt c i)), namO c (gotI (plainAt c i) i) acc ⟨s, gotL (plainAt c i), a⟩ o⟩) 8 _ (.refl _ _) ⟨0, rfl, rfl, rfl⟩ ?_ ?_
 rotate_left
 ·rintro st rfl
  simp only [inBlockE, if_true]
  exact hQ
 rintro z st ⟨k, hk, hp, rfl⟩
 cases z with
 | zero =>
  obtain rfl : k = 8 := by omega
  have hn : plainAt c i = none := by
   rw [<- hp]; cases c[i]? <;> rfl
  refine CwpE.vc ?_
  have k8 : ((8 : Nat) : Int) = 8 := rfl
  simp only [go_sem, ↓reduceIte, Nat.reduceLT, Nat.reduceEqDiff, Int.reduceNeg, Int.lt_irrefl, k8, List.cons_append, List.nil_append]
  rw [hn]
  exact ⟨_, WkE.keep (by simp only [go_sem, ↓reduceIte, Nat.reduceEqDiff]; rfl), rfl⟩
 | succ z =>
  have h8 : k < 8 := by omega
  have h8' : (k : Int) < 8 := by omega
  have h0' : (0 : Int) <= (k : Int) := by omega
  have hw : IntKind.i64.wrap ((k : Int) + 1) = ((k + 1 : Nat) : Int) := by rw [wrap_id (by omega) (by omega)]; omega
  have nk := names8 h8
  refine CwpE.vc ?_
  have h4 : 5 <= maxLen := by decide
  have h45 : (4 : Int) <= ((5 : Nat) : Int) := by decide
  have k4 : ((4 : Nat) : Int) = 4 := rfl
  have h8'' : (k : Int) < ((8 : Nat) : Int) := by omega
  simp only [go_sem, ↓reduceIte, Nat.reduceLT, Nat.reduceEqDiff, Nat.reduceAdd, Int.reduceToNat, Int.reduceLE, Int.reduceNeg, Int.reduceToNat, h8', h8'', h0', List.cons_append, List.nil_append, Nat.mul_one, nk, gAV2, h4, h45, k4, List.take_succ_cons, List.take_zero, List.drop_zero]
  refine loopX 5 (fun y st => ∃ l : Nat, l + y = 4 /\ (c[i]?.bind fun x => match plainL x k y l with
   | some r => some r
   | none => plainK x z (k + 1)) = plainAt c i /\ st = ⟨[(13, vi k), (14, .ref 5 1 0 0), (43, .list 1 [vu 36, vu 4, vu 32, vu 0]), (44, vi 4), (45, vi l), (38, .agg [vu 25, vu 17, vu 11, vu 27, vu 19, vu 10, vu 26, vu 9]), (39, vi k)] ++ namE last acc.length sm (-1), namO c i acc ⟨s, 0, a⟩ o ++ [.arr 1 1 5 [vu (names.getD k 0)]]⟩)
   (fun st => (c[i]?.bind fun x => plainK x z (k + 1)) = plainAt c i /\ st = ⟨[(38, .agg [vu 25, vu 17, vu 11, vu 27, vu 19, vu 10, vu 26, vu 9]), (39, vi k)] ++ namE last acc.length sm (-1), namO c i acc ⟨s, 0, a⟩ o⟩) 4
   ⟨[(13, vi k), (14, .ref 5 1 0 0), (43, .list 1 [vu 36, vu 4, vu 32, vu 0]), (44, vi 4), (45, vi (0 : Nat)), (38, .agg [vu 25, vu 17, vu 11, vu 27, vu 19, vu 10, vu 26, vu 9]), (39, vi k)] ++ namE last acc.length sm (-1), namO c i acc ⟨s, 0, a⟩ o ++ [.arr 1 1 5 [vu (names.getD k 0)]]⟩ ?_ ⟨0, rfl, by rw [<- hp]; rfl, rfl⟩ ?_ ?_
  ·exact WkE.keep (by simp only [go_sem, ↓reduceIte, Nat.reduceEqDiff, List.cons_append, List.nil_append]; rfl)
  rotate_left
  ·rintro st ⟨hq, rfl⟩
   simp only [go_sem, ↓reduceIte, Nat.reduceLT, Nat.reduceEqDiff, Int.reduceNeg, hw, List.cons_append, List.nil_append]
   exact ⟨z, _, by omega, WkE.keep (by simp only [go_sem, ↓reduceIte, Nat.reduceEqDiff]), k + 1, by omega, hq, rfl⟩
  rintro y st ⟨l, hl, hq, rfl⟩
  have k4' : ((4 : Nat) : Int) = 4 := rfl
  cases y with
  | zero =>
   obtain rfl : l = 4 := by omega
   simp only [go_sem, ↓reduceIte, Nat.reduceLT, Nat.reduceEqDiff, Int.reduceNeg, Int.lt_irrefl, k4', List.cons_append, List.nil_append]
   refine ⟨⟨[(38, .agg [vu 25, vu 17, vu 11, vu 27, vu 19, vu 10, vu 26, vu 9]), (39, vi k)] ++ namE last acc.length sm (-1), namO c i acc ⟨s, 0, a⟩ o⟩, WkE.round ?_ ?_ ?_ ?_, hq, rfl⟩
   ·simp only [go_sem, ↓reduceIte, Nat.reduceEqDiff, List.cons_append, List.nil_append]
   ·rfl
   ·simp only [List.cons_append, List.nil_append, List.all_cons, List.all_nil, AObj.innO, inn_map (f := vnote) (fun _ => rfl), Bool.and_true]
    rfl
   ·rfl
  | succ y =>
   have l4 : l < 4 := by omega
   have l4' : (l : Int) < 4 := by omega
   have l0' : (0 : Int) <= (l : Int) := by omega
   have lw : IntKind.i64.wrap ((l : Int) + 1) = ((l + 1 : Nat) : Int) := by rw [wrap_id (by omega) (by omega)]; omega
   have ll := lens4 l4
   simp only [go_sem, ↓reduceIte, Nat.reduceLT, Nat.reduceEqDiff, Nat.reduceAdd, Int.reduceNeg, l4', l0', List.cons_append, List.nil_append, ll]
   refine callM _ [] _ (takeSum_s c i (names.getD k 0) (lens.getD l 0) (.arr acc.length 3 64 (acc.map vnote)) (.arr 1 3 64 [vnote ⟨s, 0, a⟩]) (.arr 1 1 3 [vi o]) hi (by omega) ?_ rfl rfl) rfl ?_ rfl ?_
   ·simp only [AObj.innO, inn_map (f := vnote) (fun _ => rfl)]
   ·simp only [List.all_cons, List.all_nil, AObj.innO, inn_map (f := vnote) (fun _ => rfl), Bool.and_true]
    rfl
   have hq' : (c[i]?.bind fun x => match (if x = sumP k l then some (k, l) else plainL x k y (l + 1)) with
    | some r => some r
    | none => plainK x z (k + 1)) = plainAt c i := hq
   have hsum : (fun x => decide (x = IntKind.u8.wrap (names.getD k 0 + lens.getD l 0))) = fun x => decide (x = sumP k l) := rfl
   rw [hsum]
   cases hb : tookB (fun x => decide (x = sumP k l)) c i with
   | true =>
    have hn : plainAt c i = some (k, l) := by
     rw [<- hq']
     unfold tookB at hb
     cases hx : c[i]? with
     | none => rw [hx] at hb; cases hb
     | some x =>
      rw [hx] at hb
      simp only [decide_eq_true_eq] at hb
      simp only [Option.bind_some, if_pos hb]
    have hN : tookN (fun x => decide (x = sumP k l)) c i = i + 1 := by simp only [tookN, hb, if_true]
    rw [hN, hn]
    simp only [go_sem, Nat.reduceLeDiff, ↓reduceIte, Nat.reduceLT, Nat.reduceEqDiff, Nat.reduceAdd, Int.reduceNeg, List.cons_append, List.nil_append]
    refine ⟨_, WkE.round ?_ ?_ ?_ ?_, rfl⟩
    ·simp only [go_sem, ↓reduceIte, Nat.reduceEqDiff, gotK]
    ·rfl
    ·simp only [List.all_cons, List.all_nil, AObj.innO, inn_map (f := vnote) (fun _ => rfl), Bool.and_true]
     rfl
    ·rfl
   | false =>
    have hn : (c[i]?.bind fun x => match plainL x k y (l + 1) with
     | some r => some r
     | none => plainK x z (k + 1)) = plainAt c i := by
     rw [<- hq']
     unfold tookB at hb
     cases hx : c[i]? with
     | none => rfl
     | some x =>
      rw [hx] at hb
      simp only [decide_eq_false_iff_not] at hb
      simp only [Option.bind_some, if_neg hb]
    have hN : tookN (fun x => decide (x = sumP k l)) c i = i := by simp [tookN, hb]
    rw [hN]
    simp only [go_sem, ↓reduceIte, Nat.reduceLT, Nat.reduceEqDiff, Int.reduceNeg, lw, List.cons_append, List.nil_append]
    refine ⟨y, _, by omega, WkE.round ?_ ?_ ?_ ?_, l + 1, by omega, hn, rfl⟩
    ·simp only [go_sem, ↓reduceIte, Nat.reduceEqDiff]
    ·rfl
    ·simp only [List.all_cons, List.all_nil, AObj.innO, inn_map (f := vnote) (fun _ => rfl), Bool.and_true]
     rfl
    ·rfl
end Go.Proofs.YtnncijjkbonokaaDoor
namespace Go.Proofs.YtnncijjkbonokaaDoor
open Go.RowKit Dak
def altA (c : List Int) (i : Nat) : Int := if tookB (fun x => decide (x = 33)) c i = true then 1 else if tookB (fun x => decide (x = 34)) c i = true then -1 else 0
def altI (c : List Int) (i : Nat) : Nat := if tookB (fun x => decide (x = 33)) c i = true then i + 1 else tookN (fun x => decide (x = 34)) c i
abbrev isOct (x : Int) : Bool := decide (0 <= octI x)
def noteAt (c : List Int) (i : Nat) (last : Int) : Option (Nt × Nat) :=
 match plainAt c (tookN (fun x => decide (x = 3)) c (tookN isOct c (altI c i))) with
 | none => none
 | some r => if tookB (fun x => decide (x = 3)) c (tookN isOct c (altI c i)) = true /\ r.2 ≠ 0 then none else
  match findP r.1 (octT c (altI c i) (-1)) last with
  | none => none
  | some s => some (⟨s, if tookB (fun x => decide (x = 3)) c (tookN isOct c (altI c i)) = true then 4 else r.2, altA c i⟩, tookN (fun x => decide (x = 3)) c (tookN isOct c (altI c i)) + 1)
def parseGo (c : List Int) : Nat -> Nat -> Int -> List Nt -> Option (List Nt × Int)
 | 0, _, last, acc => some (acc, last)
 | f + 1, i, last, acc => if c.length <= i then some (acc, last) else match noteAt c i last with
  | none => none
  | some (n, j) => parseGo c f j (stepP n last) (acc ++ [n])
def parseP (c : List Int) (last : Int) : Option (List Nt × Int) := parseGo c c.length 0 last []
def parR (r : Option (List Nt × Int)) : AV := match r with
 | some (l, s) => .tup [vbar l, vi s, vb true]
 | none => .tup [vbar [], vi 0, vb false]
theorem took_le {p : Int -> Bool} {c : List Int} {i : Nat} (h : i <= c.length) : tookN p c i <= c.length /\ i <= tookN p c i := by
 unfold tookN tookB
 cases hx : c[i]? with
 | none => simp; omega
 | some x =>
  have := (List.getElem?_eq_some_iff.1 hx).1
  simp only
  split <;> omega
theorem alt_le {c : List Int} {i : Nat} (h : i <= c.length) : altI c i <= c.length /\ i <= altI c i := by
 unfold altI
 split
 ·rename_i hb
  unfold tookB at hb
  cases hx : c[i]? with
  | none => rw [hx] at hb; cases hb
  | some x => have := (List.getElem?_eq_some_iff.1 hx).1; omega
 ·exact took_le h
theorem idxGo_lt {α : Type} {p : α -> Bool} : ∀ (l : List α) (k : Nat), -1 <= idxGo p l k /\ idxGo p l k < k + l.length
 | [], k => by simp [idxGo]; omega
 | x :: l, k => by
  rw [idxGo]
  split
  ·simp; omega
  ·have := idxGo_lt (p := p) l (k + 1)
   simp only [List.length_cons]; omega
theorem octI_lt (x : Int) : -1 <= octI x /\ octI x <= 6 := by
 have := idxGo_lt (p := fun y => decide (x = y)) octs 0
 unfold octI indexP
 simp [octs] at this ⊢; omega
theorem octT_lt (c : List Int) (i : Nat) : -1 <= octT c i (-1) /\ octT c i (-1) <= 6 := by
 unfold octT; split
 ·exact octI_lt _
 ·omega
theorem findGo_bd {last : Int} : ∀ (f : Nat) (s r : Int), 0 <= s -> findGo last f s = some r -> 0 <= r /\ r <= 48
 | 0, _, _, _, h => by simp [findGo] at h
 | f + 1, s, r, hs, h => by
  rw [findGo] at h
  split at h
  ·split at h
   ·exact findGo_bd f (s + 7) r (by omega) h
   ·simp at h; omega
  ·cases h
theorem findP_bd {name oct last r : Int} (hn : 0 <= name /\ name <= 7) (ho : -1 <= oct /\ oct <= 6) (h : findP name oct last = some r) : -1 <= r /\ r <= 48 := by
 unfold findP at h
 split at h
 ·split at h
  ·simp at h; omega
  ·cases h
 ·split at h
  ·simp at h; omega
  ·have := findGo_bd _ _ _ hn.1 h; omega
theorem noteAt_bd {c : List Int} {i : Nat} {last : Int} {n : Nt} {j : Nat} (h : i <= c.length) (hn : noteAt c i last = some (n, j)) : i < j /\ j <= c.length /\ -1 <= n.s /\ n.s <= 48 := by
 unfold noteAt at hn
 have h1 := alt_le h
 have h2 := took_le (p := isOct) h1.1
 have h3 := took_le (p := fun x => decide (x = 3)) h2.1
 split at hn
 ·cases hn
 ·rename_i r hr
  have hlt := plainAt_lt hr
  split at hn
  ·cases hn
  ·split at hn
   ·cases hn
   ·rename_i s hs
    simp only [Option.some.injEq, Prod.mk.injEq] at hn
    obtain ⟨rfl, rfl⟩ := hn
    have := findP_bd ⟨by omega, by omega⟩ (octT_lt c _) hs
    exact ⟨by omega, by omega, this.1, this.2⟩
theorem snap_par0 {objs : List AObj} : Snap objs (.tup [.val (.slice none 0 0), vi 0, vb false]) (parR none) :=
 .tup _ _ rfl fun i h1 h2 => by
  match i, h1 with
  | 0, _ => exact .nil _
  | 1, _ => exact .tree _ rfl
  | 2, _ => exact .tree _ rfl
theorem parse_s (c : List Int) (last : Int) (hc : c.length <= 100000) (hl : small last) : Ctr Tryd.prog 76 [vbytes c, vi last] (parR (parseP c last)) := by
 refine specC f76 (by simp) fun F0 w0 => ?_
 unfold c76
 refine CwpE.cut (st := ⟨[(1, vi last), (2, .ref 0 1 0 0), (4, .val (.slice none 0 0))], [cbO c]⟩) ?_ ?_
 ·simp only [go_sem, ↓reduceIte, Nat.reduceLT]
  exact ⟨_, WkE.keep (by simp only [go_sem, ↓reduceIte, reduceCtorEq, Nat.reduceEqDiff]), rfl⟩
 refine CwpE.cut (st := ⟨[(1, vi last), (2, .ref 0 1 0 0), (4, .val (.slice none 0 0)), (7, .ref 1 1 0 0)], [cbO c, ibO 0]⟩) ?_ ?_
 ·simp only [go_sem, ↓reduceIte, Nat.reduceLT]
  exact ⟨_, WkE.keep (by simp only [go_sem, ↓reduceIte, Nat.reduceEqDiff]), rfl⟩
 refine CwpE.cut (st := ⟨parE last 0, parO c 0 []⟩) ?_ ?_
 ·simp only [go_sem, ↓reduceIte, Nat.reduceLT, Nat.reduceEqDiff]
  exact ⟨_, (WkE.nil 4 3 64 (by omega) rfl).trans (WkE.keep (by simp only [go_sem, ↓reduceIte, Nat.reduceEqDiff, Nat.reduceAdd])), rfl⟩
 refine CwpE.seqJ (fun s => ∃ l2 acc i, parseP c last = some (acc, l2) /\ s = ⟨parE l2 acc.length, parO c i acc⟩) (CwpE.block ?_) ?_
 rotate_left
 ·rintro _ ⟨l2, acc, i, e, rfl⟩
  rw [e]
  refine CwpE.vc ?_
  simp only [go_sem, ↓reduceIte, Nat.reduceLT, Nat.reduceEqDiff]
  refine .tup _ _ rfl fun j h1 h2 => ?_
  match j, h1 with
  | 0, _ => exact snap_all acc acc.length rfl rfl fun _ => rfl
  | 1, _ => exact .tree _ rfl
  | 2, _ => exact .tree _ rfl
 refine loopXC 0 (fun f s => ∃ (i : Nat) (l2 : Int) (acc : List Nt), c.length <= i + f /\ i <= c.length /\ acc.length <= i /\ small l2 /\ parseGo c f i l2 acc = parseP c last /\ s = ⟨parE l2 acc.length, parO c i acc⟩)
  (fun s => ∃ l2 acc i, parseP c last = some (acc, l2) /\ s = ⟨parE l2 acc.length, parO c i acc⟩) c.length ⟨parE last 0, parO c 0 []⟩ (.refl _ _) ⟨0, last, [], by omega, by omega, Nat.le_refl _, hl, rfl, rfl⟩ ?_ ?_
 rotate_left
 ·rintro s h
  simp only [inBlockE, if_true, thenE]
  exact ⟨_, .refl _ _, h⟩
 rintro f s ⟨i, l2, acc, hf, hi, hacc, hsm, hg, rfl⟩
 by_cases hlt : i < c.length
 rotate_left
 ·have hlt' : ¬ (i : Int) < (c.length : Int) := by omega
  refine CwpE.vc ?_
  simp only [go_sem, ↓reduceIte, Nat.reduceLT, Nat.reduceEqDiff, Int.reduceNeg, hlt']
  refine ⟨_, WkE.keep (by simp only [go_sem, ↓reduceIte, Nat.reduceEqDiff]), l2, acc, i, ?_, rfl⟩
  rw [<- hg]
  cases f with
  | zero => rfl
  | succ f => rw [parseGo, if_pos (by omega)]
 cases f with
 | zero => omega
 | succ f =>
 have hlt' : (i : Int) < (c.length : Int) := by omega
 rw [parseGo, if_neg (by omega)] at hg
 refine CwpE.cut (st := ⟨parE l2 acc.length, parO c i acc⟩) ?_ ?_
 ·simp only [go_sem, ↓reduceIte, Nat.reduceLT, Nat.reduceEqDiff, hlt']
  exact ⟨_, WkE.keep (by simp only [go_sem, ↓reduceIte, Nat.reduceEqDiff]), rfl⟩
 refine CwpE.block (CwpE.scope ?_)
 have b1 := alt_le hi
 have b2 := took_le (p := isOct) b1.1
 have b3 := took_le (p := fun x => decide (x = 3)) b2.1
 refine CwpE.cut (st := ⟨(9, .ref 3 1 0 0) :: parE l2 acc.length, parO c i acc ++ [.arr 1 3 64 [vnote ⟨0, 0, 0⟩]]⟩) ?_ ?_
 ·simp only [go_sem, ↓reduceIte, Nat.reduceLT, Nat.reduceAdd]
  exact ⟨_, WkE.keep (by simp only [go_sem, ↓reduceIte, Nat.reduceEqDiff]), rfl⟩
 have hin : ∀ k, (AObj.arr acc.length 3 64 (acc.map vnote)).innO k = true := fun k => by simp only [AObj.innO, inn_map (f := vnote) (fun _ => rfl)]
 refine CwpE.seqJ (fun s => s = ⟨(9, .ref 3 1 0 0) :: parE l2 acc.length, parO c (altI c i) acc ++ [.arr 1 3 64 [vnote ⟨0, 0, altA c i⟩]]⟩) (CwpE.block ?_) ?_
 ·refine CwpE.vc ?_
  simp only [go_sem, ↓reduceIte, Nat.reduceLT, Nat.reduceEqDiff, Int.reduceNeg, List.cons_append, List.nil_append]
  refine callM [cbO c, ibO i] _ _ (take_s 89 _ is33_s c i hi (by omega)) rfl rfl rfl ?_
  cases h33 : tookB (fun x => decide (x = 33)) c i with
  | true =>
   have e1 : altI c i = i + 1 := by simp only [altI, h33, if_true]
   have e2 : altA c i = 1 := by simp only [altA, h33, if_true]
   have e3 : tookN (fun x => decide (x = 33)) c i = i + 1 := by simp only [tookN, h33, if_true]
   rw [e1, e2, e3]
   simp only [go_sem, ↓reduceIte, Nat.reduceLT, Nat.reduceEqDiff, Nat.reduceAdd, Int.reduceNeg, List.cons_append, List.nil_append]
   exact ⟨_, WkE.keep (by simp only [go_sem, ↓reduceIte, Nat.reduceEqDiff]), rfl⟩
  | false =>
   have e3 : tookN (fun x => decide (x = 33)) c i = i := by simp [tookN, h33]
   rw [e3]
   simp only [go_sem, ↓reduceIte, Nat.reduceLT, Nat.reduceEqDiff, Int.reduceNeg, List.cons_append, List.nil_append]
   refine callM [cbO c, ibO i] _ _ (take_s 90 _ is34_s c i hi (by omega)) rfl rfl rfl ?_
   have e1 : altI c i = tookN (fun x => decide (x = 34)) c i := by simp [altI, h33]
   rw [e1]
   cases h34 : tookB (fun x => decide (x = 34)) c i with
   | true =>
    have e2 : altA c i = -1 := by simp [altA, h33, h34]
    rw [e2]
    simp only [go_sem, ↓reduceIte, Nat.reduceLT, Nat.reduceEqDiff, Nat.reduceAdd, Int.reduceNeg, List.cons_append, List.nil_append]
    exact ⟨_, WkE.keep (by simp only [go_sem, ↓reduceIte, Nat.reduceEqDiff]), rfl⟩
   | false =>
    have e2 : altA c i = 0 := by simp [altA, h33, h34]
    rw [e2]
    simp only [go_sem, ↓reduceIte, Nat.reduceLT, Int.reduceNeg, List.cons_append, List.nil_append]
    exact ⟨_, WkE.keep (by simp only [go_sem, ↓reduceIte, Nat.reduceEqDiff]), rfl⟩
 rintro _ rfl
 refine CwpE.cut (st := ⟨[(9, .ref 3 1 0 0), (10, .ref 4 1 0 0)] ++ parE l2 acc.length, parO c (altI c i) acc ++ [.arr 1 3 64 [vnote ⟨0, 0, altA c i⟩], .arr 1 1 3 [vi (-1)]]⟩) ?_ ?_
 ·simp only [go_sem, ↓reduceIte, Nat.reduceLT, Nat.reduceAdd, Int.reduceNeg, List.cons_append, List.nil_append]
  exact ⟨_, WkE.keep (by simp only [go_sem, ↓reduceIte, Nat.reduceEqDiff]), rfl⟩
 obtain ⟨o, ho⟩ : ∃ o, octT c (altI c i) (-1) = o := ⟨_, rfl⟩
 have hob := octT_lt c (altI c i)
 rw [ho] at hob
 refine CwpE.seqJ (fun s => ∃ s0 : Int, s = ⟨[(9, .ref 3 1 0 0), (10, .ref 4 1 0 0)] ++ parE l2 acc.length, parO c (tookN isOct c (altI c i)) acc ++ [.arr 1 3 64 [vnote ⟨s0, 0, altA c i⟩], .arr 1 1 3 [vi o]]⟩) ?_ ?_
 ·refine CwpE.vc ?_
  have w7 : IntKind.i64.wrap (7 * o) = 7 * o := wrap_id (by omega) (by omega)
  simp only [go_sem, ↓reduceIte, Nat.reduceLT, Nat.reduceEqDiff, Int.reduceNeg, List.cons_append, List.nil_append]
  refine callM _ [] _ (takeOct_s c (altI c i) (-1) (.arr acc.length 3 64 (acc.map vnote)) (.arr 1 3 64 [vnote ⟨0, 0, altA c i⟩]) b1.1 (by omega) (hin 5) rfl) rfl ?_ rfl ?_
  ·simp only [List.all_cons, List.all_nil, hin, Bool.true_and]
   rfl
  rw [ho]
  cases hb : tookB isOct c (altI c i) with
  | true =>
   simp only [go_sem, Nat.reduceLeDiff, ↓reduceIte, Nat.reduceLT, Nat.reduceEqDiff, Nat.reduceAdd, List.cons_append, List.nil_append, w7]
   exact ⟨_, WkE.keep (by simp only [go_sem, ↓reduceIte, Nat.reduceEqDiff]), 7 * o, rfl⟩
  | false =>
   simp only [go_sem, ↓reduceIte, List.cons_append, List.nil_append]
   exact ⟨_, WkE.keep (by simp only [go_sem, ↓reduceIte, Nat.reduceEqDiff]), 0, rfl⟩
 rintro _ ⟨s0, rfl⟩
 obtain ⟨i3, hi3⟩ : ∃ i3, tookN isOct c (altI c i) = i3 := ⟨_, rfl⟩
 rw [hi3] at b2 b3 ⊢
 obtain ⟨i4, hi4⟩ : ∃ i4, tookN (fun x => decide (x = 3)) c i3 = i4 := ⟨_, rfl⟩
 rw [hi4] at b3
 obtain ⟨sm, hsm3⟩ : ∃ sm, tookB (fun x => decide (x = 3)) c i3 = sm := ⟨_, rfl⟩
 refine CwpE.cut (st := ⟨[(9, .ref 3 1 0 0), (10, .ref 4 1 0 0), (11, vb sm)] ++ parE l2 acc.length, parO c i4 acc ++ [.arr 1 3 64 [vnote ⟨s0, 0, altA c i⟩], .arr 1 1 3 [vi o]]⟩) ?_ ?_
 ·simp only [go_sem, ↓reduceIte, Nat.reduceLT, Nat.reduceEqDiff, List.cons_append, List.nil_append]
  refine callM [cbO c, ibO i3] _ _ (take_s 93 _ is3_s c i3 b2.1 (by omega)) rfl rfl rfl ?_
  rw [hsm3, hi4]
  simp only [go_sem, ↓reduceIte, Nat.reduceLT, List.cons_append, List.nil_append]
  exact ⟨_, WkE.keep (by simp only [go_sem, ↓reduceIte, Nat.reduceEqDiff]), rfl⟩
 refine CwpE.cut (st := ⟨namE l2 acc.length sm (-1), namO c i4 acc ⟨s0, 0, altA c i⟩ o⟩) ?_ ?_
 ·simp only [go_sem, ↓reduceIte, Nat.reduceLT, Int.reduceNeg, List.cons_append, List.nil_append]
  exact ⟨_, WkE.keep (by simp only [go_sem, ↓reduceIte, Nat.reduceEqDiff]), rfl⟩
 refine CwpE.cut (st := ⟨namE l2 acc.length sm (-1), namO c i4 acc ⟨s0, 0, altA c i⟩ o⟩) ?_ ?_
 ·simp only [go_sem, Int.reduceNeg, List.cons_append, List.nil_append]
  exact ⟨_, .refl _ _, rfl⟩
 refine CwpE.seqJ (fun s => s = ⟨namE l2 acc.length sm (gotK (plainAt c i4)), namO c (gotI (plainAt c i4) i4) acc ⟨s0, gotL (plainAt c i4), altA c i⟩ o⟩) ?_ ?_
 ·exact name_s F0 w0 l2 c i4 acc s0 (altA c i) o sm b3.1 hc ⟨_, .refl _ _, rfl⟩
 rintro _ rfl
 have hnote : noteAt c i l2 = (match plainAt c i4 with
  | none => none
  | some r => if sm = true /\ r.2 ≠ 0 then none else match findP r.1 o l2 with
   | none => none
   | some s => some (⟨s, if sm = true then 4 else r.2, altA c i⟩, i4 + 1)) := by
  unfold noteAt; rw [hi3, hi4, hsm3, ho]
 refine CwpE.vc ?_
 cases hr : plainAt c i4 with
 | none =>
  have hn : noteAt c i l2 = none := by rw [hnote, hr]
  rw [hn] at hg
  rw [<- hg]
  simp only [go_sem, ↓reduceIte, reduceCtorEq, Nat.reduceLT, Nat.reduceEqDiff, Int.reduceLT, Int.reduceNeg, gotK, gotL, gotI, List.cons_append, List.nil_append]
  exact snap_par0
 | some r =>
  obtain ⟨k, l⟩ := r
  have hkl := plainAt_lt hr
  simp only at hkl
  rw [hr] at hnote
  simp only at hnote
  have hk0 : ¬ (k : Int) < 0 := by omega
  simp only [gotK, gotL, gotI]
  cases sm with
  | true =>
   by_cases hl0 : l = 0
   rotate_left
   ·have hl0' : ¬ (l : Int) = 0 := by omega
    have hn : noteAt c i l2 = none := by rw [hnote, if_pos ⟨rfl, hl0⟩]
    rw [hn] at hg
    rw [<- hg]
    simp only [go_sem, ↓reduceIte, reduceCtorEq, Nat.reduceLT, Nat.reduceEqDiff, hk0, hl0', List.cons_append, List.nil_append]
    exact snap_par0
   have hl0' : (l : Int) = 0 := by omega
   have hbad : ¬ (true = true /\ l ≠ 0) := by simp [hl0]
   simp only [go_sem, Nat.reduceLeDiff, ↓reduceIte, Nat.reduceLT, Nat.reduceEqDiff, Nat.reduceAdd, hk0, hl0', List.cons_append, List.nil_append]
   have hfind := find_s k o l2 ⟨by omega, by omega⟩ ⟨by omega, by omega⟩ hsm
   refine callT hfind rfl ?_
   cases hs : findP k o l2 with
   | none =>
    have hn : noteAt c i l2 = none := by rw [hnote, if_neg hbad, hs]
    rw [hn] at hg
    rw [<- hg]
    have e : findR k o l2 = .tup [vi (if (k : Int) = 7 then -1 else 0), vb false] := by unfold findR; rw [hs]
    rw [e]
    simp only [go_sem, Nat.reduceLeDiff, ↓reduceIte, reduceCtorEq, Nat.reduceLT, Nat.reduceEqDiff, Nat.reduceAdd, Int.reduceNeg]
    exact snap_par0
   | some s =>
    have hbd := findP_bd ⟨by omega, by omega⟩ hob hs
    have hn : noteAt c i l2 = some (⟨s, 4, altA c i⟩, i4 + 1) := by rw [hnote, if_neg hbad, hs]; rfl
    rw [hn] at hg
    simp only at hg
    have e : findR k o l2 = .tup [vi s, vb true] := by unfold findR; rw [hs]
    rw [e]
    have q1 : (acc.length + 1) * 24 <= 140737488355328 := by omega
    have htk : List.take acc.length (acc.map vnote) = acc.map vnote := List.take_of_length_le (by simp)
    have hsn : small s := ⟨by omega, by omega⟩
    have e2 : (acc ++ [(⟨s, 4, altA c i⟩ : Nt)]).length = acc.length + 1 := by simp
    have e3 : (acc ++ [(⟨s, 4, altA c i⟩ : Nt)]).map vnote = acc.map vnote ++ [vnote ⟨s, 4, altA c i⟩] := by simp
    by_cases s0' : 0 <= s
    ·rw [show stepP ⟨s, 4, altA c i⟩ l2 = s by simp only [stepP, s0', if_true]] at hg
     simp only [go_sem, Nat.reducePow, Nat.reduceLeDiff, ↓reduceIte, Nat.reduceLT, Nat.reduceEqDiff, Nat.reduceAdd, Nat.reduceMul, s0', q1, htk]
     refine ⟨f, ⟨parE s (acc.length + 1), parO c (i4 + 1) (acc ++ [⟨s, 4, altA c i⟩])⟩, by omega, ?_, i4 + 1, s, acc ++ [⟨s, 4, altA c i⟩], by omega, by omega, by omega, hsn, hg, by rw [e2]⟩
     simp only [parO, e2, e3]
     refine WkE.round ?_ ?_ ?_ ?_
     ·simp only [go_sem, ↓reduceIte, Nat.reduceEqDiff]
     ·rfl
     ·simp only [List.all_cons, List.all_nil, AObj.innO, List.all_append, inn_map (f := vnote) (fun _ => rfl), Bool.and_true, Bool.true_and]
      rfl
     ·rfl
    ·rw [show stepP ⟨s, 4, altA c i⟩ l2 = l2 by simp only [stepP, s0', if_false]] at hg
     simp only [go_sem, Nat.reducePow, Nat.reduceLeDiff, ↓reduceIte, Nat.reduceLT, Nat.reduceEqDiff, Nat.reduceAdd, Nat.reduceMul, s0', q1, htk]
     refine ⟨f, ⟨parE l2 (acc.length + 1), parO c (i4 + 1) (acc ++ [⟨s, 4, altA c i⟩])⟩, by omega, ?_, i4 + 1, l2, acc ++ [⟨s, 4, altA c i⟩], by omega, by omega, by omega, hsm, hg, by rw [e2]⟩
     simp only [parO, e2, e3]
     refine WkE.round ?_ ?_ ?_ ?_
     ·simp only [go_sem, ↓reduceIte, Nat.reduceEqDiff]
     ·rfl
     ·simp only [List.all_cons, List.all_nil, AObj.innO, List.all_append, inn_map (f := vnote) (fun _ => rfl), Bool.and_true, Bool.true_and]
      rfl
     ·rfl
  | false =>
   have hbad : ¬ (false = true /\ l ≠ 0) := by simp
   simp only [go_sem, ↓reduceIte, Nat.reduceLT, Nat.reduceEqDiff, hk0, List.cons_append, List.nil_append]
   have hfind := find_s k o l2 ⟨by omega, by omega⟩ ⟨by omega, by omega⟩ hsm
   refine callT hfind rfl ?_
   cases hs : findP k o l2 with
   | none =>
    have hn : noteAt c i l2 = none := by rw [hnote, if_neg hbad, hs]
    rw [hn] at hg
    rw [<- hg]
    have e : findR k o l2 = .tup [vi (if (k : Int) = 7 then -1 else 0), vb false] := by unfold findR; rw [hs]
    rw [e]
    simp only [go_sem, Nat.reduceLeDiff, ↓reduceIte, reduceCtorEq, Nat.reduceLT, Nat.reduceEqDiff, Nat.reduceAdd, Int.reduceNeg]
    exact snap_par0
   | some s =>
    have hbd := findP_bd ⟨by omega, by omega⟩ hob hs
    have hn : noteAt c i l2 = some (⟨s, l, altA c i⟩, i4 + 1) := by rw [hnote, if_neg hbad, hs]; rfl
    rw [hn] at hg
    simp only at hg
    have e : findR k o l2 = .tup [vi s, vb true] := by unfold findR; rw [hs]
    rw [e]
    have q1 : (acc.length + 1) * 24 <= 140737488355328 := by omega
    have htk : List.take acc.length (acc.map vnote) = acc.map vnote := List.take_of_length_le (by simp)
    have hsn : small s := ⟨by omega, by omega⟩
    have e2 : (acc ++ [(⟨s, l, altA c i⟩ : Nt)]).length = acc.length + 1 := by simp
    have e3 : (acc ++ [(⟨s, l, altA c i⟩ : Nt)]).map vnote = acc.map vnote ++ [vnote ⟨s, l, altA c i⟩] := by simp
    by_cases s0' : 0 <= s
    ·rw [show stepP ⟨s, l, altA c i⟩ l2 = s by simp only [stepP, s0', if_true]] at hg
     simp only [go_sem, Nat.reducePow, Nat.reduceLeDiff, ↓reduceIte, Nat.reduceLT, Nat.reduceEqDiff, Nat.reduceAdd, Nat.reduceMul, s0', q1, htk]
     refine ⟨f, ⟨parE s (acc.length + 1), parO c (i4 + 1) (acc ++ [⟨s, l, altA c i⟩])⟩, by omega, ?_, i4 + 1, s, acc ++ [⟨s, l, altA c i⟩], by omega, by omega, by omega, hsn, hg, by rw [e2]⟩
     simp only [parO, e2, e3]
     refine WkE.round ?_ ?_ ?_ ?_
     ·simp only [go_sem, ↓reduceIte, Nat.reduceEqDiff]
     ·rfl
     ·simp only [List.all_cons, List.all_nil, AObj.innO, List.all_append, inn_map (f := vnote) (fun _ => rfl), Bool.and_true, Bool.true_and]
      rfl
     ·rfl
    ·rw [show stepP ⟨s, l, altA c i⟩ l2 = l2 by simp only [stepP, s0', if_false]] at hg
     simp only [go_sem, Nat.reducePow, Nat.reduceLeDiff, ↓reduceIte, Nat.reduceLT, Nat.reduceEqDiff, Nat.reduceAdd, Nat.reduceMul, s0', q1, htk]
     refine ⟨f, ⟨parE l2 (acc.length + 1), parO c (i4 + 1) (acc ++ [⟨s, l, altA c i⟩])⟩, by omega, ?_, i4 + 1, l2, acc ++ [⟨s, l, altA c i⟩], by omega, by omega, by omega, hsm, hg, by rw [e2]⟩
     simp only [parO, e2, e3]
     refine WkE.round ?_ ?_ ?_ ?_
     ·simp only [go_sem, ↓reduceIte, Nat.reduceEqDiff]
     ·rfl
     ·simp only [List.all_cons, List.all_nil, AObj.innO, List.all_append, inn_map (f := vnote) (fun _ => rfl), Bool.and_true, Bool.true_and]
      rfl
     ·rfl
end Go.Proofs.YtnncijjkbonokaaDoor
namespace Dak
open Go Go.RowKit
variable [Globs]
def AgreeR (σ : Nat -> Nat) (base : List AObj) (env : List (Nat × AV)) : List (Nat × AV) -> Prop
 | [] => True
 | (k, v) :: r => lk env k = v.ren σ /\ v.inR base = true /\ AgreeR σ base env r
theorem agreeR_lk {σ : Nat -> Nat} {base : List AObj} {env : List (Nat × AV)} : ∀ {env' : List (Nat × AV)}, AgreeR σ base env env' -> ∀ t, lk env' t = .junk \/ (lk env t = (lk env' t).ren σ /\ (lk env' t).inR base = true)
 | [], _, t => .inl rfl
 | (k, v) :: r, h, t => by
  simp only [lk]
  split
  ·rename_i e; subst e; exact .inr ⟨h.1, h.2.1⟩
  ·exact agreeR_lk h.2.2 t
theorem ren_junk {σ : Nat -> Nat} {x : AV} (h : x.ren σ = .junk) : x = .junk := by
 cases x <;> simp_all [AV.ren, AV.ren1]
theorem WkE.rename {n : Nat} {env env' : List (Nat × AV)} {objs base : List AObj} (σ : Nat -> Nat) (hR : Ren σ base objs) (hi : (base.all fun o => o.inRO base) = true) (h : AgreeR σ base env env') : WkE n ⟨env, objs⟩ ⟨env', base⟩ := by
 intro hk
 refine ⟨fun t ht => ?_, fun F0 w0 a w hs => ?_⟩
 ·rcases agreeR_lk h t with e | ⟨e, _⟩
  ·exact e
  ·have := hk t ht
   rw [show lk env t = .junk from this] at e
   exact ren_junk e.symm
 obtain ⟨hd, L, g, hsz, ht⟩ := sim_slots hk hs
 have g' := ren_in hR g hi
 refine sim_mk (s := ⟨env', base⟩) (L := L.back σ base) hd ⟨g'.obj, g'.out, g'.inj, fun i b o m hb => ?_, g.old, g.ext, g.gl⟩ hsz fun t hlt => ?_
 ·have hb : (if isArr base i then L.blk (σ i) else none) = some (b, o, m) := hb
  split at hb
  ·exact g.own _ _ _ _ hb
  ·cases hb
 ·rcases agreeR_lk h t with e | ⟨e, e2⟩
  ·rw [e]; exact .junk _
  ·have := ht t hlt
   simp only at this
   rw [e] at this
   exact unren_vr hR this e2
end Dak
namespace Go.Proofs.YtnncijjkbonokaaDoor
open Go.RowKit Dak
def trimN (b : List Int) : Nat -> Nat
 | 0 => 0
 | n + 1 => if b[n]? = some 0 then trimN b n else n + 1
def trimP (b : List Int) : List Int := b.take (trimN b b.length)
def cutP (c : List Int) (fr x : Nat) : List Int := (c.take (min x c.length)).drop (min fr c.length)
def filledAt (x : Nat) (c : List Int) : Bool := match c[x]? with
 | some v => decide (v ≠ 0)
 | none => false
def barsAdd (l : List (List Int)) (fr x : Nat) (outs : List (List (List Int))) : List (List (List Int)) := List.zipWith (fun o c => o ++ [trimP (cutP c fr x)]) outs l
def barsGo (l : List (List Int)) : Nat -> Nat -> Nat -> List (List (List Int)) -> List (List (List Int))
 | 0, _, _, outs => outs
 | f + 1, x, fr, outs => if l.any (filledAt x) = true then barsGo l f (x + 1) fr outs else barsGo l f (x + 1) (x + 1) (barsAdd l fr x outs)
def barsP (l : List (List Int)) : List (List (List Int)) := barsGo l (wideP l 0 + 1) 0 0 (List.replicate l.length [])
abbrev vbars (b : List (List (List Int))) : AV := .list 1 (b.map vpage)
theorem filled_s (x : Nat) (c : List Int) (hx : x <= 1000000) : Ctr Tryd.prog 87 [vbytes c, .ptr [vi x]] (vb (filledAt x c)) := by
 refine specE f87 (by simp) fun F0 w0 => ?_
 have h0 : (0 : Int) <= (x : Int) := by omega
 by_cases h : x < c.length
 ·have h' : (x : Int) < (c.length : Int) := by omega
  have hx := List.getElem?_eq_getElem h
  have e : filledAt x c = decide (c[x] ≠ 0) := by simp only [filledAt, hx]
  by_cases hz : c[x] = 0
  ·rw [show filledAt x c = false by rw [e]; simp [hz]]
   have hz' : (c[x] = 0) = True := eq_true hz
   simp only [c87, go_sem, ↓reduceIte, reduceCtorEq, Nat.reduceLT, Nat.reduceEqDiff, h', h0, List.getElem?_map, hx, Option.map_some, hz]
   exact .tree _ rfl
  ·rw [show filledAt x c = true by rw [e]; simp [hz]]
   simp only [c87, go_sem, ↓reduceIte, reduceCtorEq, Nat.reduceLT, Nat.reduceEqDiff, h', h0, List.getElem?_map, hx, Option.map_some, hz]
   exact .tree _ rfl
 ·have h' : ¬ (x : Int) < (c.length : Int) := by omega
  rw [show filledAt x c = false by simp only [filledAt, List.getElem?_eq_none (show c.length <= x by omega)]]
  simp only [c87, go_sem, ↓reduceIte, reduceCtorEq, Nat.reduceLT, Nat.reduceEqDiff, h']
  exact .tree _ rfl
abbrev barsB : CCode := match c75 with | .seq _ (.seq _ (.seq _ (.seq (.seq _ (.block _ (.loop b))) _))) => b | _ => .skip
abbrev trimB : CCode := match barsB with | .seq _ (.seq (.block _ (.seq _ (.seq (.seq _ (.block _ (.loop (.seq _ (.seq _ (.seq (.block _ (.seq _ (.seq _ (.seq b _)))) _)))))) _))) _) => b | _ => .skip
abbrev brE (l : List (List Int)) (n fr : Nat) : List (Nat × AV) := [(0, vpage l), (3, .own 0 n 0 n), (4, vi fr), (5, .ref 1 1 0 0)]
abbrev brH (l : List (List Int)) (n fr h : Nat) : List (Nat × AV) := [(21, vpage l), (22, vi n), (23, vi h)] ++ brE l n fr
theorem trim_s (F0 : FD) (w0 : World) (l : List (List Int)) (n fr h : Nat) (objs : List AObj) (b : List Int) (hb : b.length <= 1000000)
 {Q : Exit -> Est -> Prop} (hQ : Q .normal ⟨[(6, vi h), (8, vbytes (trimP b))] ++ brH l n fr h, objs⟩) : CwpE Tryd.prog F0 w0 70 trimB Q ⟨[(6, vi h), (8, vbytes b)] ++ brH l n fr h, objs⟩ := by
 unfold trimB barsB c75
 refine CwpE.block ?_
 refine loopX 4 (fun k s => k <= b.length /\ trimN b k = trimN b b.length /\ s = ⟨[(6, vi h), (8, vbytes (b.take k))] ++ brH l n fr h, objs⟩) (fun s => s = ⟨[(6, vi h), (8, vbytes (trimP b))] ++ brH l n fr h, objs⟩) b.length _ (.refl _ _) ⟨Nat.le_refl _, rfl, by rw [List.take_length]⟩ ?_ ?_
 rotate_left
 ·rintro s rfl
  simp only [inBlockE, if_true]
  exact hQ
 rintro k s ⟨hk, ht, rfl⟩
 have hl : (b.take k).length = k := by rw [List.length_take]; omega
 cases k with
 | zero =>
  have e : trimP b = b.take 0 := by rw [trimP, <- ht]; rfl
  rw [e]
  have k0 : ((0 : Nat) : Int) = 0 := rfl
  simp only [go_sem, ↓reduceIte, Nat.reduceLT, Nat.reduceEqDiff, Int.lt_irrefl, k0, List.take_zero, List.map_nil, List.length_nil, List.cons_append, List.nil_append]
  exact ⟨_, WkE.keep (by simp only [go_sem, ↓reduceIte, reduceCtorEq, Nat.reduceEqDiff]), rfl⟩
 | succ k =>
  have hkb : k < b.length := by omega
  have g1 : (0 : Int) < ((b.take (k + 1)).length : Int) := by omega
  have w1 : IntKind.i64.wrap (((b.take (k + 1)).length : Int) - 1) = (k : Int) := by rw [wrap_id (by omega) (by omega)]; omega
  have g0 : (0 : Int) <= (k : Int) := by omega
  have g2 : (k : Int) < ((b.take (k + 1)).length : Int) := by omega
  have g3 : (k : Int) <= ((b.take (k + 1)).length : Int) := by omega
  have hx : (b.take (k + 1))[k]? = some b[k] := by rw [List.getElem?_take, if_pos (by omega), List.getElem?_eq_getElem hkb]
  have hx' := List.getElem?_eq_getElem hkb
  rw [trimN, hx'] at ht
  by_cases hz : b[k] = 0
  ·rw [if_pos (by rw [hz])] at ht
   obtain ⟨d, hd⟩ : ∃ d, b.take (k + 1) = d := ⟨_, rfl⟩
   have htk : List.take k (d.map vu) = (b.take k).map vu := by rw [<- hd, <- List.map_take, List.take_take, Nat.min_eq_left (by omega)]
   rw [hd] at g1 w1 g2 g3 hx ⊢
   have hz' : (b[k] = 0) = True := eq_true hz
   simp only [go_sem, ↓reduceIte, Nat.reduceLT, Nat.reduceEqDiff, g1, w1, g0, g3, List.getElem?_map, hx, Option.map_some, hz', List.cons_append, List.nil_append, List.drop_zero, htk, Int.toNat_natCast]
   exact ⟨k, _, by omega, WkE.keep (by simp only [go_sem, ↓reduceIte, reduceCtorEq, Nat.reduceEqDiff]), by omega, ht, rfl⟩
  ·rw [if_neg (by simpa using hz)] at ht
   have e : trimP b = b.take (k + 1) := by rw [trimP, <- ht]
   rw [e]
   obtain ⟨d, hd⟩ : ∃ d, b.take (k + 1) = d := ⟨_, rfl⟩
   rw [hd] at g1 w1 g2 g3 hx ⊢
   simp only [go_sem, ↓reduceIte, Nat.reduceLT, Nat.reduceEqDiff, g1, w1, g0, List.getElem?_map, hx, Option.map_some, hz, List.cons_append, List.nil_append]
   exact ⟨_, WkE.keep (by simp only [go_sem, ↓reduceIte, reduceCtorEq, Nat.reduceEqDiff]), rfl⟩
abbrev bar1O (x : Nat) (r0 : List (List Int)) : List AObj := [.arr 1 1 39 [.own 2 r0.length 0 r0.length], .arr 1 1 3 [vi x], .arr r0.length 1 30 (r0.map vbytes)]
abbrev put10B : CCode := match barsB with | .seq _ (.seq (.block _ (.seq _ (.seq (.seq _ (.block _ (.loop (.seq _ (.seq _ (.seq (.block _ (.seq _ (.seq _ (.seq _ b)))) _)))))) _))) _) => b | _ => .skip
theorem barput10 (F0 : FD) (w0 : World) (c0 : List Int) (fr x : Nat) (r0 : List (List Int)) (b : List Int) (hr : r0.length <= 1000000)
 {Q : Exit -> Est -> Prop} (hQ : ∀ s, WkE 70 s ⟨brH [c0] 1 fr 0, bar1O x (r0 ++ [b])⟩ -> Q .normal s) : CwpE Tryd.prog F0 w0 70 put10B Q ⟨[(6, vi (0 : Nat)), (8, vbytes b)] ++ brH [c0] 1 fr 0, bar1O x r0⟩ := by
 unfold put10B barsB c75
 have k0 : ((0 : Nat) : Int) = 0 := rfl
 have k1 : ((1 : Nat) : Int) = 1 := rfl
 have k2 : ((2 : Nat) : Int) = 2 := rfl
 have l01 : (0 : Int) < 1 := by decide
 have l02 : (0 : Int) < 2 := by decide
 have l12 : (1 : Int) < 2 := by decide
 have le01 : (0 : Int) <= 1 := by decide
 have htk : List.take r0.length (r0.map vbytes) = r0.map vbytes := List.take_of_length_le (by simp)
 have q1 : (r0.length + 1) * 24 <= 140737488355328 := by omega
 have e2 : (r0 ++ [b]).length = r0.length + 1 := by simp
 have e3 : (r0 ++ [b]).map vbytes = r0.map vbytes ++ [vbytes b] := by simp
 refine CwpE.vc ?_
 simp only [bar1O, e2, e3] at hQ
 simp only [go_sem, Nat.reducePow, Nat.reduceLeDiff, ↓reduceIte, reduceCtorEq, Nat.reduceLT, Nat.reduceEqDiff, Nat.reduceAdd, Nat.reduceMul, Int.reduceToNat, Int.reduceToNat, Int.le_refl, k0, k1, l01, htk, q1, List.cons_append, List.nil_append]
 exact hQ _ (WkE.keep (by simp only [go_sem, ↓reduceIte, reduceCtorEq, Nat.reduceEqDiff, k0, k1, List.cons_append, List.nil_append]))
abbrev bar2O (x : Nat) (r0 r1 : List (List Int)) : List AObj := [.arr 2 1 39 [.own 2 r0.length 0 r0.length, .own 3 r1.length 0 r1.length], .arr 1 1 3 [vi x], .arr r0.length 1 30 (r0.map vbytes), .arr r1.length 1 30 (r1.map vbytes)]
abbrev put20B : CCode := match barsB with | .seq _ (.seq (.block _ (.seq _ (.seq (.seq _ (.block _ (.loop (.seq _ (.seq _ (.seq (.block _ (.seq _ (.seq _ (.seq _ b)))) _)))))) _))) _) => b | _ => .skip
theorem barput20 (F0 : FD) (w0 : World) (c0 c1 : List Int) (fr x : Nat) (r0 r1 : List (List Int)) (b : List Int) (hr : r0.length <= 1000000)
 {Q : Exit -> Est -> Prop} (hQ : ∀ s, WkE 70 s ⟨brH [c0, c1] 2 fr 0, bar2O x (r0 ++ [b]) r1⟩ -> Q .normal s) : CwpE Tryd.prog F0 w0 70 put20B Q ⟨[(6, vi (0 : Nat)), (8, vbytes b)] ++ brH [c0, c1] 2 fr 0, bar2O x r0 r1⟩ := by
 unfold put20B barsB c75
 have k0 : ((0 : Nat) : Int) = 0 := rfl
 have k1 : ((1 : Nat) : Int) = 1 := rfl
 have k2 : ((2 : Nat) : Int) = 2 := rfl
 have l01 : (0 : Int) < 1 := by decide
 have l02 : (0 : Int) < 2 := by decide
 have l12 : (1 : Int) < 2 := by decide
 have le01 : (0 : Int) <= 1 := by decide
 have htk : List.take r0.length (r0.map vbytes) = r0.map vbytes := List.take_of_length_le (by simp)
 have q1 : (r0.length + 1) * 24 <= 140737488355328 := by omega
 have e2 : (r0 ++ [b]).length = r0.length + 1 := by simp
 have e3 : (r0 ++ [b]).map vbytes = r0.map vbytes ++ [vbytes b] := by simp
 refine CwpE.vc ?_
 simp only [bar2O, e2, e3] at hQ
 simp only [go_sem, Nat.reducePow, Nat.reduceLeDiff, ↓reduceIte, reduceCtorEq, Nat.reduceLT, Nat.reduceEqDiff, Nat.reduceAdd, Nat.reduceMul, Int.reduceToNat, Int.reduceToNat, Int.le_refl, k0, k2, l02, htk, q1, List.cons_append, List.nil_append]
 exact hQ _ (WkE.keep (by simp only [go_sem, ↓reduceIte, reduceCtorEq, Nat.reduceEqDiff, k0, k2, List.cons_append, List.nil_append]))
abbrev put21B : CCode := match barsB with | .seq _ (.seq (.block _ (.seq _ (.seq (.seq _ (.block _ (.loop (.seq _ (.seq _ (.seq (.block _ (.seq _ (.seq _ (.seq _ b)))) _)))))) _))) _) => b | _ => .skip
theorem barput21 (F0 : FD) (w0 : World) (c0 c1 : List Int) (fr x : Nat) (r0 r1 : List (List Int)) (b : List Int) (hr : r1.length <= 1000000)
 {Q : Exit -> Est -> Prop} (hQ : ∀ s, WkE 70 s ⟨brH [c0, c1] 2 fr 1, bar2O x r0 (r1 ++ [b])⟩ -> Q .normal s) : CwpE Tryd.prog F0 w0 70 put21B Q ⟨[(6, vi (1 : Nat)), (8, vbytes b)] ++ brH [c0, c1] 2 fr 1, bar2O x r0 r1⟩ := by
 unfold put21B barsB c75
 have k0 : ((0 : Nat) : Int) = 0 := rfl
 have k1 : ((1 : Nat) : Int) = 1 := rfl
 have k2 : ((2 : Nat) : Int) = 2 := rfl
 have l01 : (0 : Int) < 1 := by decide
 have l02 : (0 : Int) < 2 := by decide
 have l12 : (1 : Int) < 2 := by decide
 have le01 : (0 : Int) <= 1 := by decide
 have htk : List.take r1.length (r1.map vbytes) = r1.map vbytes := List.take_of_length_le (by simp)
 have q1 : (r1.length + 1) * 24 <= 140737488355328 := by omega
 have e2 : (r1 ++ [b]).length = r1.length + 1 := by simp
 have e3 : (r1 ++ [b]).map vbytes = r1.map vbytes ++ [vbytes b] := by simp
 refine CwpE.vc ?_
 simp only [bar2O, e2, e3] at hQ
 simp only [go_sem, Nat.reducePow, Nat.reduceLeDiff, ↓reduceIte, reduceCtorEq, Nat.reduceLT, Nat.reduceEqDiff, Nat.reduceAdd, Nat.reduceMul, Int.reduceToNat, Int.reduceToNat, k1, k2, l12, le01, htk, q1, List.cons_append, List.nil_append]
 exact hQ _ (WkE.keep (by simp only [go_sem, ↓reduceIte, reduceCtorEq, Nat.reduceEqDiff, k1, k2, List.cons_append, List.nil_append]))
end Go.Proofs.YtnncijjkbonokaaDoor
namespace Go.Proofs.YtnncijjkbonokaaDoor
open Go.RowKit Dak
theorem min_if (a b : Nat) : (if (b : Int) < (a : Int) then (b : Int) else (a : Int)) = ((min a b : Nat) : Int) := by
 split <;> omega
theorem map_cut (c : List Int) (fr x : Nat) : List.drop (min fr c.length) (List.take (min x c.length) (c.map vu)) = (cutP c fr x).map vu := by rw [cutP, List.map_drop, List.map_take]
theorem cut_len (c : List Int) (fr x : Nat) : (cutP c fr x).length <= c.length := by rw [cutP, List.length_drop, List.length_take]; omega
def sig1 (i : Nat) : Nat := if i = 1 then 3 else i
theorem ren_bar1 (x y : Nat) (r0 : List (List Int)) : Ren sig1 (bar1O y r0) (bar1O x r0 ++ [.arr 1 1 3 [vi y]]) := by
 refine ⟨fun i j hi hj h => ?_, fun i g s e xs h => ?_⟩
 ·have h1 := isArr_lt hi
  have h2 := isArr_lt hj
  simp only [List.length_cons, List.length_nil] at h1 h2
  unfold sig1 at h
  split at h <;> split at h <;> omega
 ·have hlt := (List.getElem?_eq_some_iff.1 h).1
  simp only [List.length_cons, List.length_nil] at hlt
  have ren : ∀ r : List (List Int), (r.map vbytes).map (AV.ren sig1) = r.map vbytes := fun r => ren_map fun _ => rfl
  match i, hlt with
  | 0, _ =>
   simp only [List.getElem?_cons_zero, Option.some.injEq, AObj.arr.injEq] at h
   obtain ⟨rfl, rfl, rfl, rfl⟩ := h
   rfl
  | 1, _ =>
   simp only [List.getElem?_cons_zero, List.getElem?_cons_succ, Option.some.injEq, AObj.arr.injEq] at h
   obtain ⟨rfl, rfl, rfl, rfl⟩ := h
   rfl
  | 2, _ =>
   simp only [List.getElem?_cons_zero, List.getElem?_cons_succ, Option.some.injEq, AObj.arr.injEq] at h
   obtain ⟨rfl, rfl, rfl, rfl⟩ := h
   rw [ren]; rfl
theorem inRO_bar1 (y : Nat) (r0 : List (List Int)) : ((bar1O y r0).all fun o => o.inRO (bar1O y r0)) = true := by
 have h : ∀ (B : List AObj) (r : List (List Int)), (r.map vbytes).all (AV.inR B) = true := fun B r => inR_map fun _ => rfl
 simp only [List.all_cons, List.all_nil, AObj.inRO, h, Bool.and_true]
 rfl
theorem bars_1 (c0 : List Int) (hc0 : c0.length <= 1000) : Ctr Tryd.prog 75 [vpage [c0]] (vbars (barsP [c0])) := by
 have k0 : ((0 : Nat) : Int) = 0 := rfl
 have k1 : ((1 : Nat) : Int) = 1 := rfl
 have k2 : ((2 : Nat) : Int) = 2 := rfl
 have k24 : ((24 : Nat) : Int) = 24 := rfl
 have n2 : (24 : Int) * 1 <= 281474976710656 := by decide
 have l01 : (0 : Int) < 1 := by decide
 have l02 : (0 : Int) < 2 := by decide
 have l12 : (1 : Int) < 2 := by decide
 have le01 : (0 : Int) <= 1 := by decide
 have w01 : IntKind.i64.wrap (0 + 1) = 1 := by decide
 have w12 : IntKind.i64.wrap (1 + 1) = 2 := by decide
 obtain ⟨w, hw⟩ : ∃ w, wideP [c0] 0 = w := ⟨_, rfl⟩
 have hwb : w <= 1000 := by rw [<- hw]; exact wide_le _ _ _ (by omega) fun c hc => by simp only [List.mem_cons, List.not_mem_nil, or_false] at hc; subst hc <;> omega
 refine specC f75 (by simp) fun F0 w0 => ?_
 unfold c75
 refine CwpE.cut (st := ⟨[(0, vpage [c0])], []⟩) ?_ ?_
 ·simp only [go_sem, ↓reduceIte, Nat.reduceLT]
  exact ⟨_, WkE.keep (by simp only [go_sem, ↓reduceIte, reduceCtorEq]), rfl⟩
 refine CwpE.cut (st := ⟨[(0, vpage [c0]), (3, .own 0 1 0 1)], [.arr 1 1 39 [.val (.slice none 0 0)]]⟩) ?_ ?_
 ·simp only [go_sem, List.replicate_succ, ↓reduceIte, Nat.reduceLT, Int.reduceToNat, Int.reduceLE, Int.reduceToNat, Int.le_refl, k1, k24, n2]
  exact ⟨_, WkE.keep (by simp only [go_sem, ↓reduceIte, reduceCtorEq]), rfl⟩
 refine CwpE.cut (st := ⟨[(0, vpage [c0]), (3, .own 0 1 0 1), (4, vi (0 : Nat))], [.arr 1 1 39 [.val (.slice none 0 0)]]⟩) ?_ ?_
 ·simp only [go_sem, ↓reduceIte, Nat.reduceLT]
  exact ⟨_, WkE.keep (by simp only [go_sem, ↓reduceIte, reduceCtorEq, Nat.reduceEqDiff]; rfl), rfl⟩
 refine CwpE.seqJ (fun s => ∃ (fr x : Nat) (r0 : List (List Int)), barsP [c0] = [r0] /\ s = ⟨brE [c0] 1 fr, bar1O x r0⟩) ?_ ?_
 rotate_left
 ·rintro _ ⟨fr, x, r0, e, rfl⟩
  rw [e]
  refine CwpE.vc ?_
  simp only [go_sem, ↓reduceIte, reduceCtorEq, Nat.reduceLT]
  refine .own 0 1 0 1 1 39 _ _ rfl (by simp) (by simp) fun i hi => ?_
  match i, hi with
  | 0, _ => exact snap_all r0 _ rfl rfl fun _ => rfl
 refine CwpE.cut (st := ⟨brE [c0] 1 0, bar1O 0 []⟩) ?_ ?_
 ·simp only [go_sem, ↓reduceIte, Nat.reduceLT]
  exact ⟨_, (WkE.nilCell 0 1 1 0 0 1 30 39 [.val (.slice none 0 0)] _ rfl rfl rfl).trans (WkE.keep (by simp only [go_sem, ↓reduceIte, reduceCtorEq, Nat.reduceEqDiff, k0])), rfl⟩
 refine CwpE.block ?_
 refine loopXC 0 (fun f s => ∃ (x fr : Nat) (r0 : List (List Int)), x + f = w + 1 /\ fr <= x /\ r0.length <= x /\ barsGo [c0] f x fr [r0] = barsP [c0] /\ s = ⟨brE [c0] 1 fr, bar1O x r0⟩)
  (fun s => ∃ (fr x : Nat) (r0 : List (List Int)), barsP [c0] = [r0] /\ s = ⟨brE [c0] 1 fr, bar1O x r0⟩) (w + 1) ⟨brE [c0] 1 0, bar1O 0 []⟩ (.refl _ _) ⟨0, 0, [], by omega, by omega, Nat.le_refl _, by rw [<- hw]; rfl, rfl⟩ ?_ ?_
 rotate_left
 ·rintro s h
  simp only [inBlockE, if_true]
  exact ⟨_, .refl _ _, h⟩
 rintro f s ⟨x, fr, r0, hf, hfr, qr0, hg, rfl⟩
 cases f with
 | zero =>
  have hx : ¬ (x : Int) <= (w : Int) := by omega
  refine CwpE.vc ?_
  simp only [go_sem, ↓reduceIte, reduceCtorEq, Nat.reduceLT, Nat.reduceEqDiff]
  refine callT (wide_s [c0] (by simp)) rfl ?_
  rw [hw]
  simp only [go_sem, ↓reduceIte, reduceCtorEq, Nat.reduceLT, Nat.reduceEqDiff, hx]
  exact ⟨_, WkE.keep (by simp only [go_sem, ↓reduceIte, reduceCtorEq, Nat.reduceEqDiff]), fr, x, r0, hg.symm, rfl⟩
 | succ f =>
 have hx : (x : Int) <= (w : Int) := by omega
 have wx : IntKind.i64.wrap ((x : Int) + 1) = ((x + 1 : Nat) : Int) := by rw [wrap_id (by omega) (by omega)]; omega
 refine CwpE.cut (st := ⟨brE [c0] 1 fr, bar1O x r0⟩) ?_ ?_
 ·simp only [go_sem, ↓reduceIte, reduceCtorEq, Nat.reduceLT, Nat.reduceEqDiff]
  refine callT (wide_s [c0] (by simp)) rfl ?_
  rw [hw]
  simp only [go_sem, ↓reduceIte, reduceCtorEq, Nat.reduceLT, Nat.reduceEqDiff, hx]
  exact ⟨_, WkE.keep (by simp only [go_sem, ↓reduceIte, reduceCtorEq, Nat.reduceEqDiff]), rfl⟩
 have fin : ∀ (fr' : Nat) (r0' : List (List Int)) (Q : Exit -> Est -> Prop), Q .normal ⟨brE [c0] 1 fr', bar1O (x + 1) r0'⟩ -> (∀ s t, WkE 70 s t -> Q .normal t -> Q .normal s) -> CwpE Tryd.prog F0 w0 70 (match barsB with | .seq _ (.seq _ c) => c | _ => .skip) Q ⟨brE [c0] 1 fr', bar1O x r0'⟩ := by
  intro fr' r0' Q hQ hwk
  refine CwpE.vc ?_
  unfold barsB c75
  simp only [go_sem, ↓reduceIte, reduceCtorEq, Nat.reduceLT, Nat.reduceEqDiff, Nat.reduceAdd, wx]
  refine hwk _ ⟨brE [c0] 1 fr', bar1O (x + 1) r0'⟩ (WkE.rename sig1 (ren_bar1 x (x + 1) r0') (inRO_bar1 _ _) ?_) hQ
  exact ⟨rfl, rfl, rfl, rfl, rfl, rfl, rfl, rfl, trivial⟩
 have hwkR : ∀ {I : Nat -> Est -> Prop} {k a : Nat} {J : Est -> Prop} {Q : Exit -> Est -> Prop} (s t : Est), WkE 70 s t -> RoundX 70 I k a J Q .normal t -> RoundX 70 I k a J Q .normal s := by
  rintro I k a J Q s t h ⟨m, s', h1, h2, h3⟩
  exact ⟨m, s', h1, h.trans h2, h3⟩
 rw [barsGo] at hg
 have hcl : Snaps (bar1O x r0) [vpage [c0], .clo (.func 87) [.ref 1 1 0 0]] [vpage [c0], .clo (.func 87) [.ptr [vi x]]] := .cons (.tree _ rfl) (.cons (snap_clo1 (snap_box rfl rfl)) .nil)
 have hcon := ContainsFunc86_s 87 [.ptr [vi x]] rfl (filledAt x) [c0] (by simp) fun c _ => filled_s x c (by omega)
 cases hfl : [c0].any (filledAt x) with
 | true =>
  rw [hfl] at hcon
  rw [if_pos hfl] at hg
  refine CwpE.seqJ (fun s => s = ⟨brE [c0] 1 fr, bar1O x r0⟩) (CwpE.block (CwpE.vc ?_)) ?_
  ·simp only [go_sem, ↓reduceIte, reduceCtorEq, Nat.reduceLT, Nat.reduceEqDiff]
   refine callF hcon hcl rfl ?_
   simp only [go_sem, ↓reduceIte]
   exact ⟨_, WkE.keep (by simp only [go_sem, ↓reduceIte, reduceCtorEq, Nat.reduceEqDiff]), rfl⟩
  rintro _ rfl
  exact fin fr r0 _ ⟨f, _, by omega, .refl _ _, x + 1, fr, r0, by omega, by omega, by omega, hg, rfl⟩ hwkR
 | false =>
  rw [hfl] at hcon
  rw [if_neg (by rw [hfl]; simp)] at hg
  have hadd : barsAdd [c0] fr x [r0] = [(r0 ++ [trimP (cutP c0 fr x)])] := rfl
  rw [hadd] at hg
  refine CwpE.seqJ (fun s => s = ⟨brE [c0] 1 (x + 1), bar1O x (r0 ++ [trimP (cutP c0 fr x)])⟩) (CwpE.block ?_) ?_
  rotate_left
  ·rintro _ rfl
   exact fin (x + 1) (r0 ++ [trimP (cutP c0 fr x)]) _ ⟨f, _, by omega, .refl _ _, x + 1, x + 1, (r0 ++ [trimP (cutP c0 fr x)]), by omega, by omega, by simp; omega, hg, rfl⟩ hwkR
  refine CwpE.cut (st := ⟨brE [c0] 1 fr, bar1O x r0⟩) ?_ ?_
  ·simp only [go_sem, ↓reduceIte, reduceCtorEq, Nat.reduceLT, Nat.reduceEqDiff]
   refine callF hcon hcl rfl ?_
   simp only [go_sem, ↓reduceIte]
   exact ⟨_, WkE.keep (by simp only [go_sem, ↓reduceIte, reduceCtorEq, Nat.reduceEqDiff]), rfl⟩
  refine CwpE.seqJ (fun s => s = ⟨brE [c0] 1 fr, bar1O x (r0 ++ [trimP (cutP c0 fr x)])⟩) ?_ ?_
  rotate_left
  ·rintro _ rfl
   refine CwpE.vc ?_
   simp only [go_sem, ↓reduceIte, reduceCtorEq, Nat.reduceLT, Nat.reduceEqDiff, wx]
   exact ⟨_, WkE.keep (by simp only [go_sem, ↓reduceIte, reduceCtorEq, Nat.reduceEqDiff]), rfl⟩
  refine CwpE.cut (st := ⟨brH [c0] 1 fr 0, bar1O x r0⟩) ?_ ?_
  ·simp only [go_sem, ↓reduceIte, Nat.reduceLT, k1]
   exact ⟨_, WkE.keep (by simp only [go_sem, ↓reduceIte, reduceCtorEq, Nat.reduceEqDiff, k0]), rfl⟩
  refine CwpE.block ?_
  refine loopXC 2 (fun u s => (u = 1 /\ s = ⟨brH [c0] 1 fr 0, bar1O x r0⟩) \/ (u = 0 /\ s = ⟨brH [c0] 1 fr 1, bar1O x (r0 ++ [trimP (cutP c0 fr x)])⟩)) (fun s => s = ⟨brE [c0] 1 fr, bar1O x (r0 ++ [trimP (cutP c0 fr x)])⟩) 1 ⟨brH [c0] 1 fr 0, bar1O x r0⟩ (.refl _ _) (.inl ⟨rfl, rfl⟩) ?_ ?_
  rotate_left
  ·rintro s rfl
   simp only [inBlockE, if_true]
   exact ⟨_, .refl _ _, rfl⟩
  rintro u s (⟨rfl, rfl⟩ | ⟨rfl, rfl⟩)
  ·refine CwpE.cut (st := ⟨(24, vb true) :: brH [c0] 1 fr 0, bar1O x r0⟩) ?_ ?_
   ·simp only [go_sem, ↓reduceIte, Nat.reduceLT, Nat.reduceEqDiff, k0, k1, l01, List.cons_append, List.nil_append]
    exact ⟨_, WkE.keep (by simp only [go_sem, ↓reduceIte, reduceCtorEq, Nat.reduceEqDiff]), rfl⟩
   refine CwpE.cut (st := ⟨brH [c0] 1 fr 0, bar1O x r0⟩) ?_ ?_
   ·simp only [go_sem, ↓reduceIte, List.cons_append, List.nil_append]
    exact ⟨_, WkE.keep (by simp only [go_sem, ↓reduceIte, reduceCtorEq, Nat.reduceEqDiff, k0, k1]), rfl⟩
   refine CwpE.seqJ (fun s => s = ⟨brH [c0] 1 fr 0, bar1O x (r0 ++ [trimP (cutP c0 fr x)])⟩) (CwpE.block ?_) ?_
   rotate_left
   ·rintro _ rfl
    refine CwpE.vc ?_
    simp only [go_sem, ↓reduceIte, Nat.reduceLT, Nat.reduceEqDiff, k0, k1, w01, List.cons_append, List.nil_append]
    exact ⟨0, ⟨brH [c0] 1 fr 1, bar1O x (r0 ++ [trimP (cutP c0 fr x)])⟩, by omega, WkE.keep (by simp only [go_sem, ↓reduceIte, reduceCtorEq, Nat.reduceEqDiff, k1, List.cons_append, List.nil_append]), .inr (⟨rfl, rfl⟩)⟩
   refine CwpE.cut (st := ⟨[(6, vi (0 : Nat)), (7, vbytes c0)] ++ brH [c0] 1 fr 0, bar1O x r0⟩) ?_ ?_
   ·simp only [go_sem, ↓reduceIte, Nat.reduceLT, Nat.reduceEqDiff, Int.reduceToNat, Int.reduceToNat, Int.le_refl, k0, k1, List.cons_append, List.nil_append]
    exact ⟨_, WkE.keep (by simp only [go_sem, ↓reduceIte, reduceCtorEq, Nat.reduceEqDiff]), rfl⟩
   have m1 : (0 : Int) <= ((min fr c0.length : Nat) : Int) := by omega
   have m2 : ((min fr c0.length : Nat) : Int) <= ((min x c0.length : Nat) : Int) := by omega
   have m3 : ((min x c0.length : Nat) : Int) <= (c0.length : Int) := by omega
   have m4 : (0 : Int) <= ((min x c0.length : Nat) : Int) := by omega
   refine CwpE.cut (st := ⟨[(6, vi (0 : Nat)), (8, vbytes (cutP c0 fr x))] ++ brH [c0] 1 fr 0, bar1O x r0⟩) ?_ ?_
   ·simp only [go_sem, ↓reduceIte, reduceCtorEq, Nat.reduceLT, Nat.reduceEqDiff, k0, k1, min_if, m1, m2, m3, m4, map_cut, Int.toNat_natCast, and_self, List.cons_append, List.nil_append]
    exact ⟨_, WkE.keep (by simp only [go_sem, ↓reduceIte, reduceCtorEq, Nat.reduceEqDiff]), rfl⟩
   refine CwpE.seqJ (fun s => s = ⟨[(6, vi (0 : Nat)), (8, vbytes (trimP (cutP c0 fr x)))] ++ brH [c0] 1 fr 0, bar1O x r0⟩) ?_ ?_
   ·exact trim_s F0 w0 [c0] 1 fr 0 _ _ (by have := cut_len c0 fr x; omega) ⟨_, .refl _ _, rfl⟩
   rintro _ rfl
   exact barput10 F0 w0 c0 fr x r0 _ (by omega) fun s hs => ⟨_, hs, rfl⟩
  ·refine CwpE.vc ?_
   simp only [go_sem, ↓reduceIte, Nat.reduceLT, Nat.reduceEqDiff, Int.lt_irrefl, k0, k1, List.cons_append, List.nil_append]
   exact ⟨_, WkE.keep (by simp only [go_sem, ↓reduceIte, reduceCtorEq, Nat.reduceEqDiff]), rfl⟩
def sig2 (i : Nat) : Nat := if i = 1 then 4 else i
theorem ren_bar2 (x y : Nat) (r0 r1 : List (List Int)) : Ren sig2 (bar2O y r0 r1) (bar2O x r0 r1 ++ [.arr 1 1 3 [vi y]]) := by
 refine ⟨fun i j hi hj h => ?_, fun i g s e xs h => ?_⟩
 ·have h1 := isArr_lt hi
  have h2 := isArr_lt hj
  simp only [List.length_cons, List.length_nil] at h1 h2
  unfold sig2 at h
  split at h <;> split at h <;> omega
 ·have hlt := (List.getElem?_eq_some_iff.1 h).1
  simp only [List.length_cons, List.length_nil] at hlt
  have ren : ∀ r : List (List Int), (r.map vbytes).map (AV.ren sig2) = r.map vbytes := fun r => ren_map fun _ => rfl
  match i, hlt with
  | 0, _ =>
   simp only [List.getElem?_cons_zero, Option.some.injEq, AObj.arr.injEq] at h
   obtain ⟨rfl, rfl, rfl, rfl⟩ := h
   rfl
  | 1, _ =>
   simp only [List.getElem?_cons_zero, List.getElem?_cons_succ, Option.some.injEq, AObj.arr.injEq] at h
   obtain ⟨rfl, rfl, rfl, rfl⟩ := h
   rfl
  | 2, _ =>
   simp only [List.getElem?_cons_zero, List.getElem?_cons_succ, Option.some.injEq, AObj.arr.injEq] at h
   obtain ⟨rfl, rfl, rfl, rfl⟩ := h
   rw [ren]; rfl
  | 3, _ =>
   simp only [List.getElem?_cons_zero, List.getElem?_cons_succ, Option.some.injEq, AObj.arr.injEq] at h
   obtain ⟨rfl, rfl, rfl, rfl⟩ := h
   rw [ren]; rfl
theorem inRO_bar2 (y : Nat) (r0 r1 : List (List Int)) : ((bar2O y r0 r1).all fun o => o.inRO (bar2O y r0 r1)) = true := by
 have h : ∀ (B : List AObj) (r : List (List Int)), (r.map vbytes).all (AV.inR B) = true := fun B r => inR_map fun _ => rfl
 simp only [List.all_cons, List.all_nil, AObj.inRO, h, Bool.and_true]
 rfl
theorem bars_2 (c0 c1 : List Int) (hc0 : c0.length <= 1000) (hc1 : c1.length <= 1000) : Ctr Tryd.prog 75 [vpage [c0, c1]] (vbars (barsP [c0, c1])) := by
 have k0 : ((0 : Nat) : Int) = 0 := rfl
 have k1 : ((1 : Nat) : Int) = 1 := rfl
 have k2 : ((2 : Nat) : Int) = 2 := rfl
 have k24 : ((24 : Nat) : Int) = 24 := rfl
 have n2 : (24 : Int) * 2 <= 281474976710656 := by decide
 have l01 : (0 : Int) < 1 := by decide
 have l02 : (0 : Int) < 2 := by decide
 have l12 : (1 : Int) < 2 := by decide
 have le01 : (0 : Int) <= 1 := by decide
 have w01 : IntKind.i64.wrap (0 + 1) = 1 := by decide
 have w12 : IntKind.i64.wrap (1 + 1) = 2 := by decide
 obtain ⟨w, hw⟩ : ∃ w, wideP [c0, c1] 0 = w := ⟨_, rfl⟩
 have hwb : w <= 1000 := by rw [<- hw]; exact wide_le _ _ _ (by omega) fun c hc => by simp only [List.mem_cons, List.not_mem_nil, or_false] at hc; rcases hc with rfl | rfl <;> omega
 refine specC f75 (by simp) fun F0 w0 => ?_
 unfold c75
 refine CwpE.cut (st := ⟨[(0, vpage [c0, c1])], []⟩) ?_ ?_
 ·simp only [go_sem, ↓reduceIte, Nat.reduceLT]
  exact ⟨_, WkE.keep (by simp only [go_sem, ↓reduceIte, reduceCtorEq]), rfl⟩
 refine CwpE.cut (st := ⟨[(0, vpage [c0, c1]), (3, .own 0 2 0 2)], [.arr 2 1 39 [.val (.slice none 0 0), .val (.slice none 0 0)]]⟩) ?_ ?_
 ·simp only [go_sem, List.replicate_succ, ↓reduceIte, Nat.reduceLT, Nat.reduceAdd, Int.reduceToNat, Int.reduceLE, Int.reduceToNat, Int.le_refl, k2, k24, n2]
  exact ⟨_, WkE.keep (by simp only [go_sem, ↓reduceIte, reduceCtorEq]), rfl⟩
 refine CwpE.cut (st := ⟨[(0, vpage [c0, c1]), (3, .own 0 2 0 2), (4, vi (0 : Nat))], [.arr 2 1 39 [.val (.slice none 0 0), .val (.slice none 0 0)]]⟩) ?_ ?_
 ·simp only [go_sem, ↓reduceIte, Nat.reduceLT]
  exact ⟨_, WkE.keep (by simp only [go_sem, ↓reduceIte, reduceCtorEq, Nat.reduceEqDiff]; rfl), rfl⟩
 refine CwpE.seqJ (fun s => ∃ (fr x : Nat) (r0 r1 : List (List Int)), barsP [c0, c1] = [r0, r1] /\ s = ⟨brE [c0, c1] 2 fr, bar2O x r0 r1⟩) ?_ ?_
 rotate_left
 ·rintro _ ⟨fr, x, r0, r1, e, rfl⟩
  rw [e]
  refine CwpE.vc ?_
  simp only [go_sem, ↓reduceIte, reduceCtorEq, Nat.reduceLT]
  refine .own 0 2 0 2 1 39 _ _ rfl (by simp) (by simp) fun i hi => ?_
  match i, hi with
  | 0, _ => exact snap_all r0 _ rfl rfl fun _ => rfl
  | 1, _ => exact snap_all r1 _ rfl rfl fun _ => rfl
 refine CwpE.cut (st := ⟨brE [c0, c1] 2 0, bar2O 0 [] []⟩) ?_ ?_
 ·simp only [go_sem, ↓reduceIte, Nat.reduceLT]
  exact ⟨_, ((WkE.nilCell 0 2 1 0 0 1 30 39 [.val (.slice none 0 0), .val (.slice none 0 0)] _ rfl rfl rfl).trans (WkE.nilCell 0 2 1 1 0 1 30 39 [.own 2 0 0 0, .val (.slice none 0 0)] _ rfl rfl rfl)).trans (WkE.keep (by simp only [go_sem, ↓reduceIte, reduceCtorEq, Nat.reduceEqDiff, k0])), rfl⟩
 refine CwpE.block ?_
 refine loopXC 0 (fun f s => ∃ (x fr : Nat) (r0 r1 : List (List Int)), x + f = w + 1 /\ fr <= x /\ r0.length <= x /\ r1.length <= x /\ barsGo [c0, c1] f x fr [r0, r1] = barsP [c0, c1] /\ s = ⟨brE [c0, c1] 2 fr, bar2O x r0 r1⟩)
  (fun s => ∃ (fr x : Nat) (r0 r1 : List (List Int)), barsP [c0, c1] = [r0, r1] /\ s = ⟨brE [c0, c1] 2 fr, bar2O x r0 r1⟩) (w + 1) ⟨brE [c0, c1] 2 0, bar2O 0 [] []⟩ (.refl _ _) ⟨0, 0, [], [], by omega, by omega, Nat.le_refl _, Nat.le_refl _, by rw [<- hw]; rfl, rfl⟩ ?_ ?_
 rotate_left
 ·rintro s h
  simp only [inBlockE, if_true]
  exact ⟨_, .refl _ _, h⟩
 rintro f s ⟨x, fr, r0, r1, hf, hfr, qr0, qr1, hg, rfl⟩
 cases f with
 | zero =>
  have hx : ¬ (x : Int) <= (w : Int) := by omega
  refine CwpE.vc ?_
  simp only [go_sem, ↓reduceIte, reduceCtorEq, Nat.reduceLT, Nat.reduceEqDiff]
  refine callT (wide_s [c0, c1] (by simp)) rfl ?_
  rw [hw]
  simp only [go_sem, ↓reduceIte, reduceCtorEq, Nat.reduceLT, Nat.reduceEqDiff, hx]
  exact ⟨_, WkE.keep (by simp only [go_sem, ↓reduceIte, reduceCtorEq, Nat.reduceEqDiff]), fr, x, r0, r1, hg.symm, rfl⟩
 | succ f =>
 have hx : (x : Int) <= (w : Int) := by omega
 have wx : IntKind.i64.wrap ((x : Int) + 1) = ((x + 1 : Nat) : Int) := by rw [wrap_id (by omega) (by omega)]; omega
 refine CwpE.cut (st := ⟨brE [c0, c1] 2 fr, bar2O x r0 r1⟩) ?_ ?_
 ·simp only [go_sem, ↓reduceIte, reduceCtorEq, Nat.reduceLT, Nat.reduceEqDiff]
  refine callT (wide_s [c0, c1] (by simp)) rfl ?_
  rw [hw]
  simp only [go_sem, ↓reduceIte, reduceCtorEq, Nat.reduceLT, Nat.reduceEqDiff, hx]
  exact ⟨_, WkE.keep (by simp only [go_sem, ↓reduceIte, reduceCtorEq, Nat.reduceEqDiff]), rfl⟩
 have fin : ∀ (fr' : Nat) (r0' r1' : List (List Int)) (Q : Exit -> Est -> Prop), Q .normal ⟨brE [c0, c1] 2 fr', bar2O (x + 1) r0' r1'⟩ -> (∀ s t, WkE 70 s t -> Q .normal t -> Q .normal s) -> CwpE Tryd.prog F0 w0 70 (match barsB with | .seq _ (.seq _ c) => c | _ => .skip) Q ⟨brE [c0, c1] 2 fr', bar2O x r0' r1'⟩ := by
  intro fr' r0' r1' Q hQ hwk
  refine CwpE.vc ?_
  unfold barsB c75
  simp only [go_sem, ↓reduceIte, reduceCtorEq, Nat.reduceLT, Nat.reduceEqDiff, Nat.reduceAdd, wx]
  refine hwk _ ⟨brE [c0, c1] 2 fr', bar2O (x + 1) r0' r1'⟩ (WkE.rename sig2 (ren_bar2 x (x + 1) r0' r1') (inRO_bar2 _ _ _) ?_) hQ
  exact ⟨rfl, rfl, rfl, rfl, rfl, rfl, rfl, rfl, trivial⟩
 have hwkR : ∀ {I : Nat -> Est -> Prop} {k a : Nat} {J : Est -> Prop} {Q : Exit -> Est -> Prop} (s t : Est), WkE 70 s t -> RoundX 70 I k a J Q .normal t -> RoundX 70 I k a J Q .normal s := by
  rintro I k a J Q s t h ⟨m, s', h1, h2, h3⟩
  exact ⟨m, s', h1, h.trans h2, h3⟩
 rw [barsGo] at hg
 have hcl : Snaps (bar2O x r0 r1) [vpage [c0, c1], .clo (.func 87) [.ref 1 1 0 0]] [vpage [c0, c1], .clo (.func 87) [.ptr [vi x]]] := .cons (.tree _ rfl) (.cons (snap_clo1 (snap_box rfl rfl)) .nil)
 have hcon := ContainsFunc86_s 87 [.ptr [vi x]] rfl (filledAt x) [c0, c1] (by simp) fun c _ => filled_s x c (by omega)
 cases hfl : [c0, c1].any (filledAt x) with
 | true =>
  rw [hfl] at hcon
  rw [if_pos hfl] at hg
  refine CwpE.seqJ (fun s => s = ⟨brE [c0, c1] 2 fr, bar2O x r0 r1⟩) (CwpE.block (CwpE.vc ?_)) ?_
  ·simp only [go_sem, ↓reduceIte, reduceCtorEq, Nat.reduceLT, Nat.reduceEqDiff]
   refine callF hcon hcl rfl ?_
   simp only [go_sem, ↓reduceIte]
   exact ⟨_, WkE.keep (by simp only [go_sem, ↓reduceIte, reduceCtorEq, Nat.reduceEqDiff]), rfl⟩
  rintro _ rfl
  exact fin fr r0 r1 _ ⟨f, _, by omega, .refl _ _, x + 1, fr, r0, r1, by omega, by omega, by omega, by omega, hg, rfl⟩ hwkR
 | false =>
  rw [hfl] at hcon
  rw [if_neg (by rw [hfl]; simp)] at hg
  have hadd : barsAdd [c0, c1] fr x [r0, r1] = [(r0 ++ [trimP (cutP c0 fr x)]), (r1 ++ [trimP (cutP c1 fr x)])] := rfl
  rw [hadd] at hg
  refine CwpE.seqJ (fun s => s = ⟨brE [c0, c1] 2 (x + 1), bar2O x (r0 ++ [trimP (cutP c0 fr x)]) (r1 ++ [trimP (cutP c1 fr x)])⟩) (CwpE.block ?_) ?_
  rotate_left
  ·rintro _ rfl
   exact fin (x + 1) (r0 ++ [trimP (cutP c0 fr x)]) (r1 ++ [trimP (cutP c1 fr x)]) _ ⟨f, _, by omega, .refl _ _, x + 1, x + 1, (r0 ++ [trimP (cutP c0 fr x)]), (r1 ++ [trimP (cutP c1 fr x)]), by omega, by omega, by simp; omega, by simp; omega, hg, rfl⟩ hwkR
  refine CwpE.cut (st := ⟨brE [c0, c1] 2 fr, bar2O x r0 r1⟩) ?_ ?_
  ·simp only [go_sem, ↓reduceIte, reduceCtorEq, Nat.reduceLT, Nat.reduceEqDiff]
   refine callF hcon hcl rfl ?_
   simp only [go_sem, ↓reduceIte]
   exact ⟨_, WkE.keep (by simp only [go_sem, ↓reduceIte, reduceCtorEq, Nat.reduceEqDiff]), rfl⟩
  refine CwpE.seqJ (fun s => s = ⟨brE [c0, c1] 2 fr, bar2O x (r0 ++ [trimP (cutP c0 fr x)]) (r1 ++ [trimP (cutP c1 fr x)])⟩) ?_ ?_
  rotate_left
  ·rintro _ rfl
   refine CwpE.vc ?_
   simp only [go_sem, ↓reduceIte, reduceCtorEq, Nat.reduceLT, Nat.reduceEqDiff, wx]
   exact ⟨_, WkE.keep (by simp only [go_sem, ↓reduceIte, reduceCtorEq, Nat.reduceEqDiff]), rfl⟩
  refine CwpE.cut (st := ⟨brH [c0, c1] 2 fr 0, bar2O x r0 r1⟩) ?_ ?_
  ·simp only [go_sem, ↓reduceIte, Nat.reduceLT, Nat.reduceAdd, k2]
   exact ⟨_, WkE.keep (by simp only [go_sem, ↓reduceIte, reduceCtorEq, Nat.reduceEqDiff, k0]), rfl⟩
  refine CwpE.block ?_
  refine loopXC 2 (fun u s => (u = 2 /\ s = ⟨brH [c0, c1] 2 fr 0, bar2O x r0 r1⟩) \/ (u = 1 /\ s = ⟨brH [c0, c1] 2 fr 1, bar2O x (r0 ++ [trimP (cutP c0 fr x)]) r1⟩) \/ (u = 0 /\ s = ⟨brH [c0, c1] 2 fr 2, bar2O x (r0 ++ [trimP (cutP c0 fr x)]) (r1 ++ [trimP (cutP c1 fr x)])⟩)) (fun s => s = ⟨brE [c0, c1] 2 fr, bar2O x (r0 ++ [trimP (cutP c0 fr x)]) (r1 ++ [trimP (cutP c1 fr x)])⟩) 2 ⟨brH [c0, c1] 2 fr 0, bar2O x r0 r1⟩ (.refl _ _) (.inl ⟨rfl, rfl⟩) ?_ ?_
  rotate_left
  ·rintro s rfl
   simp only [inBlockE, if_true]
   exact ⟨_, .refl _ _, rfl⟩
  rintro u s (⟨rfl, rfl⟩ | ⟨rfl, rfl⟩ | ⟨rfl, rfl⟩)
  ·refine CwpE.cut (st := ⟨(24, vb true) :: brH [c0, c1] 2 fr 0, bar2O x r0 r1⟩) ?_ ?_
   ·simp only [go_sem, ↓reduceIte, Nat.reduceLT, Nat.reduceEqDiff, k0, k1, k2, l02, List.cons_append, List.nil_append]
    exact ⟨_, WkE.keep (by simp only [go_sem, ↓reduceIte, reduceCtorEq, Nat.reduceEqDiff]), rfl⟩
   refine CwpE.cut (st := ⟨brH [c0, c1] 2 fr 0, bar2O x r0 r1⟩) ?_ ?_
   ·simp only [go_sem, ↓reduceIte, List.cons_append, List.nil_append]
    exact ⟨_, WkE.keep (by simp only [go_sem, ↓reduceIte, reduceCtorEq, Nat.reduceEqDiff, k0, k2]), rfl⟩
   refine CwpE.seqJ (fun s => s = ⟨brH [c0, c1] 2 fr 0, bar2O x (r0 ++ [trimP (cutP c0 fr x)]) r1⟩) (CwpE.block ?_) ?_
   rotate_left
   ·rintro _ rfl
    refine CwpE.vc ?_
    simp only [go_sem, ↓reduceIte, Nat.reduceLT, Nat.reduceEqDiff, k0, k1, k2, w01, List.cons_append, List.nil_append]
    exact ⟨1, ⟨brH [c0, c1] 2 fr 1, bar2O x (r0 ++ [trimP (cutP c0 fr x)]) r1⟩, by omega, WkE.keep (by simp only [go_sem, ↓reduceIte, reduceCtorEq, Nat.reduceEqDiff, k1, k2, List.cons_append, List.nil_append]), .inr (.inl ⟨rfl, rfl⟩)⟩
   refine CwpE.cut (st := ⟨[(6, vi (0 : Nat)), (7, vbytes c0)] ++ brH [c0, c1] 2 fr 0, bar2O x r0 r1⟩) ?_ ?_
   ·simp only [go_sem, ↓reduceIte, Nat.reduceLT, Nat.reduceEqDiff, Int.reduceToNat, Int.reduceToNat, Int.le_refl, k0, k1, k2, List.cons_append, List.nil_append]
    exact ⟨_, WkE.keep (by simp only [go_sem, ↓reduceIte, reduceCtorEq, Nat.reduceEqDiff]), rfl⟩
   have m1 : (0 : Int) <= ((min fr c0.length : Nat) : Int) := by omega
   have m2 : ((min fr c0.length : Nat) : Int) <= ((min x c0.length : Nat) : Int) := by omega
   have m3 : ((min x c0.length : Nat) : Int) <= (c0.length : Int) := by omega
   have m4 : (0 : Int) <= ((min x c0.length : Nat) : Int) := by omega
   refine CwpE.cut (st := ⟨[(6, vi (0 : Nat)), (8, vbytes (cutP c0 fr x))] ++ brH [c0, c1] 2 fr 0, bar2O x r0 r1⟩) ?_ ?_
   ·simp only [go_sem, ↓reduceIte, reduceCtorEq, Nat.reduceLT, Nat.reduceEqDiff, k0, k1, k2, min_if, m1, m2, m3, m4, map_cut, Int.toNat_natCast, and_self, List.cons_append, List.nil_append]
    exact ⟨_, WkE.keep (by simp only [go_sem, ↓reduceIte, reduceCtorEq, Nat.reduceEqDiff]), rfl⟩
   refine CwpE.seqJ (fun s => s = ⟨[(6, vi (0 : Nat)), (8, vbytes (trimP (cutP c0 fr x)))] ++ brH [c0, c1] 2 fr 0, bar2O x r0 r1⟩) ?_ ?_
   ·exact trim_s F0 w0 [c0, c1] 2 fr 0 _ _ (by have := cut_len c0 fr x; omega) ⟨_, .refl _ _, rfl⟩
   rintro _ rfl
   exact barput20 F0 w0 c0 c1 fr x r0 r1 _ (by omega) fun s hs => ⟨_, hs, rfl⟩
  ·refine CwpE.cut (st := ⟨(24, vb true) :: brH [c0, c1] 2 fr 1, bar2O x (r0 ++ [trimP (cutP c0 fr x)]) r1⟩) ?_ ?_
   ·simp only [go_sem, ↓reduceIte, Nat.reduceLT, Nat.reduceEqDiff, k0, k1, k2, l12, List.cons_append, List.nil_append]
    exact ⟨_, WkE.keep (by simp only [go_sem, ↓reduceIte, reduceCtorEq, Nat.reduceEqDiff]), rfl⟩
   refine CwpE.cut (st := ⟨brH [c0, c1] 2 fr 1, bar2O x (r0 ++ [trimP (cutP c0 fr x)]) r1⟩) ?_ ?_
   ·simp only [go_sem, ↓reduceIte, List.cons_append, List.nil_append]
    exact ⟨_, WkE.keep (by simp only [go_sem, ↓reduceIte, reduceCtorEq, Nat.reduceEqDiff, k1, k2]), rfl⟩
   refine CwpE.seqJ (fun s => s = ⟨brH [c0, c1] 2 fr 1, bar2O x (r0 ++ [trimP (cutP c0 fr x)]) (r1 ++ [trimP (cutP c1 fr x)])⟩) (CwpE.block ?_) ?_
   rotate_left
   ·rintro _ rfl
    refine CwpE.vc ?_
    simp only [go_sem, ↓reduceIte, Nat.reduceLT, Nat.reduceEqDiff, k0, k1, k2, w12, List.cons_append, List.nil_append]
    exact ⟨0, ⟨brH [c0, c1] 2 fr 2, bar2O x (r0 ++ [trimP (cutP c0 fr x)]) (r1 ++ [trimP (cutP c1 fr x)])⟩, by omega, WkE.keep (by simp only [go_sem, ↓reduceIte, reduceCtorEq, Nat.reduceEqDiff, k2, List.cons_append, List.nil_append]), .inr (.inr (⟨rfl, rfl⟩))⟩
   refine CwpE.cut (st := ⟨[(6, vi (1 : Nat)), (7, vbytes c1)] ++ brH [c0, c1] 2 fr 1, bar2O x (r0 ++ [trimP (cutP c0 fr x)]) r1⟩) ?_ ?_
   ·simp only [go_sem, ↓reduceIte, Nat.reduceLT, Nat.reduceEqDiff, Int.reduceToNat, Int.reduceToNat, k0, k1, k2, le01, List.cons_append, List.nil_append]
    exact ⟨_, WkE.keep (by simp only [go_sem, ↓reduceIte, reduceCtorEq, Nat.reduceEqDiff]), rfl⟩
   have m1 : (0 : Int) <= ((min fr c1.length : Nat) : Int) := by omega
   have m2 : ((min fr c1.length : Nat) : Int) <= ((min x c1.length : Nat) : Int) := by omega
   have m3 : ((min x c1.length : Nat) : Int) <= (c1.length : Int) := by omega
   have m4 : (0 : Int) <= ((min x c1.length : Nat) : Int) := by omega
   refine CwpE.cut (st := ⟨[(6, vi (1 : Nat)), (8, vbytes (cutP c1 fr x))] ++ brH [c0, c1] 2 fr 1, bar2O x (r0 ++ [trimP (cutP c0 fr x)]) r1⟩) ?_ ?_
   ·simp only [go_sem, ↓reduceIte, reduceCtorEq, Nat.reduceLT, Nat.reduceEqDiff, k0, k1, k2, min_if, m1, m2, m3, m4, map_cut, Int.toNat_natCast, and_self, List.cons_append, List.nil_append]
    exact ⟨_, WkE.keep (by simp only [go_sem, ↓reduceIte, reduceCtorEq, Nat.reduceEqDiff]), rfl⟩
   refine CwpE.seqJ (fun s => s = ⟨[(6, vi (1 : Nat)), (8, vbytes (trimP (cutP c1 fr x)))] ++ brH [c0, c1] 2 fr 1, bar2O x (r0 ++ [trimP (cutP c0 fr x)]) r1⟩) ?_ ?_
   ·exact trim_s F0 w0 [c0, c1] 2 fr 1 _ _ (by have := cut_len c1 fr x; omega) ⟨_, .refl _ _, rfl⟩
   rintro _ rfl
   exact barput21 F0 w0 c0 c1 fr x (r0 ++ [trimP (cutP c0 fr x)]) r1 _ (by omega) fun s hs => ⟨_, hs, rfl⟩
  ·refine CwpE.vc ?_
   simp only [go_sem, ↓reduceIte, Nat.reduceLT, Nat.reduceEqDiff, Int.lt_irrefl, k0, k1, k2, List.cons_append, List.nil_append]
   exact ⟨_, WkE.keep (by simp only [go_sem, ↓reduceIte, reduceCtorEq, Nat.reduceEqDiff]), rfl⟩
theorem bars_s (l : List (List Int)) (hn : l.length = 1 \/ l.length = 2) (hl : ∀ c ∈ l, c.length <= 1000) : Ctr Tryd.prog 75 [vpage l] (vbars (barsP l)) := by
 rcases hn with h | h
 ·obtain ⟨a, rfl⟩ := one_of h
  exact bars_1 a (hl a (by simp))
 ·obtain ⟨a, b, rfl⟩ := two_of h
  exact bars_2 a b (hl a (by simp)) (hl b (by simp))
end Go.Proofs.YtnncijjkbonokaaDoor
namespace Go.Proofs.YtnncijjkbonokaaDoor
open Go.RowKit
attribute [local go_sem] Oper.semAt_some
def Hid (p : Prop) : Prop := p
theorem elem40 : Tryd.prog.underlying 40 = some (.slice (Tryd.prog.elem 40)) := by kernel_rfl
theorem cut_l (b off len cap i : Nat) (h : i < len) (hc : len <= cap) (w : World) : (Instr.sliceAt 40 (.slice (some ⟨b, off, none⟩) len cap) (some (.int .i64 (i : Int))) none none).run Tryd.prog w = .ok (.slice (some ⟨b, off + i, none⟩) (len - i) (cap - i)) w := by
 have hs : (sizeOf (Tryd.prog.elem 40)).run Tryd.prog w = .ok 1 w := by kernel_rfl
 rw [run_sliceAt_slice _ _ _ _ _ _ elem40, run_slice_l _ _ _ _ _ elem40 _ _ (by omega) (by omega), hs]
 simp [Result.andThen, sliced, show ¬ cap = i by omega, Addr.add]
theorem cut_lhm (b off len cap i n : Nat) (hn : 1 <= n) (h : i + n <= len) (hc : len <= cap) (w : World) : (Instr.sliceAt 40 (.slice (some ⟨b, off, none⟩) len cap) (some (.int .i64 (i : Int))) (some (.int .i64 ((i + n : Nat) : Int))) (some (.int .i64 ((i + n : Nat) : Int)))).run Tryd.prog w = .ok (.slice (some ⟨b, off + i, none⟩) n n) w := by
 have hs : (sizeOf (Tryd.prog.elem 40)).run Tryd.prog w = .ok 1 w := by kernel_rfl
 rw [run_sliceAt_slice _ _ _ _ _ _ elem40, run_slice_lhm _ _ _ _ _ elem40 _ _ _ _ _ _ (by omega) (by omega) (by omega) (by omega), hs]
 have e1 : ((i + n : Nat) : Int).toNat = i + n := by omega
 have e2 : ((i : Nat) : Int).toNat = i := by omega
 have e3 : ¬ i + n = i := by omega
 simp only [Result.andThen, sliced, e1, e2, e3, if_false, Option.map_some, Addr.add, Nat.mul_one, Nat.add_sub_cancel_left]
 by_cases hi : i = 0
 ·subst hi; simp
 ·simp [hi]
theorem take_fin {N k : Nat} (h : k < N) : (List.finRange N).take (k + 1) = (List.finRange N).take k ++ [⟨k, h⟩] := by
 rw [List.take_succ_eq_append_getElem (by simpa using h)]
 simp
set_option maxHeartbeats 2000000 in
theorem chunk_in (r : Nat) (l B1 o1 B2 o2 b off len cap n N : Nat) (Fb : Nat -> Prop) (hB1 : Fb B1) (hB2 : Fb B2) (hn : 1 <= n) (hlen : len = n * N) (hcap : len <= cap) (hmax : len <= 1000000) (J Jx : List (Fin N) -> World -> Prop)
 (hY : ∀ pre x W, J pre W -> pre.length < N -> YieldAt Fence.wide (r + 1) Tryd.prog l #[.slice (some ⟨b, off + x.val * n, none⟩) n n] W fun e W' =>
  (e = .returned (.bool true) /\ J (pre ++ [x]) W' /\ (∀ c, Fb c -> W'.heap[c]? = W.heap[c]?)) \/ (e = .returned (.bool false) /\ Jx (pre ++ [x]) W'))
 (hJ : ∀ s W q, J s W -> J s (W.drewN q)) (W : World) (h1 : W.cell? ⟨B1, o1, none⟩ = some (.slice (some ⟨b, off, none⟩) len cap)) (h2 : W.cell? ⟨B2, o2, none⟩ = some (.int .i64 n)) (h0 : J [] W) :
 CallsIn Fence.wide (r + 2) Tryd.prog 85 #[.func (.yield l) #[] #[], .pointer (some ⟨B1, o1, none⟩), .pointer (some ⟨B2, o2, none⟩)] W fun e W' => (∃ v, e = .returned v) /\
  ((J (List.finRange N) W') \/ (∃ k, Jx ((List.finRange N).take k) W')) := by
 refine callsIn_of_wp Tryd.func85 rfl trivial ?_ rfl
 simp only [Tryd.ntmps85, List.size_toArray, List.length_cons, List.length_nil, Nat.reduceAdd, Nat.reduceSub, Array.replicate_succ, Array.replicate_zero, List.push_toArray, List.append_toArray, List.nil_append, List.cons_append]
 gi_wp2
 gi_loopw [4] (fun i wr => ∃ k : Nat, k <= N /\ i = .int .i64 ((k * n : Nat) : Int) /\ J ((List.finRange N).take k) wr /\ ∀ c, Fb c -> wr.heap[c]? = W.heap[c]?)
  (fun i _ => N * n - (intOf i).toNat)
 case atStart => exact ⟨0, Nat.zero_le _, by simp, h0, fun _ _ => rfl⟩
 case round =>
  obtain ⟨k, hk, rfl, hJs, hF⟩ := hrel
  have c1 : wr.cell? ⟨B1, o1, none⟩ = some (.slice (some ⟨b, off, none⟩) len cap) := (World.cell?_of_block (hF _ hB1)).trans h1
  have c2 : wr.cell? ⟨B2, o2, none⟩ = some (.int .i64 n) := (World.cell?_of_block (hF _ hB2)).trans h2
  by_cases hlt : k < N
  ·have hkn : k * n + n <= len := by
    have := Nat.mul_le_mul_right n (show k + 1 <= N by omega)
    rw [hlen, Nat.mul_comm n N]; rw [Nat.add_mul, Nat.one_mul] at this; exact this
   have hnext : (k + 1) * n = k * n + n := by rw [Nat.add_mul, Nat.one_mul]
   replace hlen : Hid (len = n * N) := hlen
   obtain ⟨i, hi⟩ : ∃ i, k * n = i := ⟨_, rfl⟩
   rw [hi] at hkn hnext ⊢
   replace hi : Hid (k * n = i) := hi
   have s1 := cut_l b off len cap i (by omega) hcap
   have s2 := cut_lhm b off len cap i n hn hkn hcap
   have hkl : (i : Int) < (len : Int) := by omega
   have g0 : (0 : Int) <= (i : Int) := by omega
   have hmn : IntKind.i64.wrap ((i : Int) + (n : Int)) = ((i + n : Nat) : Int) := by rw [wrap_id (by omega) (by omega)]; omega
   gi_wp2
   gi_quiet_th (fail)
   have hif : (if len - i < n then ((len - i : Nat) : Int) else (n : Int)) = (n : Int) := by rw [if_neg (by omega)]
   rw [hif]
   have hJ2 : J ((List.finRange N).take k) (wr.drewN nq) := hJ _ _ _ hJs
   have hYk := hY _ ⟨k, hlt⟩ (wr.drewN nq) hJ2 (by simp; omega)
   have hk2 : (⟨k, hlt⟩ : Fin N).val * n = i := hi
   rw [hk2] at hYk
   clear hk2
   obtain ⟨fn, tmps, assign, body, hy, hR⟩ := hYk
   gi_wp2
   refine hR.mono ?_
   rintro e W3 (⟨rfl, hJ3, hk3⟩ | ⟨rfl, hJx3⟩)
   ·have c3 : W3.cell? ⟨B2, o2, none⟩ = some (.int .i64 n) := (World.cell?_of_block (hk3 _ hB2)).trans c2
    gi_wp2
    go_roundw
    case rel => exact ⟨k + 1, by omega, by rw [hnext]; simp, by rw [take_fin hlt]; exact hJ3, fun c hc => (hk3 c hc).trans (hF c hc)⟩
    case measure =>
     have hlen' : len = n * N := hlen
     have := Nat.mul_comm n N
     simp only [intOf, Int.toNat_natCast]
     omega
   ·gi_wp2
    refine bodyPost_ret (results_none rfl _ _ _) rfl ?_
    exact ⟨⟨_, rfl⟩, .inr ⟨k + 1, by rw [take_fin hlt]; exact hJx3⟩⟩
  ·obtain rfl : k = N := by omega
   have hge : ¬ ((k * n : Nat) : Int) < (len : Int) := by rw [hlen, Nat.mul_comm n k]; omega
   clear hlen
   gi_wp2
   go_end0
   rw [List.take_of_length_le (by simp)] at hJs
   exact ⟨⟨_, rfl⟩, .inl hJs⟩
end Go.Proofs.YtnncijjkbonokaaDoor
namespace Go.Proofs.YtnncijjkbonokaaDoor
open Go Go.RowKit Dak
def pieces (n : Nat) (p : List (List Int)) : List (List (List Int)) := (List.range (p.length / n)).map fun k => (p.drop (k * n)).take n
abbrev rowsA (n : Nat) (p : List (List Int)) : List (List AV) := (pieces n p).map fun c => [vpage c]
theorem seq_chunk (p : List (List Int)) (n : Nat) (hn : 1 <= n) (hp : 0 < p.length) (hd : p.length % n = 0) (hl : p.length <= 1000) : SeqA Tryd.prog 85 [.ptr [vpage p], .ptr [vi n]] 1 (rowsA n p) := by
 have hN : (rowsA n p).length = p.length / n := by simp [pieces]
 have hlen : p.length = n * (rowsA n p).length := by rw [hN]; have := Nat.div_add_mod p.length n; omega
 refine ⟨by kernel_rfl, fun x hx => ?_, fun w F vs hgl hF hsz hv => ?_⟩
 ·obtain ⟨c, _, rfl⟩ := List.mem_map.1 hx
  rfl
 obtain ⟨v0, v1, rfl⟩ : ∃ a b, vs = #[a, b] := by
  have h2 : vs.size = 2 := hsz
  refine ⟨vs[0], vs[1], ?_⟩
  apply Array.ext
  ·simp [h2]
  ·intro i h1 h3
   have : i = 0 \/ i = 1 := by omega
   rcases this with rfl | rfl <;> rfl
 have hv0 := hv 0 (by simp) (by simp)
 have hv1 := hv 1 (by simp) (by simp)
 simp only [List.getElem_cons_zero, List.getElem_cons_succ, List.getElem_toArray] at hv0 hv1
 cases hv0 with
 | ptr _ B1 o1 us1 hF1 hb1 hc1 h11 hr1 =>
 cases hv1 with
 | ptr _ B2 o2 us2 hF2 hb2 hc2 h12 hr2 =>
 have e1 := hr1 0 (by simp)
 have e2 := hr2 0 (by simp)
 have c1 := hc1 0 (by simp)
 have c2 := hc2 0 (by simp)
 simp only [List.getElem_cons_zero, Nat.add_zero] at e1 e2 c1 c2
 rw [e2.val_inv] at c2
 generalize hu : us1 0 = u at e1 c1
 replace e1 : TR w F (.list 1 (p.map vbytes)) u := e1
 generalize hX : p.map vbytes = X at e1
 cases e1 with
 | nolist =>
  have : (p.map vbytes).length = 0 := by rw [hX]; rfl
  rw [List.length_map] at this; omega
 | list _ _ b off cap us hFb hbc hnc hm hs hc h1 hr =>
 subst hX
 simp only [List.length_map] at hnc hs hc h1 hr c1
 refine ⟨fun k => #[.slice (some ⟨b, off + k.val * n, none⟩) n n], fun k => ⟨rfl, fun i h h2 => ?_⟩, fun r => ?_⟩
 ·have hk : k.val < (rowsA n p).length := k.isLt
  have hkn : k.val * n + n <= p.length := by
   have := Nat.mul_le_mul_right n (show k.val + 1 <= (rowsA n p).length by omega)
   rw [hlen, Nat.mul_comm n]; rw [Nat.add_mul, Nat.one_mul] at this; exact this
  have hrow : (rowsA n p)[k] = [vpage ((p.drop (k.val * n)).take n)] := by
   simp [pieces]
  have hi : i = 0 := by rw [hrow] at h; simpa using h
  subst hi
  have hx : (rowsA n p)[k][0] = vpage ((p.drop (k.val * n)).take n) := by simp only [hrow, List.getElem_cons_zero]
  rw [hx]
  simp only [List.getElem_toArray, List.getElem_cons_zero]
  have hl2 : ((p.drop (k.val * n)).take n).length = n := by rw [List.length_take, List.length_drop]; omega
  have hget : ∀ i, i < n -> ((p.drop (k.val * n)).take n)[i]? = p[k.val * n + i]? := fun i hi => by
   rw [List.getElem?_take, if_pos hi, List.getElem?_drop]
  generalize (p.drop (k.val * n)).take n = q at hl2 hget
  generalize k.val * n = m at hget hkn
  have hlq : (q.map vbytes).length = n := by rw [List.length_map]; exact hl2
  have := TR.list (w := w) (F := F) 1 (q.map vbytes) b (off + m) n (fun i j => us (m + i) j) hFb hbc (by omega) (by omega)
   (fun i hi => by simp [AV.cells]) (fun i j hi hj => ?_) (fun i j hi hj => h1 _ _ (by omega) hj) (fun i hi j hj => ?_)
  ·rw [hlq] at this
   exact this
  ·have := hc (m + i) j (by omega) hj
   rwa [show off + (m + i) * 1 + j = off + m + i * 1 + j by omega] at this
  ·have hi' : i < n := by omega
   have hiq : i < q.length := by omega
   have hqi : q[i] = p[m + i]'(by omega) := by have := hget i hi'; rw [List.getElem?_eq_getElem hiq, List.getElem?_eq_getElem (by omega)] at this; exact Option.some.inj this
   have hj0 : j = 0 := by simpa [AV.cells] using hj
   subst hj0
   have := hr (m + i) (by omega) 0 (by simp [AV.cells])
   simp only [List.getElem_map, AV.cells, List.getElem_cons_zero] at this ⊢
   rw [hqi]
   exact this
 ·intro l J Jx W hW hJ hJx hY h0
  have k1 : W.cell? ⟨B1, o1, none⟩ = some (.slice (some ⟨b, off, none⟩) p.length cap) := (hW.cell (p := ⟨B1, o1, none⟩) (hF B1 hF1)).trans c1
  have k2 : W.cell? ⟨B2, o2, none⟩ = some (.int .i64 n) := (hW.cell (p := ⟨B2, o2, none⟩) (hF B2 hF2)).trans c2
  refine (chunk_in r l B1 o1 B2 o2 b off p.length cap n (rowsA n p).length F hF1 hF2 hn hlen hnc (by omega) J Jx (fun pre x W1 h1 h2 => hY pre x W1 h1 h2) (fun s W q hs => hJ _ _ _ none hs ⟨rfl, rfl, rfl, Nat.le_refl _, fun _ _ _ => rfl⟩ (fun r h => by cases h)) W k1 k2 h0).mono ?_
  rintro e W' ⟨he, hj | ⟨k, hj⟩⟩
  ·exact ⟨he, .inl ⟨_, rfl, hj⟩⟩
  ·exact ⟨he, .inr ⟨_, ⟨k, rfl⟩, hj⟩⟩
end Go.Proofs.YtnncijjkbonokaaDoor
namespace Go.Proofs.YtnncijjkbonokaaDoor
open Go.RowKit Dak
theorem snap_clo2 {objs : List AObj} {fn : Fn} {a b c d : AV} (h : Snap objs a b) (h' : Snap objs c d) : Snap objs (.clo fn [a, c]) (.clo fn [b, d]) :=
 .clo _ _ _ rfl fun i h1 h2 => by
  match i, h1 with
  | 0, _ => exact h
  | 1, _ => exact h'
theorem Chunk_s (p : List (List Int)) (n : Nat) (hn : 1 <= n) : Ctr Tryd.prog 73 [vpage p, vi n] (.clo (.func 85) [.ptr [vpage p], .ptr [vi n]]) := by
 refine specE f73 (by simp) fun F0 w0 => ?_
 have h : ¬ (n : Int) < 1 := by omega
 simp only [c73, go_sem, ↓reduceIte, reduceCtorEq, Nat.reduceLT, Nat.reduceEqDiff, h]
 exact snap_clo2 (snap_box (by simp only [go_sem, ↓reduceIte]) rfl) (snap_box (by simp only [go_sem, ↓reduceIte]) rfl)
def handGo : List (List Int) -> Int -> List (List Nt) -> List (List Nt) × Bool
 | [], _, acc => (acc, true)
 | c :: r, last, acc => match parseP c last with
  | none => (acc, false)
  | some (l, s) => handGo r s (acc ++ [l])
def handsGo : List (List (List Int)) -> List (List (List Nt)) -> List (List (List Nt)) × Bool
 | b :: bs, x :: m => if (handGo b (-1) x).2 = true then ((handGo b (-1) x).1 :: (handsGo bs m).1, (handsGo bs m).2) else ((handGo b (-1) x).1 :: m, false)
 | _, m => (m, true)
def badC (hands : Nat) (c : List Int) : Bool := decide (40 < c.length) || decide (c.length < hands - 1)
def guessGo (hands : Nat) : List (List (List Int)) -> List (List (List Nt)) -> List (List (List Nt)) × Bool
 | [], m => (m, true)
 | s :: r, m => if s.any (badC hands) = true then (m, false) else
  if (handsGo (barsP (s.map (List.drop (hands - 1)))) m).2 = true then guessGo hands r (handsGo (barsP (s.map (List.drop (hands - 1)))) m).1 else ((handsGo (barsP (s.map (List.drop (hands - 1)))) m).1, false)
def guessP (p : List (List Int)) (hands : Nat) : List (List (List Nt)) × Bool :=
 if p.length = 0 \/ p.length % hands ≠ 0 \/ 64 < p.length then (List.replicate hands [], false) else
 if (guessGo hands (pieces hands p) (List.replicate hands [])).2 = true then ((guessGo hands (pieces hands p) (List.replicate hands [])).1, decide (validE (guessGo hands (pieces hands p) (List.replicate hands [])).1 = 0))
 else ((guessGo hands (pieces hands p) (List.replicate hands [])).1, false)
theorem guessGo_snoc (n : Nat) : ∀ (a : List (List (List Int))) (s : List (List Int)) (m : List (List (List Nt))), guessGo n (a ++ [s]) m = if (guessGo n a m).2 = true then guessGo n [s] (guessGo n a m).1 else guessGo n a m
 | [], s, m => rfl
 | t :: a, s, m => by
  simp only [List.cons_append, guessGo]
  split
  ·simp
  ·split
   ·rw [guessGo_snoc n a s]; rfl
   ·simp
theorem guessGo_stop (n : Nat) : ∀ (a b : List (List (List Int))) (m : List (List (List Nt))), (guessGo n a m).2 = false -> guessGo n (a ++ b) m = guessGo n a m
 | [], _, _, h => by cases h
 | t :: a, b, m, h => by
  simp only [List.cons_append, guessGo] at h ⊢
  split
  ·rfl
  ·rename_i h1
   rw [if_neg h1] at h
   split
   ·rename_i h2
    rw [if_pos h2] at h
    exact guessGo_stop n a b _ h
   ·rfl
def okB (l : List Nt) : Prop := l.length <= 100000 /\ ∀ n ∈ l, okA n
theorem altA_bd (c : List Int) (i : Nat) : -1 <= altA c i /\ altA c i <= 1 := by
 unfold altA; split
 ·omega
 ·split <;> omega
theorem noteAt_ok {c : List Int} {i : Nat} {last : Int} {n : Nt} {j : Nat} (hn : noteAt c i last = some (n, j)) : okA n := by
 have hb : ∃ i, n.a = altA c i := by
  unfold noteAt at hn
  split at hn
  ·cases hn
  ·split at hn
   ·cases hn
   ·split at hn
    ·cases hn
    ·simp only [Option.some.injEq, Prod.mk.injEq] at hn
     exact ⟨_, by rw [<- hn.1]⟩
 obtain ⟨i, e⟩ := hb
 have := altA_bd c i
 exact ⟨by omega, by omega⟩
theorem parseGo_ok (c : List Int) : ∀ (f i : Nat) (last : Int) (acc l : List Nt) (s : Int), i <= c.length -> acc.length <= i -> (∀ n ∈ acc, okA n) -> small last -> parseGo c f i last acc = some (l, s) -> l.length <= c.length /\ (∀ n ∈ l, okA n) /\ small s
 | 0, i, last, acc, l, s, hi, ha, hk, hs, h => by
  simp only [parseGo, Option.some.injEq, Prod.mk.injEq] at h
  obtain ⟨rfl, rfl⟩ := h
  exact ⟨by omega, hk, hs⟩
 | f + 1, i, last, acc, l, s, hi, ha, hk, hs, h => by
  rw [parseGo] at h
  split at h
  ·simp only [Option.some.injEq, Prod.mk.injEq] at h
   obtain ⟨rfl, rfl⟩ := h
   exact ⟨by omega, hk, hs⟩
  ·split at h
   ·cases h
   ·rename_i n j hn
    have h1 := noteAt_bd hi hn
    refine parseGo_ok c f j _ _ l s h1.2.1 (by simp; omega) (fun x hx => ?_) ?_ h
    ·rcases List.mem_append.1 hx with hx | hx
     ·exact hk x hx
     ·rw [List.mem_singleton.1 hx]; exact noteAt_ok hn
    ·unfold stepP; split
     ·exact ⟨by omega, by omega⟩
     ·exact hs
theorem parseP_ok {c : List Int} {last : Int} {l : List Nt} {s : Int} (hc : c.length <= 100000) (hs : small last) (h : parseP c last = some (l, s)) : okB l /\ small s := by
 have := parseGo_ok c c.length 0 last [] l s (by omega) (by simp) (by simp) hs h
 exact ⟨⟨by omega, this.2.1⟩, this.2.2⟩
theorem handGo_ok : ∀ (b : List (List Int)) (last : Int) (acc : List (List Nt)), (∀ c ∈ b, c.length <= 100000) -> small last -> (∀ x ∈ acc, okB x) -> (handGo b last acc).1.length <= acc.length + b.length /\ ∀ x ∈ (handGo b last acc).1, okB x
 | [], _, acc, _, _, ha => ⟨by simp [handGo], ha⟩
 | c :: b, last, acc, hb, hs, ha => by
  rw [handGo]
  split
  ·exact ⟨by simp, ha⟩
  ·rename_i l s hp
   have h1 := parseP_ok (hb c (by simp)) hs hp
   have := handGo_ok b s (acc ++ [l]) (fun c hc => hb c (by simp [hc])) h1.2 (fun x hx => by
    rcases List.mem_append.1 hx with hx | hx
    ·exact ha x hx
    ·rw [List.mem_singleton.1 hx]; exact h1.1)
   refine ⟨?_, this.2⟩
   have h2 := this.1
   simp only [List.length_append, List.length_cons, List.length_nil] at h2 ⊢
   omega
theorem trim_len (b : List Int) : (trimP b).length <= b.length := by rw [trimP, List.length_take]; omega
theorem zip_len {α β γ : Type} (f : α -> β -> γ) : ∀ (a : List α) (b : List β), a.length = b.length -> (List.zipWith f a b).length = b.length := fun a b h => by rw [List.length_zipWith]; omega
theorem barsGo_ok (l : List (List Int)) (B : Nat) (hl : ∀ c ∈ l, c.length <= B) : ∀ (f x fr k : Nat) (outs : List (List (List Int))), outs.length = l.length -> (∀ o ∈ outs, o.length <= k /\ ∀ b ∈ o, b.length <= B) ->
 (barsGo l f x fr outs).length = l.length /\ ∀ o ∈ barsGo l f x fr outs, o.length <= k + f /\ ∀ b ∈ o, b.length <= B
 | 0, x, fr, k, outs, h1, h2 => ⟨h1, h2⟩
 | f + 1, x, fr, k, outs, h1, h2 => by
  rw [barsGo]
  split
  ·have := barsGo_ok l B hl f (x + 1) fr k outs h1 h2
   exact ⟨this.1, fun o ho => ⟨by have := (this.2 o ho).1; omega, (this.2 o ho).2⟩⟩
  ·have h3 : (barsAdd l fr x outs).length = l.length := zip_len _ _ _ h1
   have := barsGo_ok l B hl f (x + 1) (x + 1) (k + 1) (barsAdd l fr x outs) h3 fun o ho => by
    obtain ⟨i, hi, rfl⟩ := List.getElem_of_mem ho
    simp only [barsAdd, List.getElem_zipWith] at hi ⊢
    have hi1 : i < outs.length := by rw [h1]; rw [show (List.zipWith _ outs l).length = l.length from h3] at hi; exact hi
    have hi2 : i < l.length := by omega
    have ho := h2 _ (List.getElem_mem hi1)
    refine ⟨by simp only [List.length_append, List.length_cons, List.length_nil]; omega, fun b hb => ?_⟩
    rcases List.mem_append.1 hb with hb | hb
    ·exact ho.2 b hb
    ·rw [List.mem_singleton.1 hb]
     have h4 := trim_len (cutP l[i] fr x)
     have h5 := cut_len l[i] fr x
     have h6 := hl _ (List.getElem_mem hi2)
     omega
   exact ⟨this.1, fun o ho => ⟨by have := (this.2 o ho).1; omega, (this.2 o ho).2⟩⟩
theorem barsP_ok (l : List (List Int)) (B : Nat) (hl : ∀ c ∈ l, c.length <= B) : (barsP l).length = l.length /\ ∀ o ∈ barsP l, o.length <= B + 1 /\ ∀ b ∈ o, b.length <= B := by
 have := barsGo_ok l B hl (wideP l 0 + 1) 0 0 0 (List.replicate l.length []) (by simp) fun o ho => by rw [List.eq_of_mem_replicate ho]; simp
 refine ⟨this.1, fun o ho => ⟨?_, (this.2 o ho).2⟩⟩
 have h1 := (this.2 o ho).1
 have h2 : wideP l 0 <= B := wide_le _ _ _ (by omega) hl
 omega
theorem pieces_len {n : Nat} {p : List (List Int)} (hn : 1 <= n) (hd : p.length % n = 0) : ∀ s ∈ pieces n p, s.length = n /\ ∀ c ∈ s, c ∈ p := by
 intro s hs
 obtain ⟨k, hk, rfl⟩ := List.mem_map.1 hs
 have hk := List.mem_range.1 hk
 have h1 := Nat.div_add_mod p.length n
 have h2 := Nat.mul_le_mul_right n (show k + 1 <= p.length / n by omega)
 rw [Nat.add_mul, Nat.one_mul, Nat.mul_comm (p.length / n)] at h2
 refine ⟨by rw [List.length_take, List.length_drop]; omega, fun c hc => List.mem_of_mem_drop (List.mem_of_mem_take hc)⟩
def pc (n : Nat) (p : List (List Int)) (k : Fin (rowsA n p).length) : List (List Int) := (pieces n p)[k.val]'(by have := k.isLt; simp only [List.length_map] at this; exact this)
theorem rows_at (n : Nat) (p : List (List Int)) (k : Fin (rowsA n p).length) : (rowsA n p)[k] = [vpage (pc n p k)] := by
 simp [pc]
theorem map_pc (n : Nat) (p : List (List Int)) : (List.finRange (rowsA n p).length).map (pc n p) = pieces n p := by
 apply List.ext_getElem
 ·simp
 ·intro i h1 h2
  simp [pc]
theorem pc_mem (n : Nat) (p : List (List Int)) (k : Fin (rowsA n p).length) : pc n p k ∈ pieces n p := List.getElem_mem _
end Go.Proofs.YtnncijjkbonokaaDoor
namespace Go.Proofs.YtnncijjkbonokaaDoor
open Go.RowKit Dak
abbrev gsB : CCode := match c43 with | .seq _ (.seq _ (.seq _ (.seq (.seq _ (.block _ (.rangeF _ _ _ (.block _ b)))) _))) => b | _ => .skip
abbrev gsH : CCode := match gsB with | .seq _ (.seq _ (.seq _ (.block _ (.loop (.seq _ (.seq _ (.seq (.block _ (.seq _ (.seq _ (.seq _ b)))) _))))))) => b | _ => .skip
abbrev gsE : List (Nat × AV) := [(3, .ref 0 1 0 0), (4, .ref 1 1 0 0), (5, .ref 2 1 0 0), (6, .ref 4 1 0 0)]
abbrev gsL (B : List (List (List Int))) (n h : Nat) : List (Nat × AV) := [(71, vbars B), (72, vi n), (73, vi h)] ++ gsE
abbrev hdE (B : List (List (List Int))) (n h : Nat) (b : List (List Int)) (last : Int) (j : Nat) : List (Nat × AV) := [(11, vi h), (13, vi last), (78, vpage b), (79, vi b.length), (80, vi j)] ++ gsL B n h
abbrev gs1O (t : AV) (f : Bool) (h0 : List (List Nt)) : List AObj := [.arr 1 1 3 [vi 1], .arr 1 1 25 [t], .arr 1 1 4 [vb f], .arr 1 1 28 [.own 5 h0.length 0 h0.length], .arr 1 1 25 [.agg [.own 3 1 0 1]], .arr h0.length 1 34 (h0.map vbar)]
abbrev gs2O (t : AV) (f : Bool) (h0 h1 : List (List Nt)) : List AObj := [.arr 1 1 3 [vi 2], .arr 1 1 25 [t], .arr 1 1 4 [vb f], .arr 2 1 28 [.own 5 h0.length 0 h0.length, .own 6 h1.length 0 h1.length], .arr 1 1 25 [.agg [.own 3 2 0 2]], .arr h0.length 1 34 (h0.map vbar), .arr h1.length 1 34 (h1.map vbar)]
abbrev nilT : AV := .agg [.val (.slice none 0 0)]
abbrev gotT (n : Nat) : AV := .agg [.own 3 n 0 n]
theorem hand10 (F0 : FD) (w0 : World) (G : AObj) (B : List (List (List Int))) (h0 : List (List Nt)) (b : List (List Int)) (hb : b.length <= 1000) (hbc : ∀ c ∈ b, c.length <= 100000) (hh : h0.length <= 100000)
 {Q : Exit -> Est -> Prop} (hQ1 : (handGo b (-1) h0).2 = true -> Q .normal ⟨gsL B 1 0, gs1O nilT false (handGo b (-1) h0).1 ++ [G]⟩)
 (hQ2 : (handGo b (-1) h0).2 = false -> ∀ s, WkE 113 s ⟨[], gs1O (gotT 1) false (handGo b (-1) h0).1 ++ [G]⟩ -> Q .ret s) :
 CwpE Tryd.prog F0 w0 113 gsH Q ⟨hdE B 1 0 b (-1) 0, gs1O nilT false h0 ++ [G]⟩ := by
 have k0 : ((0 : Nat) : Int) = 0 := rfl
 have k1 : ((1 : Nat) : Int) = 1 := rfl
 have k2 : ((2 : Nat) : Int) = 2 := rfl
 have l01 : (0 : Int) < 1 := by decide
 have l02 : (0 : Int) < 2 := by decide
 have l12 : (1 : Int) < 2 := by decide
 have le01 : (0 : Int) <= 1 := by decide
 unfold gsH gsB c43
 refine CwpE.block ?_
 refine loopX 6 (fun z s => ∃ (j : Nat) (last : Int) (acc : List (List Nt)), z = b.length - j /\ j <= b.length /\ acc.length <= h0.length + j /\ small last /\ handGo (b.drop j) last acc = handGo b (-1) h0 /\ s = ⟨hdE B 1 0 b last j, gs1O nilT false acc ++ [G]⟩)
  (fun s => (handGo b (-1) h0).2 = true /\ s = ⟨gsL B 1 0, gs1O nilT false (handGo b (-1) h0).1 ++ [G]⟩) b.length ⟨hdE B 1 0 b (-1) 0, gs1O nilT false h0 ++ [G]⟩ (.refl _ _) ⟨0, -1, h0, by omega, by omega, by omega, ⟨by omega, by omega⟩, rfl, rfl⟩ ?_ ?_
 rotate_left
 ·rintro s ⟨e, rfl⟩
  simp only [inBlockE, if_true]
  exact hQ1 e
 rintro z s ⟨j, last, acc, rfl, hj, hacc, hsm, hg, rfl⟩
 by_cases hlt : j < b.length
 rotate_left
 ·have hjl : ¬ (j : Int) < (b.length : Int) := by omega
  rw [List.drop_eq_nil_of_le (by omega), handGo] at hg
  simp only [go_sem, ↓reduceIte, Nat.reduceLT, Nat.reduceEqDiff, Int.reduceNeg, hjl, List.cons_append, List.nil_append]
  rw [<- hg]
  exact ⟨_, WkE.keep (by simp only [go_sem, ↓reduceIte, Nat.reduceEqDiff]), rfl, rfl⟩
 have hjl : (j : Int) < (b.length : Int) := by omega
 have h0' : (0 : Int) <= (j : Int) := by omega
 have hw : IntKind.i64.wrap ((j : Int) + 1) = ((j + 1 : Nat) : Int) := by rw [wrap_id (by omega) (by omega)]; omega
 have hc := hbc _ (List.getElem_mem hlt)
 rw [List.drop_eq_getElem_cons hlt, handGo] at hg
 obtain ⟨c, hcc⟩ : ∃ c, b[j] = c := ⟨_, rfl⟩
 have hgl : b[j]? = some c := by rw [List.getElem?_eq_getElem hlt, hcc]
 rw [hcc] at hg hc
 simp only [go_sem, ↓reduceIte, Nat.reduceLT, Nat.reduceEqDiff, Int.reduceNeg, hjl, h0', List.getElem?_map, hgl, Option.map_some, List.cons_append, List.nil_append]
 refine callT (parse_s c last (by omega) hsm) rfl ?_
 cases hp : parseP c last with
 | none =>
  rw [hp] at hg
  simp only at hg
  have e2 : (handGo b (-1) h0).2 = false := by rw [<- hg]
  have e1 : (handGo b (-1) h0).1 = acc := by rw [<- hg]
  have hQ2 := hQ2 e2
  rw [e1] at hQ2
  simp only [go_sem, ↓reduceIte, Nat.reduceLT, Nat.reduceEqDiff, Int.reduceNeg, parR]
  exact hQ2 _ (WkE.keep trivial)
 | some r =>
  obtain ⟨l, sp⟩ := r
  rw [hp] at hg
  simp only at hg
  have hok := parseP_ok hc hsm hp
  have q1 : (acc.length + 1) * 24 <= 140737488355328 := by omega
  have htk : List.take acc.length (acc.map vbar) = acc.map vbar := List.take_of_length_le (by simp)
  have e2 : (acc ++ [l]).length = acc.length + 1 := by simp
  have e3 : (acc ++ [l]).map vbar = acc.map vbar ++ [vbar l] := by simp
  simp only [go_sem, Nat.reducePow, Nat.reduceLeDiff, ↓reduceIte, Nat.reduceLT, Nat.reduceEqDiff, Nat.reduceAdd, Nat.reduceMul, Int.reduceToNat, Int.reduceNeg, Int.reduceToNat, Int.le_refl, parR, k0, k1, l01, q1, htk, hw, List.cons_append, List.nil_append]
  refine ⟨b.length - (j + 1), ⟨hdE B 1 0 b sp (j + 1), gs1O nilT false (acc ++ [l]) ++ [G]⟩, by omega, ?_, j + 1, sp, acc ++ [l], rfl, by omega, by simp; omega, hok.2, hg, rfl⟩
  simp only [gs1O, e2, e3]
  exact WkE.keep (by simp only [go_sem, ↓reduceIte, Nat.reduceEqDiff, k0, k1, List.cons_append, List.nil_append])
theorem hand20 (F0 : FD) (w0 : World) (G : AObj) (B : List (List (List Int))) (h0 h1 : List (List Nt)) (b : List (List Int)) (hb : b.length <= 1000) (hbc : ∀ c ∈ b, c.length <= 100000) (hh : h0.length <= 100000)
 {Q : Exit -> Est -> Prop} (hQ1 : (handGo b (-1) h0).2 = true -> Q .normal ⟨gsL B 2 0, gs2O nilT false (handGo b (-1) h0).1 h1 ++ [G]⟩)
 (hQ2 : (handGo b (-1) h0).2 = false -> ∀ s, WkE 113 s ⟨[], gs2O (gotT 2) false (handGo b (-1) h0).1 h1 ++ [G]⟩ -> Q .ret s) :
 CwpE Tryd.prog F0 w0 113 gsH Q ⟨hdE B 2 0 b (-1) 0, gs2O nilT false h0 h1 ++ [G]⟩ := by
 have k0 : ((0 : Nat) : Int) = 0 := rfl
 have k1 : ((1 : Nat) : Int) = 1 := rfl
 have k2 : ((2 : Nat) : Int) = 2 := rfl
 have l01 : (0 : Int) < 1 := by decide
 have l02 : (0 : Int) < 2 := by decide
 have l12 : (1 : Int) < 2 := by decide
 have le01 : (0 : Int) <= 1 := by decide
 unfold gsH gsB c43
 refine CwpE.block ?_
 refine loopX 6 (fun z s => ∃ (j : Nat) (last : Int) (acc : List (List Nt)), z = b.length - j /\ j <= b.length /\ acc.length <= h0.length + j /\ small last /\ handGo (b.drop j) last acc = handGo b (-1) h0 /\ s = ⟨hdE B 2 0 b last j, gs2O nilT false acc h1 ++ [G]⟩)
  (fun s => (handGo b (-1) h0).2 = true /\ s = ⟨gsL B 2 0, gs2O nilT false (handGo b (-1) h0).1 h1 ++ [G]⟩) b.length ⟨hdE B 2 0 b (-1) 0, gs2O nilT false h0 h1 ++ [G]⟩ (.refl _ _) ⟨0, -1, h0, by omega, by omega, by omega, ⟨by omega, by omega⟩, rfl, rfl⟩ ?_ ?_
 rotate_left
 ·rintro s ⟨e, rfl⟩
  simp only [inBlockE, if_true]
  exact hQ1 e
 rintro z s ⟨j, last, acc, rfl, hj, hacc, hsm, hg, rfl⟩
 by_cases hlt : j < b.length
 rotate_left
 ·have hjl : ¬ (j : Int) < (b.length : Int) := by omega
  rw [List.drop_eq_nil_of_le (by omega), handGo] at hg
  simp only [go_sem, ↓reduceIte, Nat.reduceLT, Nat.reduceEqDiff, Int.reduceNeg, hjl, List.cons_append, List.nil_append]
  rw [<- hg]
  exact ⟨_, WkE.keep (by simp only [go_sem, ↓reduceIte, Nat.reduceEqDiff]), rfl, rfl⟩
 have hjl : (j : Int) < (b.length : Int) := by omega
 have h0' : (0 : Int) <= (j : Int) := by omega
 have hw : IntKind.i64.wrap ((j : Int) + 1) = ((j + 1 : Nat) : Int) := by rw [wrap_id (by omega) (by omega)]; omega
 have hc := hbc _ (List.getElem_mem hlt)
 rw [List.drop_eq_getElem_cons hlt, handGo] at hg
 obtain ⟨c, hcc⟩ : ∃ c, b[j] = c := ⟨_, rfl⟩
 have hgl : b[j]? = some c := by rw [List.getElem?_eq_getElem hlt, hcc]
 rw [hcc] at hg hc
 simp only [go_sem, ↓reduceIte, Nat.reduceLT, Nat.reduceEqDiff, Int.reduceNeg, hjl, h0', List.getElem?_map, hgl, Option.map_some, List.cons_append, List.nil_append]
 refine callT (parse_s c last (by omega) hsm) rfl ?_
 cases hp : parseP c last with
 | none =>
  rw [hp] at hg
  simp only at hg
  have e2 : (handGo b (-1) h0).2 = false := by rw [<- hg]
  have e1 : (handGo b (-1) h0).1 = acc := by rw [<- hg]
  have hQ2 := hQ2 e2
  rw [e1] at hQ2
  simp only [go_sem, ↓reduceIte, Nat.reduceLT, Nat.reduceEqDiff, Int.reduceNeg, parR]
  exact hQ2 _ (WkE.keep trivial)
 | some r =>
  obtain ⟨l, sp⟩ := r
  rw [hp] at hg
  simp only at hg
  have hok := parseP_ok hc hsm hp
  have q1 : (acc.length + 1) * 24 <= 140737488355328 := by omega
  have htk : List.take acc.length (acc.map vbar) = acc.map vbar := List.take_of_length_le (by simp)
  have e2 : (acc ++ [l]).length = acc.length + 1 := by simp
  have e3 : (acc ++ [l]).map vbar = acc.map vbar ++ [vbar l] := by simp
  simp only [go_sem, Nat.reducePow, Nat.reduceLeDiff, ↓reduceIte, Nat.reduceLT, Nat.reduceEqDiff, Nat.reduceAdd, Nat.reduceMul, Int.reduceToNat, Int.reduceNeg, Int.reduceToNat, Int.le_refl, parR, k0, k2, l02, q1, htk, hw, List.cons_append, List.nil_append]
  refine ⟨b.length - (j + 1), ⟨hdE B 2 0 b sp (j + 1), gs2O nilT false (acc ++ [l]) h1 ++ [G]⟩, by omega, ?_, j + 1, sp, acc ++ [l], rfl, by omega, by simp; omega, hok.2, hg, rfl⟩
  simp only [gs2O, e2, e3]
  exact WkE.keep (by simp only [go_sem, ↓reduceIte, Nat.reduceEqDiff, k0, k2, List.cons_append, List.nil_append])
theorem hand21 (F0 : FD) (w0 : World) (G : AObj) (B : List (List (List Int))) (h0 h1 : List (List Nt)) (b : List (List Int)) (hb : b.length <= 1000) (hbc : ∀ c ∈ b, c.length <= 100000) (hh : h1.length <= 100000)
 {Q : Exit -> Est -> Prop} (hQ1 : (handGo b (-1) h1).2 = true -> Q .normal ⟨gsL B 2 1, gs2O nilT false h0 (handGo b (-1) h1).1 ++ [G]⟩)
 (hQ2 : (handGo b (-1) h1).2 = false -> ∀ s, WkE 113 s ⟨[], gs2O (gotT 2) false h0 (handGo b (-1) h1).1 ++ [G]⟩ -> Q .ret s) :
 CwpE Tryd.prog F0 w0 113 gsH Q ⟨hdE B 2 1 b (-1) 0, gs2O nilT false h0 h1 ++ [G]⟩ := by
 have k0 : ((0 : Nat) : Int) = 0 := rfl
 have k1 : ((1 : Nat) : Int) = 1 := rfl
 have k2 : ((2 : Nat) : Int) = 2 := rfl
 have l01 : (0 : Int) < 1 := by decide
 have l02 : (0 : Int) < 2 := by decide
 have l12 : (1 : Int) < 2 := by decide
 have le01 : (0 : Int) <= 1 := by decide
 unfold gsH gsB c43
 refine CwpE.block ?_
 refine loopX 6 (fun z s => ∃ (j : Nat) (last : Int) (acc : List (List Nt)), z = b.length - j /\ j <= b.length /\ acc.length <= h1.length + j /\ small last /\ handGo (b.drop j) last acc = handGo b (-1) h1 /\ s = ⟨hdE B 2 1 b last j, gs2O nilT false h0 acc ++ [G]⟩)
  (fun s => (handGo b (-1) h1).2 = true /\ s = ⟨gsL B 2 1, gs2O nilT false h0 (handGo b (-1) h1).1 ++ [G]⟩) b.length ⟨hdE B 2 1 b (-1) 0, gs2O nilT false h0 h1 ++ [G]⟩ (.refl _ _) ⟨0, -1, h1, by omega, by omega, by omega, ⟨by omega, by omega⟩, rfl, rfl⟩ ?_ ?_
 rotate_left
 ·rintro s ⟨e, rfl⟩
  simp only [inBlockE, if_true]
  exact hQ1 e
 rintro z s ⟨j, last, acc, rfl, hj, hacc, hsm, hg, rfl⟩
 by_cases hlt : j < b.length
 rotate_left
 ·have hjl : ¬ (j : Int) < (b.length : Int) := by omega
  rw [List.drop_eq_nil_of_le (by omega), handGo] at hg
  simp only [go_sem, ↓reduceIte, Nat.reduceLT, Nat.reduceEqDiff, Int.reduceNeg, hjl, List.cons_append, List.nil_append]
  rw [<- hg]
  exact ⟨_, WkE.keep (by simp only [go_sem, ↓reduceIte, Nat.reduceEqDiff]), rfl, rfl⟩
 have hjl : (j : Int) < (b.length : Int) := by omega
 have h0' : (0 : Int) <= (j : Int) := by omega
 have hw : IntKind.i64.wrap ((j : Int) + 1) = ((j + 1 : Nat) : Int) := by rw [wrap_id (by omega) (by omega)]; omega
 have hc := hbc _ (List.getElem_mem hlt)
 rw [List.drop_eq_getElem_cons hlt, handGo] at hg
 obtain ⟨c, hcc⟩ : ∃ c, b[j] = c := ⟨_, rfl⟩
 have hgl : b[j]? = some c := by rw [List.getElem?_eq_getElem hlt, hcc]
 rw [hcc] at hg hc
 simp only [go_sem, ↓reduceIte, Nat.reduceLT, Nat.reduceEqDiff, Int.reduceNeg, hjl, h0', List.getElem?_map, hgl, Option.map_some, List.cons_append, List.nil_append]
 refine callT (parse_s c last (by omega) hsm) rfl ?_
 cases hp : parseP c last with
 | none =>
  rw [hp] at hg
  simp only at hg
  have e2 : (handGo b (-1) h1).2 = false := by rw [<- hg]
  have e1 : (handGo b (-1) h1).1 = acc := by rw [<- hg]
  have hQ2 := hQ2 e2
  rw [e1] at hQ2
  simp only [go_sem, ↓reduceIte, Nat.reduceLT, Nat.reduceEqDiff, Int.reduceNeg, parR]
  exact hQ2 _ (WkE.keep trivial)
 | some r =>
  obtain ⟨l, sp⟩ := r
  rw [hp] at hg
  simp only at hg
  have hok := parseP_ok hc hsm hp
  have q1 : (acc.length + 1) * 24 <= 140737488355328 := by omega
  have htk : List.take acc.length (acc.map vbar) = acc.map vbar := List.take_of_length_le (by simp)
  have e2 : (acc ++ [l]).length = acc.length + 1 := by simp
  have e3 : (acc ++ [l]).map vbar = acc.map vbar ++ [vbar l] := by simp
  simp only [go_sem, Nat.reducePow, Nat.reduceLeDiff, ↓reduceIte, Nat.reduceLT, Nat.reduceEqDiff, Nat.reduceAdd, Nat.reduceMul, Int.reduceToNat, Int.reduceNeg, Int.reduceToNat, parR, k1, k2, l12, le01, q1, htk, hw, List.cons_append, List.nil_append]
  refine ⟨b.length - (j + 1), ⟨hdE B 2 1 b sp (j + 1), gs2O nilT false h0 (acc ++ [l]) ++ [G]⟩, by omega, ?_, j + 1, sp, acc ++ [l], rfl, by omega, by simp; omega, hok.2, hg, rfl⟩
  simp only [gs2O, e2, e3]
  exact WkE.keep (by simp only [go_sem, ↓reduceIte, Nat.reduceEqDiff, k1, k2, List.cons_append, List.nil_append])
end Go.Proofs.YtnncijjkbonokaaDoor
namespace Go.Proofs.YtnncijjkbonokaaDoor
open Go.RowKit Dak
theorem hand_len : ∀ (b : List (List Int)) (last : Int) (acc : List (List Nt)), (handGo b last acc).1.length <= acc.length + b.length
 | [], _, acc => by simp [handGo]
 | c :: b, last, acc => by
  rw [handGo]
  split
  ·simp
  ·rename_i l s hp
   have := hand_len b s (acc ++ [l])
   simp only [List.length_append, List.length_cons, List.length_nil] at this ⊢
   omega
theorem inn_gs1 (G : AObj) (hG : ∀ m, 6 <= m -> G.innO m = true) (t : AV) (f : Bool) (h0 : List (List Nt)) (ht : t.inn 7 = true) : ((gs1O t f h0 ++ [G]).all fun o => o.innO (gs1O t f h0 ++ [G]).length) = true := by
 have hinr : ∀ (k : Nat) (r : List (List Nt)), (r.map vbar).all (AV.inn k) = true := fun k r => inn_map fun _ => rfl
 rw [List.all_append]
 refine Bool.and_eq_true_iff.2 ⟨?_, ?_⟩
 ·simp only [List.length_append, List.length_cons, List.length_nil, List.all_cons, List.all_nil, AObj.innO, hinr, ht, Nat.zero_add, Nat.reduceAdd, Bool.and_true]
  rfl
 ·simp only [List.all_cons, List.all_nil, Bool.and_true]
  exact hG _ (by simp)
theorem piece1 (F0 : FD) (w0 : World) (G : AObj) (hG : ∀ m, 6 <= m -> G.innO m = true) (h0 : List (List Nt)) (c0 : List Int) (hc0 : c0.length <= 100000) (hh0 : h0.length <= 10000)
 {Q : Exit -> Est -> Prop} (hQ1 : ∀ x0, guessGo 1 [[c0]] [h0] = ([x0], true) -> x0.length <= h0.length + 50 -> Q .normal ⟨gsE, gs1O nilT false x0 ++ [G]⟩)
 (hQ2 : ∀ x0, guessGo 1 [[c0]] [h0] = ([x0], false) -> ∀ s, WkE 113 s ⟨[], gs1O (gotT 1) false x0 ++ [G]⟩ -> Q .ret s) :
 CwpE Tryd.prog F0 w0 113 gsB Q ⟨(7, vpage [c0]) :: gsE, gs1O nilT false h0 ++ [G]⟩ := by
 have k0 : ((0 : Nat) : Int) = 0 := rfl
 have k1 : ((1 : Nat) : Int) = 1 := rfl
 have k2 : ((2 : Nat) : Int) = 2 := rfl
 have l01 : (0 : Int) < 1 := by decide
 have l02 : (0 : Int) < 2 := by decide
 have l12 : (1 : Int) < 2 := by decide
 have le01 : (0 : Int) <= 1 := by decide
 have le00 : (0 : Int) <= 0 := by decide
 have w11 : IntKind.i64.wrap (1 - 1) = 0 := by decide
 have w21 : IntKind.i64.wrap (2 - 1) = 1 := by decide
 have w01 : IntKind.i64.wrap (0 + 1) = 1 := by decide
 have w12 : IntKind.i64.wrap (1 + 1) = 2 := by decide
 have hinr : ∀ (k : Nat) (r : List (List Nt)), (r.map vbar).all (AV.inn k) = true := fun k r => inn_map fun _ => rfl
 have bad : [c0].any (badC 1) = true -> ∀ s, WkE 113 s ⟨[], gs1O (gotT 1) false h0 ++ [G]⟩ -> Q .ret s := fun h => hQ2 h0 (by rw [guessGo, if_pos h])
 unfold gsB c43
 refine CwpE.cut (st := ⟨(8, .own 7 1 0 1) :: gsE, gs1O nilT false h0 ++ [G] ++ [.arr 1 1 30 [vbytes c0]]⟩) ?_ ?_
 ·simp only [go_sem, ↓reduceIte, Nat.reduceLT, List.cons_append, List.nil_append]
  refine callNew (Clone74_n [c0] (by simp)) (.cons (.tree _ rfl) .nil) ?_
  simp only [go_sem, ↓reduceIte, Nat.reduceLT, Nat.reduceAdd, AV.shift, AV.shift1, AObj.shiftO, List.map_cons, List.map_nil, Nat.zero_add, List.length_cons, List.length_nil, Nat.reduceAdd, List.cons_append, List.nil_append]
  exact ⟨_, WkE.keep (by simp only [go_sem, ↓reduceIte, Nat.reduceEqDiff]), rfl⟩
 refine CwpE.seqJ (fun s => [c0].any (badC 1) = false /\ s = ⟨(8, vpage [c0]) :: gsE, gs1O nilT false h0 ++ [G]⟩) ?_ ?_
 ·refine CwpE.cut (st := ⟨[(8, .own 7 1 0 1), (44, .own 7 1 0 1), (45, vi 1), (46, vi 0)] ++ gsE, gs1O nilT false h0 ++ [G] ++ [.arr 1 1 30 [vbytes c0]]⟩) ?_ ?_
  ·simp only [go_sem, ↓reduceIte, Nat.reduceLT, k1, List.cons_append, List.nil_append]
   exact ⟨_, WkE.keep (by simp only [go_sem, ↓reduceIte, Nat.reduceEqDiff]), rfl⟩
  refine CwpE.block ?_
  refine loopX 2 (fun u s => (u = 1 /\ s = ⟨[(8, .own 7 1 0 1), (44, .own 7 1 0 1), (45, vi 1), (46, vi 0)] ++ gsE, gs1O nilT false h0 ++ [G] ++ [.arr 1 1 30 [vbytes c0]]⟩) \/ (u = 0 /\ badC 1 c0 = false /\ s = ⟨[(8, .own 7 1 0 1), (44, .own 7 1 0 1), (45, vi 1), (46, vi 1)] ++ gsE, gs1O nilT false h0 ++ [G] ++ [.arr 1 1 30 [vbytes c0]]⟩)) (fun s => [c0].any (badC 1) = false /\ s = ⟨(8, vpage [c0]) :: gsE, gs1O nilT false h0 ++ [G]⟩) 1 ⟨[(8, .own 7 1 0 1), (44, .own 7 1 0 1), (45, vi 1), (46, vi 0)] ++ gsE, gs1O nilT false h0 ++ [G] ++ [.arr 1 1 30 [vbytes c0]]⟩ (.refl _ _) (.inl ⟨rfl, rfl⟩) ?_ ?_
  rotate_left
  ·rintro s ⟨e, rfl⟩
   simp only [inBlockE, if_true]
   exact ⟨_, .refl _ _, e, rfl⟩
  rintro u s (⟨rfl, rfl⟩ | ⟨rfl, p0, rfl⟩)
  ·by_cases a1 : (40 : Int) < (c0.length : Int)
   ·have hbd : badC 1 c0 = true := by simp only [badC, show 40 < c0.length from by omega, decide_true, Bool.true_or]
    simp only [go_sem, ↓reduceIte, Nat.reduceLT, Nat.reduceEqDiff, Int.reduceToNat, Int.reduceToNat, Int.le_refl, k1, l01, a1, List.cons_append, List.nil_append]
    refine bad (by simp only [List.any_cons, hbd, Bool.true_or]) _ (WkE.round trivial rfl ?_ rfl)
    exact inn_gs1 G hG (gotT 1) false h0 rfl
   by_cases a2 : (c0.length : Int) < 0
   ·have hbd : badC 1 c0 = true := by simp only [badC, show c0.length < 1 - 1 from by omega, decide_true, Bool.or_true]
    simp only [go_sem, ↓reduceIte, Nat.reduceLT, Nat.reduceEqDiff, Int.reduceToNat, Int.reduceToNat, Int.le_refl, k1, l01, w11, a1, a2, List.cons_append, List.nil_append]
    refine bad (by simp only [List.any_cons, hbd, Bool.true_or]) _ (WkE.round trivial rfl ?_ rfl)
    exact inn_gs1 G hG (gotT 1) false h0 rfl
   have hok : badC 1 c0 = false := by
    simp only [badC, show ¬ 40 < c0.length from by omega, show ¬ c0.length < 1 - 1 from by omega, decide_false, Bool.or_false]
   have a3 : (0 : Int) <= (c0.length : Int) := by omega
   have htl : List.take c0.length (c0.map vu) = c0.map vu := List.take_of_length_le (by simp)
   simp only [go_sem, ↓reduceIte, Nat.reduceLT, Nat.reduceEqDiff, Int.reduceToNat, Int.reduceToNat, k1, l01, le00, w11, w01, a1, a2, a3, htl, <- List.map_drop, List.cons_append, List.nil_append]
   exact ⟨0, ⟨[(8, .own 7 1 0 1), (44, .own 7 1 0 1), (45, vi 1), (46, vi 1)] ++ gsE, gs1O nilT false h0 ++ [G] ++ [.arr 1 1 30 [vbytes c0]]⟩, by omega, WkE.keep (by simp only [go_sem, ↓reduceIte, Nat.reduceEqDiff, List.cons_append, List.nil_append]), .inr (⟨rfl, hok, rfl⟩)⟩
  ·simp only [go_sem, ↓reduceIte, Nat.reduceLT, Nat.reduceEqDiff, Int.lt_irrefl, List.cons_append, List.nil_append]
   refine ⟨⟨(8, vpage [c0]) :: gsE, gs1O nilT false h0 ++ [G]⟩, ?_, by simp only [List.any_cons, List.any_nil, p0, Bool.or_false], rfl⟩
   refine (WkE.freeze 8 7 1 0 1 1 30 _ (by omega) rfl rfl (by simp) rfl).trans (WkE.round ?_ ?_ ?_ ?_)
   ·simp only [go_sem, ↓reduceIte, Nat.reduceEqDiff, List.take_succ_cons, List.take_zero, List.drop_zero]
    rfl
   ·rfl
   ·exact inn_gs1 G hG nilT false h0 rfl
   ·rfl
 rintro _ ⟨hany, rfl⟩
 have hbok := barsP_ok [c0] 100000 (fun c hc => by
  simp only [List.mem_cons, List.not_mem_nil, or_false] at hc
  skip
  ·subst hc; omega)
 have h40 : ∀ c ∈ [c0], c.length <= 40 := fun c hc => by
  have := List.any_eq_false.1 hany c hc
  simp only [badC, Bool.or_eq_true, decide_eq_true_eq, not_or] at this
  omega
 have hbok2 := barsP_ok [c0] 40 (fun c hc => by
  simp only [List.mem_cons, List.not_mem_nil, or_false] at hc
  skip
  ·have := h40 c (by simp [hc]); omega)
 have hbar := bars_s [c0] (by simp) (fun c hc => by
  simp only [List.mem_cons, List.not_mem_nil, or_false] at hc
  skip
  ·have := h40 c (by simp [hc]); omega)
 have hg : ∀ m, handsGo (barsP [c0]) [h0] = (m, true) -> guessGo 1 [[c0]] [h0] = (m, true) := fun m h => by
  rw [guessGo, if_neg (by rw [hany]; simp)]
  rw [show List.map (List.drop (1 - 1)) [c0] = [c0] from rfl, h]
  rfl
 have hg2 : ∀ m, handsGo (barsP [c0]) [h0] = (m, false) -> guessGo 1 [[c0]] [h0] = (m, false) := fun m h => by
  rw [guessGo, if_neg (by rw [hany]; simp)]
  rw [show List.map (List.drop (1 - 1)) [c0] = [c0] from rfl, h]
  rfl
 refine CwpE.seqJ (fun s => s = ⟨[(71, vbars (barsP [c0])), (72, vi 1), (73, vi 0)] ++ gsE, gs1O nilT false h0 ++ [G]⟩) ?_ ?_
 ·refine CwpE.vc ?_
  simp only [go_sem, ↓reduceIte, Nat.reduceLT, List.cons_append, List.nil_append]
  refine callT hbar rfl ?_
  have hl : ((barsP [c0]).length : Int) = 1 := by rw [hbok.1]; rfl
  simp only [go_sem, ↓reduceIte, Nat.reduceLT, hl, List.length_map]
  exact ⟨_, WkE.keep (by simp only [go_sem, ↓reduceIte, Nat.reduceEqDiff]), rfl⟩
 rintro _ rfl
 obtain ⟨b0, hB⟩ := one_of hbok.1
 rw [hB] at hbok hbok2 hg hg2 ⊢
 clear hbar hB bad
 have q0 := hbok2.2 b0 (by simp)
 have g0 := handGo_ok b0 (-1) h0
 refine CwpE.block ?_
 refine loopXC 4 (fun u s => (u = 1 /\ s = ⟨[(71, vbars [b0]), (72, vi 1), (73, vi 0)] ++ gsE, gs1O nilT false h0 ++ [G]⟩) \/ (u = 0 /\ (handGo b0 (-1) h0).2 = true /\ s = ⟨[(71, vbars [b0]), (72, vi 1), (73, vi 1)] ++ gsE, gs1O nilT false (handGo b0 (-1) h0).1 ++ [G]⟩)) (fun s => (handGo b0 (-1) h0).2 = true /\ s = ⟨gsE, gs1O nilT false (handGo b0 (-1) h0).1 ++ [G]⟩) 1 ⟨[(71, vbars [b0]), (72, vi 1), (73, vi 0)] ++ gsE, gs1O nilT false h0 ++ [G]⟩ (.refl _ _) (.inl ⟨rfl, rfl⟩) ?_ ?_
 rotate_left
 ·rintro s ⟨p0, rfl⟩
  simp only [inBlockE, if_true]
  refine hQ1 (handGo b0 (-1) h0).1 (hg _ ?_) ?_
  ·simp only [handsGo, p0, if_true]
  ·have := hand_len b0 (-1) h0
   omega
 rintro u s (⟨rfl, rfl⟩ | ⟨rfl, p0, rfl⟩)
 ·refine CwpE.cut (st := ⟨[(74, vb true), (71, vbars [b0]), (72, vi 1), (73, vi 0)] ++ gsE, gs1O nilT false h0 ++ [G]⟩) ?_ ?_
  ·simp only [go_sem, ↓reduceIte, Nat.reduceLT, Nat.reduceEqDiff, Int.reduceNeg, l01, List.cons_append, List.nil_append]
   exact ⟨_, WkE.keep (by simp only [go_sem, ↓reduceIte, Nat.reduceEqDiff]), rfl⟩
  refine CwpE.cut (st := ⟨[(71, vbars [b0]), (72, vi 1), (73, vi 0)] ++ gsE, gs1O nilT false h0 ++ [G]⟩) ?_ ?_
  ·simp only [go_sem, ↓reduceIte, Int.reduceNeg, List.cons_append, List.nil_append]
   exact ⟨_, WkE.keep (by simp only [go_sem, ↓reduceIte, Nat.reduceEqDiff]), rfl⟩
  refine CwpE.seqJ (fun s => (handGo b0 (-1) h0).2 = true /\ s = ⟨gsL [b0] 1 (0 : Nat), gs1O nilT false (handGo b0 (-1) h0).1 ++ [G]⟩) (CwpE.block ?_) ?_
  rotate_left
  ·rintro _ ⟨hok, rfl⟩
   refine CwpE.vc ?_
   simp only [go_sem, ↓reduceIte, Nat.reduceLT, Nat.reduceEqDiff, Int.reduceNeg, k0, k1, w01, List.cons_append, List.nil_append]
   exact ⟨0, ⟨[(71, vbars [b0]), (72, vi 1), (73, vi 1)] ++ gsE, gs1O nilT false (handGo b0 (-1) h0).1 ++ [G]⟩, by omega, WkE.keep (by simp only [go_sem, ↓reduceIte, Nat.reduceEqDiff, List.cons_append, List.nil_append]), .inr (⟨rfl, hok, rfl⟩)⟩
  refine CwpE.cut (st := ⟨[(11, vi 0), (12, vpage b0), (71, vbars [b0]), (72, vi 1), (73, vi 0)] ++ gsE, gs1O nilT false h0 ++ [G]⟩) ?_ ?_
  ·simp only [go_sem, ↓reduceIte, Nat.reduceLT, Nat.reduceEqDiff, Int.reduceToNat, Int.reduceNeg, Int.reduceToNat, Int.le_refl, k0, k1, List.cons_append, List.nil_append]
   exact ⟨_, WkE.keep (by simp only [go_sem, ↓reduceIte, Nat.reduceEqDiff]), rfl⟩
  refine CwpE.cut (st := ⟨[(11, vi 0), (12, vpage b0), (13, vi (-1)), (71, vbars [b0]), (72, vi 1), (73, vi 0)] ++ gsE, gs1O nilT false h0 ++ [G]⟩) ?_ ?_
  ·simp only [go_sem, ↓reduceIte, Nat.reduceLT, Int.reduceNeg, List.cons_append, List.nil_append]
   exact ⟨_, WkE.keep (by simp only [go_sem, ↓reduceIte, Nat.reduceEqDiff]), rfl⟩
  refine CwpE.cut (st := ⟨hdE [b0] 1 (0 : Nat) b0 (-1) 0, gs1O nilT false h0 ++ [G]⟩) ?_ ?_
  ·simp only [go_sem, ↓reduceIte, Nat.reduceLT, Nat.reduceEqDiff, Int.reduceNeg, List.length_map, List.cons_append, List.nil_append]
   exact ⟨_, WkE.keep (by simp only [go_sem, ↓reduceIte, Nat.reduceEqDiff, k0, k1]), rfl⟩
  refine hand10 F0 w0 G [b0] h0 b0 (by omega) (fun c hc => by have := q0.2 c hc; omega) (by omega) (fun e => ⟨_, .refl _ _, e, rfl⟩) (fun e s hs => ?_)
  refine hQ2 (handGo b0 (-1) h0).1 (hg2 _ ?_) s hs
  simp only [handsGo, e, Bool.false_eq_true, if_false]
 ·refine CwpE.vc ?_
  simp only [go_sem, ↓reduceIte, Nat.reduceLT, Nat.reduceEqDiff, Int.reduceNeg, Int.lt_irrefl, List.cons_append, List.nil_append]
  exact ⟨_, WkE.keep (by simp only [go_sem, ↓reduceIte, Nat.reduceEqDiff]), p0, rfl⟩
theorem inn_gs2 (G : AObj) (hG : ∀ m, 7 <= m -> G.innO m = true) (t : AV) (f : Bool) (h0 h1 : List (List Nt)) (ht : t.inn 8 = true) : ((gs2O t f h0 h1 ++ [G]).all fun o => o.innO (gs2O t f h0 h1 ++ [G]).length) = true := by
 have hinr : ∀ (k : Nat) (r : List (List Nt)), (r.map vbar).all (AV.inn k) = true := fun k r => inn_map fun _ => rfl
 rw [List.all_append]
 refine Bool.and_eq_true_iff.2 ⟨?_, ?_⟩
 ·simp only [List.length_append, List.length_cons, List.length_nil, List.all_cons, List.all_nil, AObj.innO, hinr, ht, Nat.zero_add, Nat.reduceAdd, Bool.and_true]
  rfl
 ·simp only [List.all_cons, List.all_nil, Bool.and_true]
  exact hG _ (by simp)
end Go.Proofs.YtnncijjkbonokaaDoor
