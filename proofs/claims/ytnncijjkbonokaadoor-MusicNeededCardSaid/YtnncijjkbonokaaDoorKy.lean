/- Lemmas used by Needed. -/
import Derived.Test.YtnncijjkbonokaaDoorKa
import Derived.Test.YtnncijjkbonokaaDoorKb
import Derived.Test.YtnncijjkbonokaaDoorKc
import Derived.Test.YtnncijjkbonokaaDoorKd
import Derived.Test.YtnncijjkbonokaaDoorKe
import Derived.Test.YtnncijjkbonokaaDoorKf
import Derived.Test.YtnncijjkbonokaaDoorKg
import Derived.Test.YtnncijjkbonokaaDoorKh
import Derived.Test.YtnncijjkbonokaaDoorKi
import Derived.Test.YtnncijjkbonokaaDoorKl
import Derived.Test.YtnncijjkbonokaaDoorKn
import Derived.Test.YtnncijjkbonokaaDoorKq
import Derived.Test.YtnncijjkbonokaaDoorKs
import Derived.Test.YtnncijjkbonokaaDoorKt
import Derived.Test.YtnncijjkbonokaaDoorProg
import Derived.WalkKit
import Derived.WalkSpells
import Derived.WalkLawsBesides
import Derived.Orders
import Derived.Laws.MakeOwn
import Derived.Deep.AppendSrc
import Derived.Lib.AppendZerosOnto
import Derived.Defers
import Derived.Laws.StructEq
import Derived.Scope
import Derived.Deep.LoopGhost
import Derived.OrdersIn
import Derived.ControlIn
import Derived.Sort.LoopGhostIn
import Derived.RangeFuncLeaves
import Derived.RangeFuncRecord
import Derived.RangeFuncFrom
import Derived.RangeFuncBox
import Derived.OwnWalkIn
import Derived.TacticsInMore
import Derived.LoopNIn
import Derived.LoopIn
import Derived.Sort.QuietTacIn
set_option linter.unusedSimpArgs false
set_option linter.unusedVariables false
set_option linter.unusedSectionVars false
namespace Go.Proofs.YtnncijjkbonokaaDoor
open Go.RowKit Dak
theorem row_more {m : List (List (List Nt))} (hm : Vm m) {fr k : Nat} (h1 : 1 <= k) {i : Nat} (hi : i < m.length) : ∀ j, fr + k + j < manyP m ->
 ((lineP m fr k).ls.getD i []).length + 2 <= ((lineP m fr (k + 1 + j)).ls.getD i []).length
 | 0, hk => row_grow hm h1 hk hi
 | j + 1, hk => by
  have := row_more hm h1 hi (fr := fr) j (by omega)
  have := row_grow hm (k := k + 1 + j) (fr := fr) (by omega) (by omega) hi
  rw [show k + 1 + (j + 1) = k + 1 + j + 1 by omega]; omega
theorem page_inj {m : List (List (List Nt))} (hm : Vm m) {b : Nat} (hb : b <= manyP m) : ∀ {a : Nat} {l l' : List (Nat × Nat)}, Chain a b l -> Chain a b l' ->
 (∀ i, i < (pageOf m l).length -> i < (pageOf m l').length -> ((pageOf m l).getD i []).length < ((pageOf m l').getD i []).length + 2 /\ ((pageOf m l').getD i []).length < ((pageOf m l).getD i []).length + 2) -> l = l'
 | a, [], [], _, _, _ => rfl
 | a, [], q :: r, h, h', _ => by have := h'.2.1; have := h'.2.2.1; simp only [Chain] at h; omega
 | a, q :: r, [], h, h', _ => by have := h.2.1; have := h.2.2.1; simp only [Chain] at h'; omega
 | a, (f, c) :: r, (f', c') :: r', h, h', hl => by
  obtain ⟨e1, h2, h3, h4⟩ := h
  obtain ⟨e1', h2', h3', h4'⟩ := h'
  simp only at e1 h2 h3 h4 e1' h2' h3' h4'
  subst e1; subst e1'
  have hn : 0 < m.length := by rcases hm.hands with h | h <;> omega
  have l1 := line_len hm (fr := f') (k := c) (by omega)
  have l2 := line_len hm (fr := f') (k := c') (by omega)
  have key := hl 0 (by simp only [page_cons, List.length_append]; omega) (by simp only [page_cons, List.length_append]; omega)
  simp only [page_cons] at key
  have g1 : ((lineP m f' c).ls ++ pageOf m r).getD 0 [] = (lineP m f' c).ls.getD 0 [] := by
   rw [List.getD_eq_getElem?_getD, List.getD_eq_getElem?_getD, List.getElem?_append_left (by omega)]
  have g2 : ((lineP m f' c').ls ++ pageOf m r').getD 0 [] = (lineP m f' c').ls.getD 0 [] := by
   rw [List.getD_eq_getElem?_getD, List.getD_eq_getElem?_getD, List.getElem?_append_left (by omega)]
  rw [g1, g2] at key
  have hc : c = c' := by
   rcases Nat.lt_trichotomy c c' with h | h | h
   ·have := row_more hm (fr := f') (k := c) (by omega) hn (c' - (c + 1)) (by omega)
    rw [show c + 1 + (c' - (c + 1)) = c' by omega] at this; omega
   ·exact h
   ·have := row_more hm (fr := f') (k := c') (by omega) hn (c - (c' + 1)) (by omega)
    rw [show c' + 1 + (c - (c' + 1)) = c by omega] at this; omega
  subst hc
  have := page_inj hm hb h4 h4' fun i hi hi' => by
   have := hl (m.length + i) (by simp only [page_cons, List.length_append]; omega) (by simp only [page_cons, List.length_append]; omega)
   simp only [page_cons] at this
   have e : ∀ t : List (List Int), ((lineP m f' c).ls ++ t).getD (m.length + i) [] = t.getD i [] := by
    intro t
    rw [List.getD_eq_getElem?_getD, List.getD_eq_getElem?_getD, List.getElem?_append_right (by omega), l1]; congr 2; omega
   rw [e, e] at this
   exact this
  rw [this]
theorem guess_one_of {p : List (List Int)} {m : List (List (List Nt))} (h : readP p = (m, 0)) : ∃ w, encP m w = (p, 0) := by
 have key : ∀ n, fitsW p (guessP p n) = true -> ∃ w, encP (guessP p n).1 w = (p, 0) := by
  intro n hf
  simp only [fitsW, Bool.and_eq_true, List.any_eq_true] at hf
  obtain ⟨_, k, _, hk⟩ := hf
  simp only [fitsP, Bool.and_eq_true, decide_eq_true_eq] at hk
  exact ⟨_, by rw [<- hk.1]; exact Prod.ext hk.2.symm rfl⟩
 unfold readP at h
 split at h
 ·rename_i hf
  simp only [Prod.mk.injEq, and_true] at h
  rw [<- h]; exact key 1 hf
 ·split at h
  ·rename_i hf
   simp only [Prod.mk.injEq, and_true] at h
   rw [<- h]; exact key 2 hf
  ·simp at h
theorem less_other {m : List (List (List Nt))} {width : Int} {p : List (List Int)} (h : encP m width = (p, 0)) {y : Nat} (hy : y < p.length) {r : List Int} (hr : r.length + 1 = (p[y]).length) : readP (p.set y r) ≠ (m, 0) := by
 intro he
 obtain ⟨w', he'⟩ := guess_one_of he
 obtain ⟨hm, _, _, l, _, hp, hc, _⟩ := enc_page h
 obtain ⟨_, _, _, l', _, hp', hc', _⟩ := enc_page he'
 have hll : l = l' := by
  refine page_inj hm (Nat.le_refl _) hc hc' fun i hi hi' => ?_
  rw [<- hp] at hi ⊢
  rw [<- hp'] at hi' ⊢
  rw [List.getD_eq_getElem?_getD, List.getD_eq_getElem?_getD, List.getElem?_eq_getElem hi, List.getElem?_eq_getElem hi', Option.getD_some, Option.getD_some, List.getElem_set]
  split
  ·rename_i hyi; subst hyi; omega
  ·omega
 subst hll
 have e : p.set y r = p := by rw [hp', <- hp]
 have := congrArg (fun t => (t.getD y []).length) e
 simp only [List.getD_eq_getElem?_getD] at this
 rw [List.getElem?_set_self hy, List.getElem?_eq_getElem hy] at this
 simp only [Option.getD_some] at this
 omega
end Go.Proofs.YtnncijjkbonokaaDoor
namespace Go.Proofs.YtnncijjkbonokaaDoor
open Dak
def c7 : CCode :=
 (.seq (.region [oo 4 (.mov (.const (.bool false)))])
 (.seq (.region [vv 17 0, oo 18 (.call (.func 10) [(T 17)]), oo 5 (.alloc 25 (.agg [(.val (.slice none 0 0))])), nn (.store 1 (T 5) (T 18))])
 (.seq (.drawn [oo 20 (.load true 1 (T 5)), vv 21 1] [(oo 22 (.call (.func 12) [(T 21), (kk 31)]), [oo 20 (.load true 1 (T 5))]), (oo 23 (.ibin .add (kk 10) (T 22)), [oo 20 (.load true 1 (T 5))]), (oo 24 (.call (.func 17) [(T 20), (T 23)]), []), (vv 19 24, []), (oo 25 (.extract (T 19) 0), []), (oo 26 (.extract (T 19) 1), []), (vv 6 25, []), (vv 7 26, [])])
 (.seq (.seq (.region [vv 27 7, oo 28 (.ibin .neq (T 27) (kk 0))])
 (.cond (T 28)
 (.seq (.region [vv 29 7, oo 30 (.ibin .eql (T 29) (kk 14)), vv 31 30, gt 32 31 (.call (.func 16) []), oo 33 (.pick (T 31) (T 32) (.const (.bool false))), vv 4 33])
 .ret)
 .skip))
 (.seq (.region [oo 34 (.bslice 5 1 [(.const (.int .u8 8)), (.const (.int .u8 24)), (.const (.int .u8 56)), (.const (.int .u8 16)), (.const (.int .u8 40)), (.const (.int .u8 48)), (.const (.int .u8 32))]), vv 8 34])
 (.seq (.seq (.region [oo 9 (.mov (kk 0))])
 (.block 0 (.loop
 (.seq (.seq (.region [vv 35 9, vv 36 6, oo 37 (.len (T 36)), oo 38 (.ibin .lss (T 35) (T 37))])
 (.cond (T 38)
 .skip
 (.exit 0)))
 (.seq (.block 1 (.seq (.seq (.region [vv 41 6, vv 42 9, oo 43 (.idxS 1 (T 41) (T 42)), oo 44 (.load false 1 (T 43)), oo 45 (.call (.func 25) [(T 44)]), oo 46 (.lnot (T 45))])
 (.cond (T 46)
 (.seq (.region [oo 4 (.mov (.const (.bool false)))])
 .ret)
 .skip))
 (.seq (.region [oo 10 (.mov (.const (.bool false)))])
 (.seq (.region [oo 11 (.mov (kk 0))])
 (.block 2 (.loop
 (.seq (.seq (.region [vv 47 11, vv 48 6, vv 49 9, oo 50 (.idxS 1 (T 48) (T 49)), oo 51 (.load false 1 (T 50)), oo 52 (.len (T 51)), oo 53 (.ibin .lss (T 47) (T 52))])
 (.cond (T 53)
 .skip
 (.exit 2)))
 (.seq (.block 3 (.seq (.region [oo 12 (.mov (.const (.bool false)))])
 (.seq (.seq (.region [oo 13 (.mov (kk 0))])
 (.block 4 (.loop
 (.seq (.seq (.region [vv 56 13, oo 57 (.ibin .lss (T 56) (kk 7))])
 (.cond (T 57)
 .skip
 (.exit 4)))
 (.seq (.block 5 (.drawn [vv 60 12, vv 61 60, vf 62 61 6, vf 63 61 9, gf 64 61 (.idxS 1 (T 62) (T 63)), gf 65 61 (.load false 1 (T 64)), vf 66 61 11, gf 67 61 (.idxS 1 (T 65) (T 66)), gf 68 61 (.load false 1 (T 67)), vf 69 61 8, vf 70 61 13, gf 71 61 (.idxS 1 (T 69) (T 70)), gf 72 61 (.load false 1 (T 71)), gf 73 61 (.ibin .eql (T 68) (T 72)), oo 74 (.pick (T 61) (.const (.bool true)) (T 73)), vv 12 74] []))
 (.region [vv 58 13, oo 59 (.ibin .add (T 58) (kk 1)), vv 13 59]))))))
 (.seq (.seq (.region [vv 75 12, oo 76 (.lnot (T 75))])
 (.cond (T 76)
 (.exit 3)
 .skip))
 (.seq (.seq (.region [vv 77 10])
 (.cond (T 77)
 (.seq (.region [oo 14 (.mov (.const (.slice none 0 0)))])
 (.seq (.region [vv 78 14, vv 79 6, oo 80 (.append 30 1 24 (T 78) (T 79)), vv 14 80])
 (.seq (.drawn [vv 81 14, vv 82 9, oo 83 (.bslice 5 1 []), vv 84 6, vv 85 9, oo 86 (.idxS 1 (T 84) (T 85)), oo 87 (.load false 1 (T 86)), vv 88 11, oo 89 (.slice 1 (T 87) none (some (T 88))), vv 91 6, vv 92 9, oo 93 (.idxS 1 (T 91) (T 92)), oo 94 (.load false 1 (T 93)), vv 95 11, oo 96 (.ibin .add (T 95) (kk 1)), oo 97 (.slice 1 (T 94) (some (T 96)) none)] [(oo 90 (.append 5 1 1 (T 83) (T 89)), [vv 81 14, vv 82 9, vv 91 6, vv 92 9, oo 93 (.idxS 1 (T 91) (T 92)), oo 94 (.load false 1 (T 93)), vv 95 11, oo 96 (.ibin .add (T 95) (kk 1)), oo 97 (.slice 1 (T 94) (some (T 96)) none)]), (oo 98 (.append 5 1 1 (T 90) (T 97)), [vv 81 14, vv 82 9]), (oo 99 (.idxS 1 (T 81) (T 82)), []), (nn (.store 1 (T 99) (T 98)), [])])
 (.seq (.region [vv 101 14, oo 102 (.call (.func 20) [(T 101)]), vv 100 102, oo 103 (.extract (T 100) 0), oo 104 (.extract (T 100) 1), oo 15 (.alloc 25 (.agg [(.val (.slice none 0 0))])), nn (.store 1 (T 15) (T 103)), vv 16 104])
 (.seq (.region [vv 105 16, oo 106 (.ibin .eql (T 105) (kk 0)), vv 107 106, gt 108 107 (.load true 1 (T 15)), gt 109 107 (.load true 1 (T 5)), gt 110 107 (.call (.func 21) [(T 108), (T 109)]), oo 111 (.pick (T 107) (T 110) (.const (.bool false)))])
 (.cond (T 111)
 (.seq (.region [oo 4 (.mov (.const (.bool false)))])
 .ret)
 .skip))))))
 .skip))
 (.region [oo 10 (.mov (.const (.bool true)))]))))))
 (.region [vv 54 11, oo 55 (.ibin .add (T 54) (kk 1)), vv 11 55])))))))))
 (.region [vv 39 9, oo 40 (.ibin .add (T 39) (kk 1)), vv 9 40]))))))
 (.seq (.region [oo 112 (.call (.func 16) []), vv 4 112])
 .ret)))))))
theorem f7 : fnC Tryd.prog 7 = some (c7, 113, [(.tmp 4)]) := by kernel_rfl
end Go.Proofs.YtnncijjkbonokaaDoor
namespace Go.Proofs.YtnncijjkbonokaaDoor
open Go.RowKit Dak
abbrev ndY : CCode := match c7 with | .seq _ (.seq _ (.seq _ (.seq _ (.seq _ (.seq (.seq _ (.block _ (.loop b))) _))))) => b | _ => .skip
abbrev ndX : CCode := match ndY with | .seq _ (.seq (.block _ (.seq _ (.seq _ (.seq _ (.block _ (.loop b)))))) _) => b | _ => .skip
abbrev ndL : CCode := match ndX with | .seq _ (.seq (.block _ (.seq _ (.seq _ (.seq _ (.seq b _))))) _) => b | _ => .skip
abbrev ndM : AV := .list 1 [vu 8, vu 24, vu 56, vu 16, vu 40, vu 48, vu 32]
abbrev ndE (p : List (List Int)) (y x : Nat) (met : Bool) : List (Nat × AV) := [(5, .ref 0 1 0 0), (6, vpage p), (8, ndM), (9, vi y), (10, vb met), (11, vi x)]
theorem frz_page {B : AObj} {p : List (List Int)} {y x : Nat} {z : List Int} (hy : y < p.length) (hB : B.innO 1 = true) :
 WkE 113 ⟨(14, .own 1 p.length 0 p.length) :: ndE p y x true, [B, .arr p.length 1 30 ((p.map vbytes).set y (.own 2 z.length 0 z.length)), .arr z.length 1 5 (z.map vu)]⟩ ⟨(14, vpage (p.set y z)) :: ndE p y x true, [B]⟩ := by
 have hg : ((p.map vbytes).set y (AV.own 2 z.length 0 z.length))[y]? = some (AV.own 2 z.length 0 z.length) := List.getElem?_set_self (by simpa using hy)
 have fl : 0 + z.length <= (z.map vu).length := by simp
 have hz : List.take z.length (List.drop 0 (z.map vu)) = z.map vu := List.take_of_length_le (by simp)
 have hset : ((p.map vbytes).set y (AV.own 2 z.length 0 z.length)).set y (vbytes z) = (p.set y z).map vbytes := by rw [List.set_set, <- List.map_set]
 have h1 := WkE.freezeCell (n := 113) (env := (14, .own 1 p.length 0 p.length) :: ndE p y x true) (objs := [B, .arr p.length 1 30 ((p.map vbytes).set y (.own 2 z.length 0 z.length)), .arr z.length 1 5 (z.map vu)]) 1 p.length 1 y 0 2 z.length 0 z.length 1 30 5 _ _ _ rfl hg rfl rfl (by omega) fl (List.all_eq_true.2 fun y hy => by obtain ⟨v, _, rfl⟩ := List.mem_map.1 hy; rfl)
 rw [hz, show recell (AV.own 2 z.length 0 z.length) ((AV.own 2 z.length 0 z.length).cells.set 0 (.list 1 (z.map vu))) = vbytes z from rfl, hset] at h1
 have hlp : ((p.set y z).map vbytes).length = p.length := by simp
 have h2 := WkE.freeze (n := 113) (env := (14, .own 1 p.length 0 p.length) :: ndE p y x true) (objs := [B, .arr p.length 1 30 ((p.set y z).map vbytes), .dead]) 14 1 p.length 0 p.length 1 30 ((p.set y z).map vbytes) (by omega) rfl rfl (by simp) (List.all_eq_true.2 fun y hy => by obtain ⟨v, _, rfl⟩ := List.mem_map.1 hy; rfl)
 refine h1.trans (h2.trans (WkE.round ?_ ?_ ?_ ?_))
 ·have e : List.take p.length (List.drop 0 ((p.set y z).map vbytes)) = (p.set y z).map vbytes := List.take_of_length_le (by simp)
  rw [e]
  simp only [go_sem, ↓reduceIte, Nat.reduceEqDiff]
 ·rfl
 ·simp only [List.all_cons, List.all_nil, List.length_cons, List.length_nil, hB]; rfl
 ·rfl
set_option maxRecDepth 100000 in
theorem nd_less (F0 : FD) (w0 : World) {m : List (List (List Nt))} {w : Int} {p : List (List Int)} (h : encP m w = (p, 0)) (hpl : p.length <= 64) (hrl : ∀ r ∈ p, r.length <= 40) (y x : Nat) (r : List Int) (hr : p[y]? = some r) (hx : x < r.length) (hx1 : 1 <= x)
 {Q : Exit -> Est -> Prop} (hQ : Q .normal ⟨ndE p y x true, [.arr 1 1 25 [vmel m]]⟩) : CwpE Tryd.prog F0 w0 113 ndL (fun e s => ∃ s', WkE 113 s s' /\ Q e s') ⟨ndE p y x true, [.arr 1 1 25 [vmel m]]⟩ := by
 have hy : y < p.length := (List.getElem?_eq_some_iff.1 hr).1
 have er : p[y] = r := by rw [List.getElem?_eq_getElem hy] at hr; exact Option.some.inj hr
 have hl := hrl r (er ▸ List.getElem_mem hy)
 obtain ⟨z, hz⟩ : ∃ z, r.take x ++ r.drop (x + 1) = z := ⟨_, rfl⟩
 have lz : z.length + 1 = r.length := by rw [<- hz]; simp; omega
 have y1 : (y : Int) < (p.length : Int) := by omega
 have y0 : (0 : Int) <= (y : Int) := by omega
 have x0 : (0 : Int) <= (x : Int) := by omega
 have x1 : (x : Int) <= (r.length : Int) := by omega
 have x2 : ((x + 1 : Nat) : Int) <= (r.length : Int) := by omega
 have x3 : (0 : Int) <= ((x + 1 : Nat) : Int) := by omega
 have xw : IntKind.i64.wrap ((x : Int) + 1) = ((x + 1 : Nat) : Int) := by rw [wrap_id (by omega) (by omega)]; omega
 have q1 : p.length * 24 <= 140737488355328 := by omega
 unfold ndL ndX ndY c7
 refine CwpE.cut (st := ⟨(77, vb true) :: ndE p y x true, [.arr 1 1 25 [vmel m]]⟩) ?_ ?_
 ·simp only [go_sem, ↓reduceIte, Nat.reduceLT, Nat.reduceEqDiff]
  exact ⟨_, WkE.keep (by simp only [go_sem, ↓reduceIte, Nat.reduceEqDiff]), rfl⟩
 refine CwpE.cond_t (by simp only [go_sem, ↓reduceIte]) ?_
 refine CwpE.cut (st := ⟨(14, .val (.slice none 0 0)) :: ndE p y x true, [.arr 1 1 25 [vmel m]]⟩) ?_ ?_
 ·simp only [go_sem, ↓reduceIte, Nat.reduceLT]
  exact ⟨_, WkE.keep (by simp only [go_sem, ↓reduceIte, Nat.reduceEqDiff]), rfl⟩
 refine CwpE.cut (st := ⟨(14, .own 1 p.length 0 p.length) :: ndE p y x true, [.arr 1 1 25 [vmel m], .arr p.length 1 30 (p.map vbytes)]⟩) ?_ ?_
 ·simp only [go_sem, ↓reduceIte, Nat.reduceLT, Nat.reduceEqDiff, List.length_map, q1]
  exact ⟨_, WkE.keep (by simp only [go_sem, ↓reduceIte, Nat.reduceEqDiff]), rfl⟩
 refine CwpE.cut (st := ⟨(14, vpage (p.set y z)) :: ndE p y x true, [.arr 1 1 25 [vmel m]]⟩) ?_ ?_
 ·have l1 : (List.take x (List.map vu r)).length = x := by simp; omega
  have l2 : (List.drop (x + 1) (List.map vu r)).length = r.length - (x + 1) := by simp
  have q2 : x <= 140737488355328 := by omega
  have q3 : x + (r.length - (x + 1)) <= 140737488355328 := by omega
  have q4 : ¬ r.length - (x + 1) < 0 := by omega
  simp only [go_sem, Nat.reducePow, Nat.reduceLeDiff, ↓reduceIte, Nat.reduceLT, Nat.reduceEqDiff, Nat.reduceAdd, List.length_map, List.getElem?_map, hr, Option.map_some, y0, y1, x0, x1, x2, x3, xw, l1, l2, q2, q3, Nat.mul_one]
  have e1 : x + (r.length - (x + 1)) = z.length := by omega
  have e2 : List.take x (List.map vu r) ++ List.drop (x + 1) (List.map vu r) = z.map vu := by rw [<- hz, List.map_append, List.map_take, List.map_drop]
  rw [e1, e2]
  exact ⟨_, (WkE.keep (env' := (14, .own 1 p.length 0 p.length) :: ndE p y x true) (by simp only [go_sem, ↓reduceIte, Nat.reduceEqDiff])).trans (frz_page hy rfl), rfl⟩
 have hlo := less_other h hy (r := z) (by rw [er]; exact lz)
 refine CwpE.cut (st := ⟨(15, .ref 1 1 0 0) :: (16, ve (readP (p.set y z)).2) :: ndE p y x true, [.arr 1 1 25 [vmel m], .arr 1 1 25 [vmel (readP (p.set y z)).1]]⟩) ?_ ?_
 ·simp only [go_sem, ↓reduceIte, Nat.reduceLT]
  refine callT (Read_s (p.set y z) (by simp; omega) fun r' hr' => by
   rcases List.mem_or_eq_of_mem_set hr' with h | h
   ·have := hrl r' h; omega
   ·subst h; omega) rfl ?_
  simp only [go_sem, ↓reduceIte, Nat.reduceLT, Nat.reduceEqDiff]
  exact ⟨_, WkE.keep (by simp only [go_sem, ↓reduceIte, Nat.reduceEqDiff]), rfl⟩
 refine CwpE.vc ?_
 by_cases h0 : (readP (p.set y z)).2 = 0
 ·simp only [go_sem, ↓reduceIte, Nat.reduceLT, Nat.reduceEqDiff, h0]
  refine callT (refSame_s (readP (p.set y z)).1 m (read_lenM _)) rfl ?_
  rw [show decide ((readP (p.set y z)).1 = m) = false from decide_eq_false fun e => hlo (Prod.ext e h0)]
  simp only [go_sem, ↓reduceIte, Nat.reduceEqDiff]
  exact ⟨_, WkE.round (by simp only [go_sem, ↓reduceIte, Nat.reduceEqDiff]) rfl rfl rfl, hQ⟩
 ·simp only [go_sem, ↓reduceIte, Nat.reduceLT, Nat.reduceEqDiff, h0]
  exact ⟨_, WkE.round (by simp only [go_sem, ↓reduceIte, Nat.reduceEqDiff]) rfl rfl rfl, hQ⟩
set_option maxRecDepth 100000 in
theorem nd_row (F0 : FD) (w0 : World) {m : List (List (List Nt))} {w : Int} {p : List (List Int)} (h : encP m w = (p, 0)) (hpl : p.length <= 64) (hrl : ∀ r ∈ p, r.length <= 40) (y : Nat) (r : List Int) (hr : p[y]? = some r)
 {Q : Exit -> Est -> Prop} (hQ : ∀ met, Q .normal ⟨ndE p y r.length met, [.arr 1 1 25 [vmel m]]⟩) : CwpE Tryd.prog F0 w0 113 (.block 2 (.loop ndX)) (fun e s => ∃ s', WkE 113 s s' /\ Q e s') ⟨ndE p y 0 false, [.arr 1 1 25 [vmel m]]⟩ := by
 have hy : y < p.length := (List.getElem?_eq_some_iff.1 hr).1
 have er : p[y] = r := by rw [List.getElem?_eq_getElem hy] at hr; exact Option.some.inj hr
 have hl := hrl r (er ▸ List.getElem_mem hy)
 have y1 : (y : Int) < (p.length : Int) := by omega
 have y0 : (0 : Int) <= (y : Int) := by omega
 refine CwpE.block ?_
 refine loopXC 2 (fun z s => ∃ (x : Nat) (met : Bool), x + z = r.length /\ (met = true -> 1 <= x) /\ s = ⟨ndE p y x met, [.arr 1 1 25 [vmel m]]⟩)
  (fun s => ∃ met, s = ⟨ndE p y r.length met, [.arr 1 1 25 [vmel m]]⟩) r.length _ (.refl _ _) ⟨0, false, by omega, (fun h => by cases h), rfl⟩ ?_ ?_
 rotate_left
 ·rintro s ⟨met, rfl⟩
  simp only [inBlockE, if_true]
  exact ⟨_, .refl _ _, hQ met⟩
 rintro z s ⟨x, met, hx, hm1, rfl⟩
 cases z with
 | zero =>
  have x1 : ¬ (x : Int) < (r.length : Int) := by omega
  obtain rfl : x = r.length := by omega
  unfold ndX ndY c7
  refine CwpE.vc ?_
  simp only [go_sem, ↓reduceIte, Nat.reduceLT, Nat.reduceEqDiff, List.length_map, List.getElem?_map, hr, Option.map_some, y0, x1]
  exact ⟨_, WkE.keep (by simp only [go_sem, ↓reduceIte, Nat.reduceEqDiff]), met, rfl⟩
 | succ z =>
  have x1 : (x : Int) < (r.length : Int) := by omega
  have x0 : (0 : Int) <= (x : Int) := by omega
  have xw : IntKind.i64.wrap ((x : Int) + 1) = ((x + 1 : Nat) : Int) := by rw [wrap_id (by omega) (by omega)]; omega
  obtain ⟨v, gv⟩ : ∃ v, r[x]? = some v := ⟨_, List.getElem?_eq_getElem (by omega)⟩
  unfold ndX ndY c7
  refine CwpE.cut (st := ⟨ndE p y x met, [.arr 1 1 25 [vmel m]]⟩) ?_ ?_
  ·simp only [go_sem, ↓reduceIte, Nat.reduceLT, Nat.reduceEqDiff, List.length_map, List.getElem?_map, hr, Option.map_some, y0, x1]
   exact ⟨_, WkE.keep (by simp only [go_sem, ↓reduceIte, Nat.reduceEqDiff]), rfl⟩
  refine CwpE.seqJ (fun s => ∃ met', s = ⟨ndE p y x met', [.arr 1 1 25 [vmel m]]⟩) ?_ ?_
  rotate_left
  ·rintro _ ⟨met', rfl⟩
   refine CwpE.vc ?_
   simp only [go_sem, ↓reduceIte, Nat.reduceLT, Nat.reduceEqDiff, xw]
   exact ⟨z, ⟨ndE p y (x + 1) met', [.arr 1 1 25 [vmel m]]⟩, by omega, WkE.keep (by simp only [go_sem, ↓reduceIte, Nat.reduceEqDiff]), x + 1, met', by omega, fun _ => by omega, rfl⟩
  refine CwpE.block ?_
  refine CwpE.cut (st := ⟨(12, vb false) :: ndE p y x met, [.arr 1 1 25 [vmel m]]⟩) ?_ ?_
  ·simp only [go_sem, ↓reduceIte, Nat.reduceLT]
   exact ⟨_, WkE.keep (by simp only [go_sem, ↓reduceIte, Nat.reduceEqDiff]), rfl⟩
  refine CwpE.seqJ (fun s => ∃ b, s = ⟨(12, vb b) :: ndE p y x met, [.arr 1 1 25 [vmel m]]⟩) ?_ ?_
  ·refine CwpE.cut (st := ⟨(13, vi (0 : Nat)) :: (12, vb false) :: ndE p y x met, [.arr 1 1 25 [vmel m]]⟩) ?_ ?_
   ·simp only [go_sem, ↓reduceIte, Nat.reduceLT]
    exact ⟨_, WkE.keep (by simp only [go_sem, ↓reduceIte, Nat.reduceEqDiff]; rfl), rfl⟩
   refine CwpE.block ?_
   refine loopX 4 (fun z s => ∃ (k : Nat) (b : Bool), k + z = 7 /\ s = ⟨(13, vi k) :: (12, vb b) :: ndE p y x met, [.arr 1 1 25 [vmel m]]⟩)
    (fun s => ∃ b, s = ⟨(12, vb b) :: ndE p y x met, [.arr 1 1 25 [vmel m]]⟩) 7 _ (.refl _ _) ⟨0, false, by omega, rfl⟩ ?_ ?_
   rotate_left
   ·rintro s ⟨b, rfl⟩
    simp only [inBlockE, if_true]
    exact ⟨_, .refl _ _, b, rfl⟩
   rintro z s ⟨k, b, hk, rfl⟩
   cases z with
   | zero =>
    have k1 : ¬ (k : Int) < 7 := by omega
    simp only [go_sem, ↓reduceIte, Nat.reduceLT, k1]
    exact ⟨_, WkE.keep (by simp only [go_sem, ↓reduceIte, Nat.reduceEqDiff]), b, rfl⟩
   | succ z =>
    have k1 : (k : Int) < 7 := by omega
    have k0 : (0 : Int) <= (k : Int) := by omega
    have kw : IntKind.i64.wrap ((k : Int) + 1) = ((k + 1 : Nat) : Int) := by rw [wrap_id (by omega) (by omega)]; omega
    have gk := octs7 (k := k) (by omega)
    cases b with
    | true =>
     simp only [go_sem, ↓reduceIte, Nat.reduceLT, Nat.reduceEqDiff, k1, kw]
     exact ⟨z, ⟨(13, vi (k + 1 : Nat)) :: (12, vb true) :: ndE p y x met, [.arr 1 1 25 [vmel m]]⟩, by omega, WkE.keep (by simp only [go_sem, ↓reduceIte, Nat.reduceEqDiff]), k + 1, true, by omega, rfl⟩
    | false =>
     simp only [go_sem, ↓reduceIte, Nat.reduceLT, Nat.reduceEqDiff, k1, k0, kw, List.getElem?_map, hr, gv, gk, Option.map_some, y0, x0]
     exact ⟨z, ⟨(13, vi (k + 1 : Nat)) :: (12, vb (decide (v = octs.getD k 0))) :: ndE p y x met, [.arr 1 1 25 [vmel m]]⟩, by omega, WkE.keep (by simp only [go_sem, ↓reduceIte, Nat.reduceEqDiff]), k + 1, _, by omega, rfl⟩
  rintro _ ⟨b, rfl⟩
  cases b with
  | false =>
   refine CwpE.vc ?_
   simp only [go_sem, ↓reduceIte, Nat.reduceLT]
   exact ⟨_, WkE.keep (by simp only [go_sem, ↓reduceIte, Nat.reduceEqDiff]), met, rfl⟩
  | true =>
   refine CwpE.cut (st := ⟨ndE p y x met, [.arr 1 1 25 [vmel m]]⟩) ?_ ?_
   ·simp only [go_sem, ↓reduceIte, Nat.reduceLT]
    exact ⟨_, WkE.keep (by simp only [go_sem, ↓reduceIte, Nat.reduceEqDiff]), rfl⟩
   cases met with
   | false =>
    refine CwpE.vc ?_
    simp only [go_sem, ↓reduceIte, Nat.reduceLT, Nat.reduceEqDiff]
    exact ⟨_, WkE.keep (by simp only [go_sem, ↓reduceIte, Nat.reduceEqDiff]), true, rfl⟩
   | true =>
    refine CwpE.seqJ (fun s => s = ⟨ndE p y x true, [.arr 1 1 25 [vmel m]]⟩) ?_ ?_
    ·refine (nd_less F0 w0 h hpl hrl y x r hr (by omega) (hm1 rfl) (Q := fun e s => e = .normal /\ s = ⟨ndE p y x true, [.arr 1 1 25 [vmel m]]⟩) ⟨rfl, rfl⟩).mono fun e s ⟨s', hw, he, hs⟩ => by
      subst he; exact ⟨s', hw, hs⟩
    rintro _ rfl
    refine CwpE.vc ?_
    simp only [go_sem, ↓reduceIte, Nat.reduceLT]
    exact ⟨_, WkE.keep (by simp only [go_sem, ↓reduceIte, Nat.reduceEqDiff]), true, rfl⟩
set_option maxRecDepth 100000 in
theorem MusicNeeded_s (l : List Int) (w : Int) (hl : ∀ x ∈ l, I64 x) (hw : I64 w) : Ctr Tryd.prog 7 [vints l, vi w] (vb true) := by
 refine specC f7 (by simp) fun F0 w0 => ?_
 have b31 : I64 31 := ⟨by decide, by decide⟩
 have g31 := aroundL_bd (n := w) (most := 31) (by omega)
 have w31 : IntKind.i64.wrap (10 + aroundL w 31) = 10 + aroundL w 31 := wrap_id (by omega) (by omega)
 have hm := melP_vm l
 have hml := vm_len hm
 have hen := enc_err hm (w := 10 + aroundL w 31) (by omega)
 obtain ⟨m, em⟩ : ∃ m, melP l = m := ⟨_, rfl⟩
 rw [em] at hm hml hen
 obtain ⟨E, hE⟩ : ∃ E, encP m (10 + aroundL w 31) = E := ⟨_, rfl⟩
 unfold c7
 refine CwpE.cut (st := ⟨[(0, vints l), (1, vi w)], []⟩) ?_ ?_
 ·simp only [go_sem, ↓reduceIte, Nat.reduceLT]
  exact ⟨_, WkE.keep (by simp only [go_sem, ↓reduceIte, reduceCtorEq, Nat.reduceEqDiff]), rfl⟩
 refine CwpE.cut (st := ⟨[(5, .ref 0 1 0 0), (1, vi w)], [.arr 1 1 25 [vmel m]]⟩) ?_ ?_
 ·simp only [go_sem, ↓reduceIte, Nat.reduceLT]
  refine callT (Melody_s l hl) rfl ?_
  rw [em]
  simp only [go_sem, ↓reduceIte, Nat.reduceLT, Nat.reduceEqDiff]
  exact ⟨_, WkE.keep (by simp only [go_sem, ↓reduceIte, reduceCtorEq, Nat.reduceEqDiff]), rfl⟩
 refine CwpE.cut (st := ⟨[(5, .ref 0 1 0 0), (6, vpage E.1), (7, ve E.2)], [.arr 1 1 25 [vmel m]]⟩) ?_ ?_
 ·simp only [go_sem, ↓reduceIte, Nat.reduceLT, Nat.reduceEqDiff]
  refine callT (Around_s w 31 hw b31) rfl ?_
  simp only [go_sem, ↓reduceIte, Nat.reduceLT, Nat.reduceEqDiff, w31]
  refine callT (Encode_s m (10 + aroundL w 31) hml.1 hml.2) rfl ?_
  rw [hE]
  simp only [go_sem, ↓reduceIte, Nat.reduceLT, Nat.reduceEqDiff]
  exact ⟨_, WkE.keep (by simp only [go_sem, ↓reduceIte, Nat.reduceEqDiff]), rfl⟩
 rcases hen with ⟨p, hp⟩ | hp
 rotate_left
 ·rw [hE] at hp
  subst hp
  refine CwpE.vc ?_
  simp only [go_sem, ↓reduceIte, Nat.reduceLT, Nat.reduceEqDiff, Int.reduceEq]
  refine callT lives_s rfl ?_
  simp only [go_sem, ↓reduceIte, Nat.reduceLT, Nat.reduceEqDiff]
  exact .tree _ rfl
 have hrows := enc_rows hp
 have hpl := hrows.1
 have hrl : ∀ r ∈ p, r.length <= 40 := fun r hr => by have := (hrows.2.2 r hr).1; omega
 rw [hE] at hp
 subst hp
 refine CwpE.cut (st := ⟨[(5, .ref 0 1 0 0), (6, vpage p)], [.arr 1 1 25 [vmel m]]⟩) ?_ ?_
 ·simp only [go_sem, ↓reduceIte, Nat.reduceLT, Nat.reduceEqDiff]
  exact ⟨_, WkE.keep (by simp only [go_sem, ↓reduceIte, Nat.reduceEqDiff]), rfl⟩
 refine CwpE.cut (st := ⟨[(5, .ref 0 1 0 0), (6, vpage p), (8, ndM)], [.arr 1 1 25 [vmel m]]⟩) ?_ ?_
 ·simp only [go_sem, Nat.reducePow, Nat.reduceLeDiff, ↓reduceIte, reduceCtorEq, Nat.reduceLT, Nat.reduceAdd, Nat.reduceMul]
  exact ⟨_, WkE.keep (by simp only [go_sem, ↓reduceIte, Nat.reduceEqDiff]), rfl⟩
 refine CwpE.seqJ (fun s => s = ⟨[], []⟩) ?_ ?_
 rotate_left
 ·rintro _ rfl
  refine CwpE.vc ?_
  simp only [go_sem]
  refine callT lives_s rfl ?_
  simp only [go_sem, ↓reduceIte, Nat.reduceLT]
  exact .tree _ rfl
 refine CwpE.cut (st := ⟨[(5, .ref 0 1 0 0), (6, vpage p), (8, ndM), (9, vi (0 : Nat))], [.arr 1 1 25 [vmel m]]⟩) ?_ ?_
 ·simp only [go_sem, ↓reduceIte, Nat.reduceLT]
  exact ⟨_, WkE.keep (by simp only [go_sem, ↓reduceIte, Nat.reduceEqDiff]; rfl), rfl⟩
 refine CwpE.block ?_
 refine loopXC 0 (fun z s => ∃ y : Nat, y + z = p.length /\ s = ⟨[(5, .ref 0 1 0 0), (6, vpage p), (8, ndM), (9, vi y)], [.arr 1 1 25 [vmel m]]⟩) (fun s => s = ⟨[], []⟩) p.length _ (.refl _ _) ⟨0, by omega, rfl⟩ ?_ ?_
 rotate_left
 ·rintro s rfl
  simp only [inBlockE, if_true]
  exact ⟨_, .refl _ _, rfl⟩
 rintro z s ⟨y, hy, rfl⟩
 cases z with
 | zero =>
  have y1 : ¬ (y : Int) < (p.length : Int) := by omega
  refine CwpE.vc ?_
  simp only [go_sem, ↓reduceIte, Nat.reduceLT, Nat.reduceEqDiff, List.length_map, y1]
  exact ⟨⟨[], []⟩, (WkE.keep (env' := []) trivial).trans (WkE.drop 0 (fun p h => by cases h) (fun o h => by cases h)), rfl⟩
 | succ z =>
  have y1 : (y : Int) < (p.length : Int) := by omega
  have y0 : (0 : Int) <= (y : Int) := by omega
  have yw : IntKind.i64.wrap ((y : Int) + 1) = ((y + 1 : Nat) : Int) := by rw [wrap_id (by omega) (by omega)]; omega
  obtain ⟨r, er⟩ : ∃ r, p[y] = r := ⟨_, rfl⟩
  have hr : p[y]? = some r := by rw [List.getElem?_eq_getElem (by omega), er]
  have hrm : r ∈ p := er ▸ List.getElem_mem _
  refine CwpE.cut (st := ⟨[(5, .ref 0 1 0 0), (6, vpage p), (8, ndM), (9, vi y)], [.arr 1 1 25 [vmel m]]⟩) ?_ ?_
  ·simp only [go_sem, ↓reduceIte, Nat.reduceLT, Nat.reduceEqDiff, List.length_map, y1]
   exact ⟨_, WkE.keep (by simp only [go_sem, ↓reduceIte, Nat.reduceEqDiff]), rfl⟩
  refine CwpE.seqJ (fun s => s = ⟨[(5, .ref 0 1 0 0), (6, vpage p), (8, ndM), (9, vi y)], [.arr 1 1 25 [vmel m]]⟩) ?_ ?_
  rotate_left
  ·rintro _ rfl
   refine CwpE.vc ?_
   simp only [go_sem, ↓reduceIte, Nat.reduceLT, Nat.reduceEqDiff, yw]
   exact ⟨z, ⟨[(5, .ref 0 1 0 0), (6, vpage p), (8, ndM), (9, vi (y + 1 : Nat))], [.arr 1 1 25 [vmel m]]⟩, by omega, WkE.keep (by simp only [go_sem, ↓reduceIte, Nat.reduceEqDiff]), y + 1, by omega, rfl⟩
  refine CwpE.block ?_
  refine CwpE.cut (st := ⟨[(5, .ref 0 1 0 0), (6, vpage p), (8, ndM), (9, vi y)], [.arr 1 1 25 [vmel m]]⟩) ?_ ?_
  ·simp only [go_sem, ↓reduceIte, Nat.reduceLT, Nat.reduceEqDiff, List.getElem?_map, hr, Option.map_some, y0]
   refine callT (cellValid_s r (by have := hrl r hrm; omega) (hrows.2.2 r hrm).2) rfl ?_
   simp only [go_sem, ↓reduceIte, Nat.reduceLT]
   exact ⟨_, WkE.keep (by simp only [go_sem, ↓reduceIte, Nat.reduceEqDiff]), rfl⟩
  refine CwpE.cut (st := ⟨[(5, .ref 0 1 0 0), (6, vpage p), (8, ndM), (9, vi y), (10, vb false)], [.arr 1 1 25 [vmel m]]⟩) ?_ ?_
  ·simp only [go_sem, ↓reduceIte, Nat.reduceLT]
   exact ⟨_, WkE.keep (by simp only [go_sem, ↓reduceIte, Nat.reduceEqDiff]), rfl⟩
  refine CwpE.cut (st := ⟨ndE p y 0 false, [.arr 1 1 25 [vmel m]]⟩) ?_ ?_
  ·simp only [go_sem, ↓reduceIte, Nat.reduceLT]
   exact ⟨_, WkE.keep (by simp only [go_sem, ↓reduceIte, Nat.reduceEqDiff]; rfl), rfl⟩
  refine (nd_row F0 w0 hE hpl hrl y r hr (Q := fun e s => e = .normal /\ ∃ met, s = ⟨ndE p y r.length met, [.arr 1 1 25 [vmel m]]⟩) (fun met => ⟨rfl, met, rfl⟩)).mono fun e s ⟨s', hw, he, met, hs⟩ => ?_
  subst he
  subst hs
  exact ⟨_, hw.trans (WkE.keep (by simp only [go_sem, ↓reduceIte, Nat.reduceEqDiff])), rfl⟩
end Go.Proofs.YtnncijjkbonokaaDoor
