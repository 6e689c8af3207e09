/- Lemmas used by Lines. -/
import Derived.Test.YtnncijjkbonokaaDoorKa
import Derived.Test.YtnncijjkbonokaaDoorKb
import Derived.Test.YtnncijjkbonokaaDoorKc
import Derived.Test.YtnncijjkbonokaaDoorKd
import Derived.Test.YtnncijjkbonokaaDoorKe
import Derived.Test.YtnncijjkbonokaaDoorKf
import Derived.Test.YtnncijjkbonokaaDoorKg
import Derived.Test.YtnncijjkbonokaaDoorKh
import Derived.Test.YtnncijjkbonokaaDoorKi
import Derived.Test.YtnncijjkbonokaaDoorKj
import Derived.Test.YtnncijjkbonokaaDoorKm
import Derived.Test.YtnncijjkbonokaaDoorKs
import Derived.Test.YtnncijjkbonokaaDoorProg
import Derived.WalkKit
import Derived.WalkSpells
import Derived.WalkLawsBesides
import Derived.Orders
import Derived.Laws.MakeOwn
import Derived.Deep.AppendSrc
import Derived.Lib.AppendZerosOnto
import Derived.Defers
import Derived.Laws.StructEq
import Derived.Scope
import Derived.Deep.LoopGhost
import Derived.OrdersIn
import Derived.ControlIn
import Derived.Sort.LoopGhostIn
import Derived.RangeFuncLeaves
import Derived.RangeFuncRecord
import Derived.RangeFuncFrom
import Derived.RangeFuncBox
import Derived.OwnWalkIn
import Derived.TacticsInMore
import Derived.LoopNIn
import Derived.LoopIn
import Derived.Sort.QuietTacIn
set_option linter.unusedSimpArgs false
set_option linter.unusedVariables false
set_option linter.unusedSectionVars false
namespace Go.Proofs.YtnncijjkbonokaaDoor
open Dak
def c26 : CCode :=
 (.seq (.region [oo 2 (.mov (.const (.bool false)))])
 (.seq (.region [vv 3 0, oo 4 (.len (T 3)), oo 5 (.ibin .leq (T 4) (kk 25)), vv 6 5, vt 7 6 0, gt 8 6 (.call (.func 51) [(T 7), (.func 52)]), gt 9 6 (.lnot (T 8)), oo 10 (.pick (T 6) (T 9) (.const (.bool false))), vv 2 10])
 .ret))
theorem f26 : fnC Tryd.prog 26 = some (c26, 11, [(.tmp 2)]) := by kernel_rfl
end Go.Proofs.YtnncijjkbonokaaDoor
namespace Go.Proofs.YtnncijjkbonokaaDoor
open Dak
def c51 : CCode :=
 (.seq (.region [oo 4 (.mov (.const (.bool false)))])
 (.seq (.region [vv 5 0, vv 6 1, oo 7 (.call (.func 80) [(T 5), (T 6)]), oo 8 (.ibin .geq (T 7) (kk 0)), vv 4 8])
 .ret))
theorem f51 : fnC Tryd.prog 51 = some (c51, 9, [(.tmp 4)]) := by kernel_rfl
def c52 : CCode :=
 (.seq (.region [oo 2 (.mov (.const (.bool false)))])
 (.seq (.region [vv 3 0, oo 4 (.len (T 3)), oo 5 (.ibin .gtr (T 4) (kk 40)), vv 6 5, vf 7 6 0, gf 8 6 (.call (.func 25) [(T 7)]), gf 9 6 (.lnot (T 8)), oo 10 (.pick (T 6) (.const (.bool true)) (T 9)), vv 2 10])
 .ret))
theorem f52 : fnC Tryd.prog 52 = some (c52, 11, [(.tmp 2)]) := by kernel_rfl
end Go.Proofs.YtnncijjkbonokaaDoor
namespace Go.Proofs.YtnncijjkbonokaaDoor
open Go.RowKit Dak
set_option maxRecDepth 100000 in
theorem ContainsFunc51_s (g : FuncId) (caps : List AV) (hcap : (caps.all AV.isT1) = true) (p : List Int -> Bool) (l : List (List Int)) (hl : l.length <= 9223372036854775806) (hp : ∀ x ∈ l, Ctr Tryd.prog g (vbytes x :: caps) (vb (p x))) : Ctr Tryd.prog 51 [.list 1 (l.map vbytes), .clo (.func g) caps] (vb (l.any p)) := by
 refine specE f51 (by simp) fun F0 w0 => ?_
 simp only [c51, go_sem, ↓reduceIte, reduceCtorEq, Nat.reduceLT, Nat.reduceEqDiff]
 refine callN (IndexFunc80_s g caps hcap p l hl hp) (snaps_self [.list 1 (l.map vbytes), .clo (.func g) caps] (by simp only [List.all_cons, List.all_nil, Bool.and_true]; exact Bool.and_eq_true_iff.2 ⟨rfl, isT_clo hcap⟩) _) ?_
 simp only [go_sem, ↓reduceIte, Nat.reduceLT]
 rw [idxGo_any]
 exact .tree _ rfl
end Go.Proofs.YtnncijjkbonokaaDoor
namespace Go.Proofs.YtnncijjkbonokaaDoor
open Go.RowKit Dak
theorem fits1_s (l : List Int) (hl : l.length <= 40) (h : ∀ x ∈ l, 0 <= x /\ x < 64) : Ctr Tryd.prog 52 [vbytes l] (vb false) := by
 refine specE f52 (by simp) fun F0 w0 => ?_
 have e : ¬ (40 : Int) < (l.length : Int) := by omega
 simp only [c52, go_sem, ↓reduceIte, reduceCtorEq, Nat.reduceLT, Nat.reduceEqDiff, List.length_map, e]
 refine callT (cellValid_s l (by omega) h) rfl ?_
 simp only [go_sem, ↓reduceIte, Nat.reduceLT, Nat.reduceEqDiff]
 exact .tree _ rfl
theorem cellFits_s (p : List (List Int)) (hp : p.length <= 25) (h : ∀ l ∈ p, l.length <= 40 /\ ∀ x ∈ l, 0 <= x /\ x < 64) : Ctr Tryd.prog 26 [vpage p] (vb true) := by
 refine specE f26 (by simp) fun F0 w0 => ?_
 have e : (p.length : Int) <= 25 := by omega
 simp only [c26, go_sem, ↓reduceIte, reduceCtorEq, Nat.reduceLT, Nat.reduceEqDiff, List.length_map, e]
 refine callT (ContainsFunc51_s 52 [] rfl (fun _ => false) p (by omega) fun l hl => fits1_s l (h l hl).1 (h l hl).2) rfl ?_
 rw [show p.any (fun _ => false) = false by simp]
 simp only [go_sem, ↓reduceIte, Nat.reduceLT, Nat.reduceEqDiff]
 exact .tree _ rfl
end Go.Proofs.YtnncijjkbonokaaDoor
namespace Go.Proofs.YtnncijjkbonokaaDoor
open Go.RowKit Dak
theorem enc_of {m : List (List (List Nt))} {width : Int} (hm : validE m = 0) (hw : 1 <= width /\ width <= 40) (ho : ∀ i, i < manyP m -> (wideP (lineP m i 1).ls 0 : Int) <= width) : encP m width = (pageOf m (cutsP m width (manyP m) 0 0), 0) := by
 unfold encP
 rw [if_neg (by simpa using hm), if_neg (by omega), if_neg]
 ·have := enc_cuts m width (manyP m) 0 0 []
  rw [List.nil_append] at this
  rw [<- this]; rfl
 ·rw [Bool.not_eq_true, List.any_eq_false]
  intro i hi
  have := ho i (List.mem_range.1 hi)
  rw [line_one] at this
  simp [overP]; omega
def hasN (l : List Nt) : Bool := l.any fun n => decide (0 <= n.s)
theorem note_len_mark (n : Nt) : (noteC n true).length = (noteC n false).length + 1 := by
 simp [noteC, octC]; omega
theorem step_rest {n : Nt} {l : Int} (h : ¬ 0 <= n.s) : stepP n l = l := by rw [stepP, if_neg h]
theorem cells_fresh : ∀ (l : List Nt) (x : Int), (hasN l = true -> (cellsP l (-1)).length <= (cellsP l x).length + 1 /\ lastP l (-1) = lastP l x) /\ (hasN l = false -> (cellsP l (-1)).length = (cellsP l x).length /\ lastP l (-1) = -1 /\ lastP l x = x)
 | [], x => ⟨fun h => (by cases h), fun _ => ⟨rfl, rfl, rfl⟩⟩
 | n :: r, x => by
  have ih := cells_fresh r x
  by_cases h0 : 0 <= n.s
  ·refine ⟨fun _ => ?_, fun h => by simp [hasN, h0] at h⟩
   have e1 : stepP n (-1) = n.s := by rw [stepP, if_pos h0]
   have e2 : stepP n x = n.s := by rw [stepP, if_pos h0]
   have hm : markP n.s (-1) = true := by simp [markP, needP, h0]
   simp only [cellsP, lastP, e1, e2, hm, List.length_append]
   refine ⟨?_, trivial⟩
   have := note_len_mark n
   cases markP n.s x <;> omega
  ·have e1 : stepP n (-1) = -1 := step_rest h0
   have e2 : stepP n x = x := step_rest h0
   have hm : ∀ y, markP n.s y = false := fun y => by simp [markP, h0]
   have hh : hasN (n :: r) = hasN r := by simp [hasN, h0]
   simp only [cellsP, lastP, e1, e2, hm, hh, List.length_append]
   exact ⟨fun h => ⟨by have := (ih.1 h).1; omega, (ih.1 h).2⟩, fun h => ⟨by have := (ih.2 h).1; omega, (ih.2 h).2⟩⟩
def seenB (h : List (List Nt)) : Bool := h.any hasN
theorem seg_fresh : ∀ (bs : List (List Nt)) (x : Int), (seenB bs = true -> segL bs (-1) = segL bs x) /\ (seenB bs = false -> segL bs (-1) = -1 /\ segL bs x = x)
 | [], x => ⟨fun h => (by cases h), fun _ => ⟨rfl, rfl⟩⟩
 | b :: r, x => by
  have hc := cells_fresh b x
  cases hb : hasN b with
  | true =>
   refine ⟨fun _ => ?_, fun h => by simp [seenB, hb] at h⟩
   simp only [segL, (hc.1 hb).2]
  | false =>
   have ih := seg_fresh r x
   have e := hc.2 hb
   simp only [segL, e.2.1, e.2.2, seenB, List.any_cons, hb, Bool.false_or]
   exact ih
theorem cutH_cons {fr k : Nat} {h : List (List Nt)} (hk : fr < h.length) : cutH fr (k + 1) h = h.getD fr [] :: cutH (fr + 1) k h := by
 unfold cutH
 rw [List.drop_eq_getElem_cons hk, List.take_succ_cons, List.getD_eq_getElem?_getD, List.getElem?_eq_getElem hk]; rfl
abbrev colC (m : List (List (List Nt))) (fr k : Nat) : List (List Int) := m.map fun h => cellsP (h.getD (fr + k) []) (segL (cutH fr k h) (-1))
theorem rows_len {m : List (List (List Nt))} (hm : Vm m) {fr k : Nat} (hk : fr + k <= manyP m) : (rowsP m fr k).length = m.length := by rw [rowsP, List.length_map, line_len hm hk]
theorem rows_ne {m : List (List (List Nt))} (hm : Vm m) {fr k : Nat} (hk : fr + k <= manyP m) : rowsP m fr k ≠ [] := by
 intro e
 have := rows_len hm hk
 rw [e] at this
 exact m_ne hm (List.length_eq_zero_iff.1 this.symm)
theorem wide_succ {m : List (List (List Nt))} (hm : Vm m) {fr k : Nat} (h1 : 1 <= k) (hk : fr + k < manyP m) : wideP (rowsP m fr (k + 1)) 0 = wideP (rowsP m fr k) 0 + 1 + wideP (colC m fr k) 0 := by
 rw [rows_succ hm h1 hk, ext_wide _ _ (by rw [rows_len hm (by omega)]; simp) (rows_ne hm (by omega))]
theorem wide_first {m : List (List (List Nt))} (hm : Vm m) {fr : Nat} (hk : fr < manyP m) : wideP (rowsP m fr 1) 0 = wideP (colC m fr 0) 0 := by
 rw [rows_one hm hk]; rfl
theorem wide_line_rows {m : List (List (List Nt))} (hm : Vm m) {fr k : Nat} (hk : fr + k <= manyP m) : wideP (lineP m fr k).ls 0 = wideP (rowsP m fr k) 0 + (m.length - 1) := by
 have hl := line_len hm hk
 exact (wide_drop _ _ (rows_ge hm k hk) (by intro e; rw [e] at hl; exact m_ne hm (List.length_eq_zero_iff.1 hl.symm))).symm
theorem wide_map_le {α : Type} (f g : α -> List Int) (c : Nat) : ∀ (l : List α), (∀ a ∈ l, (f a).length <= (g a).length + c) -> wideP (l.map f) 0 <= wideP (l.map g) 0 + c
 | [], _ => by simp [wideP]
 | a :: l, h => by
  rw [List.map_cons, List.map_cons, wide_cons, wide_cons]
  have := h a (List.mem_cons_self ..)
  have := wide_map_le f g c l fun x hx => h x (List.mem_cons_of_mem _ hx)
  omega
theorem count_mono {α : Type} (s t : α -> Bool) : ∀ (l : List α), (∀ a ∈ l, s a = true -> t a = true) -> l.countP s <= l.countP t /\ ((∃ a ∈ l, t a = true /\ s a = false) -> l.countP s + 1 <= l.countP t)
 | [], _ => ⟨Nat.le_refl _, fun ⟨_, h, _⟩ => by cases h⟩
 | a :: l, h => by
  have ih := count_mono s t l fun x hx => h x (List.mem_cons_of_mem _ hx)
  have ha := h a (List.mem_cons_self ..)
  rw [List.countP_cons, List.countP_cons]
  cases hs : s a <;> cases ht : t a
  ·refine ⟨by simpa using ih.1, fun ⟨x, hx, h1, h2⟩ => ?_⟩
   rcases List.mem_cons.1 hx with rfl | hx
   ·rw [ht] at h1; cases h1
   ·simpa using ih.2 ⟨x, hx, h1, h2⟩
  ·refine ⟨by simp; omega, fun _ => ?_⟩
   simpa using ih.1
  ·rw [ha hs] at ht; cases ht
  ·refine ⟨by simpa using ih.1, fun ⟨x, hx, h1, h2⟩ => ?_⟩
   rcases List.mem_cons.1 hx with rfl | hx
   ·rw [hs] at h2; cases h2
   ·simpa using ih.2 ⟨x, hx, h1, h2⟩
theorem col_later {m : List (List (List Nt))} (hm : Vm m) {fr k : Nat} (hk : fr + 1 + k < manyP m) :
 wideP (colC m (fr + 1) k) 0 + m.countP (fun h => seenB (cutH (fr + 1) k h)) <= wideP (colC m fr (k + 1)) 0 + m.countP (fun h => seenB (cutH (fr + 1) (k + 1) h)) := by
 have hs : ∀ h ∈ m, cutH (fr + 1) (k + 1) h = cutH (fr + 1) k h ++ [h.getD (fr + 1 + k) []] := fun h hh => cutH_succ (by have := hm.bars h hh; omega)
 have hseen : ∀ h ∈ m, seenB (cutH (fr + 1) (k + 1) h) = (seenB (cutH (fr + 1) k h) || hasN (h.getD (fr + 1 + k) [])) := fun h hh => by
  rw [hs h hh]; simp [seenB]
 have hfr : ∀ h ∈ m, cutH fr (k + 1) h = h.getD fr [] :: cutH (fr + 1) k h := fun h hh => cutH_cons (by have := hm.bars h hh; omega)
 have cm := count_mono (fun h => seenB (cutH (fr + 1) k h)) (fun h => seenB (cutH (fr + 1) (k + 1) h)) m fun h hh hq => by rw [hseen h hh, hq]; rfl
 have each : ∀ h ∈ m, (cellsP (h.getD (fr + 1 + k) []) (segL (cutH (fr + 1) k h) (-1))).length <= (cellsP (h.getD (fr + (k + 1)) []) (segL (cutH fr (k + 1) h) (-1))).length + (if seenB (cutH (fr + 1) (k + 1) h) = true /\ seenB (cutH (fr + 1) k h) = false then 1 else 0) := by
  intro h hh
  rw [hfr h hh, show fr + (k + 1) = fr + 1 + k by omega, hseen h hh]
  simp only [segL]
  have sf := seg_fresh (cutH (fr + 1) k h) (lastP (h.getD fr []) (-1))
  cases h1 : seenB (cutH (fr + 1) k h) with
  | true => rw [sf.1 h1]; omega
  | false =>
   rw [(sf.2 h1).1, (sf.2 h1).2]
   have cf := cells_fresh (h.getD (fr + 1 + k) []) (lastP (h.getD fr []) (-1))
   cases h2 : hasN (h.getD (fr + 1 + k) []) with
   | true => simpa using (cf.1 h2).1
   | false => rw [(cf.2 h2).1]; omega
 by_cases hex : ∃ h ∈ m, seenB (cutH (fr + 1) (k + 1) h) = true /\ seenB (cutH (fr + 1) k h) = false
 ·have := cm.2 hex
  have := wide_map_le (fun h => cellsP (h.getD (fr + 1 + k) []) (segL (cutH (fr + 1) k h) (-1))) (fun h => cellsP (h.getD (fr + (k + 1)) []) (segL (cutH fr (k + 1) h) (-1))) 1 m fun h hh => by
   have := each h hh
   split at this <;> omega
  simp only [colC]; omega
 ·have := cm.1
  have := wide_map_le (fun h => cellsP (h.getD (fr + 1 + k) []) (segL (cutH (fr + 1) k h) (-1))) (fun h => cellsP (h.getD (fr + (k + 1)) []) (segL (cutH fr (k + 1) h) (-1))) 0 m fun h hh => by
   have := each h hh
   rw [if_neg fun hq => hex ⟨h, hh, hq⟩] at this
   exact this
  simp only [colC]; omega
theorem col_pos {m : List (List (List Nt))} (hm : Vm m) {fr k : Nat} (hk : fr + k < manyP m) : 1 <= wideP (colC m fr k) 0 := by
 have hn := m_ne hm
 obtain ⟨h, hh⟩ := List.exists_mem_of_ne_nil m hn
 have := (wide_mono (colC m fr k) 0).2 _ (List.mem_map_of_mem (f := fun h => cellsP (h.getD (fr + k) []) (segL (cutH fr k h) (-1))) hh)
 have hr := getD_right hm hh hk
 have := cells_ge (h.getD (fr + k) []) (segL (cutH fr k h) (-1))
 omega
theorem wide_later1 {m : List (List (List Nt))} (hm : Vm m) {fr : Nat} : ∀ k, fr + 1 + (k + 1) <= manyP m -> wideP (rowsP m (fr + 1) (k + 1)) 0 + 2 <= wideP (rowsP m fr (k + 2)) 0 + m.countP (fun h => seenB (cutH (fr + 1) (k + 1) h))
 | 0, hk => by
  have h1 := wide_first hm (fr := fr + 1) (by omega)
  have h2 := wide_succ hm (fr := fr) (k := 1) (by omega) (by omega)
  have h3 := wide_first hm (fr := fr) (by omega)
  have h4 := col_later hm (fr := fr) (k := 0) (by omega)
  have h5 := col_pos hm (fr := fr) (k := 0) (by omega)
  simp only [Nat.zero_add] at h4 ⊢
  have h2' : wideP (rowsP m fr 2) 0 = wideP (rowsP m fr 1) 0 + 1 + wideP (colC m fr 1) 0 := h2
  rw [h1, h2', h3]
  omega
 | k + 1, hk => by
  have ih := wide_later1 hm (fr := fr) k (by omega)
  have h1 := wide_succ hm (fr := fr + 1) (k := k + 1) (by omega) (by omega)
  have h2 := wide_succ hm (fr := fr) (k := k + 2) (by omega) (by omega)
  have h4 : wideP (colC m (fr + 1) (k + 1)) 0 + m.countP (fun h => seenB (cutH (fr + 1) (k + 1) h)) <= wideP (colC m fr (k + 2)) 0 + m.countP (fun h => seenB (cutH (fr + 1) (k + 1 + 1) h)) := col_later hm (fr := fr) (k := k + 1) (by omega)
  rw [h1, show k + 1 + 2 = k + 2 + 1 from rfl, h2]
  omega
theorem wide_later {m : List (List (List Nt))} (hm : Vm m) {fr k : Nat} (h1 : 1 <= k) (hk : fr + 1 + k <= manyP m) : wideP (lineP m (fr + 1) k).ls 0 <= wideP (lineP m fr (k + 1)).ls 0 := by
 obtain ⟨k, rfl⟩ : ∃ j, k = j + 1 := ⟨k - 1, by omega⟩
 have : wideP (rowsP m (fr + 1) (k + 1)) 0 + 2 <= wideP (rowsP m fr (k + 1 + 1)) 0 + m.countP (fun h => seenB (cutH (fr + 1) (k + 1) h)) := wide_later1 hm (fr := fr) k hk
 have hc := List.countP_le_length (p := fun h => seenB (cutH (fr + 1) (k + 1) h)) (l := m)
 rw [wide_line_rows hm hk, wide_line_rows hm (by omega)]
 rcases hm.hands with h | h <;> omega
theorem wide_grow {m : List (List (List Nt))} (hm : Vm m) {fr k : Nat} (hk : fr + k < manyP m) : wideP (lineP m fr k).ls 0 <= wideP (lineP m fr (k + 1)).ls 0 := by
 refine wide_le _ 0 _ (Nat.zero_le _) fun c hc => ?_
 obtain ⟨i, hi, rfl⟩ := List.getElem_of_mem hc
 have hl := line_len hm (fr := fr) (k := k) (by omega)
 have hl' := line_len hm (fr := fr) (k := k + 1) (by omega)
 have h2 := (wide_mono (lineP m fr (k + 1)).ls 0).2 _ (List.getElem_mem (n := i) (by omega))
 have e := line_add (m := m) (fr := fr) (k := k) (fun h hh => by have := hm.bars h hh; omega)
 have : (lineP m fr k).ls[i].length <= ((lineP m fr (k + 1)).ls[i]'(by omega)).length := by
  simp only [e, List.getElem_zipWith, List.length_append]
  have : ∀ (w : Nat) (c : List Int), c.length <= (padC k w c).length := by intro w c; unfold padC; split <;> simp <;> omega
  have := this (wideP (lineP m fr k).ls 0) (lineP m fr k).ls[i]
  omega
 omega
theorem wide_part {m : List (List (List Nt))} (hm : Vm m) : ∀ (d e a n : Nat), 1 <= n -> a + d + n + e <= manyP m -> wideP (lineP m (a + d) n).ls 0 <= wideP (lineP m a (d + n + e)).ls 0
 | 0, 0, a, n, _, _ => by rw [Nat.zero_add]; exact Nat.le_refl _
 | 0, e + 1, a, n, h1, h => by
  have := wide_part hm 0 e a n h1 (by omega)
  have := wide_grow hm (fr := a) (k := 0 + n + e) (by omega)
  rw [show 0 + n + (e + 1) = 0 + n + e + 1 by omega]; omega
 | d + 1, e, a, n, h1, h => by
  have h2 := wide_part hm d e (a + 1) n h1 (by omega)
  have h3 := wide_later hm (fr := a) (k := d + n + e) (by omega) (by omega)
  rw [show a + (d + 1) = a + 1 + d by omega, show d + 1 + n + e = d + n + e + 1 by omega]; omega
theorem greedy_least {m : List (List (List Nt))} (hm : Vm m) (width : Int) : ∀ (k fr c a n : Nat) (rest : List (Nat × Nat)), 1 <= c -> a <= fr + c -> fr + c <= a + n -> fr + c + k <= manyP m ->
 Chain (a + n) (fr + c + k) rest -> (∀ q ∈ (a, n) :: rest, (wideP (lineP m q.1 q.2).ls 0 : Int) <= width) -> (cutsP m width k fr c).length <= (if a <= fr then 1 else 2) + rest.length
 | 0, fr, c, a, n, rest, _, _, _, _, _, _ => by
  simp only [cutsP, List.length_singleton]; split <;> omega
 | k + 1, fr, c, a, n, rest, hc, ha, hn, hk, hch, hfit => by
  have main : ∀ (a n : Nat) (rest : List (Nat × Nat)), a <= fr + c -> fr + c < a + n -> Chain (a + n) (fr + c + (k + 1)) rest -> (∀ q ∈ (a, n) :: rest, (wideP (lineP m q.1 q.2).ls 0 : Int) <= width) ->
   (cutsP m width (k + 1) fr c).length <= (if a <= fr then 1 else 2) + rest.length := by
   intro a n rest ha hn hch hfit
   have hend := chain_le hch
   rw [cutsP]
   split
   ·rename_i hw
    have hafr : ¬ a <= fr := by
     intro hafr
     have h1 := wide_part hm (fr - a) (a + n - (fr + c + 1)) a (c + 1) (by omega) (by omega)
     rw [show a + (fr - a) = fr by omega, show fr - a + (c + 1) + (a + n - (fr + c + 1)) = n by omega] at h1
     have h2 := hfit (a, n) (List.mem_cons_self ..)
     simp only at h2
     omega
    have ih := greedy_least hm width k (fr + c) 1 a n rest (by omega) (by omega) (by omega) (by omega) (by rwa [show fr + c + 1 + k = fr + c + (k + 1) by omega]) hfit
    rw [if_pos ha] at ih
    rw [if_neg hafr, List.length_cons]; omega
   ·exact greedy_least hm width k fr (c + 1) a n rest (by omega) (by omega) (by omega) (by omega) (by rwa [show fr + (c + 1) + k = fr + c + (k + 1) by omega]) hfit
  by_cases hlt : fr + c < a + n
  ·exact main a n rest ha hlt hch hfit
  ·have he : fr + c = a + n := by omega
   cases rest with
   | nil => simp only [Chain] at hch; omega
   | cons q r =>
    obtain ⟨a', n'⟩ := q
    obtain ⟨h1, h2, h3, h4⟩ := hch
    simp only at h1 h2 h3 h4
    have := main a' n' r (by omega) (by omega) (by rw [h1]; exact h4) fun q hq => hfit q (List.mem_cons_of_mem _ hq)
    rw [if_neg (by omega)] at this
    simp only [List.length_cons]
    split <;> omega
theorem cuts_least {m : List (List (List Nt))} (hm : Vm m) {width : Int} (h1 : ∀ i, i < manyP m -> (wideP (lineP m i 1).ls 0 : Int) <= width) {l : List (Nat × Nat)} (hl : Chain 0 (manyP m) l) (hf : ∀ q ∈ l, (wideP (lineP m q.1 q.2).ls 0 : Int) <= width) :
 (cutsP m width (manyP m) 0 0).length <= l.length := by
 have hp := hm.pos
 obtain ⟨k, hk⟩ : ∃ k, manyP m = k + 1 := ⟨manyP m - 1, by omega⟩
 cases l with
 | nil => simp only [Chain] at hl; omega
 | cons q r =>
  obtain ⟨a, n⟩ := q
  obtain ⟨e, h2, h3, h4⟩ := hl
  simp only at e h2 h3 h4
  subst e
  rw [hk, cutsP, if_neg (by have := h1 0 (by omega); show ¬ width < ((wideP (lineP m 0 1).ls 0 : Nat) : Int); omega)]
  have : (cutsP m width k 0 (0 + 1)).length <= (if 0 <= 0 then 1 else 2) + r.length := greedy_least hm width k 0 1 0 n r (Nat.le_refl _) (by omega) (by omega) (by omega) (by rw [show 0 + 1 + k = manyP m by omega]; exact h4) hf
  rw [if_pos (Nat.le_refl _)] at this
  rw [List.length_cons]; omega
theorem enc_more {m : List (List (List Nt))} {w w' : Int} {p : List (List Int)} (h : encP m w = (p, 0)) (hw : w <= w') (h40 : w' <= 40) : ∃ q, encP m w' = (q, 0) /\ q.length <= p.length := by
 obtain ⟨hm, h1, _, l, _, hp, hc, hb, hf⟩ := enc_page h
 have e := enc_of (vm_valid hm) (width := w') ⟨by omega, h40⟩ fun i hi => by have := hb i hi; omega
 refine ⟨_, e, ?_⟩
 obtain ⟨_, _, _, l', hl', hp', hc', _, _⟩ := enc_page e
 have := cuts_least hm (width := w') (fun i hi => by have := hb i hi; omega) hc fun q hq => by have := hf q hq; omega
 rw [hp', hp, page_len hm hc' (Nat.le_refl _), page_len hm hc (Nat.le_refl _), hl']
 exact Nat.mul_le_mul (Nat.le_refl _) this
def divGo (m : List (List (List Nt))) (w : Int) (bits many : Nat) : Nat -> Nat -> Nat -> Nat -> Bool -> Nat × Bool
 | 0, _, _, lines, fits => (lines, fits)
 | f + 1, b, fr, lines, fits => if b + 1 < many /\ bits / 2 ^ b % 2 = 0 then divGo m w bits many f (b + 1) fr lines fits
  else divGo m w bits many f (b + 1) (b + 1) (lines + (lineP m fr (b + 1 - fr)).ls.length) (fits && (lineP m fr (b + 1 - fr)).ls.all fun r => decide ((r.length : Int) <= w))
def segsOf (bits many : Nat) : Nat -> Nat -> Nat -> List (Nat × Nat)
 | 0, _, _ => []
 | f + 1, b, fr => if b + 1 < many /\ bits / 2 ^ b % 2 = 0 then segsOf bits many f (b + 1) fr else (fr, b + 1 - fr) :: segsOf bits many f (b + 1) (b + 1)
theorem segs_chain (bits many : Nat) : ∀ (f b fr : Nat), b + f = many -> fr <= b -> (f = 0 -> fr = b) -> Chain fr many (segsOf bits many f b fr)
 | 0, b, fr, h, h1, h2 => by have := h2 rfl; simp only [segsOf, Chain]; omega
 | f + 1, b, fr, h, h1, _ => by
  rw [segsOf]
  split
  ·rename_i hc
   exact segs_chain bits many f (b + 1) fr (by omega) (by omega) (by omega)
  ·refine ⟨rfl, by show 1 <= b + 1 - fr; omega, by show fr + (b + 1 - fr) <= many; omega, ?_⟩
   show Chain (fr + (b + 1 - fr)) many _
   rw [show fr + (b + 1 - fr) = b + 1 by omega]
   exact segs_chain bits many f (b + 1) (b + 1) (by omega) (Nat.le_refl _) fun _ => rfl
theorem div_segs {m : List (List (List Nt))} (hm : Vm m) (w : Int) (bits : Nat) : ∀ (f b fr lines : Nat) (fits : Bool), b + f = manyP m -> fr <= b ->
 divGo m w bits (manyP m) f b fr lines fits = (lines + m.length * (segsOf bits (manyP m) f b fr).length, fits && (segsOf bits (manyP m) f b fr).all fun q => (lineP m q.1 q.2).ls.all fun r => decide ((r.length : Int) <= w))
 | 0, b, fr, lines, fits, _, _ => by simp [divGo, segsOf]
 | f + 1, b, fr, lines, fits, h, h1 => by
  rw [divGo, segsOf]
  split
  ·exact div_segs hm w bits f (b + 1) fr lines fits (by omega) (by omega)
  ·rw [div_segs hm w bits f (b + 1) (b + 1) _ _ (by omega) (Nat.le_refl _), line_len hm (by omega), List.length_cons, List.all_cons, Bool.and_assoc, Nat.mul_add, Nat.mul_one]
   congr 1
   omega
def leastOf (m : List (List (List Nt))) (w : Int) : Nat -> Nat
 | 0 => 99
 | k + 1 => if (divGo m w k (manyP m) (manyP m) 0 0 0 true).2 = true then min (leastOf m w k) (divGo m w k (manyP m) (manyP m) 0 0 0 true).1 else leastOf m w k
theorem bits_any (P : Nat -> Bool) : ∀ n, ∃ bits, bits < 2 ^ n /\ ∀ b, b < n -> (bits / 2 ^ b % 2 = 0 ↔ P b = false)
 | 0 => ⟨0, by simp, fun b h => by omega⟩
 | n + 1 => by
  obtain ⟨x, hx, h⟩ := bits_any (fun b => P (b + 1)) n
  refine ⟨2 * x + (if P 0 = true then 1 else 0), ?_, fun b hb => ?_⟩
  ·rw [Nat.pow_succ]; split <;> omega
  ·cases b with
   | zero =>
    rw [Nat.pow_zero, Nat.div_one]
    cases P 0 <;> simp <;> omega
   | succ b =>
    have : (2 * x + (if P 0 = true then 1 else 0)) / 2 ^ (b + 1) = x / 2 ^ b := by
     rw [Nat.pow_succ, Nat.mul_comm (2 ^ b) 2, <- Nat.div_div_eq_div_mul]
     congr 1
     split <;> omega
    rw [this]
    exact h b (by omega)
theorem segs_of (many : Nat) (bits : Nat) (l : List (Nat × Nat)) (P : Nat -> Bool) (hP : ∀ b, b + 1 < many -> (bits / 2 ^ b % 2 = 0 ↔ P b = false)) : ∀ (f b fr : Nat) (r : List (Nat × Nat)), b + f = many -> fr <= b ->
 (match r with | [] => f = 0 /\ fr = b | q :: t => q.1 = fr /\ b < fr + q.2 /\ fr + q.2 <= many /\ Chain (fr + q.2) many t) -> (∀ x, b <= x -> x + 1 < many -> (P x = true ↔ ∃ q ∈ r, q.1 + q.2 = x + 1)) -> segsOf bits many f b fr = r
 | 0, b, fr, r, h, hf, hc, _ => by
  cases r with
  | nil => rfl
  | cons q t => simp only at hc; omega
 | f + 1, b, fr, r, h, hf, hc, hp => by
  cases r with
  | nil => simp only at hc; omega
  | cons q t =>
   obtain ⟨h1, h2, h3, h4⟩ := hc
   have ends : ∀ x ∈ t, fr + q.2 < x.1 + x.2 := fun x hx => by have := chain_get h4 x hx; omega
   rw [segsOf]
   by_cases hb : fr + q.2 = b + 1
   ·have hno : ¬ (b + 1 < many /\ bits / 2 ^ b % 2 = 0) := by
     rintro ⟨ha, hz⟩
     have := (hP b ha).1 hz
     have hq := (hp b (Nat.le_refl _) ha).2 ⟨q, List.mem_cons_self .., by omega⟩
     rw [hq] at this; cases this
    rw [if_neg hno]
    have hrest := segs_of many bits l P hP f (b + 1) (b + 1) t (by omega) (Nat.le_refl _) (by
     rw [hb] at h4
     cases t with
     | nil => simp only [Chain] at h4; exact ⟨by omega, rfl⟩
     | cons s u => exact ⟨h4.1, by have := h4.2.1; omega, h4.2.2.1, h4.2.2.2⟩) (fun x hx hx' => by
     rw [hp x (by omega) hx']
     constructor
     ·rintro ⟨s, hs, e⟩
      rcases List.mem_cons.1 hs with rfl | hs
      ·omega
      ·exact ⟨s, hs, e⟩
     ·rintro ⟨s, hs, e⟩; exact ⟨s, List.mem_cons_of_mem _ hs, e⟩)
    rw [hrest]
    obtain ⟨q1, q2⟩ := q
    simp only at h1 hb ⊢
    rw [h1, show b + 1 - fr = q2 by omega]
   ·have hyes : b + 1 < many /\ bits / 2 ^ b % 2 = 0 := by
     refine ⟨by omega, (hP b (by omega)).2 ?_⟩
     rw [<- Bool.not_eq_true, hp b (Nat.le_refl _) (by omega)]
     rintro ⟨s, hs, e⟩
     rcases List.mem_cons.1 hs with rfl | hs
     ·omega
     ·have := ends s hs; omega
    rw [if_pos hyes]
    exact segs_of many bits l P hP f (b + 1) fr (q :: t) (by omega) (by omega) ⟨h1, by omega, h3, h4⟩ fun x hx => hp x (by omega)
theorem least_page {m : List (List (List Nt))} {w : Int} {p : List (List Int)} (h : encP m w = (p, 0)) (h99 : p.length <= 99) : leastOf m w (2 ^ (manyP m - 1)) = p.length := by
 obtain ⟨hm, _, _, l, hl, hp, hc, hb, hf⟩ := enc_page h
 have hpos := hm.pos
 have hpl := page_len hm hc (Nat.le_refl _)
 rw [<- hp] at hpl
 have fitw : ∀ q : Nat × Nat, ((lineP m q.1 q.2).ls.all fun r => decide ((r.length : Int) <= w)) = true -> 1 <= q.2 -> q.1 + q.2 <= manyP m -> (wideP (lineP m q.1 q.2).ls 0 : Int) <= w := by
  intro q hq h1 h2
  have hne : (lineP m q.1 q.2).ls ≠ [] := by
   intro e
   have := line_len hm h2
   rw [e] at this
   exact m_ne hm (List.length_eq_zero_iff.1 this.symm)
  obtain ⟨c, hc, e⟩ := wide_get hne
  have := List.all_eq_true.1 hq c hc
  simp only [decide_eq_true_eq] at this
  omega
 have ge : ∀ k, p.length <= leastOf m w k := by
  intro k
  induction k with
  | zero => exact h99
  | succ k ih =>
   rw [leastOf]
   split
   ·rename_i hfit
    rw [div_segs hm w k (manyP m) 0 0 0 true (by omega) (Nat.le_refl _)] at hfit ⊢
    simp only [Bool.true_and, List.all_eq_true] at hfit
    have hch := segs_chain k (manyP m) (manyP m) 0 0 (by omega) (Nat.le_refl _) (by omega)
    have := cuts_least hm hb hch fun q hq => by
     have hg := chain_get hch q hq
     exact fitw q (List.all_eq_true.2 (hfit q hq)) hg.2.1 hg.2.2
    rw [<- hl] at this
    have := Nat.mul_le_mul (Nat.le_refl m.length) this
    simp only
    omega
   ·exact ih
 obtain ⟨bits, hbits, hbb⟩ := bits_any (fun b => decide (∃ q ∈ l, q.1 + q.2 = b + 1)) (manyP m - 1)
 have hs : segsOf bits (manyP m) (manyP m) 0 0 = l := by
  refine segs_of (manyP m) bits l _ (fun b hb => hbb b (by omega)) (manyP m) 0 0 l (by omega) (Nat.le_refl _) ?_ fun x _ _ => by simp
  cases l with
  | nil => simp only [Chain] at hc; omega
  | cons q t => exact ⟨hc.1, by have := hc.2.1; omega, hc.2.2.1, hc.2.2.2⟩
 have hd : divGo m w bits (manyP m) (manyP m) 0 0 0 true = (p.length, true) := by
  rw [div_segs hm w bits (manyP m) 0 0 0 true (by omega) (Nat.le_refl _), hs, hpl, Nat.zero_add, Bool.true_and]
  congr 1
  rw [List.all_eq_true]
  intro q hq
  rw [List.all_eq_true]
  intro r hr
  have h1 := hf q hq
  have h2 := (wide_mono (lineP m q.1 q.2).ls 0).2 r hr
  simp only [decide_eq_true_eq]; omega
 have le : ∀ k, bits < k -> leastOf m w k <= p.length := by
  intro k
  induction k with
  | zero => intro h; omega
  | succ k ih =>
   intro hk
   rw [leastOf]
   by_cases e : k = bits
   ·subst e; rw [hd, if_pos rfl]; exact Nat.min_le_right _ _
   ·have := ih (by omega)
    split
    ·have := Nat.min_le_left (leastOf m w k) (divGo m w k (manyP m) (manyP m) 0 0 0 true).1; omega
    ·exact this
 have := ge (2 ^ (manyP m - 1))
 have := le (2 ^ (manyP m - 1)) hbits
 omega
end Go.Proofs.YtnncijjkbonokaaDoor
namespace Go.Proofs.YtnncijjkbonokaaDoor
open Dak
def c8 : CCode :=
 (.seq (.region [oo 4 (.mov (.const (.bool false)))])
 (.seq (.region [vv 21 0, oo 22 (.call (.func 10) [(T 21)]), oo 5 (.alloc 25 (.agg [(.val (.slice none 0 0))])), nn (.store 1 (T 5) (T 22))])
 (.seq (.region [vv 23 1, oo 24 (.call (.func 12) [(T 23), (kk 39)]), oo 25 (.ibin .add (kk 1) (T 24)), vv 6 25])
 (.seq (.region [oo 27 (.load true 1 (T 5)), vv 28 6, oo 29 (.call (.func 17) [(T 27), (T 28)]), vv 26 29, oo 30 (.extract (T 26) 0), oo 31 (.extract (T 26) 1), vv 7 30, vv 8 31])
 (.seq (.region [oo 33 (.load true 1 (T 5)), vv 34 6, oo 35 (.ibin .add (T 34) (kk 1)), oo 36 (.call (.func 17) [(T 33), (T 35)]), vv 32 36, oo 37 (.extract (T 32) 0), oo 38 (.extract (T 32) 1), vv 9 37, vv 10 38])
 (.seq (.seq (.region [vv 39 8, oo 40 (.ibin .neq (T 39) (kk 0))])
 (.cond (T 40)
 (.seq (.region [vv 41 8, oo 42 (.ibin .eql (T 41) (kk 14)), vv 43 42, vt 44 43 10, gt 45 43 (.ibin .eql (T 44) (kk 0)), vt 46 43 45, vf 47 46 10, gf 48 46 (.ibin .eql (T 47) (kk 14)), gt 49 43 (.pick (T 46) (.const (.bool true)) (T 48)), oo 50 (.pick (T 43) (T 49) (.const (.bool false))), vv 51 50, gt 52 51 (.call (.func 16) []), oo 53 (.pick (T 51) (T 52) (.const (.bool false))), vv 4 53])
 .ret)
 .skip))
 (.seq (.seq (.region [vv 54 10, oo 55 (.ibin .neq (T 54) (kk 0)), vv 56 55, vf 57 56 9, gf 58 56 (.len (T 57)), vf 59 56 7, gf 60 56 (.len (T 59)), gf 61 56 (.ibin .gtr (T 58) (T 60)), oo 62 (.pick (T 56) (.const (.bool true)) (T 61)), vv 63 62, vf 64 63 7, gf 65 63 (.len (T 64)), gf 66 63 (.ibin .eql (T 65) (kk 0)), oo 67 (.pick (T 63) (.const (.bool true)) (T 66)), vv 68 67, vf 69 68 7, gf 70 68 (.len (T 69)), gf 71 68 (.ibin .leq (T 70) (kk 25)), vf 72 68 71, vt 73 72 7, gt 74 72 (.call (.func 26) [(T 73)]), gt 75 72 (.lnot (T 74)), gf 76 68 (.pick (T 72) (T 75) (.const (.bool false))), oo 77 (.pick (T 68) (.const (.bool true)) (T 76))])
 (.cond (T 77)
 (.seq (.region [oo 4 (.mov (.const (.bool false)))])
 .ret)
 .skip))
 (.seq (.seq (.region [oo 11 (.mov (kk 0))])
 (.block 0 (.loop
 (.seq (.seq (.region [vv 78 11, vv 79 7, oo 80 (.len (T 79)), oo 81 (.ibin .lss (T 78) (T 80))])
 (.cond (T 81)
 .skip
 (.exit 0)))
 (.seq (.block 1 (.seq (.region [vv 84 7, vv 85 11, oo 86 (.idxS 1 (T 84) (T 85)), oo 87 (.load false 1 (T 86)), oo 88 (.len (T 87)), vv 89 6, oo 90 (.ibin .gtr (T 88) (T 89))])
 (.cond (T 90)
 (.seq (.region [oo 4 (.mov (.const (.bool false)))])
 .ret)
 .skip)))
 (.region [vv 82 11, oo 83 (.ibin .add (T 82) (kk 1)), vv 11 83]))))))
 (.seq (.region [oo 91 (.fieldAddr 0 (T 5)), oo 92 (.load false 1 (T 91)), oo 93 (.idxS 1 (T 92) (kk 0)), oo 94 (.load false 1 (T 93)), oo 95 (.len (T 94)), vv 12 95])
 (.seq (.region [oo 13 (.mov (kk 99))])
 (.seq (.seq (.region [oo 14 (.mov (kk 0))])
 (.block 2 (.loop
 (.seq (.seq (.region [vv 96 14, vv 97 12, oo 98 (.ibin .sub (T 97) (kk 1)), oo 99 (.conv .u64 (T 98)), oo 100 (.ibin .shl (kk 1) (T 99)), oo 101 (.ibin .lss (T 96) (T 100))])
 (.cond (T 101)
 .skip
 (.exit 2)))
 (.seq (.block 3 (.seq (.region [oo 15 (.mov (kk 0))])
 (.seq (.region [oo 16 (.mov (kk 0))])
 (.seq (.region [oo 17 (.mov (.const (.bool true)))])
 (.seq (.seq (.region [oo 18 (.mov (kk 0))])
 (.block 4 (.loop
 (.seq (.seq (.region [vv 104 18, vv 105 12, oo 106 (.ibin .lss (T 104) (T 105))])
 (.cond (T 106)
 .skip
 (.exit 4)))
 (.seq (.block 5 (.seq (.seq (.region [vv 109 18, oo 110 (.ibin .add (T 109) (kk 1)), vv 111 12, oo 112 (.ibin .lss (T 110) (T 111)), vv 113 112, vt 114 113 14, vt 115 113 18, gt 116 113 (.conv .u64 (T 115)), gt 117 113 (.ibin .shr (T 114) (T 116)), gt 118 113 (.ibin .rem (T 117) (kk 2)), gt 119 113 (.ibin .eql (T 118) (kk 0)), oo 120 (.pick (T 113) (T 119) (.const (.bool false)))])
 (.cond (T 120)
 (.exit 5)
 .skip))
 (.seq (.region [oo 121 (.load true 1 (T 5)), vv 122 15, vv 123 18, oo 124 (.ibin .add (T 123) (kk 1)), oo 125 (.call (.func 27) [(T 121), (T 122), (T 124)]), vv 19 125])
 (.seq (.seq (.region [oo 20 (.mov (kk 0))])
 (.block 6 (.loop
 (.seq (.seq (.region [vv 126 20, vv 127 19, oo 128 (.len (T 127)), oo 129 (.ibin .lss (T 126) (T 128))])
 (.cond (T 129)
 .skip
 (.exit 6)))
 (.seq (.block 7 (.region [vv 132 17, vv 133 132, vt 134 133 19, vt 135 133 20, gt 136 133 (.idxS 1 (T 134) (T 135)), gt 137 133 (.load false 1 (T 136)), gt 138 133 (.len (T 137)), vt 139 133 6, gt 140 133 (.ibin .leq (T 138) (T 139)), oo 141 (.pick (T 133) (T 140) (.const (.bool false))), vv 17 141]))
 (.region [vv 130 20, oo 131 (.ibin .add (T 130) (kk 1)), vv 20 131]))))))
 (.seq (.region [vv 142 16, vv 143 19, oo 144 (.len (T 143)), oo 145 (.ibin .add (T 142) (T 144)), vv 16 145])
 (.region [vv 146 18, oo 147 (.ibin .add (T 146) (kk 1)), vv 15 147]))))))
 (.region [vv 107 18, oo 108 (.ibin .add (T 107) (kk 1)), vv 18 108]))))))
 (.seq (.region [vv 148 17])
 (.cond (T 148)
 (.region [vv 149 13, vv 150 16, oo 151 (.imin (T 149) (T 150)), vv 13 151])
 .skip)))))))
 (.region [vv 102 14, oo 103 (.ibin .add (T 102) (kk 1)), vv 14 103]))))))
 (.seq (.region [vv 152 7, oo 153 (.len (T 152)), vv 154 13, oo 155 (.ibin .eql (T 153) (T 154)), vv 156 155, gt 157 156 (.call (.func 16) []), oo 158 (.pick (T 156) (T 157) (.const (.bool false))), vv 4 158])
 .ret))))))))))))
theorem f8 : fnC Tryd.prog 8 = some (c8, 159, [(.tmp 4)]) := by kernel_rfl
end Go.Proofs.YtnncijjkbonokaaDoor
namespace Go.Proofs.YtnncijjkbonokaaDoor
open Go.RowKit Dak
abbrev lnB : CCode := match c8 with | .seq _ (.seq _ (.seq _ (.seq _ (.seq _ (.seq _ (.seq _ (.seq _ (.seq _ (.seq _ (.seq (.seq _ (.block _ (.loop b))) _)))))))))) => b | _ => .skip
abbrev lnD : CCode := match lnB with | .seq _ (.seq (.block _ (.seq _ (.seq _ (.seq _ (.seq (.seq _ (.block _ (.loop b))) _))))) _) => b | _ => .skip
abbrev lnE (p : List (List Int)) (w : Int) (many bits least fr lines : Nat) (fits : Bool) (b : Nat) : List (Nat × AV) := [(5, .ref 0 1 0 0), (6, vi w), (7, vpage p), (12, vi many), (13, vi least), (14, vi bits), (15, vi fr), (16, vi lines), (17, vb fits), (18, vi b)]
abbrev fitR (w : Int) (X : List (List Int)) : Bool := X.all fun r => decide ((r.length : Int) <= w)
theorem fitR_take {w : Int} {X : List (List Int)} {k : Nat} {r : List Int} (h : X[k]? = some r) : fitR w (X.take (k + 1)) = (fitR w (X.take k) && decide ((r.length : Int) <= w)) := by
 unfold fitR
 rw [List.take_add_one, h]; simp
set_option maxRecDepth 100000 in
theorem ln_rest (F0 : FD) (w0 : World) (m : List (List (List Nt))) (hm : Vm m) (p : List (List Int)) (w : Int) (bits least fr lines b : Nat) (fits : Bool) (hb : b < manyP m) (h4 : manyP m <= 4) (hfr : fr <= b) (hln : lines <= 2 * b)
 {Q : Exit -> Est -> Prop} (hQ : ∀ s, WkE 159 s ⟨lnE p w (manyP m) bits least (b + 1) (lines + (lineP m fr (b + 1 - fr)).ls.length) (fits && fitR w (lineP m fr (b + 1 - fr)).ls) (b + 1), [.arr 1 1 25 [vmel m]]⟩ -> Q .normal s)
 (hno : ¬ (b + 1 < manyP m /\ bits / 2 ^ b % 2 = 0)) (h8 : bits < 8) : CwpE Tryd.prog F0 w0 159 lnD Q ⟨lnE p w (manyP m) bits least fr lines fits b, [.arr 1 1 25 [vmel m]]⟩ := by
 obtain ⟨many, hmany⟩ : ∃ k, manyP m = k := ⟨_, rfl⟩
 have b1 : (b : Int) < (many : Int) := by omega
 have bw : IntKind.i64.wrap ((b : Int) + 1) = ((b + 1 : Nat) : Int) := by rw [wrap_id (by omega) (by omega)]; omega
 have hu : IntKind.u64.wrap (b : Int) = (b : Int) := by rw [IntKind.wrap_u64]; omega
 have hn : ¬ (b : Int) < 0 := by omega
 have hmin : min b 64 = b := by omega
 obtain ⟨q, hq⟩ : ∃ q, bits / 2 ^ b = q := ⟨_, rfl⟩
 have hf : (bits : Int).fdiv (2 ^ b) = (q : Int) := by
  rw [Int.fdiv_eq_ediv_of_nonneg _ (Int.pow_nonneg (by decide)), <- hq]
  norm_cast
 have hL := line_len hm (fr := fr) (k := b + 1 - fr) (by omega)
 have hh := hm.hands
 obtain ⟨X, hX⟩ : ∃ X, (lineP m fr (b + 1 - fr)).ls = X := ⟨_, rfl⟩
 rw [hX] at hQ hL
 have lw : IntKind.i64.wrap ((lines : Int) + (X.length : Int)) = ((lines + X.length : Nat) : Int) := by rw [wrap_id (by omega) (by omega)]; omega
 rw [hmany] at hQ hb hno ⊢
 have hq2 : b + 1 < many -> ¬ (q : Int).tmod 2 = 0 := by
  intro h e
  refine hno ⟨h, ?_⟩
  rw [hq]
  have := Int.tmod_eq_emod_of_nonneg (a := (q : Int)) (b := 2) (by omega)
  omega
 unfold lnD lnB c8
 refine CwpE.cut (st := ⟨lnE p w many bits least fr lines fits b, [.arr 1 1 25 [vmel m]]⟩) ?_ ?_
 ·simp only [go_sem, ↓reduceIte, Nat.reduceLT, Nat.reduceEqDiff, b1]
  exact ⟨_, WkE.keep (by simp only [go_sem, ↓reduceIte, Nat.reduceEqDiff]), rfl⟩
 refine CwpE.seqJ (fun s => s = ⟨[(5, .ref 0 1 0 0), (6, vi w), (7, vpage p), (12, vi many), (13, vi least), (14, vi bits), (15, vi (b + 1 : Nat)), (16, vi (lines + X.length : Nat)), (17, vb (fits && fitR w X)), (18, vi b)], [.arr 1 1 25 [vmel m]]⟩) ?_ ?_
 rotate_left
 ·rintro _ rfl
  refine CwpE.vc ?_
  simp only [go_sem, ↓reduceIte, Nat.reduceLT, Nat.reduceEqDiff, bw]
  exact hQ _ (WkE.keep (by simp only [go_sem, ↓reduceIte, Nat.reduceEqDiff]))
 refine CwpE.block ?_
 refine CwpE.cut (st := ⟨lnE p w many bits least fr lines fits b, [.arr 1 1 25 [vmel m]]⟩) ?_ ?_
 ·by_cases b2 : b + 1 < many
  ·have b2' : ((b + 1 : Nat) : Int) < (many : Int) := by omega
   simp only [go_sem, ↓reduceIte, Nat.reduceLT, Nat.reduceEqDiff, Int.reduceEq, bw, b2', hu, hn, Int.toNat_natCast, hmin, hf, hq2 b2, decide_false]
   exact ⟨_, WkE.keep (by simp only [go_sem, ↓reduceIte, Nat.reduceEqDiff]), rfl⟩
  ·have b2' : ¬ ((b + 1 : Nat) : Int) < (many : Int) := by omega
   simp only [go_sem, ↓reduceIte, Nat.reduceLT, Nat.reduceEqDiff, bw, b2']
   exact ⟨_, WkE.keep (by simp only [go_sem, ↓reduceIte, Nat.reduceEqDiff]), rfl⟩
 refine CwpE.cut (st := ⟨(19, vpage X) :: lnE p w many bits least fr lines fits b, [.arr 1 1 25 [vmel m]]⟩) ?_ ?_
 ·simp only [go_sem, ↓reduceIte, Nat.reduceLT, Nat.reduceEqDiff, bw]
  refine callT (Line_s m fr (b + 1) hm (by omega) (by omega)) rfl ?_
  rw [hX]
  simp only [go_sem, ↓reduceIte, Nat.reduceLT]
  exact ⟨_, WkE.keep (by simp only [go_sem, ↓reduceIte, Nat.reduceEqDiff]), rfl⟩
 refine CwpE.seqJ (fun s => s = ⟨(19, vpage X) :: lnE p w many bits least fr lines (fits && fitR w X) b, [.arr 1 1 25 [vmel m]]⟩) ?_ ?_
 rotate_left
 ·rintro _ rfl
  refine CwpE.vc ?_
  simp only [go_sem, ↓reduceIte, Nat.reduceLT, Nat.reduceEqDiff, bw, lw, List.length_map]
  exact ⟨_, WkE.keep (by simp only [go_sem, ↓reduceIte, Nat.reduceEqDiff]), rfl⟩
 refine CwpE.cut (st := ⟨(20, vi (0 : Nat)) :: (19, vpage X) :: lnE p w many bits least fr lines fits b, [.arr 1 1 25 [vmel m]]⟩) ?_ ?_
 ·simp only [go_sem, ↓reduceIte, Nat.reduceLT]
  exact ⟨_, WkE.keep (by simp only [go_sem, ↓reduceIte, Nat.reduceEqDiff]; rfl), rfl⟩
 refine CwpE.block ?_
 refine loopX 6 (fun z s => ∃ k : Nat, k + z = X.length /\ s = ⟨(20, vi k) :: (19, vpage X) :: lnE p w many bits least fr lines (fits && fitR w (X.take k)) b, [.arr 1 1 25 [vmel m]]⟩)
  (fun s => s = ⟨(19, vpage X) :: lnE p w many bits least fr lines (fits && fitR w X) b, [.arr 1 1 25 [vmel m]]⟩) X.length _ (.refl _ _) ⟨0, by omega, by simp⟩ ?_ ?_
 rotate_left
 ·rintro s rfl
  simp only [inBlockE, if_true]
  exact ⟨_, .refl _ _, rfl⟩
 rintro z s ⟨k, hk, rfl⟩
 cases z with
 | zero =>
  have k1 : ¬ (k : Int) < (X.length : Int) := by omega
  have hk' : X.take k = X := List.take_of_length_le (by omega)
  rw [hk']
  simp only [go_sem, ↓reduceIte, Nat.reduceLT, Nat.reduceEqDiff, List.length_map, k1]
  exact ⟨_, WkE.keep (by simp only [go_sem, ↓reduceIte, Nat.reduceEqDiff]), rfl⟩
 | succ z =>
  have k1 : (k : Int) < (X.length : Int) := by omega
  have k0 : (0 : Int) <= (k : Int) := by omega
  have kw : IntKind.i64.wrap ((k : Int) + 1) = ((k + 1 : Nat) : Int) := by rw [wrap_id (by omega) (by omega)]; omega
  obtain ⟨r, gr⟩ : ∃ r, X[k]? = some r := ⟨_, List.getElem?_eq_getElem (by omega)⟩
  have et := fitR_take (w := w) gr
  obtain ⟨F, hF⟩ : ∃ F, (fits && fitR w (X.take k)) = F := ⟨_, rfl⟩
  have e2 : (fits && fitR w (X.take (k + 1))) = (F && decide ((r.length : Int) <= w)) := by rw [et, <- Bool.and_assoc, hF]
  rw [hF]
  cases F with
  | false =>
   simp only [go_sem, ↓reduceIte, Nat.reduceLT, Nat.reduceEqDiff, List.length_map, k1, kw]
   exact ⟨z, ⟨(20, vi (k + 1 : Nat)) :: (19, vpage X) :: lnE p w many bits least fr lines false b, [.arr 1 1 25 [vmel m]]⟩, by omega, WkE.keep (by simp only [go_sem, ↓reduceIte, Nat.reduceEqDiff]), k + 1, by omega, by rw [e2]; rfl⟩
  | true =>
   simp only [go_sem, ↓reduceIte, Nat.reduceLT, Nat.reduceEqDiff, List.length_map, List.getElem?_map, gr, Option.map_some, k0, k1, kw]
   exact ⟨z, ⟨(20, vi (k + 1 : Nat)) :: (19, vpage X) :: lnE p w many bits least fr lines (decide ((r.length : Int) <= w)) b, [.arr 1 1 25 [vmel m]]⟩, by omega, WkE.keep (by simp only [go_sem, ↓reduceIte, Nat.reduceEqDiff]), k + 1, by omega, by rw [e2]; rfl⟩
set_option maxRecDepth 100000 in
theorem ln_skip (F0 : FD) (w0 : World) (m : List (List (List Nt))) (p : List (List Int)) (w : Int) (many bits least fr lines b : Nat) (fits : Bool) (hb : b + 1 < many) (h4 : many <= 4)
 {Q : Exit -> Est -> Prop} (hQ : ∀ s, WkE 159 s ⟨lnE p w many bits least fr lines fits (b + 1), [.arr 1 1 25 [vmel m]]⟩ -> Q .normal s)
 (hyes : bits / 2 ^ b % 2 = 0) (h8 : bits < 8) : CwpE Tryd.prog F0 w0 159 lnD Q ⟨lnE p w many bits least fr lines fits b, [.arr 1 1 25 [vmel m]]⟩ := by
 have b1 : (b : Int) < (many : Int) := by omega
 have b2' : ((b + 1 : Nat) : Int) < (many : Int) := by omega
 have bw : IntKind.i64.wrap ((b : Int) + 1) = ((b + 1 : Nat) : Int) := by rw [wrap_id (by omega) (by omega)]; omega
 have hu : IntKind.u64.wrap (b : Int) = (b : Int) := by rw [IntKind.wrap_u64]; omega
 have hn : ¬ (b : Int) < 0 := by omega
 have hmin : min b 64 = b := by omega
 obtain ⟨q, hq⟩ : ∃ q, bits / 2 ^ b = q := ⟨_, rfl⟩
 have hf : (bits : Int).fdiv (2 ^ b) = (q : Int) := by
  rw [Int.fdiv_eq_ediv_of_nonneg _ (Int.pow_nonneg (by decide)), <- hq]
  norm_cast
 have hq2 : (q : Int).tmod 2 = 0 := by
  have := Int.tmod_eq_emod_of_nonneg (a := (q : Int)) (b := 2) (by omega)
  rw [hq] at hyes
  omega
 unfold lnD lnB c8
 refine CwpE.vc ?_
 simp only [go_sem, ↓reduceIte, Nat.reduceLT, Nat.reduceEqDiff, Int.reduceEq, b1, bw, b2', hu, hn, Int.toNat_natCast, hmin, hf, hq2, decide_true]
 exact hQ _ (WkE.keep (by simp only [go_sem, ↓reduceIte, Nat.reduceEqDiff]))
theorem melP_many (l : List Int) : manyP (melP l) <= 4 := by
 have hv := melP_vm l
 have h2 := atL_bd (l := l) (i := 1) (most := 4) (by omega)
 obtain ⟨h, hh⟩ := List.exists_mem_of_ne_nil _ (m_ne hv)
 rw [<- hv.bars h hh]
 obtain ⟨k, _, rfl⟩ := List.mem_map.1 hh
 simp [handP]; omega
theorem head_of {m : List (List (List Nt))} (hm : Vm m) : ∃ h, m[0]? = some h /\ h.length = manyP m := by
 cases m with
 | nil => exact absurd rfl (m_ne hm)
 | cons h t => exact ⟨h, rfl, rfl⟩
set_option maxRecDepth 100000 in
theorem ln_bits (F0 : FD) (w0 : World) (m : List (List (List Nt))) (hm : Vm m) (p : List (List Int)) (w : Int) (bits least : Nat) (h4 : manyP m <= 4) (h8 : bits < 8) {Q : Exit -> Est -> Prop}
 (hQ : Q .normal ⟨[(5, .ref 0 1 0 0), (6, vi w), (7, vpage p), (12, vi (manyP m)), (13, vi least), (14, vi bits), (16, vi (divGo m w bits (manyP m) (manyP m) 0 0 0 true).1), (17, vb (divGo m w bits (manyP m) (manyP m) 0 0 0 true).2)], [.arr 1 1 25 [vmel m]]⟩) :
 CwpE Tryd.prog F0 w0 159 (.block 4 (.loop lnD)) (fun e s => ∃ s', WkE 159 s s' /\ Q e s') ⟨lnE p w (manyP m) bits least 0 0 true 0, [.arr 1 1 25 [vmel m]]⟩ := by
 obtain ⟨R, hR⟩ : ∃ R, divGo m w bits (manyP m) (manyP m) 0 0 0 true = R := ⟨_, rfl⟩
 rw [hR] at hQ
 refine CwpE.block ?_
 refine loopXC 4 (fun z s => ∃ (b fr lines : Nat) (fits : Bool), b + z = manyP m /\ fr <= b /\ lines <= 2 * b /\ divGo m w bits (manyP m) z b fr lines fits = R /\ s = ⟨lnE p w (manyP m) bits least fr lines fits b, [.arr 1 1 25 [vmel m]]⟩)
  (fun s => s = ⟨[(5, .ref 0 1 0 0), (6, vi w), (7, vpage p), (12, vi (manyP m)), (13, vi least), (14, vi bits), (16, vi R.1), (17, vb R.2)], [.arr 1 1 25 [vmel m]]⟩) (manyP m) _ (.refl _ _) ⟨0, 0, 0, true, by omega, Nat.le_refl _, Nat.le_refl _, hR, rfl⟩ ?_ ?_
 rotate_left
 ·rintro s rfl
  simp only [inBlockE, if_true]
  exact ⟨_, .refl _ _, hQ⟩
 rintro z s ⟨b, fr, lines, fits, hz, hfr, hln, hdiv, rfl⟩
 cases z with
 | zero =>
  have k1 : ¬ (b : Int) < (manyP m : Int) := by omega
  rw [divGo] at hdiv
  subst hdiv
  obtain ⟨many, hmany⟩ : ∃ k, manyP m = k := ⟨_, rfl⟩
  rw [hmany] at k1 ⊢
  unfold lnD lnB c8
  refine CwpE.vc ?_
  simp only [go_sem, ↓reduceIte, Nat.reduceLT, Nat.reduceEqDiff, k1]
  exact ⟨_, WkE.keep (by simp only [go_sem, ↓reduceIte, Nat.reduceEqDiff]), rfl⟩
 | succ z =>
  rw [divGo] at hdiv
  by_cases hc : b + 1 < manyP m /\ bits / 2 ^ b % 2 = 0
  ·rw [if_pos hc] at hdiv
   exact ln_skip F0 w0 m p w (manyP m) bits least fr lines b fits hc.1 h4 (fun s hs => ⟨z, _, by omega, hs, b + 1, fr, lines, fits, by omega, by omega, by omega, hdiv, rfl⟩) hc.2 h8
  ·rw [if_neg hc] at hdiv
   have hL := line_len hm (fr := fr) (k := b + 1 - fr) (by omega)
   have hh := hm.hands
   exact ln_rest F0 w0 m hm p w bits least fr lines b fits (by omega) h4 hfr hln (fun s hs => ⟨z, _, by omega, hs, b + 1, b + 1, _, _, by omega, Nat.le_refl _, by omega, hdiv, rfl⟩) hc h8
theorem leastOf_le (m : List (List (List Nt))) (w : Int) : ∀ k, leastOf m w k <= 99
 | 0 => Nat.le_refl _
 | k + 1 => by
  have := leastOf_le m w k
  rw [leastOf]; split <;> omega
theorem div_le {m : List (List (List Nt))} (hm : Vm m) (w : Int) (bits : Nat) : (divGo m w bits (manyP m) (manyP m) 0 0 0 true).1 <= 100 := by
 have hp := hm.pos
 rw [div_segs hm w bits (manyP m) 0 0 0 true (by omega) (Nat.le_refl _)]
 have := chain_le (segs_chain bits (manyP m) (manyP m) 0 0 (by omega) (Nat.le_refl _) (by omega))
 simp only
 rcases hm.hands with h | h <;> rw [h] <;> omega
set_option maxRecDepth 100000 in
theorem ln_all (F0 : FD) (w0 : World) (m : List (List (List Nt))) (hm : Vm m) (p : List (List Int)) (w : Int) (h4 : manyP m <= 4) {Q : Exit -> Est -> Prop}
 (hQ : Q .normal ⟨[(7, vpage p), (13, vi (leastOf m w (2 ^ (manyP m - 1)) : Nat))], []⟩) :
 CwpE Tryd.prog F0 w0 159 (.block 2 (.loop lnB)) (fun e s => ∃ s', WkE 159 s s' /\ Q e s') ⟨[(5, .ref 0 1 0 0), (6, vi w), (7, vpage p), (12, vi (manyP m)), (13, vi (99 : Nat)), (14, vi (0 : Nat))], [.arr 1 1 25 [vmel m]]⟩ := by
 have hp := hm.pos
 obtain ⟨top, htop⟩ : ∃ t, 2 ^ (manyP m - 1) = t := ⟨_, rfl⟩
 have ht8 : top <= 8 := by
  rw [<- htop]
  exact Nat.le_trans (Nat.pow_le_pow_right (by decide) (show manyP m - 1 <= 3 by omega)) (by decide)
 rw [htop] at hQ
 have w1 : IntKind.i64.wrap ((manyP m : Int) - 1) = ((manyP m - 1 : Nat) : Int) := by rw [wrap_id (by omega) (by omega)]; omega
 have w2 : IntKind.u64.wrap ((manyP m - 1 : Nat) : Int) = ((manyP m - 1 : Nat) : Int) := by rw [IntKind.wrap_u64]; omega
 have w3 : ¬ ((manyP m - 1 : Nat) : Int) < 0 := by omega
 have w4 : min (manyP m - 1) 64 = manyP m - 1 := by omega
 have w5 : IntKind.i64.wrap (1 * 2 ^ (manyP m - 1)) = (top : Int) := by
  rw [<- htop, Int.one_mul, wrap_id]
  ·norm_cast
  ·have : (0 : Int) <= 2 ^ (manyP m - 1) := Int.pow_nonneg (by decide)
   omega
  ·have : ((2 ^ (manyP m - 1) : Nat) : Int) = 2 ^ (manyP m - 1) := by norm_cast
   omega
 refine CwpE.block ?_
 refine loopXC 2 (fun z s => ∃ k : Nat, k + z = top /\ s = ⟨[(5, .ref 0 1 0 0), (6, vi w), (7, vpage p), (12, vi (manyP m)), (13, vi (leastOf m w k : Nat)), (14, vi k)], [.arr 1 1 25 [vmel m]]⟩)
  (fun s => s = ⟨[(7, vpage p), (13, vi (leastOf m w top : Nat))], []⟩) top _ (.refl _ _) ⟨0, by omega, rfl⟩ ?_ ?_
 rotate_left
 ·rintro s rfl
  simp only [inBlockE, if_true]
  exact ⟨_, .refl _ _, hQ⟩
 rintro z s ⟨k, hk, rfl⟩
 cases z with
 | zero =>
  obtain rfl : k = top := by omega
  have k1 : ¬ (k : Int) < (k : Int) := by omega
  unfold lnB c8
  refine CwpE.vc ?_
  simp only [go_sem, ↓reduceIte, Nat.reduceLT, Nat.reduceEqDiff, w1, w2, w3, w4, w5, Int.toNat_natCast, k1]
  exact ⟨_, WkE.round (by simp only [go_sem, ↓reduceIte, Nat.reduceEqDiff]) rfl rfl rfl, rfl⟩
 | succ z =>
  have k1 : (k : Int) < (top : Int) := by omega
  have kw : IntKind.i64.wrap ((k : Int) + 1) = ((k + 1 : Nat) : Int) := by rw [wrap_id (by omega) (by omega)]; omega
  have hdl := div_le hm w k
  have hll := leastOf_le m w k
  have hst : leastOf m w (k + 1) = if (divGo m w k (manyP m) (manyP m) 0 0 0 true).2 = true then min (leastOf m w k) (divGo m w k (manyP m) (manyP m) 0 0 0 true).1 else leastOf m w k := rfl
  obtain ⟨L, hL⟩ : ∃ L, leastOf m w k = L := ⟨_, rfl⟩
  have key := ln_bits F0 w0 m hm p w k L h4 (by omega) (Q := fun e s => e = .normal /\ s = ⟨[(5, .ref 0 1 0 0), (6, vi w), (7, vpage p), (12, vi (manyP m)), (13, vi L), (14, vi k), (16, vi (divGo m w k (manyP m) (manyP m) 0 0 0 true).1), (17, vb (divGo m w k (manyP m) (manyP m) 0 0 0 true).2)], [.arr 1 1 25 [vmel m]]⟩) ⟨rfl, rfl⟩
  obtain ⟨R, hR⟩ : ∃ R, divGo m w k (manyP m) (manyP m) 0 0 0 true = R := ⟨_, rfl⟩
  rw [hR] at hdl hst key
  rw [hL] at hll hst ⊢
  unfold lnB c8
  refine CwpE.cut (st := ⟨[(5, .ref 0 1 0 0), (6, vi w), (7, vpage p), (12, vi (manyP m)), (13, vi L), (14, vi k)], [.arr 1 1 25 [vmel m]]⟩) ?_ ?_
  ·simp only [go_sem, ↓reduceIte, Nat.reduceLT, Nat.reduceEqDiff, w1, w2, w3, w4, w5, Int.toNat_natCast, k1]
   exact ⟨_, WkE.keep (by simp only [go_sem, ↓reduceIte, Nat.reduceEqDiff]), rfl⟩
  refine CwpE.seqJ (fun s => s = ⟨[(5, .ref 0 1 0 0), (6, vi w), (7, vpage p), (12, vi (manyP m)), (13, vi (leastOf m w (k + 1) : Nat)), (14, vi k)], [.arr 1 1 25 [vmel m]]⟩) ?_ ?_
  rotate_left
  ·rintro _ rfl
   refine CwpE.vc ?_
   simp only [go_sem, ↓reduceIte, Nat.reduceLT, Nat.reduceEqDiff, kw]
   exact ⟨z, ⟨[(5, .ref 0 1 0 0), (6, vi w), (7, vpage p), (12, vi (manyP m)), (13, vi (leastOf m w (k + 1) : Nat)), (14, vi (k + 1 : Nat))], [.arr 1 1 25 [vmel m]]⟩, by omega, WkE.keep (by simp only [go_sem, ↓reduceIte, Nat.reduceEqDiff]), k + 1, by omega, rfl⟩
  refine CwpE.block ?_
  refine CwpE.cut (st := ⟨[(5, .ref 0 1 0 0), (6, vi w), (7, vpage p), (12, vi (manyP m)), (13, vi L), (14, vi k), (15, vi (0 : Nat))], [.arr 1 1 25 [vmel m]]⟩) ?_ ?_
  ·simp only [go_sem, ↓reduceIte, Nat.reduceLT]
   exact ⟨_, WkE.keep (by simp only [go_sem, ↓reduceIte, Nat.reduceEqDiff]; rfl), rfl⟩
  refine CwpE.cut (st := ⟨[(5, .ref 0 1 0 0), (6, vi w), (7, vpage p), (12, vi (manyP m)), (13, vi L), (14, vi k), (15, vi (0 : Nat)), (16, vi (0 : Nat))], [.arr 1 1 25 [vmel m]]⟩) ?_ ?_
  ·simp only [go_sem, ↓reduceIte, Nat.reduceLT]
   exact ⟨_, WkE.keep (by simp only [go_sem, ↓reduceIte, Nat.reduceEqDiff]; rfl), rfl⟩
  refine CwpE.cut (st := ⟨[(5, .ref 0 1 0 0), (6, vi w), (7, vpage p), (12, vi (manyP m)), (13, vi L), (14, vi k), (15, vi (0 : Nat)), (16, vi (0 : Nat)), (17, vb true)], [.arr 1 1 25 [vmel m]]⟩) ?_ ?_
  ·simp only [go_sem, ↓reduceIte, Nat.reduceLT]
   exact ⟨_, WkE.keep (by simp only [go_sem, ↓reduceIte, Nat.reduceEqDiff]), rfl⟩
  refine CwpE.seqJ (fun s => s = ⟨[(5, .ref 0 1 0 0), (6, vi w), (7, vpage p), (12, vi (manyP m)), (13, vi L), (14, vi k), (16, vi R.1), (17, vb R.2)], [.arr 1 1 25 [vmel m]]⟩) ?_ ?_
  ·refine CwpE.cut (st := ⟨lnE p w (manyP m) k L 0 0 true 0, [.arr 1 1 25 [vmel m]]⟩) ?_ ?_
   ·simp only [go_sem, ↓reduceIte, Nat.reduceLT]
    exact ⟨_, WkE.keep (by simp only [go_sem, ↓reduceIte, Nat.reduceEqDiff]; rfl), rfl⟩
   exact key.mono fun e s ⟨s', hw, he, hs⟩ => by
    subst he; exact ⟨s', hw, hs⟩
  rintro _ rfl
  obtain ⟨R1, R2⟩ := R
  cases R2 with
  | true =>
   have e : (if (R1 : Int) < (L : Int) then (R1 : Int) else (L : Int)) = ((leastOf m w (k + 1) : Nat) : Int) := by
    rw [hst, if_pos rfl]; split <;> omega
   have e' : (if (L : Int) <= (R1 : Int) then (L : Int) else (R1 : Int)) = ((leastOf m w (k + 1) : Nat) : Int) := by
    rw [hst, if_pos rfl]; split <;> omega
   have e'' : (if (L : Int) < (R1 : Int) then (L : Int) else (R1 : Int)) = ((leastOf m w (k + 1) : Nat) : Int) := by
    rw [hst, if_pos rfl]; split <;> omega
   refine CwpE.vc ?_
   simp only [go_sem, ↓reduceIte, Nat.reduceLT, Nat.reduceEqDiff, e]
   exact ⟨_, WkE.keep (by simp only [go_sem, ↓reduceIte, Nat.reduceEqDiff]), rfl⟩
  | false =>
   rw [if_neg (by simp)] at hst
   rw [hst]
   refine CwpE.vc ?_
   simp only [go_sem, ↓reduceIte, Nat.reduceLT, Nat.reduceEqDiff]
   exact ⟨_, WkE.keep (by simp only [go_sem, ↓reduceIte, Nat.reduceEqDiff]), rfl⟩
set_option maxRecDepth 100000 in
theorem MusicLines_s (l : List Int) (w : Int) (hl : ∀ x ∈ l, I64 x) (hw : I64 w) : Ctr Tryd.prog 8 [vints l, vi w] (vb true) := by
 refine specC f8 (by simp) fun F0 w0 => ?_
 have b39 : I64 39 := ⟨by decide, by decide⟩
 have g39 := aroundL_bd (n := w) (most := 39) (by omega)
 have w39 : IntKind.i64.wrap (1 + aroundL w 39) = 1 + aroundL w 39 := wrap_id (by omega) (by omega)
 obtain ⟨v, hv⟩ : ∃ v, 1 + aroundL w 39 = v := ⟨_, rfl⟩
 have vw : IntKind.i64.wrap (v + 1) = v + 1 := wrap_id (by omega) (by omega)
 have hm := melP_vm l
 have h4 := melP_many l
 have hml := vm_len hm
 obtain ⟨m, em⟩ : ∃ m, melP l = m := ⟨_, rfl⟩
 rw [em] at hm hml h4
 have hen := enc_err hm (w := v) (by omega)
 have hen2 := enc_err hm (w := v + 1) (by omega)
 obtain ⟨E, hE⟩ : ∃ E, encP m v = E := ⟨_, rfl⟩
 obtain ⟨D, hD⟩ : ∃ D, encP m (v + 1) = D := ⟨_, rfl⟩
 unfold c8
 refine CwpE.cut (st := ⟨[(0, vints l), (1, vi w)], []⟩) ?_ ?_
 ·simp only [go_sem, ↓reduceIte, Nat.reduceLT]
  exact ⟨_, WkE.keep (by simp only [go_sem, ↓reduceIte, reduceCtorEq, Nat.reduceEqDiff]), rfl⟩
 refine CwpE.cut (st := ⟨[(5, .ref 0 1 0 0), (1, vi w)], [.arr 1 1 25 [vmel m]]⟩) ?_ ?_
 ·simp only [go_sem, ↓reduceIte, Nat.reduceLT]
  refine callT (Melody_s l hl) rfl ?_
  rw [em]
  simp only [go_sem, ↓reduceIte, Nat.reduceLT, Nat.reduceEqDiff]
  exact ⟨_, WkE.keep (by simp only [go_sem, ↓reduceIte, reduceCtorEq, Nat.reduceEqDiff]), rfl⟩
 refine CwpE.cut (st := ⟨[(5, .ref 0 1 0 0), (6, vi v)], [.arr 1 1 25 [vmel m]]⟩) ?_ ?_
 ·simp only [go_sem, ↓reduceIte, Nat.reduceLT, Nat.reduceEqDiff]
  refine callT (Around_s w 39 hw b39) rfl ?_
  simp only [go_sem, ↓reduceIte, Nat.reduceLT, hv, show IntKind.i64.wrap v = v from wrap_id (by omega) (by omega)]
  exact ⟨_, WkE.keep (by simp only [go_sem, ↓reduceIte, Nat.reduceEqDiff]), rfl⟩
 refine CwpE.cut (st := ⟨[(5, .ref 0 1 0 0), (6, vi v), (7, vpage E.1), (8, ve E.2)], [.arr 1 1 25 [vmel m]]⟩) ?_ ?_
 ·simp only [go_sem, ↓reduceIte, Nat.reduceLT, Nat.reduceEqDiff]
  refine callT (Encode_s m v hml.1 hml.2) rfl ?_
  rw [hE]
  simp only [go_sem, ↓reduceIte, Nat.reduceLT, Nat.reduceEqDiff]
  exact ⟨_, WkE.keep (by simp only [go_sem, ↓reduceIte, Nat.reduceEqDiff]), rfl⟩
 refine CwpE.cut (st := ⟨[(5, .ref 0 1 0 0), (6, vi v), (7, vpage E.1), (8, ve E.2), (9, vpage D.1), (10, ve D.2)], [.arr 1 1 25 [vmel m]]⟩) ?_ ?_
 ·simp only [go_sem, ↓reduceIte, Nat.reduceLT, Nat.reduceEqDiff, vw]
  refine callT (Encode_s m (v + 1) hml.1 hml.2) rfl ?_
  rw [hD]
  simp only [go_sem, ↓reduceIte, Nat.reduceLT, Nat.reduceEqDiff]
  exact ⟨_, WkE.keep (by simp only [go_sem, ↓reduceIte, Nat.reduceEqDiff]), rfl⟩
 rcases hen with ⟨p, hp⟩ | hp
 rotate_left
 ·rw [hE] at hp
  subst hp
  refine CwpE.vc ?_
  rcases hen2 with ⟨q, hq⟩ | hq
  all_goals
   rw [hD] at hq
   subst hq
   simp only [go_sem, ↓reduceIte, Nat.reduceLT, Nat.reduceEqDiff, Int.reduceEq]
   refine callT lives_s rfl ?_
   simp only [go_sem, ↓reduceIte, Nat.reduceLT, Nat.reduceEqDiff]
   exact .tree _ rfl
 have hrows := enc_rows hp
 have hpl := hrows.1
 obtain ⟨q, hq, hqp⟩ := enc_more hp (w' := v + 1) (by omega) (by omega)
 have hleast := least_page hp (by omega)
 rw [hE] at hp
 subst hp
 rw [hD] at hq
 subst hq
 have i1 : ¬ (p.length : Int) < (q.length : Int) := by omega
 have i2 : ¬ (p.length : Int) = 0 := by omega
 refine CwpE.cut (st := ⟨[(5, .ref 0 1 0 0), (6, vi v), (7, vpage p), (9, vpage q), (10, ve 0)], [.arr 1 1 25 [vmel m]]⟩) ?_ ?_
 ·simp only [go_sem, ↓reduceIte, Nat.reduceLT, Nat.reduceEqDiff]
  exact ⟨_, WkE.keep (by simp only [go_sem, ↓reduceIte, Nat.reduceEqDiff]), rfl⟩
 refine CwpE.cut (st := ⟨[(5, .ref 0 1 0 0), (6, vi v), (7, vpage p)], [.arr 1 1 25 [vmel m]]⟩) ?_ ?_
 ·by_cases i3 : (p.length : Int) <= 25
  ·simp only [go_sem, ↓reduceIte, Nat.reduceLT, Nat.reduceEqDiff, List.length_map, i1, i2, i3]
   refine callT (cellFits_s p (by omega) fun r hr => ⟨by have := (hrows.2.2 r hr).1; omega, (hrows.2.2 r hr).2⟩) rfl ?_
   simp only [go_sem, ↓reduceIte, Nat.reduceLT, Nat.reduceEqDiff]
   exact ⟨_, WkE.keep (by simp only [go_sem, ↓reduceIte, Nat.reduceEqDiff]), rfl⟩
  ·simp only [go_sem, ↓reduceIte, Nat.reduceLT, Nat.reduceEqDiff, List.length_map, i1, i2, i3]
   exact ⟨_, WkE.keep (by simp only [go_sem, ↓reduceIte, Nat.reduceEqDiff]), rfl⟩
 refine CwpE.seqJ (fun s => s = ⟨[(5, .ref 0 1 0 0), (6, vi v), (7, vpage p)], [.arr 1 1 25 [vmel m]]⟩) ?_ ?_
 ·refine CwpE.cut (st := ⟨[(5, .ref 0 1 0 0), (6, vi v), (7, vpage p), (11, vi (0 : Nat))], [.arr 1 1 25 [vmel m]]⟩) ?_ ?_
  ·simp only [go_sem, ↓reduceIte, Nat.reduceLT]
   exact ⟨_, WkE.keep (by simp only [go_sem, ↓reduceIte, Nat.reduceEqDiff]; rfl), rfl⟩
  refine CwpE.block ?_
  refine loopX 0 (fun z s => ∃ y : Nat, y + z = p.length /\ s = ⟨[(5, .ref 0 1 0 0), (6, vi v), (7, vpage p), (11, vi y)], [.arr 1 1 25 [vmel m]]⟩) (fun s => s = ⟨[(5, .ref 0 1 0 0), (6, vi v), (7, vpage p)], [.arr 1 1 25 [vmel m]]⟩) p.length _ (.refl _ _) ⟨0, by omega, rfl⟩ ?_ ?_
  rotate_left
  ·rintro s rfl
   simp only [inBlockE, if_true]
   exact ⟨_, .refl _ _, rfl⟩
  rintro z s ⟨y, hy, rfl⟩
  cases z with
  | zero =>
   have y1 : ¬ (y : Int) < (p.length : Int) := by omega
   simp only [go_sem, ↓reduceIte, Nat.reduceLT, Nat.reduceEqDiff, List.length_map, y1]
   exact ⟨_, WkE.keep (by simp only [go_sem, ↓reduceIte, Nat.reduceEqDiff]), rfl⟩
  | succ z =>
   have y1 : (y : Int) < (p.length : Int) := by omega
   have y0 : (0 : Int) <= (y : Int) := by omega
   have yw : IntKind.i64.wrap ((y : Int) + 1) = ((y + 1 : Nat) : Int) := by rw [wrap_id (by omega) (by omega)]; omega
   obtain ⟨r, er⟩ : ∃ r, p[y] = r := ⟨_, rfl⟩
   have hr : p[y]? = some r := by rw [List.getElem?_eq_getElem (by omega), er]
   have hrm : r ∈ p := er ▸ List.getElem_mem _
   have r1 : ¬ v < (r.length : Int) := by have := (hrows.2.2 r hrm).1; omega
   simp only [go_sem, ↓reduceIte, Nat.reduceLT, Nat.reduceEqDiff, List.length_map, List.getElem?_map, hr, Option.map_some, y0, y1, r1, yw]
   exact ⟨z, ⟨[(5, .ref 0 1 0 0), (6, vi v), (7, vpage p), (11, vi (y + 1 : Nat))], [.arr 1 1 25 [vmel m]]⟩, by omega, WkE.keep (by simp only [go_sem, ↓reduceIte, Nat.reduceEqDiff]), y + 1, by omega, rfl⟩
 rintro _ rfl
 obtain ⟨h0, g0, l0⟩ := head_of hm
 have m0 : (0 : Int) < (m.length : Int) := by rcases hm.hands with h | h <;> omega
 refine CwpE.cut (st := ⟨[(5, .ref 0 1 0 0), (6, vi v), (7, vpage p), (12, vi (manyP m))], [.arr 1 1 25 [vmel m]]⟩) ?_ ?_
 ·simp only [go_sem, ↓reduceIte, Nat.reduceLT, Int.reduceToNat, Int.reduceToNat, Int.le_refl, List.length_map, List.getElem?_map, g0, Option.map_some, l0]
  exact ⟨_, WkE.keep (by simp only [go_sem, ↓reduceIte, Nat.reduceEqDiff]), rfl⟩
 refine CwpE.cut (st := ⟨[(5, .ref 0 1 0 0), (6, vi v), (7, vpage p), (12, vi (manyP m)), (13, vi (99 : Nat))], [.arr 1 1 25 [vmel m]]⟩) ?_ ?_
 ·simp only [go_sem, ↓reduceIte, Nat.reduceLT]
  exact ⟨_, WkE.keep (by simp only [go_sem, ↓reduceIte, Nat.reduceEqDiff]; rfl), rfl⟩
 refine CwpE.seqJ (fun s => s = ⟨[(7, vpage p), (13, vi (p.length : Nat))], []⟩) ?_ ?_
 ·refine CwpE.cut (st := ⟨[(5, .ref 0 1 0 0), (6, vi v), (7, vpage p), (12, vi (manyP m)), (13, vi (99 : Nat)), (14, vi (0 : Nat))], [.arr 1 1 25 [vmel m]]⟩) ?_ ?_
  ·simp only [go_sem, ↓reduceIte, Nat.reduceLT]
   exact ⟨_, WkE.keep (by simp only [go_sem, ↓reduceIte, Nat.reduceEqDiff]; rfl), rfl⟩
  exact (ln_all F0 w0 m hm p v h4 (Q := fun e s => e = .normal /\ s = ⟨[(7, vpage p), (13, vi (p.length : Nat))], []⟩) ⟨rfl, by rw [hleast]⟩).mono fun e s ⟨s', hw, he, hs⟩ => by
   subst he; exact ⟨s', hw, hs⟩
 rintro _ rfl
 refine CwpE.vc ?_
 simp only [go_sem, ↓reduceIte, Nat.reduceLT, Nat.reduceEqDiff, List.length_map]
 refine callT lives_s rfl ?_
 simp only [go_sem, ↓reduceIte, Nat.reduceLT, Nat.reduceEqDiff]
 exact .tree _ rfl
end Go.Proofs.YtnncijjkbonokaaDoor
