/- Lemmas used by Aligned, Encodes, Lines, Needed. -/
import Derived.Test.YtnncijjkbonokaaDoorKa
import Derived.Test.YtnncijjkbonokaaDoorKb
import Derived.Test.YtnncijjkbonokaaDoorKc
import Derived.Test.YtnncijjkbonokaaDoorKd
import Derived.Test.YtnncijjkbonokaaDoorKe
import Derived.Test.YtnncijjkbonokaaDoorKf
import Derived.Test.YtnncijjkbonokaaDoorKg
import Derived.Test.YtnncijjkbonokaaDoorProg
import Derived.WalkKit
import Derived.WalkSpells
import Derived.WalkLawsBesides
import Derived.Orders
import Derived.Laws.MakeOwn
import Derived.Deep.AppendSrc
import Derived.Lib.AppendZerosOnto
import Derived.Defers
import Derived.Laws.StructEq
import Derived.Scope
import Derived.Deep.LoopGhost
import Derived.OrdersIn
import Derived.ControlIn
import Derived.Sort.LoopGhostIn
import Derived.RangeFuncLeaves
import Derived.RangeFuncRecord
import Derived.RangeFuncFrom
import Derived.RangeFuncBox
import Derived.OwnWalkIn
import Derived.TacticsInMore
import Derived.LoopNIn
import Derived.LoopIn
import Derived.Sort.QuietTacIn
set_option linter.unusedSimpArgs false
set_option linter.unusedVariables false
set_option linter.unusedSectionVars false
namespace Go.Proofs.YtnncijjkbonokaaDoor
open Go.RowKit Dak
theorem trimN_le (b : List Int) : ∀ n, trimN b n <= n
 | 0 => Nat.le_refl _
 | n + 1 => by
  rw [trimN]; split
  ·have := trimN_le b n; omega
  ·omega
end Go.Proofs.YtnncijjkbonokaaDoor
namespace Go.Proofs.YtnncijjkbonokaaDoor
open Go.RowKit Dak
theorem tookB_at (p : Int -> Bool) (pre r : List Int) (x : Int) : tookB p (pre ++ x :: r) pre.length = p x := by
 simp [tookB]
theorem tookN_at (p : Int -> Bool) (pre r : List Int) (x : Int) : tookN p (pre ++ x :: r) pre.length = if p x = true then pre.length + 1 else pre.length := by
 rw [tookN, tookB_at]
theorem octT_at (pre r : List Int) (x o : Int) : octT (pre ++ x :: r) pre.length o = octI x := by simp [octT]
theorem alt_at (pre y : List Int) (h a : Int) (ha : a = 1 \/ a = -1 \/ a = 0) (h1 : h ≠ 33) (h2 : h ≠ 34) :
 altA (pre ++ (alterC a ++ h :: y)) pre.length = a /\ altI (pre ++ (alterC a ++ h :: y)) pre.length = (pre ++ alterC a).length := by
 unfold altA altI
 rcases ha with rfl | rfl | rfl
 ·rw [show alterC 1 = [33] from rfl, List.singleton_append, tookB_at]; simp
 ·rw [show alterC (-1) = [34] from rfl, List.singleton_append, tookB_at, tookB_at, tookN_at]; simp
 ·rw [show alterC 0 = [] from rfl, List.nil_append, tookB_at, tookB_at, tookN_at]; simp [h1, h2]
theorem octC_at (pre y : List Int) (h s : Int) (mark : Bool) (hs : 0 <= s /\ s <= 48 \/ mark = false) (hh : octI h = -1) :
 octT (pre ++ (octC s mark ++ h :: y)) pre.length (-1) = (if mark = true then s.tdiv 7 else -1) /\ tookN isOct (pre ++ (octC s mark ++ h :: y)) pre.length = (pre ++ octC s mark).length := by
 cases mark with
 | false => rw [show octC s false = [] from rfl, List.nil_append, octT_at, tookN_at]; simp [isOct, hh]
 | true =>
  rcases hs with hs | hs
  ·have hq : ∀ q : Nat, q < 7 -> octI (octs.getD q 0) = q := by decide
   have e : s.tdiv 7 = ((s.tdiv 7).toNat : Int) := by rw [Int.tdiv_eq_ediv_of_nonneg hs.1]; omega
   have hlt : (s.tdiv 7).toNat < 7 := by rw [Int.tdiv_eq_ediv_of_nonneg hs.1]; omega
   have := hq _ hlt
   rw [show octC s true = [octs.getD (s.tdiv 7).toNat 0] from rfl, List.singleton_append, octT_at, tookN_at, isOct, this]
   refine ⟨by rw [if_pos rfl, <- e], ?_⟩
   rw [if_pos (by simp; omega)]; simp
  ·cases hs
theorem small_at (pre y : List Int) (h l : Int) (hh : h ≠ 3) :
 tookB (fun x => decide (x = 3)) (pre ++ (smallC l ++ h :: y)) pre.length = decide (l = 4) /\ tookN (fun x => decide (x = 3)) (pre ++ (smallC l ++ h :: y)) pre.length = (pre ++ smallC l).length := by
 unfold smallC
 by_cases h4 : l = 4
 ·rw [if_pos h4, List.singleton_append, tookB_at, tookN_at]; simp [h4]
 ·rw [if_neg h4, List.nil_append, tookB_at, tookN_at]; simp [h4, hh]
def nameK (s : Int) : Nat := if 0 <= s then (s.tmod 7).toNat else 7
def lenK (l : Int) : Nat := if l = 4 then 0 else l.toNat
theorem name_facts : ∀ k : Nat, k < 8 -> ∀ l : Nat, l < 4 -> let x := names.getD k 0 + lens.getD l 0; plainP x = some (k, l) /\ x ≠ 33 /\ x ≠ 34 /\ x ≠ 3 /\ octI x = -1 /\ 0 < x /\ x < 64 /\ x ≠ 60 /\ x ≠ 28 := by decide
theorem nameK_lt (s : Int) (h : s <= 48) : nameK s < 8 := by
 unfold nameK; split
 ·have := Int.tmod_lt_of_pos s (b := 7) (by omega); omega
 ·omega
theorem nameC_eq (s l : Int) (hl : 0 <= l /\ l <= 4) : nameC s l = names.getD (nameK s) 0 + lens.getD (lenK l) 0 := by
 unfold nameC nameK lenK
 congr 1
 ·split <;> rfl
 ·by_cases h : l = 4
  ·subst h; rfl
  ·rw [if_neg h]
theorem nameC_at (s l : Int) (hs : s <= 48) (hl : 0 <= l /\ l <= 4) : let x := nameC s l; plainP x = some (nameK s, lenK l) /\ x ≠ 33 /\ x ≠ 34 /\ x ≠ 3 /\ octI x = -1 /\ 0 < x /\ x < 64 /\ x ≠ 60 /\ x ≠ 28 := by
 rw [nameC_eq s l hl]
 exact name_facts _ (nameK_lt s hs) _ (by unfold lenK; split <;> omega)
theorem dist_facts (a b : Int) : (distP a b = a - b \/ distP a b = b - a) /\ a - b <= distP a b /\ b - a <= distP a b := by
 unfold distP; split <;> omega
theorem findGo_hit {last s : Int} (hl : 0 <= last /\ last <= 48) (hn : needP s last = false) (h48 : s <= 48) : ∀ (d f : Nat) (s0 : Int), 0 <= s0 -> s = s0 + 7 * d -> d < f -> findGo last f s0 = some s
 | 0, f + 1, s0, h0, h, hf => by
  have : s = s0 := by omega
  subst this
  simp [findGo, h48, hn]
 | d + 1, f + 1, s0, h0, h, hf => by
  have hlt : s0 <= 48 := by omega
  have hn0 : needP s0 last = true := by
   have d1 := dist_facts s last
   have d2 := dist_facts s0 last
   simp only [needP, decide_eq_false_iff_not] at hn
   simp only [needP, decide_eq_true_eq]
   rw [Int.tdiv_eq_ediv_of_nonneg (by omega : 0 <= s), Int.tdiv_eq_ediv_of_nonneg hl.1] at hn
   rw [Int.tdiv_eq_ediv_of_nonneg h0, Int.tdiv_eq_ediv_of_nonneg hl.1]
   have hq : s / 7 = s0 / 7 + (d + 1 : Nat) := by omega
   omega
  rw [findGo, if_pos hlt, if_pos hn0]
  exact findGo_hit hl hn h48 d f (s0 + 7) (by omega) (by omega) (by omega)
theorem find_at {n : Nt} {last : Int} (hn : rightP n = true) (hl : -1 <= last /\ last <= 48) : findP (nameK n.s) (if markP n.s last = true then n.s.tdiv 7 else -1) last = some n.s := by
 have hr := rightP_iff hn
 by_cases h0 : 0 <= n.s
 ·have hk : (nameK n.s : Int) = n.s % 7 := by
   have := Int.tmod_eq_emod_of_nonneg (b := 7) h0
   unfold nameK; rw [if_pos h0, this]; omega
  have hk7 : ¬ (nameK n.s : Int) = 7 := by omega
  unfold findP
  rw [if_neg hk7]
  cases hm : markP n.s last with
  | true =>
   rw [if_pos rfl, if_pos (by rw [Int.tdiv_eq_ediv_of_nonneg h0]; omega), hk, Int.tdiv_eq_ediv_of_nonneg h0]
   congr 1; omega
  | false =>
   rw [if_neg (by simp : ¬ false = true), if_neg (by omega)]
   have hnd : needP n.s last = false := by simpa [markP, h0] using hm
   have hl0 : 0 <= last := by
    simp only [needP, decide_eq_false_iff_not] at hnd; omega
   exact findGo_hit ⟨hl0, hl.2⟩ hnd (by omega) (n.s / 7).toNat 8 _ (by omega) (by rw [hk]; omega) (by omega)
 ·have hs : n.s = -1 := by omega
  have hm : markP n.s last = false := by simp [markP, h0]
  rw [hm, hs]; rfl
theorem noteAt_put {n : Nt} {last : Int} (hn : rightP n = true) (hl : -1 <= last /\ last <= 48) (pre rest : List Int) :
 noteAt (pre ++ (noteC n (markP n.s last) ++ rest)) pre.length last = some (n, pre.length + (noteC n (markP n.s last)).length) := by
 have hr := rightP_iff hn
 obtain ⟨m, hm⟩ : ∃ m, markP n.s last = m := ⟨_, rfl⟩
 have hfind := find_at hn hl
 rw [hm] at hfind ⊢
 have hms : 0 <= n.s /\ n.s <= 48 \/ m = false := by
  by_cases h0 : 0 <= n.s
  ·exact .inl ⟨h0, hr.2.1⟩
  ·right; rw [<- hm]; simp [markP, h0]
 obtain ⟨f1, f2, f3, f4, f5, _, _, _, _⟩ := nameC_at n.s n.l hr.2.1 ⟨hr.2.2.1, hr.2.2.2.1⟩
 obtain ⟨c, hc⟩ : ∃ c, pre ++ (noteC n m ++ rest) = c := ⟨_, rfl⟩
 obtain ⟨h1, y1, e1, g1⟩ : ∃ h y, smallC n.l ++ nameC n.s n.l :: rest = h :: y /\ octI h = -1 /\ h ≠ 33 /\ h ≠ 34 := by
  unfold smallC; split
  ·exact ⟨3, _, rfl, by decide, by decide, by decide⟩
  ·exact ⟨_, _, rfl, f5, f2, f3⟩
 obtain ⟨h2, y2, e2, g2⟩ : ∃ h y, octC n.s m ++ (smallC n.l ++ nameC n.s n.l :: rest) = h :: y /\ h ≠ 33 /\ h ≠ 34 := by
  cases m with
  | false => exact ⟨h1, y1, e1, g1.2⟩
  | true =>
   refine ⟨_, _, rfl, ?_⟩
   have : ∀ q : Nat, q < 7 -> octs.getD q 0 ≠ 33 /\ octs.getD q 0 ≠ 34 := by decide
   rcases hms with hs | hs
   ·exact this _ (by rw [Int.tdiv_eq_ediv_of_nonneg hs.1]; omega)
   ·cases hs
 have hc0 : c = pre ++ (alterC n.a ++ h2 :: y2) := by rw [<- hc, <- e2]; simp [noteC]
 have hc1 : c = (pre ++ alterC n.a) ++ (octC n.s m ++ h1 :: y1) := by rw [<- hc, <- e1]; simp [noteC]
 have hc2 : c = (pre ++ alterC n.a ++ octC n.s m) ++ (smallC n.l ++ nameC n.s n.l :: rest) := by rw [<- hc]; simp [noteC]
 have hc3 : c = (pre ++ alterC n.a ++ octC n.s m ++ smallC n.l) ++ nameC n.s n.l :: rest := by rw [<- hc]; simp [noteC]
 have a1 := alt_at pre y2 h2 n.a (by omega) g2.1 g2.2
 rw [<- hc0] at a1
 have a2 := octC_at (pre ++ alterC n.a) y1 h1 n.s m hms g1.1
 rw [<- hc1] at a2
 have a3 := small_at (pre ++ alterC n.a ++ octC n.s m) rest (nameC n.s n.l) n.l f4
 rw [<- hc2] at a3
 have a4 : plainAt c (pre ++ alterC n.a ++ octC n.s m ++ smallC n.l).length = some (nameK n.s, lenK n.l) := by
  rw [plainAt, hc3]; simp only [List.getElem?_append_right (Nat.le_refl _), Nat.sub_self, List.getElem?_cons_zero, Option.bind_some]; exact f1
 have a5 : ¬ (decide (n.l = 4) = true /\ lenK n.l ≠ 0) := by
  rintro ⟨h, h'⟩; have := of_decide_eq_true h; unfold lenK at h'; rw [if_pos this] at h'; exact h' rfl
 rw [hc, noteAt, a1.2, a2.2, a3.2, a3.1, a4, a2.1, a1.1]
 simp only
 rw [if_neg a5, hfind]
 have hl4 : (if decide (n.l = 4) = true then (4 : Int) else (lenK n.l : Nat)) = n.l := by
  by_cases h : n.l = 4
  ·rw [if_pos (decide_eq_true h), h]
  ·rw [if_neg (by simpa using h), lenK, if_neg h]; omega
 simp only [hl4]
 simp [noteC]
 omega
theorem step_rng {n : Nt} {last : Int} (hn : rightP n = true) (hl : -1 <= last /\ last <= 48) : -1 <= stepP n last /\ stepP n last <= 48 := by
 have hr := rightP_iff hn
 unfold stepP; split <;> omega
theorem last_rng : ∀ {l : List Nt} {last : Int}, (∀ n ∈ l, rightP n = true) -> (-1 <= last /\ last <= 48) -> -1 <= lastP l last /\ lastP l last <= 48
 | [], _, _, hl => hl
 | n :: r, last, h, hl => last_rng (l := r) (fun x hx => h x (List.mem_cons_of_mem _ hx)) (step_rng (h n (List.mem_cons_self ..)) hl)
theorem note_pos (n : Nt) (m : Bool) : 1 <= (noteC n m).length := by simp [noteC]; omega
theorem cells_ge : ∀ (l : List Nt) (last : Int), l.length <= (cellsP l last).length
 | [], _ => Nat.zero_le _
 | n :: r, last => by
  have := cells_ge r (stepP n last); have := note_pos n (markP n.s last)
  simp only [cellsP, List.length_append, List.length_cons]; omega
theorem parseGo_put : ∀ (l : List Nt) (pre : List Int) (f : Nat) (last : Int) (acc : List Nt), (∀ n ∈ l, rightP n = true) -> (-1 <= last /\ last <= 48) -> l.length <= f ->
 parseGo (pre ++ cellsP l last) f pre.length last acc = some (acc ++ l, lastP l last)
 | [], pre, f, last, acc, h, hl, hf => by
  cases f with
  | zero => simp [parseGo, lastP]
  | succ f => simp [parseGo, lastP, cellsP]
 | n :: r, pre, f + 1, last, acc, h, hl, hf => by
  have hn := h n (List.mem_cons_self ..)
  have hp := note_pos n (markP n.s last)
  rw [cellsP, parseGo, if_neg (by simp only [List.length_append]; omega), noteAt_put hn hl]
  simp only
  have := parseGo_put r (pre ++ noteC n (markP n.s last)) f (stepP n last) (acc ++ [n]) (fun x hx => h x (List.mem_cons_of_mem _ hx)) (step_rng hn hl) (by simp only [List.length_cons] at hf; omega)
  rw [List.append_assoc, List.length_append, List.append_assoc] at this
  exact this
theorem parse_put {l : List Nt} {last : Int} (h : ∀ n ∈ l, rightP n = true) (hl : -1 <= last /\ last <= 48) : parseP (cellsP l last) last = some (l, lastP l last) := by
 have := parseGo_put l [] (cellsP l last).length last [] h hl (cells_ge l last)
 simpa [parseP] using this
theorem note_cells {n : Nt} {last : Int} (hn : rightP n = true) : ∀ x ∈ noteC n (markP n.s last), 0 < x /\ x < 64 /\ x ≠ 60 /\ x ≠ 28 := by
 have hr := rightP_iff hn
 intro x hx
 obtain ⟨m, hm⟩ : ∃ m, markP n.s last = m := ⟨_, rfl⟩
 rw [hm] at hx
 simp only [noteC, List.mem_append, List.mem_singleton] at hx
 rcases hx with h | h | h | h
 ·unfold alterC at h
  split at h
  ·simp at h; omega
  ·split at h
   ·simp at h; omega
   ·cases h
 ·cases m with
  | false => cases h
  | true =>
   simp only [octC, if_true, List.mem_singleton] at h
   have h0 : 0 <= n.s := by
    by_cases h0 : 0 <= n.s
    ·exact h0
    ·simp [markP, h0] at hm
   have : ∀ q : Nat, q < 7 -> 0 < octs.getD q 0 /\ octs.getD q 0 < 64 /\ octs.getD q 0 ≠ 60 /\ octs.getD q 0 ≠ 28 := by decide
   rw [h]; exact this _ (by rw [Int.tdiv_eq_ediv_of_nonneg h0]; omega)
 ·unfold smallC at h
  split at h
  ·simp at h; omega
  ·cases h
 ·obtain ⟨_, _, _, _, _, f⟩ := nameC_at n.s n.l hr.2.1 ⟨hr.2.2.1, hr.2.2.2.1⟩
  rw [h]; exact f
theorem cells_cells : ∀ {l : List Nt} {last : Int}, (∀ n ∈ l, rightP n = true) -> ∀ x ∈ cellsP l last, 0 < x /\ x < 64 /\ x ≠ 60 /\ x ≠ 28
 | [], _, _, x, hx => by cases hx
 | n :: r, last, h, x, hx => by
  simp only [cellsP, List.mem_append] at hx
  rcases hx with hx | hx
  ·exact note_cells (h n (List.mem_cons_self ..)) x hx
  ·exact cells_cells (l := r) (fun y hy => h y (List.mem_cons_of_mem _ hy)) x hx
theorem trimN_app (y z : List Int) : ∀ n, n <= y.length -> trimN (y ++ z) n = trimN y n
 | 0, _ => rfl
 | n + 1, h => by
  rw [trimN, trimN, List.getElem?_append_left (by omega), trimN_app y z n (by omega)]
theorem trimN_zeros (y : List Int) (k : Nat) : ∀ j, j <= k -> trimN (y ++ List.replicate k 0) (y.length + j) = trimN y y.length
 | 0, _ => by rw [Nat.add_zero, trimN_app y _ _ (Nat.le_refl _)]
 | j + 1, h => by
  rw [show y.length + (j + 1) = (y.length + j) + 1 from rfl, trimN, if_pos, trimN_zeros y k j (by omega)]
  rw [List.getElem?_append_right (by omega), List.getElem?_replicate, if_pos (by omega)]
theorem trim_zeros (y : List Int) (k : Nat) : trimP (y ++ List.replicate k 0) = trimP y := by
 unfold trimP
 rw [List.length_append, List.length_replicate, trimN_zeros y k k (Nat.le_refl _), List.take_append_of_le_length (trimN_le y _)]
theorem trim_nil : trimP [] = [] := rfl
theorem trim_self {y : List Int} (h : ∀ x ∈ y, x ≠ 0) : trimP y = y := by
 unfold trimP
 cases hn : y.length with
 | zero => rw [List.length_eq_zero_iff.1 hn]; rfl
 | succ n =>
  rw [trimN, if_neg, List.take_of_length_le (by omega)]
  intro h0
  exact h 0 (List.mem_of_getElem? h0) rfl
def extR (W : Nat) (c x : List Int) : List Int := c ++ List.replicate (W - c.length) 0 ++ [0] ++ x
theorem ext_eq (W : Nat) (c x : List Int) : extR W c x = c ++ (List.replicate (W - c.length + 1) 0 ++ x) := by
 simp [extR, List.replicate_succ']
theorem ext_len (W : Nat) (c x : List Int) (h : c.length <= W) : (extR W c x).length = W + 1 + x.length := by
 simp [extR]; omega
theorem filled_ext {W x : Nat} {c y : List Int} (hx : x <= W) (hc : c.length <= W) : filledAt x (extR W c y) = filledAt x c := by
 unfold filledAt
 rw [ext_eq]
 by_cases h : x < c.length
 ·rw [List.getElem?_append_left h]
 ·rw [List.getElem?_append_right (by omega), List.getElem?_append_left (by simp; omega), List.getElem?_replicate, if_pos (by omega), List.getElem?_eq_none (by omega)]; rfl
theorem take_ext {W x : Nat} {c y : List Int} (hx : x <= W + 1) (hc : c.length <= W) : (extR W c y).take x = c.take x ++ List.replicate (x - c.length) 0 := by
 rw [ext_eq, List.take_append, List.take_append, List.take_replicate, List.length_replicate, show x - c.length - (W - c.length + 1) = 0 by omega, List.take_zero, List.append_nil]
 congr 2; omega
theorem cut_ext {W fr x : Nat} {c y : List Int} (hx : x <= W) (hc : c.length <= W) : trimP (cutP (extR W c y) fr x) = trimP (cutP c fr x) := by
 unfold cutP
 have hl : (extR W c y).length = W + 1 + y.length := ext_len W c y hc
 rw [show min x (extR W c y).length = x by omega, take_ext (by omega) hc]
 by_cases hf : fr <= c.length
 ·by_cases hxc : x <= c.length
  ·rw [show x - c.length = 0 by omega, show min x c.length = x by omega, List.replicate_zero, List.append_nil, show min fr (extR W c y).length = fr by omega, show min fr c.length = fr by omega]
  ·rw [show min x c.length = c.length by omega, List.take_of_length_le (by omega), List.take_of_length_le (Nat.le_refl _), show min fr (extR W c y).length = fr by omega, show min fr c.length = fr by omega, List.drop_append, show fr - c.length = 0 by omega, List.drop_zero, trim_zeros]
 ·have e2 : List.drop (min fr c.length) (List.take (min x c.length) c) = [] := List.drop_of_length_le (by simp; omega)
  rw [e2, trim_nil, List.drop_append, List.drop_of_length_le (by simp; omega), List.nil_append, List.drop_replicate]
  have := trim_zeros [] (x - c.length - (min fr (extR W c y).length - (List.take x c).length))
  rw [List.nil_append] at this
  rw [this, trim_nil]
theorem wide_max : ∀ (l : List (List Int)) (n : Nat), wideP l n = max n (wideP l 0)
 | [], n => by simp [wideP]
 | c :: r, n => by rw [wideP, wideP, wide_max r (max n c.length), wide_max r (max 0 c.length)]; omega
theorem wide_cons (c : List Int) (r : List (List Int)) : wideP (c :: r) 0 = max c.length (wideP r 0) := by
 rw [wideP, wide_max]; omega
theorem wide_get {l : List (List Int)} (h : l ≠ []) : ∃ c ∈ l, c.length = wideP l 0 := by
 induction l with
 | nil => exact absurd rfl h
 | cons a r ih =>
  rw [wide_cons]
  by_cases hr : r = []
  ·subst hr; exact ⟨a, List.mem_cons_self .., by simp [wideP]⟩
  ·obtain ⟨c, hc, e⟩ := ih hr
   by_cases hle : a.length <= wideP r 0
   ·exact ⟨c, List.mem_cons_of_mem _ hc, by omega⟩
   ·exact ⟨a, List.mem_cons_self .., by omega⟩
def extL (l cs : List (List Int)) : List (List Int) := List.zipWith (extR (wideP l 0)) l cs
theorem zipWith_any {α β γ : Type} (f : α -> β -> γ) (p : γ -> Bool) (q : α -> Bool) : ∀ (l : List α) (cs : List β), l.length = cs.length -> (∀ a ∈ l, ∀ b ∈ cs, p (f a b) = q a) -> (List.zipWith f l cs).any p = l.any q
 | [], [], _, _ => rfl
 | a :: l, b :: cs, h, hp => by
  simp only [List.zipWith_cons_cons, List.any_cons]
  rw [hp a (List.mem_cons_self ..) b (List.mem_cons_self ..), zipWith_any f p q l cs (by simpa using h) fun a ha b hb => hp a (List.mem_cons_of_mem _ ha) b (List.mem_cons_of_mem _ hb)]
theorem ext_wide (l cs : List (List Int)) (h : l.length = cs.length) (h0 : l ≠ []) : wideP (extL l cs) 0 = wideP l 0 + 1 + wideP cs 0 := by
 unfold extL
 have key : ∀ (W : Nat) (l cs : List (List Int)), l.length = cs.length -> (∀ c ∈ l, c.length <= W) -> l ≠ [] -> wideP (List.zipWith (extR W) l cs) 0 = W + 1 + wideP cs 0 := by
  intro W l
  induction l with
  | nil => intro cs _ _ h; exact absurd rfl h
  | cons a r ih =>
   intro cs h hW _
   match cs, h with
   | x :: cs, h =>
    rw [List.zipWith_cons_cons, wide_cons, wide_cons, ext_len _ _ _ (hW a (List.mem_cons_self ..))]
    by_cases hr : r = []
    ·subst hr
     have : cs = [] := by simpa using h
     subst this; simp [wideP]
    ·rw [ih cs (by simpa using h) (fun c hc => hW c (List.mem_cons_of_mem _ hc)) hr]; omega
 exact key _ l cs h (wide_mono l 0).2 h0
theorem zipWith_congr3 {α β γ δ : Type} (f : δ -> γ -> δ) (g : α -> β -> γ) (g' : α -> γ) : ∀ (o : List δ) (l : List α) (cs : List β), l.length = cs.length -> (∀ d, ∀ a ∈ l, ∀ b ∈ cs, f d (g a b) = f d (g' a)) -> List.zipWith f o (List.zipWith g l cs) = List.zipWith f o (l.map g')
 | [], _, _, _, _ => by simp
 | o :: os, [], [], _, _ => by simp
 | o :: os, a :: l, b :: cs, h, hp => by
  simp only [List.zipWith_cons_cons, List.map_cons]
  rw [hp o a (List.mem_cons_self ..) b (List.mem_cons_self ..), zipWith_congr3 f g g' os l cs (by simpa using h) fun d a ha b hb => hp d a (List.mem_cons_of_mem _ ha) b (List.mem_cons_of_mem _ hb)]
theorem barsAdd_ext {l cs : List (List Int)} (h : l.length = cs.length) {fr x : Nat} (hx : x <= wideP l 0) (outs : List (List (List Int))) : barsAdd (extL l cs) fr x outs = barsAdd l fr x outs := by
 unfold barsAdd extL
 rw [zipWith_congr3 _ _ id outs l cs h]
 ·rw [List.map_id]
 ·intro o a ha b hb
  rw [cut_ext hx ((wide_mono l 0).2 a ha)]; rfl
theorem any_ext {l cs : List (List Int)} (h : l.length = cs.length) {x : Nat} (hx : x <= wideP l 0) : (extL l cs).any (filledAt x) = l.any (filledAt x) := by
 unfold extL
 exact zipWith_any _ _ _ l cs h fun a ha b _ => filled_ext hx ((wide_mono l 0).2 a ha)
theorem none_at {l : List (List Int)} {x : Nat} (hx : wideP l 0 <= x) : l.any (filledAt x) = false := by
 rw [List.any_eq_false]
 intro c hc
 have := (wide_mono l 0).2 c hc
 unfold filledAt
 rw [List.getElem?_eq_none (by omega)]; simp
theorem bars_prefix {l cs : List (List Int)} (h : l.length = cs.length) (g : Nat) : ∀ (f x fr : Nat) (outs : List (List (List Int))), x + f = wideP l 0 ->
 barsGo (extL l cs) (f + 1 + g) x fr outs = barsGo (extL l cs) g (wideP l 0 + 1) (wideP l 0 + 1) (barsGo l (f + 1) x fr outs)
 | 0, x, fr, outs, hx => by
  have hx' : x = wideP l 0 := by omega
  subst hx'
  rw [show 0 + 1 + g = g + 1 by omega, barsGo, any_ext h (Nat.le_refl _), none_at (Nat.le_refl _), if_neg (by simp), barsAdd_ext h (Nat.le_refl _)]
  rw [barsGo, none_at (Nat.le_refl _), if_neg (by simp), barsGo]
 | f + 1, x, fr, outs, hx => by
  rw [show f + 1 + 1 + g = (f + 1 + g) + 1 by omega, barsGo, any_ext h (by omega), barsAdd_ext h (by omega), barsGo]
  split
  ·exact bars_prefix h g f (x + 1) fr outs (by omega)
  ·exact bars_prefix h g f (x + 1) (x + 1) _ (by omega)
theorem cut_last (c x : List Int) (t : Nat) (h : c.length + x.length <= t) : cutP (c ++ x) c.length t = x := by
 unfold cutP
 rw [show min t (c ++ x).length = (c ++ x).length by simp; omega, List.take_of_length_le (Nat.le_refl _), show min c.length (c ++ x).length = c.length by simp, List.drop_left]
theorem bars_last (l cs : List (List Int)) (x0 : Nat) (h : l.length = cs.length) (hl : l ≠ []) (hr : ∀ (i : Nat) (c x : List Int), l[i]? = some c -> cs[i]? = some x -> ∃ p, p.length = x0 /\ c = p ++ x) (hz : ∀ x ∈ cs, x ≠ [] /\ ∀ v ∈ x, v ≠ 0) (outs : List (List (List Int))) :
 ∀ (f k : Nat), k + f = wideP cs 0 -> barsGo l (f + 1) (x0 + k) x0 outs = List.zipWith (fun o x => o ++ [x]) outs cs
 | 0, k, hk => by
  have hw : wideP l 0 <= x0 + k := by
   refine wide_le l 0 _ (Nat.zero_le _) fun c hc => ?_
   obtain ⟨i, hi, rfl⟩ := List.getElem_of_mem hc
   obtain ⟨p, hp, e⟩ := hr i _ (cs[i]'(by omega)) (List.getElem?_eq_getElem hi) (List.getElem?_eq_getElem (by omega))
   have := (wide_mono cs 0).2 _ (List.getElem_mem (l := cs) (n := i) (by omega))
   rw [e, List.length_append]; omega
  rw [barsGo, none_at hw, if_neg (by simp), barsGo, barsAdd]
  apply List.ext_getElem?
  intro i
  simp only [List.getElem?_zipWith]
  cases ho : outs[i]? with
  | none => simp
  | some o =>
   cases hc : cs[i]? with
   | none =>
    have : l[i]? = none := by rw [List.getElem?_eq_none_iff] at hc ⊢; omega
    simp [this]
   | some x =>
    have hi : i < l.length := by have := (List.getElem?_eq_some_iff.1 hc).1; omega
    obtain ⟨p, hp, e⟩ := hr i _ x (List.getElem?_eq_getElem hi) hc
    have hx := (wide_mono cs 0).2 x (List.mem_of_getElem? hc)
    simp only [List.getElem?_eq_getElem hi, Option.some.injEq]
    rw [e]
    have hcut : cutP (p ++ x) x0 (x0 + k) = x := by
     have := cut_last p x (x0 + k) (by omega)
     rw [hp] at this
     exact this
    rw [hcut, trim_self (hz x (List.mem_of_getElem? hc)).2]
 | f + 1, k, hk => by
  have hcs : cs ≠ [] := by intro e; subst e; exact hl (List.length_eq_zero_iff.1 h)
  obtain ⟨x, hx, e⟩ := wide_get hcs
  obtain ⟨i, hi, rfl⟩ := List.getElem_of_mem hx
  obtain ⟨p, hp, ec⟩ := hr i _ _ (List.getElem?_eq_getElem (by omega)) (List.getElem?_eq_getElem hi)
  have hany : l.any (filledAt (x0 + k)) = true := by
   rw [List.any_eq_true]
   refine ⟨_, List.getElem_mem (n := i) (by omega), ?_⟩
   rw [ec]
   unfold filledAt
   rw [List.getElem?_append_right (by omega), List.getElem?_eq_getElem (by omega)]
   simp only [decide_eq_true_eq]
   exact (hz _ hx).2 _ (List.getElem_mem _)
  rw [barsGo, if_pos hany]
  exact bars_last l cs x0 h hl hr hz outs f (k + 1) (by omega)
theorem bars_one {cs : List (List Int)} (hl : cs ≠ []) (hz : ∀ x ∈ cs, x ≠ [] /\ ∀ v ∈ x, v ≠ 0) : barsP cs = cs.map fun x => [x] := by
 unfold barsP
 have := bars_last cs cs 0 rfl hl (fun i c x h1 h2 => ⟨[], rfl, by rw [h1] at h2; simpa using h2⟩) hz (List.replicate cs.length []) (wideP cs 0) 0 (by omega)
 rw [Nat.zero_add] at this
 rw [this]
 apply List.ext_getElem?
 intro i
 simp only [List.getElem?_zipWith, List.getElem?_map, List.getElem?_replicate]
 cases hc : cs[i]? with
 | none => simp
 | some x => rw [if_pos (List.getElem?_eq_some_iff.1 hc).1]; simp
theorem bars_ext {l cs : List (List Int)} (h : l.length = cs.length) (hl : l ≠ []) (hz : ∀ x ∈ cs, x ≠ [] /\ ∀ v ∈ x, v ≠ 0) : barsP (extL l cs) = List.zipWith (fun o x => o ++ [x]) (barsP l) cs := by
 have hel : (extL l cs).length = l.length := by simp [extL]; omega
 rw [barsP, ext_wide l cs h hl, hel, show wideP l 0 + 1 + wideP cs 0 + 1 = wideP l 0 + 1 + (wideP cs 0 + 1) by omega, bars_prefix h _ (wideP l 0) 0 0 _ (by omega)]
 have := bars_last (extL l cs) cs (wideP l 0 + 1) (by omega) (by intro e; rw [e] at hel; exact hl (List.length_eq_zero_iff.1 hel.symm)) (fun i c x h1 h2 => ?_) hz (barsP l) (wideP cs 0) 0 (by omega)
 ·exact this
 ·simp only [extL, List.getElem?_zipWith] at h1
  cases hc : l[i]? with
  | none => rw [hc] at h1; simp at h1
  | some a =>
   rw [hc, h2] at h1
   simp only [Option.some.injEq] at h1
   refine ⟨a ++ List.replicate (wideP l 0 - a.length) 0 ++ [0], ?_, h1.symm⟩
   have := (wide_mono l 0).2 a (List.mem_of_getElem? hc)
   simp; omega
def segC : List (List Nt) -> Int -> List (List Int)
 | [], _ => []
 | b :: r, l => cellsP b l :: segC r (lastP b l)
def segL : List (List Nt) -> Int -> Int
 | [], l => l
 | b :: r, l => segL r (lastP b l)
theorem segC_snoc : ∀ (r : List (List Nt)) (b : List Nt) (l : Int), segC (r ++ [b]) l = segC r l ++ [cellsP b (segL r l)] /\ segL (r ++ [b]) l = lastP b (segL r l)
 | [], b, l => ⟨rfl, rfl⟩
 | a :: r, b, l => by
  have := segC_snoc r b (lastP a l)
  exact ⟨by simp only [List.cons_append, segC, segL, this.1], by simp only [List.cons_append, segL, this.2]⟩
def cutH (fr k : Nat) (h : List (List Nt)) : List (List Nt) := (h.drop fr).take k
theorem cutH_succ {fr k : Nat} {h : List (List Nt)} (hk : fr + k < h.length) : cutH fr (k + 1) h = cutH fr k h ++ [h.getD (fr + k) []] := by
 unfold cutH
 rw [List.take_add_one, List.getElem?_drop, List.getElem?_eq_getElem hk, List.getD_eq_getElem?_getD, List.getElem?_eq_getElem hk]; rfl
theorem addT_map (bar : Nat) : ∀ (h : List (List (List Nt))) (f : List (List Nt) -> Int), addT bar (h.map f) h = h.map fun x => lastP (x.getD bar []) (f x)
 | [], _ => rfl
 | a :: h, f => by simp only [List.map_cons, addT, addT_map bar h f]
theorem line_la {m : List (List (List Nt))} {fr : Nat} : ∀ k, (∀ h ∈ m, fr + k <= h.length) -> (lineP m fr k).la = m.map fun h => segL (cutH fr k h) (-1)
 | 0, _ => by
  simp only [lineP, firstP]
  apply List.ext_getElem (by simp)
  intro i h1 h2
  simp [cutH, segL]
 | k + 1, hk => by
  rw [lineP, Sys.add, line_la k fun h hh => by have := hk h hh; omega]
  show addT (fr + k) _ m = _
  rw [addT_map]
  refine List.map_congr_left fun h hh => ?_
  rw [cutH_succ (by have := hk h hh; omega), (segC_snoc _ _ _).2]
def rowsP (m : List (List (List Nt))) (fr k : Nat) : List (List Int) := (lineP m fr k).ls.map (List.drop (m.length - 1))
theorem addL_zip (bars w bar : Nat) : ∀ (cs : List (List Int)) (ls : List Int) (hs : List (List (List Nt))), addL bars w bar cs ls hs = List.zipWith (fun c (p : List (List Nt) × Int) => padC bars w c ++ cellsP (p.1.getD bar []) p.2) cs (hs.zip ls)
 | [], _, _ => by cases ‹List Int› <;> rfl
 | c :: cs, [], hs => by simp [addL]
 | c :: cs, l :: ls, [] => by simp [addL]
 | c :: cs, l :: ls, h :: hs => by simp only [addL, List.zip_cons_cons, List.zipWith_cons_cons, addL_zip bars w bar cs ls hs, addC]
theorem zip_map_self {α β : Type} (f : α -> β) : ∀ l : List α, l.zip (l.map f) = l.map fun x => (x, f x)
 | [] => rfl
 | a :: l => by simp [zip_map_self f l]
theorem line_add {m : List (List (List Nt))} {fr k : Nat} (hk : ∀ h ∈ m, fr + k < h.length) :
 (lineP m fr (k + 1)).ls = List.zipWith (fun c x => padC k (wideP (lineP m fr k).ls 0) c ++ x) (lineP m fr k).ls (m.map fun h => cellsP (h.getD (fr + k) []) (segL (cutH fr k h) (-1))) := by
 rw [lineP, Sys.add]
 show addL _ _ _ _ _ _ = _
 rw [addL_zip, line_n, line_la k fun h hh => by have := hk h hh; omega, zip_map_self, List.zipWith_map_right, List.zipWith_map_right]
theorem rows_ge {m : List (List (List Nt))} (hm : Vm m) {fr : Nat} : ∀ k, fr + k <= manyP m -> ∀ c ∈ (lineP m fr k).ls, m.length - 1 <= c.length
 | 0, _, c, hc => by
  simp only [lineP, firstP] at hc
  rcases hm.hands with h | h
  ·omega
  ·rw [if_pos h] at hc
   rw [h]
   simp only [List.mem_cons, List.not_mem_nil, or_false] at hc
   rcases hc with rfl | rfl <;> simp
 | k + 1, hk, c, hc => by
  rw [line_add fun h hh => by have := hm.bars h hh; omega] at hc
  obtain ⟨i, hi, rfl⟩ := List.getElem_of_mem hc
  simp only [List.getElem_zipWith, List.length_append]
  have := rows_ge hm k (by omega) _ (List.getElem_mem (l := (lineP m fr k).ls) (n := i) (by simp at hi; omega))
  have : ∀ (w : Nat) (c : List Int), c.length <= (padC k w c).length := by intro w c; unfold padC; split <;> simp <;> omega
  have := this (wideP (lineP m fr k).ls 0) ((lineP m fr k).ls[i]'(by simp at hi; omega))
  omega
theorem wide_drop (n : Nat) : ∀ (l : List (List Int)), (∀ c ∈ l, n <= c.length) -> l ≠ [] -> wideP (l.map (List.drop n)) 0 + n = wideP l 0
 | [], _, h => absurd rfl h
 | a :: r, h, _ => by
  rw [List.map_cons, wide_cons, wide_cons, List.length_drop]
  have ha := h a (List.mem_cons_self ..)
  by_cases hr : r = []
  ·subst hr; simp [wideP]; omega
  ·have := wide_drop n r (fun c hc => h c (List.mem_cons_of_mem _ hc)) hr; omega
theorem line_len {m : List (List (List Nt))} (hm : Vm m) {fr k : Nat} (hk : fr + k <= manyP m) : (lineP m fr k).ls.length = m.length := (sok_line hm k hk).l1
theorem m_ne {m : List (List (List Nt))} (hm : Vm m) : m ≠ [] := by
 intro e; subst e; rcases hm.hands with h | h <;> cases h
theorem rows_zero {m : List (List (List Nt))} (hm : Vm m) (fr : Nat) : rowsP m fr 0 = List.replicate m.length [] := by
 simp only [rowsP, lineP, firstP]
 rcases hm.hands with h | h
 ·rw [h]; rfl
 ·rw [h]; rfl
theorem rows_one {m : List (List (List Nt))} (hm : Vm m) {fr : Nat} (hk : fr < manyP m) : rowsP m fr 1 = m.map fun h => cellsP (h.getD fr []) (-1) := by
 have h0 := rows_zero hm fr
 rw [rowsP, line_add fun h hh => by have := hm.bars h hh; omega]
 apply List.ext_getElem
 ·have := line_len hm (fr := fr) (k := 0) (by omega); simp [this]
 ·intro i h1 h2
  have hi : i < (lineP m fr 0).ls.length := by simp at h1; omega
  have hge := rows_ge hm (fr := fr) 0 (by omega) _ (List.getElem_mem hi)
  have e : (lineP m fr 0).ls[i].drop (m.length - 1) = [] := by
   have : (rowsP m fr 0)[i]'(by simpa [rowsP] using hi) = [] := by simp [h0]
   simpa [rowsP] using this
  simp only [List.getElem_map, List.getElem_zipWith, padC, Nat.lt_irrefl, if_false, Nat.add_zero]
  rw [List.drop_append_of_le_length hge, e, List.nil_append]
  rfl
theorem rows_succ {m : List (List (List Nt))} (hm : Vm m) {fr k : Nat} (h1 : 1 <= k) (hk : fr + k < manyP m) : rowsP m fr (k + 1) = extL (rowsP m fr k) (m.map fun h => cellsP (h.getD (fr + k) []) (segL (cutH fr k h) (-1))) := by
 have hl := line_len hm (fr := fr) (k := k) (by omega)
 have hw : wideP (rowsP m fr k) 0 + (m.length - 1) = wideP (lineP m fr k).ls 0 := wide_drop _ _ (rows_ge hm k (by omega)) (by intro e; rw [e] at hl; exact m_ne hm (List.length_eq_zero_iff.1 hl.symm))
 rw [rowsP, line_add fun h hh => by have := hm.bars h hh; omega]
 apply List.ext_getElem
 ·simp [extL, rowsP]
 ·intro i h1' h2'
  have hi : i < (lineP m fr k).ls.length := by simp at h1'; omega
  have hge := rows_ge hm (fr := fr) k (by omega) _ (List.getElem_mem hi)
  simp only [extL, List.getElem_map, List.getElem_zipWith, padC, if_pos (show 0 < k by omega), extR, rowsP]
  have e : wideP (List.map (List.drop (m.length - 1)) (lineP m fr k).ls) 0 - ((lineP m fr k).ls[i].drop (m.length - 1)).length = wideP (lineP m fr k).ls 0 - (lineP m fr k).ls[i].length := by
   rw [List.length_drop, <- hw]; unfold rowsP; omega
  rw [e, List.append_assoc, List.append_assoc, List.drop_append_of_le_length hge]
  simp only [List.append_assoc]
theorem cells_ne {l : List Nt} {last : Int} (h : ∀ n ∈ l, rightP n = true) (h0 : 0 < l.length) : cellsP l last ≠ [] /\ ∀ v ∈ cellsP l last, v ≠ 0 := by
 refine ⟨fun e => ?_, fun v hv => ?_⟩
 ·have := cells_ge l last; rw [e, List.length_nil] at this; omega
 ·have := cells_cells h v hv; omega
theorem getD_right {m : List (List (List Nt))} (hm : Vm m) {h : List (List Nt)} (hh : h ∈ m) {i : Nat} (hi : i < manyP m) : 0 < (h.getD i []).length /\ ∀ n ∈ h.getD i [], rightP n = true := by
 have hb := hm.bars h hh
 have := hm.notes h hh _ (getD_mem (l := h) (i := i) (by omega))
 exact ⟨this.2.1, this.2.2⟩
theorem bars_rows {m : List (List (List Nt))} (hm : Vm m) {fr : Nat} : ∀ k, 1 <= k -> fr + k <= manyP m -> barsP (rowsP m fr k) = m.map fun h => segC (cutH fr k h) (-1)
 | 0, h, _ => by omega
 | 1, _, hk => by
  rw [rows_one hm (by omega), bars_one (by simpa using m_ne hm)]
  ·rw [List.map_map]
   refine List.map_congr_left fun h hh => ?_
   rw [cutH_succ (by have := hm.bars h hh; omega)]
   rfl
  ·intro x hx
   obtain ⟨h, hh, rfl⟩ := List.mem_map.1 hx
   have := getD_right hm hh (i := fr) (by omega)
   exact cells_ne this.2 this.1
 | k + 2, _, hk => by
  have hl := line_len hm (fr := fr) (k := k + 1) (by omega)
  have hl' : (rowsP m fr (k + 1)).length = m.length := by simpa [rowsP] using hl
  rw [rows_succ hm (by omega) (by omega), bars_ext (by simpa using hl') (by intro e; rw [e] at hl'; exact m_ne hm (List.length_eq_zero_iff.1 hl'.symm)), bars_rows hm (k + 1) (by omega) (by omega)]
  ·rw [List.zipWith_map]
   have : ∀ l : List (List (List Nt)), (∀ h ∈ l, h ∈ m) -> List.zipWith (fun x y => segC (cutH fr (k + 1) x) (-1) ++ [cellsP (y.getD (fr + (k + 1)) []) (segL (cutH fr (k + 1) y) (-1))]) l l = l.map fun h => segC (cutH fr (k + 2) h) (-1) := by
    intro l
    induction l with
    | nil => intro _; rfl
    | cons a l ih =>
     intro h
     rw [List.zipWith_cons_cons, List.map_cons, ih fun x hx => h x (List.mem_cons_of_mem _ hx)]
     rw [cutH_succ (k := k + 1) (by have := hm.bars a (h a (List.mem_cons_self ..)); omega), (segC_snoc _ _ _).1]
   exact this m fun _ h => h
  ·intro x hx
   obtain ⟨h, hh, rfl⟩ := List.mem_map.1 hx
   have := getD_right hm hh (i := fr + (k + 1)) (by omega)
   exact cells_ne this.2 this.1
theorem handGo_seg : ∀ (bs : List (List Nt)) (last : Int) (acc : List (List Nt)), (∀ b ∈ bs, ∀ n ∈ b, rightP n = true) -> (-1 <= last /\ last <= 48) -> handGo (segC bs last) last acc = (acc ++ bs, true)
 | [], _, acc, _, _ => by simp [segC, handGo]
 | b :: r, last, acc, h, hl => by
  have hb := h b (List.mem_cons_self ..)
  rw [segC, handGo, parse_put hb hl]
  simp only
  rw [handGo_seg r (lastP b last) (acc ++ [b]) (fun x hx => h x (List.mem_cons_of_mem _ hx)) (last_rng hb hl)]
  simp
theorem handsGo_seg : ∀ (hs : List (List (List Nt))) (ms : List (List (List Nt))), ms.length = hs.length -> (∀ h ∈ hs, ∀ b ∈ h, ∀ n ∈ b, rightP n = true) -> handsGo (hs.map fun h => segC h (-1)) ms = (List.zipWith (fun x h => x ++ h) ms hs, true)
 | [], [], _, _ => rfl
 | h :: hs, x :: ms, hl, hr => by
  rw [List.map_cons, handsGo, handGo_seg h (-1) x (hr h (List.mem_cons_self ..)) (by omega)]
  rw [if_pos rfl, handsGo_seg hs ms (by simpa using hl) fun a ha => hr a (List.mem_cons_of_mem _ ha)]
  rfl
theorem mem_cutH {fr k : Nat} {h : List (List Nt)} {b : List Nt} (hb : b ∈ cutH fr k h) : b ∈ h := List.mem_of_mem_drop (List.mem_of_mem_take hb)
theorem guess_line {m : List (List (List Nt))} (hm : Vm m) {fr k : Nat} (h1 : 1 <= k) (hk : fr + k <= manyP m) (hw : wideP (lineP m fr k).ls 0 <= 40) (r : List (List (List Int))) (x : List (List (List Nt))) (hx : x.length = m.length) :
 guessGo m.length ((lineP m fr k).ls :: r) x = guessGo m.length r (List.zipWith (fun x h => x ++ h) x (m.map (cutH fr k))) := by
 have hbad : (lineP m fr k).ls.any (badC m.length) = false := by
  rw [List.any_eq_false]
  intro c hc
  have h1 := (wide_mono (lineP m fr k).ls 0).2 c hc
  have h2 := rows_ge hm k hk c hc
  simp [badC]; omega
 have hb := bars_rows hm k h1 hk
 unfold rowsP at hb
 rw [guessGo, hbad, if_neg (by simp), hb]
 have := handsGo_seg (m.map (cutH fr k)) x (by simpa using hx) fun h hh b hbh => by
  obtain ⟨a, ha, rfl⟩ := List.mem_map.1 hh
  exact (hm.notes a ha b (mem_cutH hbh)).2.2
 rw [List.map_map] at this
 rw [show (m.map fun h => segC (cutH fr k h) (-1)) = List.map ((fun h => segC h (-1)) ∘ cutH fr k) m from rfl, this, if_pos rfl]
end Go.Proofs.YtnncijjkbonokaaDoor
namespace Go.Proofs.YtnncijjkbonokaaDoor
open Go.RowKit Dak
def cutsP (m : List (List (List Nt))) (width : Int) : Nat -> Nat -> Nat -> List (Nat × Nat)
 | 0, fr, c => [(fr, c)]
 | k + 1, fr, c => if width < (wideP (lineP m fr (c + 1)).ls 0 : Nat) then (fr, c) :: cutsP m width k (fr + c) 1 else cutsP m width k fr (c + 1)
def pageOf (m : List (List (List Nt))) (l : List (Nat × Nat)) : List (List Int) := (l.map fun q => (lineP m q.1 q.2).ls).flatten
theorem line_one (m : List (List (List Nt))) (i : Nat) : lineP m i 1 = (firstP m.length).add m i := rfl
theorem enc_cuts (m : List (List (List Nt))) (width : Int) : ∀ (k fr c : Nat) (p : List (List Int)), encGo m width k (fr + c) (lineP m fr c) p = p ++ pageOf m (cutsP m width k fr c)
 | 0, fr, c, p => by simp [encGo, cutsP, pageOf]
 | k + 1, fr, c, p => by
  rw [encGo, cutsP]
  show (if width < ((wideP (lineP m fr (c + 1)).ls 0 : Nat) : Int) then _ else _) = _
  split
  ·rw [<- line_one, enc_cuts m width k (fr + c) 1]
   simp [pageOf]
  ·exact enc_cuts m width k fr (c + 1) p
def Chain (a b : Nat) : List (Nat × Nat) -> Prop
 | [] => a = b
 | q :: r => q.1 = a /\ 1 <= q.2 /\ a + q.2 <= b /\ Chain (a + q.2) b r
theorem cuts_chain (m : List (List (List Nt))) (width : Int) : ∀ (k fr c : Nat), 1 <= c \/ (c = 0 /\ 1 <= k /\ ¬ width < (wideP (lineP m fr 1).ls 0 : Nat)) -> Chain fr (fr + c + k) (cutsP m width k fr c)
 | 0, fr, c, h => by
  have : 1 <= c := by omega
  exact ⟨rfl, this, by omega, by simp [Chain]⟩
 | k + 1, fr, c, h => by
  rw [cutsP]
  split
  ·rename_i hw
   have hc : 1 <= c := by
    rcases h with h | ⟨rfl, _, h⟩
    ·exact h
    ·exact absurd hw h
   refine ⟨rfl, hc, by show fr + c <= _; omega, ?_⟩
   have := cuts_chain m width k (fr + c) 1 (.inl (Nat.le_refl _))
   rw [show fr + c + (k + 1) = fr + c + 1 + k by omega]
   exact this
  ·have := cuts_chain m width k fr (c + 1) (.inl (by omega))
   rw [show fr + c + (k + 1) = fr + (c + 1) + k by omega]
   exact this
theorem cuts_fit (m : List (List (List Nt))) (width : Int) (n : Nat) (h1 : ∀ i, i < n -> (wideP (lineP m i 1).ls 0 : Int) <= width) : ∀ (k fr c : Nat), fr + c + k <= n -> (wideP (lineP m fr c).ls 0 : Int) <= width -> ∀ q ∈ cutsP m width k fr c, (wideP (lineP m q.1 q.2).ls 0 : Int) <= width
 | 0, fr, c, _, hw, q, hq => by
  simp only [cutsP, List.mem_cons, List.not_mem_nil, or_false] at hq
  subst hq; exact hw
 | k + 1, fr, c, hn, hw, q, hq => by
  rw [cutsP] at hq
  split at hq
  ·rcases List.mem_cons.1 hq with rfl | hq
   ·exact hw
   ·exact cuts_fit m width n h1 k (fr + c) 1 (by omega) (h1 _ (by omega)) q hq
  ·rename_i hh
   exact cuts_fit m width n h1 k fr (c + 1) (by omega) (by omega) q hq
theorem enc_page {m : List (List (List Nt))} {width : Int} {p : List (List Int)} (h : encP m width = (p, 0)) :
 Vm m /\ 1 <= width /\ width <= 40 /\ ∃ l, l = cutsP m width (manyP m) 0 0 /\ p = pageOf m l /\ Chain 0 (manyP m) l /\ (∀ i, i < manyP m -> (wideP (lineP m i 1).ls 0 : Int) <= width) /\ ∀ q ∈ l, (wideP (lineP m q.1 q.2).ls 0 : Int) <= width := by
 unfold encP at h
 split at h
 ·rename_i hv; simp at h; exact absurd h.2 hv
 ·rename_i hv
  have hm := vm_of (Decidable.not_not.1 hv)
  split at h
  ·cases h
  ·rename_i hw
   split at h
   ·cases h
   ·rename_i ho
    have ho' : ∀ i, i < manyP m -> (wideP (lineP m i 1).ls 0 : Int) <= width := by
     intro i hi
     have := List.any_eq_false.1 (by simpa using ho) i (List.mem_range.2 hi)
     rw [line_one]
     simpa [overP] using this
    have hp := hm.pos
    simp only [Prod.mk.injEq, and_true] at h
    refine ⟨hm, by omega, by omega, _, rfl, ?_, ?_, ho', ?_⟩
    ·have := enc_cuts m width (manyP m) 0 0 []
     rw [List.nil_append] at this
     rw [<- h, <- this]; rfl
    ·have := cuts_chain m width (manyP m) 0 0 (.inr ⟨rfl, hp.1, by have := ho' 0 (by omega); omega⟩)
     rwa [show 0 + 0 + manyP m = manyP m by omega] at this
    ·refine cuts_fit m width (manyP m) ho' (manyP m) 0 0 (by omega) ?_
     have := first_wide m.length
     have : (lineP m 0 0) = firstP m.length := rfl
     rw [this]; omega
theorem page_cons (m : List (List (List Nt))) (q : Nat × Nat) (l : List (Nat × Nat)) : pageOf m (q :: l) = (lineP m q.1 q.2).ls ++ pageOf m l := rfl
theorem chain_le : ∀ {a b : Nat} {l : List (Nat × Nat)}, Chain a b l -> a + l.length <= b
 | a, b, [], h => by simp [Chain] at h; simp; omega
 | a, b, q :: r, h => by
  have := chain_le h.2.2.2
  have := h.2.1
  simp only [List.length_cons]; omega
theorem page_len {m : List (List (List Nt))} (hm : Vm m) : ∀ {a b : Nat} {l : List (Nat × Nat)}, Chain a b l -> b <= manyP m -> (pageOf m l).length = m.length * l.length
 | a, b, [], _, _ => by simp [pageOf]
 | a, b, q :: r, h, hb => by
  have h1 := h.1; have h2 := h.2.2.1
  rw [page_cons, List.length_append, page_len hm h.2.2.2 hb, line_len hm (by omega), List.length_cons, Nat.mul_add]; omega
theorem pieces_cons {n : Nat} (hn : 1 <= n) (s p : List (List Int)) (hs : s.length = n) (hd : p.length % n = 0) : pieces n (s ++ p) = s :: pieces n p := by
 unfold pieces
 have hl : (s ++ p).length / n = p.length / n + 1 := by
  rw [List.length_append, hs, Nat.add_comm, Nat.add_div_right _ hn]
 rw [hl, List.range_succ_eq_map, List.map_cons, List.map_map]
 congr 1
 ·rw [Nat.zero_mul, List.drop_zero, <- hs, List.take_left]
 ·refine List.map_congr_left fun k _ => ?_
  show List.take n (List.drop ((k + 1) * n) (s ++ p)) = _
  rw [Nat.add_mul, Nat.one_mul, Nat.add_comm, <- List.drop_drop, <- hs, List.drop_left]
theorem pieces_page {m : List (List (List Nt))} (hm : Vm m) : ∀ {a b : Nat} {l : List (Nat × Nat)}, Chain a b l -> b <= manyP m -> pieces m.length (pageOf m l) = l.map fun q => (lineP m q.1 q.2).ls
 | a, b, [], _, _ => by simp [pageOf, pieces]
 | a, b, q :: r, h, hb => by
  have h1 := h.1; have h2 := h.2.2.1
  have hn : 1 <= m.length := by rcases hm.hands with h | h <;> omega
  rw [page_cons, pieces_cons hn _ _ (line_len hm (by omega)), pieces_page hm h.2.2.2 hb]; rfl
  rw [page_len hm h.2.2.2 hb]; exact Nat.mul_mod_right _ _
theorem cutH_app {fr a b : Nat} {h : List (List Nt)} : cutH fr a h ++ cutH (fr + a) b h = cutH fr (a + b) h := by
 unfold cutH
 rw [List.take_add, List.drop_drop]
theorem zip_cut (m : List (List (List Nt))) (a b : Nat) : List.zipWith (fun x h => x ++ h) (m.map (cutH 0 a)) (m.map (cutH a b)) = m.map (cutH 0 (a + b)) := by
 induction m with
 | nil => rfl
 | cons h m ih =>
  simp only [List.map_cons, List.zipWith_cons_cons, ih]
  have := cutH_app (fr := 0) (a := a) (b := b) (h := h)
  rw [Nat.zero_add] at this
  rw [this]
theorem guess_lines {m : List (List (List Nt))} (hm : Vm m) {b : Nat} (hb : b <= manyP m) : ∀ {a : Nat} {l : List (Nat × Nat)}, Chain a b l -> (∀ q ∈ l, wideP (lineP m q.1 q.2).ls 0 <= 40) ->
 guessGo m.length (l.map fun q => (lineP m q.1 q.2).ls) (m.map (cutH 0 a)) = (m.map (cutH 0 b), true)
 | a, [], h, _ => by simp only [Chain] at h; subst h; rfl
 | a, q :: r, h, hw => by
  obtain ⟨fr, c⟩ := q
  obtain ⟨h1, h2, h3, h4⟩ := h
  simp only at h1 h2 h3 h4
  subst h1
  rw [List.map_cons, guess_line hm h2 (by show fr + c <= _; omega) (hw (fr, c) (List.mem_cons_self ..)) _ _ (by simp), zip_cut]
  exact guess_lines hm hb h4 fun x hx => hw x (List.mem_cons_of_mem _ hx)
theorem cut_all {m : List (List (List Nt))} (hm : Vm m) : m.map (cutH 0 (manyP m)) = m := by
 conv => rhs; rw [<- List.map_id m]
 refine List.map_congr_left fun h hh => ?_
 unfold cutH
 rw [List.drop_zero, List.take_of_length_le (by have := hm.bars h hh; omega)]; rfl
theorem guess_enc {m : List (List (List Nt))} {width : Int} {p : List (List Int)} (h : encP m width = (p, 0)) : guessP p m.length = (m, true) := by
 have hv : validE m = 0 := by
  unfold encP at h
  split at h
  ·rename_i hv; simp at h; exact absurd h.2 hv
  ·rename_i hv; exact Decidable.not_not.1 hv
 obtain ⟨hm, _, hw40, l, _, hp, hc, _, hfit⟩ := enc_page h
 have hl := page_len hm hc (Nat.le_refl _)
 have hle := chain_le hc
 have hpos := hm.pos
 have hn := hm.hands
 have hl1 : 1 <= l.length := by
  cases l with
  | nil => simp [Chain] at hc; omega
  | cons => simp
 rw [<- hp] at hl
 have hg : guessGo m.length (pieces m.length p) (List.replicate m.length []) = (m, true) := by
  rw [hp, pieces_page hm hc (Nat.le_refl _)]
  have := guess_lines hm (Nat.le_refl _) hc fun q hq => by have := hfit q hq; omega
  rw [cut_all hm] at this
  rw [<- this]
  congr 1
  apply List.ext_getElem (by simp)
  intro i h1 h2
  simp [cutH]
 unfold guessP
 rw [if_neg, hg, if_pos rfl, hv]
 ·rfl
 ·rintro (h0 | h0 | h0)
  ·rcases hn with e | e <;> rw [e] at hl <;> omega
  ·rw [hl, Nat.mul_mod_right] at h0; exact h0 rfl
  ·rcases hn with e | e <;> rw [e] at hl <;> omega
theorem chain_get : ∀ {a b : Nat} {l : List (Nat × Nat)}, Chain a b l -> ∀ q ∈ l, a <= q.1 /\ 1 <= q.2 /\ q.1 + q.2 <= b
 | a, b, [], h, q, hq => by cases hq
 | a, b, p :: r, h, q, hq => by
  obtain ⟨h1, h2, h3, h4⟩ := h
  rcases List.mem_cons.1 hq with rfl | hq
  ·omega
  ·have := chain_get h4 q hq; omega
theorem enc_err {m : List (List (List Nt))} (hm : Vm m) {w : Int} (hw : 1 <= w /\ w <= 40) : (∃ p, encP m w = (p, 0)) \/ encP m w = ([], 14) := by
 unfold encP
 rw [if_neg (by simpa using vm_valid hm), if_neg (by omega)]
 split
 ·exact .inr rfl
 ·exact .inl ⟨_, rfl⟩
theorem cell0 : (0 : Int) <= 0 /\ (0 : Int) < 64 := by decide
theorem line_cells {m : List (List (List Nt))} (hm : Vm m) {fr : Nat} : ∀ k, fr + k <= manyP m -> ∀ r ∈ (lineP m fr k).ls, ∀ x ∈ r, 0 <= x /\ x < 64
 | 0, _, r, hr, x, hx => by
  simp only [lineP, firstP] at hr
  split at hr
  ·simp only [List.mem_cons, List.not_mem_nil, or_false] at hr
   rcases hr with rfl | rfl
   ·simp at hx; omega
   ·simp at hx; omega
  ·rw [(List.mem_replicate.1 hr).2] at hx; cases hx
 | k + 1, hk, r, hr, x, hx => by
  rw [line_add (m := m) (fr := fr) (k := k) (fun h hh => by have := hm.bars h hh; omega)] at hr
  obtain ⟨i, hi, rfl⟩ := List.getElem_of_mem hr
  simp only [List.getElem_zipWith, List.getElem_map, List.mem_append] at hx
  have hl := line_len hm (fr := fr) (k := k) (by omega)
  have hi' : i < (lineP m fr k).ls.length := by simp at hi; omega
  rcases hx with hx | hx
  ·have ih := line_cells hm (fr := fr) k (by omega) _ (List.getElem_mem hi')
   unfold padC at hx
   split at hx
   ·simp only [List.mem_append, List.mem_replicate, List.mem_singleton] at hx
    rcases hx with (hx | hx) | hx
    ·exact ih x hx
    ·rw [hx.2]; exact cell0
    ·rw [hx]; exact cell0
   ·exact ih x hx
  ·have hr := getD_right hm (List.getElem_mem (l := m) (n := i) (by omega)) (i := fr + k) (by omega)
   have := cells_cells hr.2 x hx
   omega
theorem page_mem {m : List (List (List Nt))} {l : List (Nat × Nat)} {r : List Int} (h : r ∈ pageOf m l) : ∃ q ∈ l, r ∈ (lineP m q.1 q.2).ls := by
 unfold pageOf at h
 obtain ⟨s, hs, hr⟩ := List.mem_flatten.1 h
 obtain ⟨q, hq, rfl⟩ := List.mem_map.1 hs
 exact ⟨q, hq, hr⟩
theorem enc_rows {m : List (List (List Nt))} {w : Int} {p : List (List Int)} (h : encP m w = (p, 0)) : p.length <= 64 /\ 1 <= p.length /\ ∀ r ∈ p, (r.length : Int) <= w /\ ∀ x ∈ r, 0 <= x /\ x < 64 := by
 obtain ⟨hm, _, _, l, _, hp, hc, _, hf⟩ := enc_page h
 have hl := page_len hm hc (Nat.le_refl _)
 have hle := chain_le hc
 have hpos := hm.pos
 have hl1 : 1 <= l.length := by
  cases l with
  | nil => simp [Chain] at hc; omega
  | cons => simp
 refine ⟨?_, ?_, fun r hr => ?_⟩
 ·rw [hp, hl]; rcases hm.hands with e | e <;> rw [e] <;> omega
 ·rw [hp, hl]; rcases hm.hands with e | e <;> rw [e] <;> omega
 ·rw [hp] at hr
  obtain ⟨q, hq, hr⟩ := page_mem hr
  have hg := chain_get hc q hq
  have h1 := hf q hq
  have h2 := (wide_mono (lineP m q.1 q.2).ls 0).2 r hr
  exact ⟨by omega, line_cells hm q.2 hg.2.2 r hr⟩
end Go.Proofs.YtnncijjkbonokaaDoor
namespace Go.Proofs.YtnncijjkbonokaaDoor
open Dak
theorem f3 : fnC Tryd.prog 3 = some (c3, 112, [(.tmp 10)]) := by kernel_rfl
theorem f4 : fnC Tryd.prog 4 = some (c4, 96, [(.tmp 10)]) := by kernel_rfl
end Go.Proofs.YtnncijjkbonokaaDoor
