/- Whether questions and a limit are valid, by contract: the program's and the reference's. -/
import Derived.Test.YtphcaelkpgdbcaaPa
import Derived.Test.YtphcaelkpgdbcaaDz
set_option linter.unusedSimpArgs false
set_option linter.unusedVariables false
set_option linter.unusedSectionVars false
namespace Go.Proofs.Ytphcaelkpgdbcaa
open Go.RowKit Dak
def badN (n : Int) : Bool := decide (n < 0) || decide (1000000 < n)
theorem steps1_s (n : Int) : Ctr Try.prog 39 [vi n] (vb (badN n)) := by
  refine specE f39 (by simp) fun F0 w0 => ?_
  by_cases a : n < 0
  · have : badN n = true := by simp [badN, a]
    rw [this]
    simp only [c39, go_sem, List.replicate_succ, Nat.reducePow, Nat.reduceLeDiff, ↓reduceIte, reduceCtorEq, Nat.reduceLT, Nat.reduceEqDiff, Nat.reduceAdd, Nat.reduceSub, Nat.reduceMul, Int.reduceToNat, a]
    exact .tree _ rfl
  · have : badN n = decide (1000000 < n) := by simp [badN, a]
    rw [this]
    simp only [c39, go_sem, List.replicate_succ, Nat.reducePow, Nat.reduceLeDiff, ↓reduceIte, reduceCtorEq, Nat.reduceLT, Nat.reduceEqDiff, Nat.reduceAdd, Nat.reduceSub, Nat.reduceMul, Int.reduceToNat, a]
    exact .tree _ rfl
def idxGo : List Int → Nat → Int
  | [], _ => -1
  | x :: r, k => if badN x = true then k else idxGo r (k + 1)
theorem idxGo_any : ∀ (l : List Int) (k : Nat), decide (0 ≤ idxGo l k) = l.any badN
  | [], _ => rfl
  | x :: r, k => by
    rw [idxGo]
    cases h : badN x with
    | true => simp [h]
    | false => rw [if_neg (by simp), idxGo_any r (k + 1)]; simp [h]
set_option maxRecDepth 100000 in
theorem IndexFunc_s (l : List Int) (hl : l.length ≤ 9223372036854775806) : Ctr Try.prog 40 [vints l, .clo (.func 39) []] (vi (idxGo l 0)) := by
  refine specC f40 (by simp) fun F0 w0 => ?_
  unfold c40
  refine CwpE.cut (st := ⟨[(0, vints l), (1, .clo (.func 39) [])], []⟩) ?_ ?_
  · simp only [go_sem, List.replicate_succ, Nat.reducePow, Nat.reduceLeDiff, ↓reduceIte, reduceCtorEq, Nat.reduceLT, Nat.reduceEqDiff, Nat.reduceAdd, Nat.reduceSub, Nat.reduceMul, Int.reduceToNat]
    exact ⟨_, WkE.keep (by simp only [go_sem, List.replicate_succ, Nat.reducePow, Nat.reduceLeDiff, ↓reduceIte, reduceCtorEq, Nat.reduceLT, Nat.reduceEqDiff, Nat.reduceAdd, Nat.reduceSub, Nat.reduceMul, Int.reduceToNat]), rfl⟩
  refine CwpE.step (fun s => idxGo l 0 = -1 ∧ s = ⟨[], []⟩) ?_ ?_
  rotate_left
  · rintro s ⟨h, rfl⟩
    rw [h]
    refine CwpE.vc ?_
    simp only [go_sem, List.replicate_succ, Nat.reducePow, Nat.reduceLeDiff, ↓reduceIte, reduceCtorEq, Nat.reduceLT, Nat.reduceEqDiff, Nat.reduceAdd, Nat.reduceSub, Nat.reduceMul, Int.reduceToNat]
    exact .tree _ rfl
  simp only [go_sem, List.replicate_succ, Nat.reducePow, Nat.reduceLeDiff, ↓reduceIte, reduceCtorEq, Nat.reduceLT, Nat.reduceEqDiff, Nat.reduceAdd, Nat.reduceSub, Nat.reduceMul, Int.reduceToNat]
  refine loopX 0 (fun m s => ∃ k : Nat, m = l.length - k ∧ k ≤ l.length ∧ idxGo l 0 = idxGo (l.drop k) k ∧ s = ⟨[(0, vints l), (1, .clo (.func 39) []), (7, vi l.length), (8, vi k)], []⟩)
    (fun s => idxGo l 0 = -1 ∧ s = ⟨[], []⟩) l.length
    ⟨[(0, vints l), (1, .clo (.func 39) []), (7, vi l.length), (8, vi (0 : Nat))], []⟩ (WkE.keep (by simp only [go_sem, List.replicate_succ, Nat.reducePow, Nat.reduceLeDiff, ↓reduceIte, reduceCtorEq, Nat.reduceLT, Nat.reduceEqDiff, Nat.reduceAdd, Nat.reduceSub, Nat.reduceMul, Int.reduceToNat]; rfl)) ⟨0, by omega, by omega, rfl, rfl⟩ ?_ ?_
  rotate_left
  · rintro s ⟨h, rfl⟩
    simp only [go_sem, List.replicate_succ, Nat.reducePow, Nat.reduceLeDiff, ↓reduceIte, reduceCtorEq, Nat.reduceLT, Nat.reduceEqDiff, Nat.reduceAdd, Nat.reduceSub, Nat.reduceMul, Int.reduceToNat]
    exact ⟨_, .refl _ _, h, rfl⟩
  rintro m s ⟨k, rfl, hk, hi, rfl⟩
  by_cases hlt : k < l.length
  · have g1 : (k : Int) < (l.length : Int) := by omega
    have g0 : (0 : Int) ≤ (k : Int) := by omega
    have w1 : IntKind.i64.wrap ((k : Int) + 1) = ((k + 1 : Nat) : Int) := by rw [wrap_id (by omega) (by omega)]; omega
    rw [List.drop_eq_getElem_cons hlt, idxGo] at hi
    simp only [go_sem, List.replicate_succ, Nat.reducePow, Nat.reduceLeDiff, ↓reduceIte, reduceCtorEq, Nat.reduceLT, Nat.reduceEqDiff, Nat.reduceAdd, Nat.reduceSub, Nat.reduceMul, Int.reduceToNat, g1, g0, List.getElem?_map, List.getElem?_eq_getElem hlt]
    refine callT (steps1_s l[k]) rfl ?_
    cases hb : badN l[k] with
    | true =>
      rw [if_pos hb] at hi
      rw [hi]
      simp only [go_sem, List.replicate_succ, Nat.reducePow, Nat.reduceLeDiff, ↓reduceIte, reduceCtorEq, Nat.reduceLT, Nat.reduceEqDiff, Nat.reduceAdd, Nat.reduceSub, Nat.reduceMul, Int.reduceToNat]
      exact .tree _ rfl
    | false =>
      rw [if_neg (by rw [hb]; simp)] at hi
      simp only [go_sem, List.replicate_succ, Nat.reducePow, Nat.reduceLeDiff, ↓reduceIte, reduceCtorEq, Nat.reduceLT, Nat.reduceEqDiff, Nat.reduceAdd, Nat.reduceSub, Nat.reduceMul, Int.reduceToNat, w1]
      exact ⟨l.length - (k + 1), ⟨[(0, vints l), (1, .clo (.func 39) []), (7, vi l.length), (8, vi (k + 1 : Nat))], []⟩, by omega, WkE.keep (by simp only [go_sem, List.replicate_succ, Nat.reducePow, Nat.reduceLeDiff, ↓reduceIte, reduceCtorEq, Nat.reduceLT, Nat.reduceEqDiff, Nat.reduceAdd, Nat.reduceSub, Nat.reduceMul, Int.reduceToNat]), k + 1, rfl, by omega, hi, rfl⟩
  · have g1 : ¬ (k : Int) < (l.length : Int) := by omega
    rw [List.drop_eq_nil_of_le (by omega), idxGo] at hi
    simp only [go_sem, List.replicate_succ, Nat.reducePow, Nat.reduceLeDiff, ↓reduceIte, reduceCtorEq, Nat.reduceLT, Nat.reduceEqDiff, Nat.reduceAdd, Nat.reduceSub, Nat.reduceMul, Int.reduceToNat, g1]
    exact ⟨⟨[], []⟩, WkE.keep (by simp only [go_sem, List.replicate_succ, Nat.reducePow, Nat.reduceLeDiff, ↓reduceIte, reduceCtorEq, Nat.reduceLT, Nat.reduceEqDiff, Nat.reduceAdd, Nat.reduceSub, Nat.reduceMul, Int.reduceToNat]), hi, rfl⟩
theorem ContainsFunc_s (l : List Int) (hl : l.length ≤ 9223372036854775806) : Ctr Try.prog 38 [vints l, .clo (.func 39) []] (vb (l.any badN)) := by
  refine specE f38 (by simp) fun F0 w0 => ?_
  simp only [c38, go_sem, List.replicate_succ, Nat.reducePow, Nat.reduceLeDiff, ↓reduceIte, reduceCtorEq, Nat.reduceLT, Nat.reduceEqDiff, Nat.reduceAdd, Nat.reduceSub, Nat.reduceMul, Int.reduceToNat]
  refine callT (IndexFunc_s l hl) rfl ?_
  simp only [go_sem, List.replicate_succ, Nat.reducePow, Nat.reduceLeDiff, ↓reduceIte, reduceCtorEq, Nat.reduceLT, Nat.reduceEqDiff, Nat.reduceAdd, Nat.reduceSub, Nat.reduceMul, Int.reduceToNat, idxGo_any]
  exact .tree _ rfl
theorem steps_s (l : List Int) (hl : l.length ≤ 9223372036854775806) : Ctr Try.prog 34 [vints l] (vb (!l.any badN)) := by
  refine specE f34 (by simp) fun F0 w0 => ?_
  simp only [c34, go_sem, List.replicate_succ, Nat.reducePow, Nat.reduceLeDiff, ↓reduceIte, reduceCtorEq, Nat.reduceLT, Nat.reduceEqDiff, Nat.reduceAdd, Nat.reduceSub, Nat.reduceMul, Int.reduceToNat]
  refine callT (ContainsFunc_s l hl) rfl ?_
  simp only [go_sem, List.replicate_succ, Nat.reducePow, Nat.reduceLeDiff, ↓reduceIte, reduceCtorEq, Nat.reduceLT, Nat.reduceEqDiff, Nat.reduceAdd, Nat.reduceSub, Nat.reduceMul, Int.reduceToNat]
  exact .tree _ rfl
/-- Questions and a limit that are valid. -/
structure OkQ (p o : List Int) (lim : Int) : Prop where
  len : p.length = o.length
  most : p.length ≤ 48
  p : ∀ n ∈ p, 0 ≤ n ∧ n ≤ 1000000
  o : ∀ n ∈ o, 0 ≤ n ∧ n ≤ 1000000
  lim : 0 ≤ lim ∧ lim ≤ 2048
def validL (p o : List Int) (lim : Int) : Bool := decide (p.length = o.length) && (decide (p.length ≤ 48) && (!p.any badN && (!o.any badN && (decide (0 ≤ lim) && decide (lim ≤ 2048)))))
theorem any_bad {l : List Int} : (!l.any badN) = true ↔ ∀ n ∈ l, 0 ≤ n ∧ n ≤ 1000000 := by
  simp only [Bool.not_eq_true', List.any_eq_false, badN, Bool.or_eq_true, decide_eq_true_eq, not_or]
  constructor
  · intro h n hn; have := h n hn; omega
  · intro h n hn; have := h n hn; omega
theorem validL_ok {p o : List Int} {lim : Int} : validL p o lim = true ↔ OkQ p o lim := by
  unfold validL
  simp only [Bool.and_eq_true, decide_eq_true_eq, any_bad]
  exact ⟨fun ⟨a, b, c, d, e, f⟩ => ⟨a, b, c, d, e, f⟩, fun ⟨a, b, c, d, e, f⟩ => ⟨a, b, c, d, e, f⟩⟩
set_option maxRecDepth 100000 in
theorem valid_s (p o : List Int) (lim : Int) (hp : p.length ≤ 9223372036854775806) (ho : o.length ≤ 9223372036854775806) : Ctr Try.prog 25 [vints p, vints o, vi lim] (vb (validL p o lim)) := by
  refine specE f25 (by simp) fun F0 w0 => ?_
  by_cases a : p.length = o.length
  rotate_left
  · have a' : ¬ (p.length : Int) = (o.length : Int) := by omega
    have hv : validL p o lim = false := by simp [validL, a]
    rw [hv]
    simp only [c25, go_sem, List.replicate_succ, Nat.reducePow, Nat.reduceLeDiff, ↓reduceIte, reduceCtorEq, Nat.reduceLT, Nat.reduceEqDiff, Nat.reduceAdd, Nat.reduceSub, Nat.reduceMul, Int.reduceToNat, a']
    exact .tree _ rfl
  have a' : ((p.length : Int) = (o.length : Int)) = True := eq_true (by omega)
  by_cases b : p.length ≤ 48
  rotate_left
  · have b' : ¬ (p.length : Int) ≤ 48 := by omega
    have hv : validL p o lim = false := by simp only [validL, a, b]; simp [← a, b]
    rw [hv]
    simp only [c25, go_sem, List.replicate_succ, Nat.reducePow, Nat.reduceLeDiff, ↓reduceIte, reduceCtorEq, Nat.reduceLT, Nat.reduceEqDiff, Nat.reduceAdd, Nat.reduceSub, Nat.reduceMul, Int.reduceToNat, a', b']
    exact .tree _ rfl
  have b' : (p.length : Int) ≤ 48 := by omega
  have hv : validL p o lim = (!p.any badN && (!o.any badN && (decide (0 ≤ lim) && decide (lim ≤ 2048)))) := by
    have e1 : decide (p.length = o.length) = true := decide_eq_true a
    have e2 : decide (p.length ≤ 48) = true := decide_eq_true b
    rw [validL, e1, e2, Bool.true_and, Bool.true_and]
  rw [hv]
  simp only [c25, go_sem, List.replicate_succ, Nat.reducePow, Nat.reduceLeDiff, ↓reduceIte, reduceCtorEq, Nat.reduceLT, Nat.reduceEqDiff, Nat.reduceAdd, Nat.reduceSub, Nat.reduceMul, Int.reduceToNat, a', b']
  refine callT (steps_s p hp) rfl ?_
  cases p.any badN with
  | true =>
    simp only [go_sem, List.replicate_succ, Nat.reducePow, Nat.reduceLeDiff, ↓reduceIte, reduceCtorEq, Nat.reduceLT, Nat.reduceEqDiff, Nat.reduceAdd, Nat.reduceSub, Nat.reduceMul, Int.reduceToNat]
    exact .tree _ rfl
  | false =>
    simp only [go_sem, List.replicate_succ, Nat.reducePow, Nat.reduceLeDiff, ↓reduceIte, reduceCtorEq, Nat.reduceLT, Nat.reduceEqDiff, Nat.reduceAdd, Nat.reduceSub, Nat.reduceMul, Int.reduceToNat]
    refine callT (steps_s o ho) rfl ?_
    cases o.any badN with
    | true =>
      simp only [go_sem, List.replicate_succ, Nat.reducePow, Nat.reduceLeDiff, ↓reduceIte, reduceCtorEq, Nat.reduceLT, Nat.reduceEqDiff, Nat.reduceAdd, Nat.reduceSub, Nat.reduceMul, Int.reduceToNat]
      exact .tree _ rfl
    | false =>
      by_cases c : 0 ≤ lim
      · simp only [go_sem, List.replicate_succ, Nat.reducePow, Nat.reduceLeDiff, ↓reduceIte, reduceCtorEq, Nat.reduceLT, Nat.reduceEqDiff, Nat.reduceAdd, Nat.reduceSub, Nat.reduceMul, Int.reduceToNat, c]
        exact .tree _ rfl
      · simp only [go_sem, List.replicate_succ, Nat.reducePow, Nat.reduceLeDiff, ↓reduceIte, reduceCtorEq, Nat.reduceLT, Nat.reduceEqDiff, Nat.reduceAdd, Nat.reduceSub, Nat.reduceMul, Int.reduceToNat, c]
        exact .tree _ rfl
theorem any_take {l : List Int} {k : Nat} (h : k < l.length) : (l.take (k + 1)).any badN = ((l.take k).any badN || badN l[k]) := by
  rw [List.take_succ_eq_append_getElem h, List.any_append]; simp
set_option maxRecDepth 100000 in
set_option maxHeartbeats 2000000 in
theorem refValid_s (p o : List Int) (lim : Int) : Ctr Try.prog 28 [vints p, vints o, vi lim] (vb (validL p o lim)) := by
  refine specC f28 (by simp) fun F0 w0 => ?_
  unfold c28
  refine CwpE.cut (st := ⟨[(0, vints p), (1, vints o), (2, vi lim)], []⟩) ?_ ?_
  · simp only [go_sem, List.replicate_succ, Nat.reducePow, Nat.reduceLeDiff, ↓reduceIte, reduceCtorEq, Nat.reduceLT, Nat.reduceEqDiff, Nat.reduceAdd, Nat.reduceSub, Nat.reduceMul, Int.reduceToNat]
    exact ⟨_, WkE.keep (by simp only [go_sem, List.replicate_succ, Nat.reducePow, Nat.reduceLeDiff, ↓reduceIte, reduceCtorEq, Nat.reduceLT, Nat.reduceEqDiff, Nat.reduceAdd, Nat.reduceSub, Nat.reduceMul, Int.reduceToNat]), rfl⟩
  by_cases a : p.length = o.length
  rotate_left
  · have a' : ¬ (p.length : Int) = (o.length : Int) := by omega
    have hv : validL p o lim = false := by simp [validL, a]
    rw [hv]
    refine CwpE.vc ?_
    simp only [go_sem, List.replicate_succ, Nat.reducePow, Nat.reduceLeDiff, ↓reduceIte, reduceCtorEq, Nat.reduceLT, Nat.reduceEqDiff, Nat.reduceAdd, Nat.reduceSub, Nat.reduceMul, Int.reduceToNat, a']
    exact .tree _ rfl
  have a' : ((p.length : Int) = (o.length : Int)) = True := eq_true (by omega)
  by_cases b : p.length ≤ 48
  rotate_left
  · have b' : (48 : Int) < (p.length : Int) := by omega
    have hv : validL p o lim = false := by simp only [validL, a, b]; simp [← a, b]
    rw [hv]
    refine CwpE.vc ?_
    simp only [go_sem, List.replicate_succ, Nat.reducePow, Nat.reduceLeDiff, ↓reduceIte, reduceCtorEq, Nat.reduceLT, Nat.reduceEqDiff, Nat.reduceAdd, Nat.reduceSub, Nat.reduceMul, Int.reduceToNat, a', b']
    exact .tree _ rfl
  have b' : ¬ (48 : Int) < (p.length : Int) := by omega
  have hv : validL p o lim = (!p.any badN && (!o.any badN && (decide (0 ≤ lim) && decide (lim ≤ 2048)))) := by
    have e1 : decide (p.length = o.length) = true := decide_eq_true a
    have e2 : decide (p.length ≤ 48) = true := decide_eq_true b
    rw [validL, e1, e2, Bool.true_and, Bool.true_and]
  by_cases c : lim < 0
  · have hv : validL p o lim = false := by rw [hv]; simp; omega
    rw [hv]
    refine CwpE.vc ?_
    simp only [go_sem, List.replicate_succ, Nat.reducePow, Nat.reduceLeDiff, ↓reduceIte, reduceCtorEq, Nat.reduceLT, Nat.reduceEqDiff, Nat.reduceAdd, Nat.reduceSub, Nat.reduceMul, Int.reduceToNat, a', b', c]
    exact .tree _ rfl
  by_cases d : 2048 < lim
  · have hv : validL p o lim = false := by rw [hv]; simp; omega
    rw [hv]
    refine CwpE.vc ?_
    simp only [go_sem, List.replicate_succ, Nat.reducePow, Nat.reduceLeDiff, ↓reduceIte, reduceCtorEq, Nat.reduceLT, Nat.reduceEqDiff, Nat.reduceAdd, Nat.reduceSub, Nat.reduceMul, Int.reduceToNat, a', b', c, d]
    exact .tree _ rfl
  have hv : validL p o lim = (!p.any badN && !o.any badN) := by
    rw [hv]
    have e1 : decide (0 ≤ lim) = true := by rw [decide_eq_true_iff]; omega
    have e2 : decide (lim ≤ 2048) = true := by rw [decide_eq_true_iff]; omega
    rw [e1, e2]; simp
  rw [hv]
  refine CwpE.cut (st := ⟨[(0, vints p), (1, vints o), (2, vi lim)], []⟩) ?_ ?_
  · simp only [go_sem, List.replicate_succ, Nat.reducePow, Nat.reduceLeDiff, ↓reduceIte, reduceCtorEq, Nat.reduceLT, Nat.reduceEqDiff, Nat.reduceAdd, Nat.reduceSub, Nat.reduceMul, Int.reduceToNat, a', b', c, d]
    exact ⟨_, WkE.keep (by simp only [go_sem, List.replicate_succ, Nat.reducePow, Nat.reduceLeDiff, ↓reduceIte, reduceCtorEq, Nat.reduceLT, Nat.reduceEqDiff, Nat.reduceAdd, Nat.reduceSub, Nat.reduceMul, Int.reduceToNat]), rfl⟩
  refine CwpE.step (fun s => (!p.any badN && !o.any badN) = true ∧ s = ⟨[], []⟩) ?_ ?_
  rotate_left
  · rintro s ⟨h, rfl⟩
    rw [h]
    refine CwpE.vc ?_
    simp only [go_sem, List.replicate_succ, Nat.reducePow, Nat.reduceLeDiff, ↓reduceIte, reduceCtorEq, Nat.reduceLT, Nat.reduceEqDiff, Nat.reduceAdd, Nat.reduceSub, Nat.reduceMul, Int.reduceToNat]
    exact .tree _ rfl
  simp only [go_sem, List.replicate_succ, Nat.reducePow, Nat.reduceLeDiff, ↓reduceIte, reduceCtorEq, Nat.reduceLT, Nat.reduceEqDiff, Nat.reduceAdd, Nat.reduceSub, Nat.reduceMul, Int.reduceToNat]
  refine loopX 0 (fun m s => ∃ k : Nat, m = p.length - k ∧ k ≤ p.length ∧ (p.take k).any badN = false ∧ (o.take k).any badN = false ∧ s = ⟨[(0, vints p), (1, vints o), (7, vi k)], []⟩)
    (fun s => (!p.any badN && !o.any badN) = true ∧ s = ⟨[], []⟩) p.length
    ⟨[(0, vints p), (1, vints o), (7, vi (0 : Nat))], []⟩ (WkE.keep (by simp only [go_sem, List.replicate_succ, Nat.reducePow, Nat.reduceLeDiff, ↓reduceIte, reduceCtorEq, Nat.reduceLT, Nat.reduceEqDiff, Nat.reduceAdd, Nat.reduceSub, Nat.reduceMul, Int.reduceToNat]; rfl)) ⟨0, by omega, by omega, by simp, by simp, rfl⟩ ?_ ?_
  rotate_left
  · rintro s ⟨h, rfl⟩
    simp only [go_sem, List.replicate_succ, Nat.reducePow, Nat.reduceLeDiff, ↓reduceIte, reduceCtorEq, Nat.reduceLT, Nat.reduceEqDiff, Nat.reduceAdd, Nat.reduceSub, Nat.reduceMul, Int.reduceToNat]
    exact ⟨_, .refl _ _, h, rfl⟩
  rintro m s ⟨k, rfl, hk, hip, hio, rfl⟩
  by_cases hlt : k < p.length
  · have hlo : k < o.length := by omega
    have g1 : (k : Int) < (p.length : Int) := by omega
    have g2 : (k : Int) < (o.length : Int) := by omega
    have g0 : (0 : Int) ≤ (k : Int) := by omega
    have w1 : IntKind.i64.wrap ((k : Int) + 1) = ((k + 1 : Nat) : Int) := by rw [wrap_id (by omega) (by omega)]; omega
    have badp : badN p[k] = true → (!p.any badN && !o.any badN) = false := fun h => by
      have : p.any badN = true := List.any_eq_true.2 ⟨_, List.getElem_mem hlt, h⟩
      rw [this]; rfl
    have bado : badN o[k] = true → (!p.any badN && !o.any badN) = false := fun h => by
      have : o.any badN = true := List.any_eq_true.2 ⟨_, List.getElem_mem hlo, h⟩
      rw [this]; simp
    by_cases n1 : p[k] < 0
    · rw [badp (by simp [badN, n1])]
      simp only [go_sem, List.replicate_succ, Nat.reducePow, Nat.reduceLeDiff, ↓reduceIte, reduceCtorEq, Nat.reduceLT, Nat.reduceEqDiff, Nat.reduceAdd, Nat.reduceSub, Nat.reduceMul, Int.reduceToNat, g0, g1, g2, List.getElem?_map, List.getElem?_eq_getElem hlt, List.getElem?_eq_getElem hlo, n1]
      exact .tree _ rfl
    by_cases n2 : 1000000 < p[k]
    · rw [badp (by simp [badN, n2])]
      simp only [go_sem, List.replicate_succ, Nat.reducePow, Nat.reduceLeDiff, ↓reduceIte, reduceCtorEq, Nat.reduceLT, Nat.reduceEqDiff, Nat.reduceAdd, Nat.reduceSub, Nat.reduceMul, Int.reduceToNat, g0, g1, g2, List.getElem?_map, List.getElem?_eq_getElem hlt, List.getElem?_eq_getElem hlo, n1, n2]
      exact .tree _ rfl
    by_cases n3 : o[k] < 0
    · rw [bado (by simp [badN, n3])]
      simp only [go_sem, List.replicate_succ, Nat.reducePow, Nat.reduceLeDiff, ↓reduceIte, reduceCtorEq, Nat.reduceLT, Nat.reduceEqDiff, Nat.reduceAdd, Nat.reduceSub, Nat.reduceMul, Int.reduceToNat, g0, g1, g2, List.getElem?_map, List.getElem?_eq_getElem hlt, List.getElem?_eq_getElem hlo, n1, n2, n3]
      exact .tree _ rfl
    by_cases n4 : 1000000 < o[k]
    · rw [bado (by simp [badN, n4])]
      simp only [go_sem, List.replicate_succ, Nat.reducePow, Nat.reduceLeDiff, ↓reduceIte, reduceCtorEq, Nat.reduceLT, Nat.reduceEqDiff, Nat.reduceAdd, Nat.reduceSub, Nat.reduceMul, Int.reduceToNat, g0, g1, g2, List.getElem?_map, List.getElem?_eq_getElem hlt, List.getElem?_eq_getElem hlo, n1, n2, n3, n4]
      exact .tree _ rfl
    simp only [go_sem, List.replicate_succ, Nat.reducePow, Nat.reduceLeDiff, ↓reduceIte, reduceCtorEq, Nat.reduceLT, Nat.reduceEqDiff, Nat.reduceAdd, Nat.reduceSub, Nat.reduceMul, Int.reduceToNat, g0, g1, g2, List.getElem?_map, List.getElem?_eq_getElem hlt, List.getElem?_eq_getElem hlo, n1, n2, n3, n4, w1]
    exact ⟨p.length - (k + 1), ⟨[(0, vints p), (1, vints o), (7, vi (k + 1 : Nat))], []⟩, by omega, WkE.keep (by simp only [go_sem, List.replicate_succ, Nat.reducePow, Nat.reduceLeDiff, ↓reduceIte, reduceCtorEq, Nat.reduceLT, Nat.reduceEqDiff, Nat.reduceAdd, Nat.reduceSub, Nat.reduceMul, Int.reduceToNat]), k + 1, rfl, by omega, by rw [any_take hlt, hip]; simp [badN, n1, n2], by rw [any_take hlo, hio]; simp [badN, n3, n4], rfl⟩
  · have g1 : ¬ (k : Int) < (p.length : Int) := by omega
    obtain rfl : k = p.length := by omega
    rw [List.take_length] at hip
    rw [a, List.take_length] at hio
    simp only [go_sem, List.replicate_succ, Nat.reducePow, Nat.reduceLeDiff, ↓reduceIte, reduceCtorEq, Nat.reduceLT, Nat.reduceEqDiff, Nat.reduceAdd, Nat.reduceSub, Nat.reduceMul, Int.reduceToNat, g1]
    exact ⟨⟨[], []⟩, WkE.keep (by simp only [go_sem, List.replicate_succ, Nat.reducePow, Nat.reduceLeDiff, ↓reduceIte, reduceCtorEq, Nat.reduceLT, Nat.reduceEqDiff, Nat.reduceAdd, Nat.reduceSub, Nat.reduceMul, Int.reduceToNat]), by rw [hip, hio]; rfl, rfl⟩
end Go.Proofs.Ytphcaelkpgdbcaa
