/- Sums over sets, Check: plain, the program's and the reference's by contract. -/
import Derived.Test.YtphcaelkpgdbcaaPm
set_option linter.unusedSimpArgs false
set_option linter.unusedVariables false
set_option linter.unusedSectionVars false
namespace Go.Proofs.Ytphcaelkpgdbcaa
open Go.RowKit Dak
/-- The sum on from acc, of a set that goes on from last; -1: it does not rise, or leaves the list. -/
def sumGo (l : List Int) : Int → Int → List Int → Int
  | _, acc, [] => acc
  | last, acc, x :: r => if last < x ∧ x < (l.length : Int) then sumGo l x (acc + l.getD x.toNat 0) r else -1
def sumL (l S : List Int) : Int := sumGo l (-1) 0 S
theorem getD_bd {l : List Int} {M : Int} (h : ∀ x ∈ l, 0 ≤ x ∧ x ≤ M) {k : Nat} (hk : k < l.length) : 0 ≤ l.getD k 0 ∧ l.getD k 0 ≤ M := h _ (List.mem_of_getElem? (getD_get hk))
set_option maxRecDepth 100000 in
set_option maxHeartbeats 4000000 in
theorem Sum_s (l S : List Int) (hl : l.length ≤ 48) (hb : ∀ x ∈ l, 0 ≤ x ∧ x ≤ 1000000) (hS : S.length ≤ 1000000000) : Ctr Try.prog 21 [vints l, vints S] (vi (sumL l S)) := by
  refine specC f21 (by simp) fun F0 w0 => ?_
  obtain ⟨r, hr⟩ : ∃ r, sumL l S = r := ⟨_, rfl⟩
  rw [hr]
  unfold c21
  refine CwpE.cut (st := ⟨[(0, vints l), (1, vints S)], []⟩) ?_ ?_
  · simp only [go_sem, List.replicate_succ, Nat.reducePow, Nat.reduceLeDiff, ↓reduceIte, reduceCtorEq, Nat.reduceLT, Nat.reduceEqDiff, Nat.reduceAdd, Nat.reduceSub, Nat.reduceMul, Int.reduceToNat]
    exact ⟨_, WkE.keep (by simp only [go_sem, List.replicate_succ, Nat.reducePow, Nat.reduceLeDiff, ↓reduceIte, reduceCtorEq, Nat.reduceLT, Nat.reduceEqDiff, Nat.reduceAdd, Nat.reduceSub, Nat.reduceMul, Int.reduceToNat]), rfl⟩
  refine CwpE.cut (st := ⟨[(0, vints l), (1, vints S), (5, vi 0)], []⟩) ?_ ?_
  · simp only [go_sem, List.replicate_succ, Nat.reducePow, Nat.reduceLeDiff, ↓reduceIte, reduceCtorEq, Nat.reduceLT, Nat.reduceEqDiff, Nat.reduceAdd, Nat.reduceSub, Nat.reduceMul, Int.reduceToNat]
    exact ⟨_, WkE.keep (by simp only [go_sem, List.replicate_succ, Nat.reducePow, Nat.reduceLeDiff, ↓reduceIte, reduceCtorEq, Nat.reduceLT, Nat.reduceEqDiff, Nat.reduceAdd, Nat.reduceSub, Nat.reduceMul, Int.reduceToNat]), rfl⟩
  refine CwpE.cut (st := ⟨[(5, vi r)], []⟩) ?_ ?_
  rotate_left
  · refine CwpE.vc ?_
    simp only [go_sem, List.replicate_succ, Nat.reducePow, Nat.reduceLeDiff, ↓reduceIte, reduceCtorEq, Nat.reduceLT, Nat.reduceEqDiff, Nat.reduceAdd, Nat.reduceSub, Nat.reduceMul, Int.reduceToNat]
    exact .tree _ rfl
  simp only [go_sem, List.replicate_succ, Nat.reducePow, Nat.reduceLeDiff, ↓reduceIte, reduceCtorEq, Nat.reduceLT, Nat.reduceEqDiff, Nat.reduceAdd, Nat.reduceSub, Nat.reduceMul, Int.reduceToNat]
  refine loopXC 0 (fun m' s => ∃ (i : Nat) (last acc : Int), m' = S.length - i ∧ i ≤ S.length ∧ sumGo l last acc (S.drop i) = r ∧ (i = 0 ∧ last = -1 ∨ ∃ k, i = k + 1 ∧ S[k]? = some last ∧ 0 ≤ last) ∧ last < (l.length : Int) ∧ -1 ≤ last ∧ 0 ≤ acc ∧ acc ≤ (last + 1) * 1000000 ∧
      s = ⟨[(0, vints l), (1, vints S), (5, vi acc), (6, vi i)], []⟩)
    (fun s => s = ⟨[(5, vi r)], []⟩) S.length
    ⟨[(0, vints l), (1, vints S), (5, vi 0), (6, vi (0 : Nat))], []⟩ (WkE.keep (by simp only [go_sem, List.replicate_succ, Nat.reducePow, Nat.reduceLeDiff, ↓reduceIte, reduceCtorEq, Nat.reduceLT, Nat.reduceEqDiff, Nat.reduceAdd, Nat.reduceSub, Nat.reduceMul, Int.reduceToNat]; rfl)) ⟨0, -1, 0, by omega, by omega, hr, .inl ⟨rfl, rfl⟩, by omega, by omega, by omega, by omega, rfl⟩ ?_ ?_
  rotate_left
  · rintro s rfl
    simp only [go_sem, List.replicate_succ, Nat.reducePow, Nat.reduceLeDiff, ↓reduceIte, reduceCtorEq, Nat.reduceLT, Nat.reduceEqDiff, Nat.reduceAdd, Nat.reduceSub, Nat.reduceMul, Int.reduceToNat]
    exact ⟨_, .refl _ _, rfl⟩
  rintro m' s ⟨i, last, acc, rfl, hi, hE, hlast, hl1, hl2, ha0, ha1, rfl⟩
  refine CwpE.vc ?_
  by_cases hlt : i < S.length
  rotate_left
  · obtain rfl : i = S.length := by omega
    rw [List.drop_length] at hE
    unfold sumGo at hE
    subst hE
    simp only [go_sem, List.replicate_succ, Nat.reducePow, Nat.reduceLeDiff, ↓reduceIte, reduceCtorEq, Nat.reduceLT, Nat.reduceEqDiff, Nat.reduceAdd, Nat.reduceSub, Nat.reduceMul, Int.reduceToNat, Int.lt_irrefl]
    exact ⟨_, WkE.keep (by simp only [go_sem, List.replicate_succ, Nat.reducePow, Nat.reduceLeDiff, ↓reduceIte, reduceCtorEq, Nat.reduceLT, Nat.reduceEqDiff, Nat.reduceAdd, Nat.reduceSub, Nat.reduceMul, Int.reduceToNat]), rfl⟩
  have g0 : (0 : Int) ≤ (i : Int) := by omega
  have g1 : (i : Int) < (S.length : Int) := by omega
  have w1 : IntKind.i64.wrap ((i : Int) + 1) = ((i + 1 : Nat) : Int) := by rw [wrap_id (by omega) (by omega)]; omega
  have hSi : S[i]? = some S[i] := List.getElem?_eq_getElem hlt
  rw [List.drop_eq_getElem_cons hlt, sumGo] at hE
  generalize S[i] = x at hSi hE
  by_cases hx0 : x < 0
  · rw [if_neg (by omega)] at hE
    subst hE
    simp only [go_sem, List.replicate_succ, Nat.reducePow, Nat.reduceLeDiff, ↓reduceIte, reduceCtorEq, Nat.reduceLT, Nat.reduceEqDiff, Nat.reduceAdd, Nat.reduceSub, Nat.reduceMul, Int.reduceToNat, g0, g1, List.getElem?_map, hSi, hx0]
    exact .tree _ rfl
  by_cases hxn : (l.length : Int) ≤ x
  · rw [if_neg (by omega)] at hE
    subst hE
    simp only [go_sem, List.replicate_succ, Nat.reducePow, Nat.reduceLeDiff, ↓reduceIte, reduceCtorEq, Nat.reduceLT, Nat.reduceEqDiff, Nat.reduceAdd, Nat.reduceSub, Nat.reduceMul, Int.reduceToNat, g0, g1, List.getElem?_map, hSi, hx0, hxn]
    exact .tree _ rfl
  have x0 : 0 ≤ x := by omega
  have xn : x < (l.length : Int) := by omega
  have hlx : l[x.toNat]? = some (l.getD x.toNat 0) := getD_get (by omega)
  have hlb := getD_bd hb (show x.toNat < l.length by omega)
  generalize l.getD x.toNat 0 = y at hlx hlb hE
  have w2 : IntKind.i64.wrap (acc + y) = acc + y := wrap_id (by omega) (by omega)
  rcases hlast with ⟨rfl, rfl⟩ | ⟨k, rfl, hk, hk0⟩
  · rw [if_pos ⟨by omega, xn⟩] at hE
    have gi : ¬ (0 : Int) < ((0 : Nat) : Int) := by omega
    simp only [go_sem, List.replicate_succ, Nat.reducePow, Nat.reduceLeDiff, ↓reduceIte, reduceCtorEq, Nat.reduceLT, Nat.reduceEqDiff, Nat.reduceAdd, Nat.reduceSub, Nat.reduceMul, Int.reduceToNat, g0, g1, List.getElem?_map, hSi, hx0, hxn, gi, x0, hlx, w1, w2]
    exact ⟨S.length - (0 + 1), ⟨[(0, vints l), (1, vints S), (5, vi (acc + y)), (6, vi (0 + 1 : Nat))], []⟩, by omega, WkE.keep (by simp only [go_sem, List.replicate_succ, Nat.reducePow, Nat.reduceLeDiff, ↓reduceIte, reduceCtorEq, Nat.reduceLT, Nat.reduceEqDiff, Nat.reduceAdd, Nat.reduceSub, Nat.reduceMul, Int.reduceToNat]), 0 + 1, x, acc + y, rfl, by omega, hE, .inr ⟨0, rfl, hSi, x0⟩, xn, by omega, by omega, by omega, rfl⟩
  · have gi : (0 : Int) < ((k + 1 : Nat) : Int) := by omega
    have w3 : IntKind.i64.wrap (((k + 1 : Nat) : Int) - 1) = (k : Int) := by rw [wrap_id (by omega) (by omega)]; omega
    have k0 : (0 : Int) ≤ (k : Int) := by omega
    have kn : ¬ (k : Int) < 0 := by omega
    by_cases hle : x ≤ last
    · rw [if_neg (by omega)] at hE
      subst hE
      simp only [go_sem, List.replicate_succ, Nat.reducePow, Nat.reduceLeDiff, ↓reduceIte, reduceCtorEq, Nat.reduceLT, Nat.reduceEqDiff, Nat.reduceAdd, Nat.reduceSub, Nat.reduceMul, Int.reduceToNat, g0, g1, List.getElem?_map, hSi, hx0, hxn, gi, w3, k0, kn, hk, hle]
      exact .tree _ rfl
    · rw [if_pos ⟨by omega, xn⟩] at hE
      simp only [go_sem, List.replicate_succ, Nat.reducePow, Nat.reduceLeDiff, ↓reduceIte, reduceCtorEq, Nat.reduceLT, Nat.reduceEqDiff, Nat.reduceAdd, Nat.reduceSub, Nat.reduceMul, Int.reduceToNat, g0, g1, List.getElem?_map, hSi, hx0, hxn, gi, w3, k0, kn, hk, hle, x0, hlx, w1, w2]
      exact ⟨S.length - (k + 1 + 1), ⟨[(0, vints l), (1, vints S), (5, vi (acc + y)), (6, vi (k + 1 + 1 : Nat))], []⟩, by omega, WkE.keep (by simp only [go_sem, List.replicate_succ, Nat.reducePow, Nat.reduceLeDiff, ↓reduceIte, reduceCtorEq, Nat.reduceLT, Nat.reduceEqDiff, Nat.reduceAdd, Nat.reduceSub, Nat.reduceMul, Int.reduceToNat]), k + 1 + 1, x, acc + y, rfl, by omega, hE, .inr ⟨k + 1, rfl, hSi, x0⟩, xn, by omega, by omega, by omega, rfl⟩
/-- Whether a certificate is accepted: an error. -/
def checkL (p o : List Int) (lim t : Int) (S : List Int) (T : List (List Int)) : Int :=
  if validL p o lim = true then (if t = timeL p o lim.toNat ∧ T = tabA p o lim.toNat ∧ 0 ≤ sumL p S ∧ sumL p S ≤ lim ∧ sumL o S = t then 0 else 19) else 1
set_option maxRecDepth 100000 in
set_option maxHeartbeats 4000000 in
theorem refCheck_s (p o : List Int) (lim t : Int) (S : List Int) (T : List (List Int)) (hp : p.length ≤ 1000000) (ho : o.length ≤ 1000000) (hS : S.length ≤ 1000000000) (hT : T.length ≤ 1000000) (hT2 : ∀ x ∈ T, x.length ≤ 1000000) :
    Ctr Try.prog 19 [vints p, vints o, vi lim, certV t S T] (vi (checkL p o lim t S T)) := by
  refine specC f19 (by simp) fun F0 w0 => ?_
  unfold c19
  refine CwpE.cut (st := ⟨[(0, vints p), (1, vints o), (2, vi lim), (7, .ref 0 1 0 0)], [.arr 1 3 34 [certV t S T]]⟩) ?_ ?_
  · simp only [go_sem, List.replicate_succ, Nat.reducePow, Nat.reduceLeDiff, ↓reduceIte, reduceCtorEq, Nat.reduceLT, Nat.reduceEqDiff, Nat.reduceAdd, Nat.reduceSub, Nat.reduceMul, Int.reduceToNat]
    exact ⟨_, WkE.keep (by simp only [go_sem, List.replicate_succ, Nat.reducePow, Nat.reduceLeDiff, ↓reduceIte, reduceCtorEq, Nat.reduceLT, Nat.reduceEqDiff, Nat.reduceAdd, Nat.reduceSub, Nat.reduceMul, Int.reduceToNat]), rfl⟩
  cases hv : validL p o lim with
  | false =>
    have e : checkL p o lim t S T = 1 := by unfold checkL; rw [if_neg (by simp [hv])]
    rw [e]
    refine CwpE.vc ?_
    simp only [go_sem, List.replicate_succ, Nat.reducePow, Nat.reduceLeDiff, ↓reduceIte, reduceCtorEq, Nat.reduceLT, Nat.reduceEqDiff, Nat.reduceAdd, Nat.reduceSub, Nat.reduceMul, Int.reduceToNat]
    refine callT (refValid_s p o _) rfl ?_
    simp only [go_sem, List.replicate_succ, Nat.reducePow, Nat.reduceLeDiff, ↓reduceIte, reduceCtorEq, Nat.reduceLT, Nat.reduceEqDiff, Nat.reduceAdd, Nat.reduceSub, Nat.reduceMul, Int.reduceToNat, hv]
    exact .tree _ rfl
  | true =>
    have hq := validL_ok.1 hv
    obtain ⟨m, hm⟩ : ∃ m : Nat, lim = m := ⟨lim.toNat, by have := hq.lim; omega⟩
    subst hm
    have hlim := hq.lim
    have hTg := tabA_get hq.len m (q := 0) (by omega)
    obtain ⟨hl0, hb0⟩ := rowQ_bd hq m p.length 0 (by omega)
    have hmost := hq.most
    have hlen := hq.len
    have e0 : checkL p o (m : Int) t S T = if t = timeL p o m ∧ T = tabA p o m ∧ 0 ≤ sumL p S ∧ sumL p S ≤ (m : Int) ∧ sumL o S = t then 0 else 19 := by unfold checkL; rw [if_pos hv, Int.toNat_natCast]
    rw [e0]
    have hRg : (rowQ p o m 0)[m]? = some (timeL p o m) := getD_get (by omega)
    have m0 : (0 : Int) ≤ (m : Int) := by omega
    have s1 := Sum_s p S hmost hq.p hS
    have s2 := Sum_s o S (by omega) hq.o hS
    have s3 := refTable_s p o m hq
    have s4 := Same_s T (tabA p o m) hT hT2
    generalize sumL p S = a at s1 ⊢
    generalize sumL o S = b at s2 ⊢
    generalize timeL p o m = time at hRg ⊢
    generalize tabA p o m = A at hTg s3 s4 ⊢
    refine CwpE.cut (st := ⟨[(0, vints p), (1, vints o), (2, vi m), (7, .ref 0 1 0 0)], [.arr 1 3 34 [certV t S T]]⟩) ?_ ?_
    · simp only [go_sem, List.replicate_succ, Nat.reducePow, Nat.reduceLeDiff, ↓reduceIte, reduceCtorEq, Nat.reduceLT, Nat.reduceEqDiff, Nat.reduceAdd, Nat.reduceSub, Nat.reduceMul, Int.reduceToNat]
      refine callT (refValid_s p o _) rfl ?_
      simp only [go_sem, List.replicate_succ, Nat.reducePow, Nat.reduceLeDiff, ↓reduceIte, reduceCtorEq, Nat.reduceLT, Nat.reduceEqDiff, Nat.reduceAdd, Nat.reduceSub, Nat.reduceMul, Int.reduceToNat, hv]
      exact ⟨_, WkE.keep (by simp only [go_sem, List.replicate_succ, Nat.reducePow, Nat.reduceLeDiff, ↓reduceIte, reduceCtorEq, Nat.reduceLT, Nat.reduceEqDiff, Nat.reduceAdd, Nat.reduceSub, Nat.reduceMul, Int.reduceToNat]), rfl⟩
    refine CwpE.cut (st := ⟨[(0, vints p), (1, vints o), (2, vi m), (7, .ref 0 1 0 0), (9, vrows A)], [.arr 1 3 34 [certV t S T]]⟩) ?_ ?_
    · simp only [go_sem, List.replicate_succ, Nat.reducePow, Nat.reduceLeDiff, ↓reduceIte, reduceCtorEq, Nat.reduceLT, Nat.reduceEqDiff, Nat.reduceAdd, Nat.reduceSub, Nat.reduceMul, Int.reduceToNat]
      refine callT s3 rfl ?_
      simp only [go_sem, List.replicate_succ, Nat.reducePow, Nat.reduceLeDiff, ↓reduceIte, reduceCtorEq, Nat.reduceLT, Nat.reduceEqDiff, Nat.reduceAdd, Nat.reduceSub, Nat.reduceMul, Int.reduceToNat]
      exact ⟨_, WkE.keep (by simp only [go_sem, List.replicate_succ, Nat.reducePow, Nat.reduceLeDiff, ↓reduceIte, reduceCtorEq, Nat.reduceLT, Nat.reduceEqDiff, Nat.reduceAdd, Nat.reduceSub, Nat.reduceMul, Int.reduceToNat]), rfl⟩
    refine CwpE.cut (st := ⟨[(1, vints o), (2, vi m), (7, .ref 0 1 0 0), (9, vrows A), (10, vi a)], [.arr 1 3 34 [certV t S T]]⟩) ?_ ?_
    · simp only [go_sem, List.replicate_succ, Nat.reducePow, Nat.reduceLeDiff, ↓reduceIte, reduceCtorEq, Nat.reduceLT, Nat.reduceEqDiff, Nat.reduceAdd, Nat.reduceSub, Nat.reduceMul, Int.reduceToNat, List.drop_succ_cons]
      refine callT s1 rfl ?_
      simp only [go_sem, List.replicate_succ, Nat.reducePow, Nat.reduceLeDiff, ↓reduceIte, reduceCtorEq, Nat.reduceLT, Nat.reduceEqDiff, Nat.reduceAdd, Nat.reduceSub, Nat.reduceMul, Int.reduceToNat]
      exact ⟨_, WkE.keep (by simp only [go_sem, List.replicate_succ, Nat.reducePow, Nat.reduceLeDiff, ↓reduceIte, reduceCtorEq, Nat.reduceLT, Nat.reduceEqDiff, Nat.reduceAdd, Nat.reduceSub, Nat.reduceMul, Int.reduceToNat]), rfl⟩
    refine CwpE.vc ?_
    by_cases h1 : t = time
    rotate_left
    · rw [if_neg (fun h => h1 h.1)]
      have h1' := eq_false h1
      simp only [go_sem, List.replicate_succ, Nat.reducePow, Nat.reduceLeDiff, ↓reduceIte, reduceCtorEq, Nat.reduceLT, Nat.reduceEqDiff, Nat.reduceAdd, Nat.reduceSub, Nat.reduceMul, Int.reduceToNat, List.drop_succ_cons, Int.le_refl, m0, List.getElem?_map, hTg, hRg, h1']
      exact .tree _ rfl
    have h1' := eq_true h1
    by_cases h2 : T = A
    rotate_left
    · rw [if_neg (fun h => h2 h.2.1)]
      have h2' : decide (T = A) = false := decide_eq_false h2
      rw [h2'] at s4
      simp only [go_sem, List.replicate_succ, Nat.reducePow, Nat.reduceLeDiff, ↓reduceIte, reduceCtorEq, Nat.reduceLT, Nat.reduceEqDiff, Nat.reduceAdd, Nat.reduceSub, Nat.reduceMul, Int.reduceToNat, List.drop_succ_cons, Int.le_refl, m0, List.getElem?_map, hTg, hRg, h1']
      refine callT s4 rfl ?_
      simp only [go_sem, List.replicate_succ, Nat.reducePow, Nat.reduceLeDiff, ↓reduceIte, reduceCtorEq, Nat.reduceLT, Nat.reduceEqDiff, Nat.reduceAdd, Nat.reduceSub, Nat.reduceMul, Int.reduceToNat]
      exact .tree _ rfl
    have h2' : decide (T = A) = true := decide_eq_true h2
    rw [h2'] at s4
    by_cases h3 : a < 0
    · rw [if_neg (fun h => by omega)]
      simp only [go_sem, List.replicate_succ, Nat.reducePow, Nat.reduceLeDiff, ↓reduceIte, reduceCtorEq, Nat.reduceLT, Nat.reduceEqDiff, Nat.reduceAdd, Nat.reduceSub, Nat.reduceMul, Int.reduceToNat, List.drop_succ_cons, Int.le_refl, m0, List.getElem?_map, hTg, hRg, h1']
      refine callT s4 rfl ?_
      simp only [go_sem, List.replicate_succ, Nat.reducePow, Nat.reduceLeDiff, ↓reduceIte, reduceCtorEq, Nat.reduceLT, Nat.reduceEqDiff, Nat.reduceAdd, Nat.reduceSub, Nat.reduceMul, Int.reduceToNat, h3]
      exact .tree _ rfl
    by_cases h4 : (m : Int) < a
    · rw [if_neg (fun h => by omega)]
      simp only [go_sem, List.replicate_succ, Nat.reducePow, Nat.reduceLeDiff, ↓reduceIte, reduceCtorEq, Nat.reduceLT, Nat.reduceEqDiff, Nat.reduceAdd, Nat.reduceSub, Nat.reduceMul, Int.reduceToNat, List.drop_succ_cons, Int.le_refl, m0, List.getElem?_map, hTg, hRg, h1']
      refine callT s4 rfl ?_
      simp only [go_sem, List.replicate_succ, Nat.reducePow, Nat.reduceLeDiff, ↓reduceIte, reduceCtorEq, Nat.reduceLT, Nat.reduceEqDiff, Nat.reduceAdd, Nat.reduceSub, Nat.reduceMul, Int.reduceToNat, h3, h4]
      exact .tree _ rfl
    by_cases h5 : b = t
    rotate_left
    · rw [if_neg (fun h => h5 h.2.2.2.2)]
      have h5' := eq_false h5
      simp only [go_sem, List.replicate_succ, Nat.reducePow, Nat.reduceLeDiff, ↓reduceIte, reduceCtorEq, Nat.reduceLT, Nat.reduceEqDiff, Nat.reduceAdd, Nat.reduceSub, Nat.reduceMul, Int.reduceToNat, List.drop_succ_cons, Int.le_refl, m0, List.getElem?_map, hTg, hRg, h1']
      refine callT s4 rfl ?_
      simp only [go_sem, List.replicate_succ, Nat.reducePow, Nat.reduceLeDiff, ↓reduceIte, reduceCtorEq, Nat.reduceLT, Nat.reduceEqDiff, Nat.reduceAdd, Nat.reduceSub, Nat.reduceMul, Int.reduceToNat, h3, h4, List.drop_succ_cons]
      refine callT s2 rfl ?_
      simp only [go_sem, List.replicate_succ, Nat.reducePow, Nat.reduceLeDiff, ↓reduceIte, reduceCtorEq, Nat.reduceLT, Nat.reduceEqDiff, Nat.reduceAdd, Nat.reduceSub, Nat.reduceMul, Int.reduceToNat, h5']
      exact .tree _ rfl
    have h5' := eq_true h5
    rw [if_pos ⟨h1, h2, by omega, by omega, h5⟩]
    simp only [go_sem, List.replicate_succ, Nat.reducePow, Nat.reduceLeDiff, ↓reduceIte, reduceCtorEq, Nat.reduceLT, Nat.reduceEqDiff, Nat.reduceAdd, Nat.reduceSub, Nat.reduceMul, Int.reduceToNat, List.drop_succ_cons, Int.le_refl, m0, List.getElem?_map, hTg, hRg, h1']
    refine callT s4 rfl ?_
    simp only [go_sem, List.replicate_succ, Nat.reducePow, Nat.reduceLeDiff, ↓reduceIte, reduceCtorEq, Nat.reduceLT, Nat.reduceEqDiff, Nat.reduceAdd, Nat.reduceSub, Nat.reduceMul, Int.reduceToNat, h3, h4, List.drop_succ_cons]
    refine callT s2 rfl ?_
    simp only [go_sem, List.replicate_succ, Nat.reducePow, Nat.reduceLeDiff, ↓reduceIte, reduceCtorEq, Nat.reduceLT, Nat.reduceEqDiff, Nat.reduceAdd, Nat.reduceSub, Nat.reduceMul, Int.reduceToNat, h5']
    exact .tree _ rfl
end Go.Proofs.Ytphcaelkpgdbcaa
