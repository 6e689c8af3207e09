/- allow.set, by contract. -/
import Derived.Test.YtphcaelkpgdbcaaPf
set_option linter.unusedSimpArgs false
set_option linter.unusedVariables false
set_option linter.unusedSectionVars false
namespace Go.Proofs.Ytphcaelkpgdbcaa
open Go.RowKit Dak
theorem Clip_s (l : List Int) : Ctr Try.prog 37 [vints l] (vints l) := by
  refine specE f37 (by simp) fun F0 w0 => ?_
  have a1 : (0 : Int) ≤ (l.length : Int) := by omega
  simp only [c37, go_sem, List.replicate_succ, Nat.reducePow, Nat.reduceLeDiff, ↓reduceIte, reduceCtorEq, Nat.reduceLT, Nat.reduceEqDiff, Nat.reduceAdd, Nat.reduceSub, Nat.reduceMul, Int.reduceToNat, a1, Int.le_refl, Int.toNat_natCast, List.take_of_length_le (show (l.map vi).length ≤ l.length by simp)]
  exact .tree _ rfl
set_option maxRecDepth 100000 in
set_option maxHeartbeats 4000000 in
theorem set_s (p o : List Int) (m : Nat) (h : OkQ p o m) : Ctr Try.prog 27 [vints p, vints o, vrows (tabA p o m), vi m] (vints (setA p o m 0 m)) := by
  refine specC f27 (by simp) fun F0 w0 => ?_
  obtain ⟨hlen, hmost, hp, ho, hm0, hm1⟩ := h
  have hbd := rowQ_bd (⟨hlen, hmost, hp, ho, hm0, hm1⟩ : OkQ p o m) m
  have hTg : ∀ q, q ≤ p.length → (tabA p o m)[q]? = some (rowQ p o m q) := fun q hq => tabA_get hlen m hq
  generalize tabA p o m = T at hTg ⊢
  obtain ⟨n, hn⟩ : ∃ n, p.length = n := ⟨_, rfl⟩
  have hon : o.length = n := by omega
  have hl : ∀ q, q ≤ n → (rowQ p o m q).length = m + 1 := fun q hq => (hbd (n - q) q (by omega)).1
  have hv : ∀ q c, q ≤ n → 0 ≤ (rowQ p o m q).getD c 0 ∧ (rowQ p o m q).getD c 0 ≤ 48000000 := fun q c hq => by
    obtain ⟨_, h2⟩ := hbd (n - q) q (by omega)
    rw [List.getD_eq_getElem?_getD]
    cases e : (rowQ p o m q)[c]? with
    | none => simp
    | some y => have := h2 y (List.mem_of_getElem? e); simp; omega
  obtain ⟨S, hS⟩ : ∃ S, setA p o m 0 m = S := ⟨_, rfl⟩
  rw [hS]
  obtain ⟨R, hR⟩ : ∃ R : Nat → Nat → Int, R = fun q c => (rowQ p o m q).getD c 0 := ⟨_, rfl⟩
  have hg : ∀ q c, q ≤ n → c ≤ m → (rowQ p o m q)[c]? = some (R q c) := fun q c hq hc => by rw [hR]; exact getD_get (by rw [hl q hq]; omega)
  have hRv : ∀ q c, q ≤ n → 0 ≤ R q c ∧ R q c ≤ 48000000 := fun q c hq => by rw [hR]; exact hv q c hq
  have n0 : (0 : Int) ≤ (n : Int) := by omega
  unfold c27
  refine CwpE.cut (st := ⟨[(0, vints p), (1, vints o), (2, vrows T), (3, vi m)], []⟩) ?_ ?_
  · simp only [go_sem, List.replicate_succ, Nat.reducePow, Nat.reduceLeDiff, ↓reduceIte, reduceCtorEq, Nat.reduceLT, Nat.reduceEqDiff, Nat.reduceAdd, Nat.reduceSub, Nat.reduceMul, Int.reduceToNat]
    exact ⟨_, WkE.keep (by simp only [go_sem, List.replicate_succ, Nat.reducePow, Nat.reduceLeDiff, ↓reduceIte, reduceCtorEq, Nat.reduceLT, Nat.reduceEqDiff, Nat.reduceAdd, Nat.reduceSub, Nat.reduceMul, Int.reduceToNat]), rfl⟩
  refine CwpE.cut (st := ⟨[(0, vints p), (1, vints o), (2, vrows T), (3, vi m), (9, .own 0 n 0 n)], [.arr n 1 3 ((List.replicate n 0).map vi)]⟩) ?_ ?_
  · have q2 : ((8 : Nat) : Int) * (n : Int) ≤ 281474976710656 := by omega
    have q3 : (n : Int) ≤ 9223372036854775807 := by omega
    simp only [go_sem, Nat.reducePow, Nat.reduceLeDiff, ↓reduceIte, reduceCtorEq, Nat.reduceLT, Nat.reduceEqDiff, Nat.reduceAdd, Nat.reduceSub, Nat.reduceMul, Int.reduceToNat, n0, q2, q3, Int.le_refl, hn, List.map_replicate]
    exact ⟨_, WkE.keep (by simp only [go_sem, List.replicate_succ, Nat.reducePow, Nat.reduceLeDiff, ↓reduceIte, reduceCtorEq, Nat.reduceLT, Nat.reduceEqDiff, Nat.reduceAdd, Nat.reduceSub, Nat.reduceMul, Int.reduceToNat]), rfl⟩
  refine CwpE.cut (st := ⟨[(0, vints p), (1, vints o), (2, vrows T), (3, vi m), (10, .own 0 n 0 0)], [.arr n 1 3 ((List.replicate n 0).map vi)]⟩) ?_ ?_
  · simp only [go_sem, Nat.reducePow, Nat.reduceLeDiff, ↓reduceIte, reduceCtorEq, Nat.reduceLT, Nat.reduceEqDiff, Nat.reduceAdd, Nat.reduceSub, Nat.reduceMul, Int.reduceToNat, n0, Int.le_refl, hn, Int.toNat_natCast]
    exact ⟨_, WkE.keep (by simp only [go_sem, List.replicate_succ, Nat.reducePow, Nat.reduceLeDiff, ↓reduceIte, reduceCtorEq, Nat.reduceLT, Nat.reduceEqDiff, Nat.reduceAdd, Nat.reduceSub, Nat.reduceMul, Int.reduceToNat]), rfl⟩
  refine CwpE.cut (st := ⟨[(0, vints p), (1, vints o), (2, vrows T), (10, .own 0 n 0 0), (11, vi m)], [.arr n 1 3 ((List.replicate n 0).map vi)]⟩) ?_ ?_
  · simp only [go_sem, Nat.reducePow, Nat.reduceLeDiff, ↓reduceIte, reduceCtorEq, Nat.reduceLT, Nat.reduceEqDiff, Nat.reduceAdd, Nat.reduceSub, Nat.reduceMul, Int.reduceToNat]
    exact ⟨_, WkE.keep (by simp only [go_sem, List.replicate_succ, Nat.reducePow, Nat.reduceLeDiff, ↓reduceIte, reduceCtorEq, Nat.reduceLT, Nat.reduceEqDiff, Nat.reduceAdd, Nat.reduceSub, Nat.reduceMul, Int.reduceToNat]), rfl⟩
  refine CwpE.cut (st := ⟨[(10, vints S)], []⟩) ?_ ?_
  rotate_left
  · refine CwpE.vc ?_
    simp only [go_sem, List.replicate_succ, Nat.reducePow, Nat.reduceLeDiff, ↓reduceIte, reduceCtorEq, Nat.reduceLT, Nat.reduceEqDiff, Nat.reduceAdd, Nat.reduceSub, Nat.reduceMul, Int.reduceToNat]
    refine callT (Clip_s S) rfl ?_
    simp only [go_sem, List.replicate_succ, Nat.reducePow, Nat.reduceLeDiff, ↓reduceIte, reduceCtorEq, Nat.reduceLT, Nat.reduceEqDiff, Nat.reduceAdd, Nat.reduceSub, Nat.reduceMul, Int.reduceToNat]
    exact .tree _ rfl
  generalize hz : List.replicate n (0 : Int) = Z
  have hZ : n ≤ Z.length := by rw [← hz]; simp
  simp only [go_sem, List.replicate_succ, Nat.reducePow, Nat.reduceLeDiff, ↓reduceIte, reduceCtorEq, Nat.reduceLT, Nat.reduceEqDiff, Nat.reduceAdd, Nat.reduceSub, Nat.reduceMul, Int.reduceToNat, hn]
  refine loopXC 0 (fun m' s => ∃ (i c : Nat) (acc ys : List Int), m' = n - i ∧ i ≤ n ∧ c ≤ m ∧ acc.length ≤ i ∧ acc ++ setA (p.drop i) (o.drop i) m i c = S ∧ ys.take acc.length = acc ∧ acc.length ≤ ys.length ∧
      s = ⟨[(0, vints p), (1, vints o), (2, vrows T), (10, .own 0 (n + acc.length) 0 acc.length), (11, vi c), (23, vi n), (24, vi i)], [.arr (n + acc.length) 1 3 (ys.map vi)]⟩)
    (fun s => s = ⟨[(10, vints S)], []⟩) n
    ⟨[(0, vints p), (1, vints o), (2, vrows T), (10, .own 0 n 0 0), (11, vi m), (23, vi n), (24, vi (0 : Nat))], [.arr n 1 3 (Z.map vi)]⟩ (WkE.keep (by simp only [go_sem, List.replicate_succ, Nat.reducePow, Nat.reduceLeDiff, ↓reduceIte, reduceCtorEq, Nat.reduceLT, Nat.reduceEqDiff, Nat.reduceAdd, Nat.reduceSub, Nat.reduceMul, Int.reduceToNat]; rfl)) ⟨0, m, [], Z, by omega, by omega, by omega, by simp, hS, rfl, by simp, rfl⟩ ?_ ?_
  rotate_left
  · rintro s rfl
    simp only [go_sem, List.replicate_succ, Nat.reducePow, Nat.reduceLeDiff, ↓reduceIte, reduceCtorEq, Nat.reduceLT, Nat.reduceEqDiff, Nat.reduceAdd, Nat.reduceSub, Nat.reduceMul, Int.reduceToNat]
    exact ⟨_, .refl _ _, rfl⟩
  rintro m' s ⟨i, c, acc, ys, rfl, hi, hc, hacc, hE, hys, hyl, rfl⟩
  obtain ⟨k, hk⟩ : ∃ k, acc.length = k := ⟨_, rfl⟩
  rw [hk] at hys hyl hacc ⊢
  have out : acc = S → ∀ env, Agree env [(10, .own 0 (n + k) 0 k)] → ∃ s', WkE 74 ⟨env, [.arr (n + k) 1 3 (ys.map vi)]⟩ s' ∧ s' = ⟨[(10, vints S)], []⟩ := fun e env hA => by
    subst e
    refine ⟨_, (WkE.keep (env' := [(10, .own 0 (n + k) 0 k)]) hA).trans ((WkE.freeze 10 0 (n + k) 0 k 1 3 (ys.map vi) (by omega) rfl rfl (by simpa using hyl) (by simp [List.all_map, AV.isT, AV.isT1])).trans (WkE.round ?_ (by simp [AV.inn, AV.inn1]) (by simp) (by simp))), rfl⟩
    simp only [go_sem, List.replicate_succ, Nat.reducePow, Nat.reduceLeDiff, ↓reduceIte, reduceCtorEq, Nat.reduceLT, Nat.reduceEqDiff, Nat.reduceAdd, Nat.reduceSub, Nat.reduceMul, Int.reduceToNat]
    rw [← List.map_take, hys]
  refine CwpE.vc ?_
  by_cases hlt : i < n
  rotate_left
  · obtain rfl : i = n := by omega
    rw [← hn, setA_end, List.append_nil] at hE
    have g : ¬ (i : Int) < (i : Int) := by omega
    simp only [go_sem, List.replicate_succ, Nat.reducePow, Nat.reduceLeDiff, ↓reduceIte, reduceCtorEq, Nat.reduceLT, Nat.reduceEqDiff, Nat.reduceAdd, Nat.reduceSub, Nat.reduceMul, Int.reduceToNat, g]
    exact out hE _ (by simp only [go_sem, List.replicate_succ, Nat.reducePow, Nat.reduceLeDiff, ↓reduceIte, reduceCtorEq, Nat.reduceLT, Nat.reduceEqDiff, Nat.reduceAdd, Nat.reduceSub, Nat.reduceMul, Int.reduceToNat])
  have hip : i < p.length := by omega
  have hio : i < o.length := by omega
  have hlp : (i : Int) < (n : Int) := by omega
  have hlo : (i : Int) < (o.length : Int) := by omega
  have g0 : (0 : Int) ≤ (i : Int) := by omega
  have c0 : (0 : Int) ≤ (c : Int) := by omega
  have w1 : IntKind.i64.wrap ((i : Int) + 1) = ((i + 1 : Nat) : Int) := by rw [wrap_id (by omega) (by omega)]; omega
  rw [setA_step m c hip hio] at hE
  rw [show (rowQ p o m i).getD c 0 = R i c by rw [hR]] at hE
  have hst := rowQ_get m (c := c) hip hio (by rw [hl (i + 1) (by omega)]; omega)
  rw [show (rowQ p o m i).getD c 0 = R i c by rw [hR], show (rowQ p o m (i + 1)).getD c 0 = R (i + 1) c by rw [hR]] at hst
  have v0 := hRv i c (by omega)
  have t3 := hTg i (by omega)
  have t4 := hg i c (by omega) (by omega)
  by_cases hz : R i c = 0
  · rw [if_pos hz, List.append_nil] at hE
    have g := eq_true hz
    simp only [go_sem, List.replicate_succ, Nat.reducePow, Nat.reduceLeDiff, ↓reduceIte, reduceCtorEq, Nat.reduceLT, Nat.reduceEqDiff, Nat.reduceAdd, Nat.reduceSub, Nat.reduceMul, Int.reduceToNat, hlp, g0, c0, List.getElem?_map, t3, t4, g]
    exact out hE _ (by simp only [go_sem, List.replicate_succ, Nat.reducePow, Nat.reduceLeDiff, ↓reduceIte, reduceCtorEq, Nat.reduceLT, Nat.reduceEqDiff, Nat.reduceAdd, Nat.reduceSub, Nat.reduceMul, Int.reduceToNat])
  rw [if_neg hz] at hE
  have g := eq_false hz
  have hpb := hp _ (List.getElem_mem hip)
  have hob := ho _ (List.getElem_mem hio)
  by_cases ha : p[i] ≤ c
  rotate_left
  · have w2 : IntKind.i64.wrap ((c : Int) - p[i]) = (c : Int) - p[i] := wrap_id (by omega) (by omega)
    have ha' : ¬ 0 ≤ (c : Int) - p[i] := by omega
    rw [if_neg (fun h => ha h.1)] at hE
    simp only [go_sem, List.replicate_succ, Nat.reducePow, Nat.reduceLeDiff, ↓reduceIte, reduceCtorEq, Nat.reduceLT, Nat.reduceEqDiff, Nat.reduceAdd, Nat.reduceSub, Nat.reduceMul, Int.reduceToNat, hlp, g, g0, c0, List.getElem?_map, t3, t4, List.getElem?_eq_getElem hip, ha', w1, w2]
    exact ⟨n - (i + 1), ⟨[(0, vints p), (1, vints o), (2, vrows T), (10, .own 0 (n + k) 0 k), (11, vi c), (23, vi n), (24, vi (i + 1 : Nat))], [.arr (n + k) 1 3 (ys.map vi)]⟩, by omega, WkE.keep (by simp only [go_sem, List.replicate_succ, Nat.reducePow, Nat.reduceLeDiff, ↓reduceIte, reduceCtorEq, Nat.reduceLT, Nat.reduceEqDiff, Nat.reduceAdd, Nat.reduceSub, Nat.reduceMul, Int.reduceToNat]), i + 1, c, acc, ys, rfl, by omega, hc, by omega, hE, by rw [hk]; exact hys, by omega, by rw [hk]⟩
  obtain ⟨d, hd⟩ : ∃ d : Nat, c - p[i].toNat = d := ⟨_, rfl⟩
  rw [hd] at hE
  rw [show (rowQ p o m (i + 1)).getD d 0 = R (i + 1) d by rw [hR]] at hE
  have v1 := hRv (i + 1) d (by omega)
  have w2 : IntKind.i64.wrap ((c : Int) - p[i]) = (d : Int) := by rw [wrap_id (by omega) (by omega)]; omega
  have d0 : (0 : Int) ≤ (d : Int) := by omega
  have i0 : (0 : Int) ≤ ((i + 1 : Nat) : Int) := by omega
  have w3 : IntKind.i64.wrap (o[i] + R (i + 1) d) = o[i] + R (i + 1) d := wrap_id (by omega) (by omega)
  have t1 := hTg (i + 1) (by omega)
  have t2 := hg (i + 1) d (by omega) (by omega)
  by_cases he : o[i] + R (i + 1) d = R i c
  · rw [if_pos ⟨ha, he⟩] at hE
    have he' := eq_true he
    have hb : (k + 1) * 8 ≤ 140737488355328 := by omega
    have hyl' : k ≤ ys.length := hyl
    simp only [go_sem, List.replicate_succ, Nat.reducePow, Nat.reduceLeDiff, ↓reduceIte, reduceCtorEq, Nat.reduceLT, Nat.reduceEqDiff, Nat.reduceAdd, Nat.reduceSub, Nat.reduceMul, Int.reduceToNat, hlp, g, g0, c0, d0, i0, List.getElem?_map, List.getElem?_eq_getElem hip, List.getElem?_eq_getElem hio, w1, w2, w3, t1, t2, t3, t4, he', hb, hyl', Or.inr, or_true]
    refine ⟨n - (i + 1), ⟨[(0, vints p), (1, vints o), (2, vrows T), (10, .own 0 (n + (acc ++ [(i : Int)]).length) 0 (acc ++ [(i : Int)]).length), (11, vi d), (23, vi n), (24, vi (i + 1 : Nat))], [.arr (n + (acc ++ [(i : Int)]).length) 1 3 ((acc ++ [(i : Int)]).map vi)]⟩, by omega, ?_, i + 1, d, acc ++ [(i : Int)], acc ++ [(i : Int)], rfl, by omega, by omega, by simp; omega, by simpa using hE, List.take_length, Nat.le_refl _, rfl⟩
    rw [List.map_append, List.length_append, hk, ← hys, List.map_take]
    exact WkE.keep (by simp only [go_sem, List.replicate_succ, Nat.reducePow, Nat.reduceLeDiff, ↓reduceIte, reduceCtorEq, Nat.reduceLT, Nat.reduceEqDiff, Nat.reduceAdd, Nat.reduceSub, Nat.reduceMul, Int.reduceToNat]; rfl)
  · rw [if_neg (fun h => he h.2)] at hE
    have he' := eq_false he
    simp only [go_sem, List.replicate_succ, Nat.reducePow, Nat.reduceLeDiff, ↓reduceIte, reduceCtorEq, Nat.reduceLT, Nat.reduceEqDiff, Nat.reduceAdd, Nat.reduceSub, Nat.reduceMul, Int.reduceToNat, hlp, g, g0, c0, d0, i0, List.getElem?_map, List.getElem?_eq_getElem hip, List.getElem?_eq_getElem hio, w1, w2, w3, t1, t2, t3, t4, he']
    exact ⟨n - (i + 1), ⟨[(0, vints p), (1, vints o), (2, vrows T), (10, .own 0 (n + k) 0 k), (11, vi c), (23, vi n), (24, vi (i + 1 : Nat))], [.arr (n + k) 1 3 (ys.map vi)]⟩, by omega, WkE.keep (by simp only [go_sem, List.replicate_succ, Nat.reducePow, Nat.reduceLeDiff, ↓reduceIte, reduceCtorEq, Nat.reduceLT, Nat.reduceEqDiff, Nat.reduceAdd, Nat.reduceSub, Nat.reduceMul, Int.reduceToNat]), i + 1, c, acc, ys, rfl, by omega, hc, by omega, hE, by rw [hk]; exact hys, by omega, by rw [hk]⟩
end Go.Proofs.Ytphcaelkpgdbcaa
