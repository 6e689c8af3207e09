/- The first set with the greatest time: plain, the program's and the reference's by contract. -/
import Derived.Test.YtphcaelkpgdbcaaPe
set_option linter.unusedSimpArgs false
set_option linter.unusedVariables false
set_option linter.unusedSectionVars false
namespace Go.Proofs.Ytphcaelkpgdbcaa
open Go.RowKit Dak
/-- The first set, from question q on, with c left. -/
def setA : List Int → List Int → Nat → Nat → Nat → List Int
  | a :: p, b :: o, m, q, c =>
    if (nextR a b ((tabA p o m).headD [])).getD c 0 = 0 then [] else
    if a ≤ c ∧ b + ((tabA p o m).headD []).getD (c - a.toNat) 0 = (nextR a b ((tabA p o m).headD [])).getD c 0 then (q : Int) :: setA p o m (q + 1) (c - a.toNat) else setA p o m (q + 1) c
  | _, _, _, _, _ => []
theorem setA_end (p o : List Int) (m q c : Nat) : setA (p.drop p.length) o m q c = [] := by
  rw [List.drop_length]; unfold setA; rfl
theorem setA_step {p o : List Int} (m : Nat) {q : Nat} (c : Nat) (hp : q < p.length) (ho : q < o.length) : setA (p.drop q) (o.drop q) m q c =
    if (rowQ p o m q).getD c 0 = 0 then [] else if p[q] ≤ c ∧ o[q] + (rowQ p o m (q + 1)).getD (c - p[q].toNat) 0 = (rowQ p o m q).getD c 0 then (q : Int) :: setA (p.drop (q + 1)) (o.drop (q + 1)) m (q + 1) (c - p[q].toNat) else setA (p.drop (q + 1)) (o.drop (q + 1)) m (q + 1) c := by
  rw [rowQ_step m hp ho]
  unfold rowQ
  rw [List.drop_eq_getElem_cons hp, List.drop_eq_getElem_cons ho, setA]
theorem rowQ_get {p o : List Int} (m : Nat) {q c : Nat} (hp : q < p.length) (ho : q < o.length) (hc : c < (rowQ p o m (q + 1)).length) : (rowQ p o m q).getD c 0 =
    if p[q] ≤ c then max ((rowQ p o m (q + 1)).getD c 0) (o[q] + (rowQ p o m (q + 1)).getD (c - p[q].toNat) 0) else (rowQ p o m (q + 1)).getD c 0 := by
  rw [rowQ_step m hp ho]
  simp only [nextR, List.getD_eq_getElem?_getD, List.getElem?_map, List.getElem?_range hc, Option.map_some, Option.getD_some]
theorem tabA_get {p o : List Int} (h : p.length = o.length) (m : Nat) {q : Nat} (hq : q ≤ p.length) : (tabA p o m)[q]? = some (rowQ p o m q) := by
  rw [tabA_rows h m, List.getElem?_map, List.getElem?_range (by omega), Option.map_some]
theorem getD_get {R : List Int} {c : Nat} (h : c < R.length) : R[c]? = some (R.getD c 0) := by simp [h]
theorem setA_len : ∀ (p o : List Int) (m q c : Nat), (setA p o m q c).length ≤ p.length
  | [], o, m, q, c => by unfold setA; simp
  | a :: p, [], m, q, c => by simp [setA]
  | a :: p, b :: o, m, q, c => by
    rw [setA]
    have h1 := setA_len p o m (q + 1) (c - a.toNat)
    have h2 := setA_len p o m (q + 1) c
    split
    · simp
    split
    · simp only [List.length_cons]; omega
    · simp only [List.length_cons]; omega
set_option maxRecDepth 100000 in
set_option maxHeartbeats 4000000 in
theorem refSet_s (p o : List Int) (m : Nat) (h : OkQ p o m) : Ctr Try.prog 30 [vints p, vints o, vrows (tabA p o m), vi m] (vints (setA p o m 0 m)) := by
  refine specC f30 (by simp) fun F0 w0 => ?_
  obtain ⟨hlen, hmost, hp, ho, hm0, hm1⟩ := h
  have hbd := rowQ_bd (⟨hlen, hmost, hp, ho, hm0, hm1⟩ : OkQ p o m) m
  have hTg : ∀ q, q ≤ p.length → (tabA p o m)[q]? = some (rowQ p o m q) := fun q hq => tabA_get hlen m hq
  generalize tabA p o m = T at hTg ⊢
  obtain ⟨n, hn⟩ : ∃ n, p.length = n := ⟨_, rfl⟩
  have hon : o.length = n := by omega
  have hl : ∀ q, q ≤ n → (rowQ p o m q).length = m + 1 := fun q hq => (hbd (n - q) q (by omega)).1
  have hv : ∀ q c, q ≤ n → 0 ≤ (rowQ p o m q).getD c 0 ∧ (rowQ p o m q).getD c 0 ≤ 48000000 := fun q c hq => by
    obtain ⟨_, h2⟩ := hbd (n - q) q (by omega)
    rw [List.getD_eq_getElem?_getD]
    cases e : (rowQ p o m q)[c]? with
    | none => simp
    | some y => have := h2 y (List.mem_of_getElem? e); simp; omega
  obtain ⟨S, hS⟩ : ∃ S, setA p o m 0 m = S := ⟨_, rfl⟩
  rw [hS]
  obtain ⟨R, hR⟩ : ∃ R : Nat → Nat → Int, R = fun q c => (rowQ p o m q).getD c 0 := ⟨_, rfl⟩
  have hg : ∀ q c, q ≤ n → c ≤ m → (rowQ p o m q)[c]? = some (R q c) := fun q c hq hc => by rw [hR]; exact getD_get (by rw [hl q hq]; omega)
  have hRv : ∀ q c, q ≤ n → 0 ≤ R q c ∧ R q c ≤ 48000000 := fun q c hq => by rw [hR]; exact hv q c hq
  unfold c30
  refine CwpE.cut (st := ⟨[(0, vints p), (1, vints o), (2, vrows T), (3, vi m)], []⟩) ?_ ?_
  · simp only [go_sem, List.replicate_succ, Nat.reducePow, Nat.reduceLeDiff, ↓reduceIte, reduceCtorEq, Nat.reduceLT, Nat.reduceEqDiff, Nat.reduceAdd, Nat.reduceSub, Nat.reduceMul, Int.reduceToNat]
    exact ⟨_, WkE.keep (by simp only [go_sem, List.replicate_succ, Nat.reducePow, Nat.reduceLeDiff, ↓reduceIte, reduceCtorEq, Nat.reduceLT, Nat.reduceEqDiff, Nat.reduceAdd, Nat.reduceSub, Nat.reduceMul, Int.reduceToNat]), rfl⟩
  refine CwpE.cut (st := ⟨[(0, vints p), (1, vints o), (2, vrows T), (3, vi m), (9, .val (.slice none 0 0))], []⟩) ?_ ?_
  · simp only [go_sem, List.replicate_succ, Nat.reducePow, Nat.reduceLeDiff, ↓reduceIte, reduceCtorEq, Nat.reduceLT, Nat.reduceEqDiff, Nat.reduceAdd, Nat.reduceSub, Nat.reduceMul, Int.reduceToNat]
    exact ⟨_, WkE.keep (by simp only [go_sem, List.replicate_succ, Nat.reducePow, Nat.reduceLeDiff, ↓reduceIte, reduceCtorEq, Nat.reduceLT, Nat.reduceEqDiff, Nat.reduceAdd, Nat.reduceSub, Nat.reduceMul, Int.reduceToNat]), rfl⟩
  refine CwpE.cut (st := ⟨[(0, vints p), (1, vints o), (2, vrows T), (3, vi m), (9, .val (.slice none 0 0)), (10, vi m)], []⟩) ?_ ?_
  · simp only [go_sem, List.replicate_succ, Nat.reducePow, Nat.reduceLeDiff, ↓reduceIte, reduceCtorEq, Nat.reduceLT, Nat.reduceEqDiff, Nat.reduceAdd, Nat.reduceSub, Nat.reduceMul, Int.reduceToNat]
    exact ⟨_, WkE.keep (by simp only [go_sem, List.replicate_succ, Nat.reducePow, Nat.reduceLeDiff, ↓reduceIte, reduceCtorEq, Nat.reduceLT, Nat.reduceEqDiff, Nat.reduceAdd, Nat.reduceSub, Nat.reduceMul, Int.reduceToNat]), rfl⟩
  refine CwpE.cut (st := ⟨[(0, vints p), (1, vints o), (2, vrows T), (9, .val (.slice none 0 0)), (10, vi m), (11, vi (R 0 m))], []⟩) ?_ ?_
  · simp only [go_sem, List.replicate_succ, Nat.reducePow, Nat.reduceLeDiff, ↓reduceIte, reduceCtorEq, Nat.reduceLT, Nat.reduceEqDiff, Nat.reduceAdd, Nat.reduceSub, Nat.reduceMul, Int.reduceToNat, hm0, Int.le_refl, List.getElem?_map, hTg 0 (by omega), hg 0 m (by omega) (Nat.le_refl m)]
    exact ⟨_, WkE.keep (by simp only [go_sem, List.replicate_succ, Nat.reducePow, Nat.reduceLeDiff, ↓reduceIte, reduceCtorEq, Nat.reduceLT, Nat.reduceEqDiff, Nat.reduceAdd, Nat.reduceSub, Nat.reduceMul, Int.reduceToNat]), rfl⟩
  refine CwpE.cut (st := ⟨[(9, vints S)], []⟩) ?_ ?_
  rotate_left
  · refine CwpE.vc ?_
    simp only [go_sem, List.replicate_succ, Nat.reducePow, Nat.reduceLeDiff, ↓reduceIte, reduceCtorEq, Nat.reduceLT, Nat.reduceEqDiff, Nat.reduceAdd, Nat.reduceSub, Nat.reduceMul, Int.reduceToNat]
    exact .tree _ rfl
  simp only [go_sem, List.replicate_succ, Nat.reducePow, Nat.reduceLeDiff, ↓reduceIte, reduceCtorEq, Nat.reduceLT, Nat.reduceEqDiff, Nat.reduceAdd, Nat.reduceSub, Nat.reduceMul, Int.reduceToNat]
  refine loopXC 0 (fun m' s => ∃ (i c : Nat) (acc : List Int), m' = n - i ∧ i ≤ n ∧ c ≤ m ∧ acc.length ≤ i ∧ acc ++ setA (p.drop i) (o.drop i) m i c = S ∧
      s = ⟨[(0, vints p), (1, vints o), (2, vrows T), (9, ownV 0 acc.length), (10, vi c), (11, vi (R i c)), (12, vi i)], [.arr acc.length 1 3 (acc.map vi)]⟩)
    (fun s => s = ⟨[(9, vints S)], []⟩) n
    ⟨[(0, vints p), (1, vints o), (2, vrows T), (9, ownV 0 0), (10, vi m), (11, vi (R 0 m)), (12, vi (0 : Nat))], [.arr 0 1 3 []]⟩ ((WkE.nil 9 1 3 (by omega) rfl).trans (WkE.keep (by simp only [go_sem, List.replicate_succ, Nat.reducePow, Nat.reduceLeDiff, ↓reduceIte, reduceCtorEq, Nat.reduceLT, Nat.reduceEqDiff, Nat.reduceAdd, Nat.reduceSub, Nat.reduceMul, Int.reduceToNat]; rfl))) ⟨0, m, [], by omega, by omega, by omega, by simp, hS, rfl⟩ ?_ ?_
  rotate_left
  · rintro s rfl
    simp only [go_sem, List.replicate_succ, Nat.reducePow, Nat.reduceLeDiff, ↓reduceIte, reduceCtorEq, Nat.reduceLT, Nat.reduceEqDiff, Nat.reduceAdd, Nat.reduceSub, Nat.reduceMul, Int.reduceToNat]
    exact ⟨_, .refl _ _, rfl⟩
  rintro m' s ⟨i, c, acc, rfl, hi, hc, hacc, hE, rfl⟩
  have out : acc = S → ∀ env, Agree env [(9, ownV 0 acc.length)] → ∃ s', WkE 73 ⟨env, [.arr acc.length 1 3 (acc.map vi)]⟩ s' ∧ s' = ⟨[(9, vints S)], []⟩ := fun e env hA => by
    subst e
    refine ⟨_, (WkE.keep (env' := [(9, ownV 0 acc.length)]) hA).trans ((WkE.freeze 9 0 acc.length 0 acc.length 1 3 (acc.map vi) (by omega) rfl rfl (by simp) (by simp [List.all_map, AV.isT, AV.isT1])).trans (WkE.round ?_ (by simp [AV.inn, AV.inn1]) (by simp) (by simp))), rfl⟩
    simp only [go_sem, List.replicate_succ, Nat.reducePow, Nat.reduceLeDiff, ↓reduceIte, reduceCtorEq, Nat.reduceLT, Nat.reduceEqDiff, Nat.reduceAdd, Nat.reduceSub, Nat.reduceMul, Int.reduceToNat]
  refine CwpE.vc ?_
  by_cases hlt : i < n
  rotate_left
  · obtain rfl : i = n := by omega
    rw [← hn, setA_end, List.append_nil] at hE
    have g : ¬ ((p.length : Nat) : Int) < (p.length : Int) := by omega
    simp only [go_sem, List.replicate_succ, Nat.reducePow, Nat.reduceLeDiff, ↓reduceIte, reduceCtorEq, Nat.reduceLT, Nat.reduceEqDiff, Nat.reduceAdd, Nat.reduceSub, Nat.reduceMul, Int.reduceToNat, ← hn, g]
    exact out hE _ (by simp only [go_sem, List.replicate_succ, Nat.reducePow, Nat.reduceLeDiff, ↓reduceIte, reduceCtorEq, Nat.reduceLT, Nat.reduceEqDiff, Nat.reduceAdd, Nat.reduceSub, Nat.reduceMul, Int.reduceToNat])
  have hip : i < p.length := by omega
  have hio : i < o.length := by omega
  have hlp : (i : Int) < (p.length : Int) := by omega
  have hlo : (i : Int) < (o.length : Int) := by omega
  have g0 : (0 : Int) ≤ (i : Int) := by omega
  have c0 : (0 : Int) ≤ (c : Int) := by omega
  have w1 : IntKind.i64.wrap ((i : Int) + 1) = ((i + 1 : Nat) : Int) := by rw [wrap_id (by omega) (by omega)]; omega
  rw [setA_step m c hip hio] at hE
  rw [show (rowQ p o m i).getD c 0 = R i c by rw [hR]] at hE
  have hst := rowQ_get m (c := c) hip hio (by rw [hl (i + 1) (by omega)]; omega)
  rw [show (rowQ p o m i).getD c 0 = R i c by rw [hR], show (rowQ p o m (i + 1)).getD c 0 = R (i + 1) c by rw [hR]] at hst
  have v0 := hRv i c (by omega)
  by_cases hz : R i c = 0
  · rw [if_pos hz, List.append_nil] at hE
    have g : ¬ (0 : Int) < R i c := by omega
    simp only [go_sem, List.replicate_succ, Nat.reducePow, Nat.reduceLeDiff, ↓reduceIte, reduceCtorEq, Nat.reduceLT, Nat.reduceEqDiff, Nat.reduceAdd, Nat.reduceSub, Nat.reduceMul, Int.reduceToNat, hlp, g]
    exact out hE _ (by simp only [go_sem, List.replicate_succ, Nat.reducePow, Nat.reduceLeDiff, ↓reduceIte, reduceCtorEq, Nat.reduceLT, Nat.reduceEqDiff, Nat.reduceAdd, Nat.reduceSub, Nat.reduceMul, Int.reduceToNat])
  rw [if_neg hz] at hE
  have g : (0 : Int) < R i c := by omega
  by_cases ha : p[i] ≤ c
  rotate_left
  · have ha' : (c : Int) < p[i] := by omega
    rw [if_neg (fun h => ha h.1)] at hE
    rw [if_neg ha] at hst
    simp only [go_sem, List.replicate_succ, Nat.reducePow, Nat.reduceLeDiff, ↓reduceIte, reduceCtorEq, Nat.reduceLT, Nat.reduceEqDiff, Nat.reduceAdd, Nat.reduceSub, Nat.reduceMul, Int.reduceToNat, hlp, g, g0, c0, List.getElem?_map, List.getElem?_eq_getElem hip, ha', w1]
    exact ⟨n - (i + 1), ⟨[(0, vints p), (1, vints o), (2, vrows T), (9, ownV 0 acc.length), (10, vi c), (11, vi (R (i + 1) c)), (12, vi (i + 1 : Nat))], [.arr acc.length 1 3 (acc.map vi)]⟩, by omega, by rw [hst]; exact WkE.keep (by simp only [go_sem, List.replicate_succ, Nat.reducePow, Nat.reduceLeDiff, ↓reduceIte, reduceCtorEq, Nat.reduceLT, Nat.reduceEqDiff, Nat.reduceAdd, Nat.reduceSub, Nat.reduceMul, Int.reduceToNat]), i + 1, c, acc, rfl, by omega, hc, by omega, hE, rfl⟩
  have ha' : ¬ (c : Int) < p[i] := by omega
  rw [if_pos ha] at hst
  have hpb := hp _ (List.getElem_mem hip)
  have hob := ho _ (List.getElem_mem hio)
  obtain ⟨d, hd⟩ : ∃ d : Nat, c - p[i].toNat = d := ⟨_, rfl⟩
  rw [hd] at hE hst
  rw [show (rowQ p o m (i + 1)).getD d 0 = R (i + 1) d by rw [hR]] at hE hst
  have v1 := hRv (i + 1) d (by omega)
  have w2 : IntKind.i64.wrap ((c : Int) - p[i]) = (d : Int) := by rw [wrap_id (by omega) (by omega)]; omega
  have d0 : (0 : Int) ≤ (d : Int) := by omega
  have i0 : (0 : Int) ≤ ((i + 1 : Nat) : Int) := by omega
  have w3 : IntKind.i64.wrap (o[i] + R (i + 1) d) = o[i] + R (i + 1) d := wrap_id (by omega) (by omega)
  have t1 := hTg (i + 1) (by omega)
  have t2 := hg (i + 1) d (by omega) (by omega)
  by_cases he : o[i] + R (i + 1) d = R i c
  · rw [if_pos ⟨ha, he⟩] at hE
    have he' := eq_true he
    have w4 : IntKind.i64.wrap (R i c - o[i]) = R (i + 1) d := by rw [wrap_id (by omega) (by omega)]; omega
    have hb : (acc.length + 1) * 8 ≤ 140737488355328 := by omega
    have htk : List.take acc.length (acc.map vi) = acc.map vi := List.take_of_length_le (by simp)
    simp only [go_sem, List.replicate_succ, Nat.reducePow, Nat.reduceLeDiff, ↓reduceIte, reduceCtorEq, Nat.reduceLT, Nat.reduceEqDiff, Nat.reduceAdd, Nat.reduceSub, Nat.reduceMul, Int.reduceToNat, hlp, g, g0, c0, d0, i0, List.getElem?_map, List.getElem?_eq_getElem hip, List.getElem?_eq_getElem hio, ha', w1, w2, w3, t1, t2, he', w4, hb, htk]
    refine ⟨n - (i + 1), ⟨[(0, vints p), (1, vints o), (2, vrows T), (9, ownV 0 (acc ++ [(i : Int)]).length), (10, vi d), (11, vi (R (i + 1) d)), (12, vi (i + 1 : Nat))], [.arr (acc ++ [(i : Int)]).length 1 3 ((acc ++ [(i : Int)]).map vi)]⟩, by omega, ?_, i + 1, d, acc ++ [(i : Int)], rfl, by omega, by omega, by simp; omega, by simpa using hE, rfl⟩
    rw [List.map_append, List.length_append]
    exact WkE.keep (by simp only [go_sem, List.replicate_succ, Nat.reducePow, Nat.reduceLeDiff, ↓reduceIte, reduceCtorEq, Nat.reduceLT, Nat.reduceEqDiff, Nat.reduceAdd, Nat.reduceSub, Nat.reduceMul, Int.reduceToNat])
  · rw [if_neg (fun h => he h.2)] at hE
    have he' := eq_false he
    simp only [go_sem, List.replicate_succ, Nat.reducePow, Nat.reduceLeDiff, ↓reduceIte, reduceCtorEq, Nat.reduceLT, Nat.reduceEqDiff, Nat.reduceAdd, Nat.reduceSub, Nat.reduceMul, Int.reduceToNat, hlp, g, g0, c0, d0, i0, List.getElem?_map, List.getElem?_eq_getElem hip, List.getElem?_eq_getElem hio, ha', w1, w2, w3, t1, t2, he']
    have : R i c = R (i + 1) c := by omega
    exact ⟨n - (i + 1), ⟨[(0, vints p), (1, vints o), (2, vrows T), (9, ownV 0 acc.length), (10, vi c), (11, vi (R (i + 1) c)), (12, vi (i + 1 : Nat))], [.arr acc.length 1 3 (acc.map vi)]⟩, by omega, by rw [this]; exact WkE.keep (by simp only [go_sem, List.replicate_succ, Nat.reducePow, Nat.reduceLeDiff, ↓reduceIte, reduceCtorEq, Nat.reduceLT, Nat.reduceEqDiff, Nat.reduceAdd, Nat.reduceSub, Nat.reduceMul, Int.reduceToNat]), i + 1, c, acc, rfl, by omega, hc, by omega, hE, rfl⟩
end Go.Proofs.Ytphcaelkpgdbcaa
