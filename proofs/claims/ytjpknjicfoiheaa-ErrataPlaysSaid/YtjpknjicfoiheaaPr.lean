/- The hall of the reference in memory; Shown and Decide of it. -/
import Derived.Test.YtjpknjicfoiheaaPq
set_option linter.unusedSimpArgs false
set_option linter.unusedVariables false
set_option linter.unusedSectionVars false
namespace Go.Proofs.Ytjpknjicfoiheaa
open Go.RowKit Dak
/-- What lies ahead of it. -/
structure Pre where
  a : AObj
  b : AObj
  c : AObj
  d : AObj
  e : AObj
  ok : ∀ k, 5 ≤ k → ([a, b, c, d, e].all fun o => o.innO k) = true
abbrev oR (p : Pre) (n dl al : Nat) (D : List AV) (now : Int) (X A : List AV) : List AObj :=
  [p.a, p.b, p.c, p.d, p.e, .arr 1 4 76 [.agg [.own 6 n 0 n, .own 7 dl 0 dl, vi now, .own 8 al 0 al]], .arr n 8 78 D, .arr dl 1 3 X, .arr al 3 38 A]
def objsR (p : Pre) (s : Hs) : List AObj := oR p s.devs.length s.dec.length s.ans.length (s.devs.map vdv) s.now (s.dec.map vi) (s.ans.map vans)
theorem objsR_len (p : Pre) (s : Hs) : (objsR p s).length = 9 := rfl
theorem objsR_inn (p : Pre) (s : Hs) (k : Nat) (hk : 9 ≤ k) : (objsR p s).all (fun o => o.innO k) = true := by
  have h := p.ok k (by omega)
  simp only [List.all_cons, List.all_nil, Bool.and_true, Bool.and_eq_true] at h
  obtain ⟨h1, h2, h3, h4, h5⟩ := h
  simp only [objsR, oR, List.all_cons, List.all_nil, h1, h2, h3, h4, h5]
  simp only [AObj.innO, List.all_cons, List.all_nil, inn_map (f := vdv) (k := k) (fun _ => rfl), inn_map (f := vi) (k := k) (fun _ => rfl), inn_map (f := vans) (k := k) (fun _ => rfl), AV.inn, AV.inn1, Bool.true_and, Bool.and_true, Bool.and_eq_true, decide_eq_true_eq]
  omega
theorem objsRG_inn (p : Pre) (s : Hs) {G : AObj} (hG : ∀ m, 9 ≤ m → G.innO m = true) : (objsR p s ++ [G]).all (fun o => o.innO 10) = true := by
  rw [List.all_append, objsR_inn p s _ (by omega)]
  simp [hG 10 (by omega)]
theorem specR {f : FuncId} {c : CCode} {n : Nat} {rs : List CRes} {xs : List AV} {p : Pre} {s : Hs} (s' : Hs) {r : AV} (hf : fnC Try.prog f = some (c, n, rs)) (hn : xs.length ≤ n) (hr : ∀ m, 9 ≤ m → r.inn m = true)
    (h : ∀ F0 w0 G B, B = objsR p s' ++ [G] → B.length = 10 → B.all (fun o => o.innO 10) = true → (∀ m, 9 ≤ m → G.innO m = true) → CwpE Try.prog F0 w0 n c (retM rs r B) ⟨envOf 0 xs, objsR p s ++ [G]⟩) :
    CtrM Try.prog f xs (objsR p s) r (objsR p s') := by
  refine specM hf hn rfl (by rw [objsR_len]; exact objsR_inn p s' _ (by omega)) (by rw [objsR_len]; exact hr _ (by omega)) fun F0 w0 G hG => ?_
  rw [objsR_len] at hG
  refine h F0 w0 G _ rfl rfl ?_ hG
  rw [List.all_append, objsR_inn p s' _ (by omega)]
  simp [hG 10 (by omega)]
theorem putR_objs (p : Pre) (s : Hs) (i : Nat) (d : Dv) : objsR p (s.put i d) = oR p s.devs.length s.dec.length s.ans.length ((s.devs.map vdv).set i (vdv d)) s.now (s.dec.map vi) (s.ans.map vans) := by
  simp only [objsR, Hs.put, List.length_set, List.map_set]
/-- Shown: a part of its own list. -/
def shownA (s : Hs) (i : Int) : AV := if i < 0 ∨ (s.devs.length : Int) ≤ i then vints [] else match s.devs[i.toNat]? with
  | some d => if d.live = false then vints [] else .own 7 s.dec.length 0 d.mom.toNat
  | none => vints []
theorem shownA_inn (s : Hs) (i : Int) (m : Nat) (h : 9 ≤ m) : (shownA s i).inn m = true := by
  unfold shownA
  split
  · rfl
  · split
    · split
      · rfl
      · simp only [AV.inn, AV.inn1, decide_eq_true_eq]; omega
    · rfl
set_option maxRecDepth 100000 in
theorem ShownR_s (p : Pre) (s : Hs) (ok : OkH s) (x : Int) : CtrM Try.prog 45 [.ref 5 1 0 0, vi x] (objsR p s) (shownA s x) (objsR p s) := by
  refine specR s f45 (by simp) (fun m hm => shownA_inn s x m hm) fun F0 w0 G B eB hBl hBi hG => CwpE.vc ?_
  have hBi' : B.all (fun o => o.innO B.length) = true := by rw [hBl]; exact hBi
  have nl : ∀ env objs, objs.take 10 = B → lk env 4 = .val (.slice none 0 0) → retM [.tmp 4] (vints []) B .ret ⟨env, objs⟩ := fun env objs ho hl => by
    refine ⟨_, ?_, wk_nil 3 hBi' (by rw [hBl]; exact ho)⟩
    simp only [resAllE, List.mapM_cons, List.mapM_nil, resE, hl]; rfl
  by_cases a1 : x < 0
  · have e : shownA s x = vints [] := if_pos (.inl a1)
    rw [e]
    simp only [c45, objsR, oR, go_sem, List.replicate_succ, Nat.reducePow, Nat.reduceLeDiff, ↓reduceIte, reduceCtorEq, Nat.reduceLT, Nat.reduceEqDiff, Nat.reduceAdd, Nat.reduceSub, Nat.reduceMul, Int.reduceToNat, Int.reduceLT, Int.reduceLE, Int.reduceEq, Int.reduceNe, Int.reduceNeg, Int.reduceToNat, Int.lt_irrefl, Int.le_refl, a1]
    exact nl _ _ eB.symm rfl
  by_cases a2 : (s.devs.length : Int) ≤ x
  · have e : shownA s x = vints [] := if_pos (.inr a2)
    rw [e]
    simp only [c45, objsR, oR, go_sem, List.replicate_succ, Nat.reducePow, Nat.reduceLeDiff, ↓reduceIte, reduceCtorEq, Nat.reduceLT, Nat.reduceEqDiff, Nat.reduceAdd, Nat.reduceSub, Nat.reduceMul, Int.reduceToNat, Int.reduceLT, Int.reduceLE, Int.reduceEq, Int.reduceNe, Int.reduceNeg, Int.reduceToNat, Int.lt_irrefl, Int.le_refl, a1, a2]
    exact nl _ _ eB.symm rfl
  obtain ⟨i, rfl⟩ : ∃ i : Nat, x = (i : Int) := ⟨x.toNat, by omega⟩
  have hil : i < s.devs.length := by omega
  obtain ⟨d, h⟩ : ∃ d, s.devs[i]? = some d := ⟨_, List.getElem?_eq_getElem hil⟩
  have h1 := gdv h
  have g0 : (0 : Int) ≤ (i : Int) := by omega
  have g1 : (i : Int) < (s.devs.length : Int) := by omega
  have e : shownA s i = if d.live = false then vints [] else .own 7 s.dec.length 0 d.mom.toNat := by
    unfold shownA; rw [if_neg (by omega), Int.toNat_natCast, h]
  rw [e]
  cases l : d.live with
  | false =>
    rw [if_pos rfl]
    simp only [c45, objsR, oR, vdv, go_sem, List.replicate_succ, Nat.reducePow, Nat.reduceLeDiff, ↓reduceIte, reduceCtorEq, Nat.reduceLT, Nat.reduceEqDiff, Nat.reduceAdd, Nat.reduceSub, Nat.reduceMul, Int.reduceToNat, Int.reduceLT, Int.reduceLE, Int.reduceEq, Int.reduceNe, Int.reduceNeg, Int.reduceToNat, Int.lt_irrefl, Int.le_refl, a1, a2, g0, g1, h1, l]
    exact nl _ _ eB.symm rfl
  | true =>
    rw [if_neg (by simp)]
    obtain ⟨_, hd, _, hm⟩ := ok
    obtain ⟨m0, m1⟩ := hm d (List.mem_of_getElem? h)
    obtain ⟨m, hm⟩ : ∃ m : Nat, d.mom = (m : Int) := ⟨d.mom.toNat, by omega⟩
    have hml : m ≤ s.dec.length := by omega
    have m2 : (0 : Int) ≤ (m : Int) := by omega
    have m3 : (m : Int) ≤ (s.dec.length : Int) := by omega
    simp only [c45, objsR, oR, vdv, go_sem, List.replicate_succ, Nat.reducePow, Nat.reduceLeDiff, ↓reduceIte, reduceCtorEq, Nat.reduceLT, Nat.reduceEqDiff, Nat.reduceAdd, Nat.reduceSub, Nat.reduceMul, Int.reduceToNat, Int.reduceLT, Int.reduceLE, Int.reduceEq, Int.reduceNe, Int.reduceNeg, Int.reduceToNat, Int.lt_irrefl, Int.le_refl, a1, a2, g0, g1, h1, l, hm, m2, m3, Nat.sub_zero]
    exact endR hBl hBi (by simp only [AV.inn, AV.inn1]; decide) rfl eB.symm
theorem any_take {α : Type} {p : α → Bool} {l : List α} {k : Nat} (hlt : k < l.length) : (l.take (k + 1)).any p = ((l.take k).any p || p l[k]) := by
  rw [List.take_succ_eq_append_getElem hlt, List.any_append]; simp
set_option maxHeartbeats 4000000 in
set_option maxRecDepth 100000 in
theorem DecideR_s (p : Pre) (s : Hs) (hn : s.devs.length ≤ 1000) (hd : s.dec.length ≤ 100000) : CtrM Try.prog 46 [.ref 5 1 0 0] (objsR p s) (.tup []) (objsR p (decideH s)) := by
  refine specR (decideH s) f46 (by simp) (fun _ _ => rfl) fun F0 w0 G B eB hBl hBi hG => ?_
  unfold c46
  refine CwpE.seqJ (fun st => s.devs.any waitsD = false ∧ st = ⟨[(0, .ref 5 1 0 0)], objsR p s ++ [G]⟩) ?_ ?_
  · refine CwpE.cut (st := ⟨[(0, .ref 5 1 0 0), (2, vi (0 : Nat))], objsR p s ++ [G]⟩) ?_ (CwpE.block ?_)
    · simp only [objsR, oR, go_sem, List.replicate_succ, Nat.reducePow, Nat.reduceLeDiff, ↓reduceIte, reduceCtorEq, Nat.reduceLT, Nat.reduceEqDiff, Nat.reduceAdd, Nat.reduceSub, Nat.reduceMul, Int.reduceToNat, Int.reduceLT, Int.reduceLE, Int.reduceEq, Int.reduceNe, Int.reduceNeg, Int.reduceToNat, Int.lt_irrefl, Int.le_refl]
      exact ⟨_, WkE.keep (by simp only [go_sem, List.replicate_succ, Nat.reducePow, Nat.reduceLeDiff, ↓reduceIte, reduceCtorEq, Nat.reduceLT, Nat.reduceEqDiff, Nat.reduceAdd, Nat.reduceSub, Nat.reduceMul, Int.reduceToNat]; rfl), rfl⟩
    refine loopXC 0 (fun m st => ∃ k : Nat, m = s.devs.length - k ∧ k ≤ s.devs.length ∧ (s.devs.take k).any waitsD = false ∧ st = ⟨[(0, .ref 5 1 0 0), (2, vi k)], objsR p s ++ [G]⟩)
      (fun st => s.devs.any waitsD = false ∧ st = ⟨[(0, .ref 5 1 0 0)], objsR p s ++ [G]⟩) s.devs.length
      ⟨[(0, .ref 5 1 0 0), (2, vi (0 : Nat))], objsR p s ++ [G]⟩ (.refl _ _) ⟨0, rfl, by omega, rfl, rfl⟩ ?_ ?_
    rotate_left
    · rintro st ⟨h, rfl⟩
      simp only [objsR, oR, go_sem, List.replicate_succ, Nat.reducePow, Nat.reduceLeDiff, ↓reduceIte, reduceCtorEq, Nat.reduceLT, Nat.reduceEqDiff, Nat.reduceAdd, Nat.reduceSub, Nat.reduceMul, Int.reduceToNat]
      exact ⟨_, .refl _ _, h, rfl⟩
    rintro m st ⟨k, rfl, hk, ha, rfl⟩
    by_cases hlt : k < s.devs.length
    rotate_left
    · have e : k = s.devs.length := by omega
      have g1 : ¬ (k : Int) < (s.devs.length : Int) := by omega
      rw [e, List.take_length] at ha
      refine CwpE.vc ?_
      simp only [objsR, oR, go_sem, List.replicate_succ, Nat.reducePow, Nat.reduceLeDiff, ↓reduceIte, reduceCtorEq, Nat.reduceLT, Nat.reduceEqDiff, Nat.reduceAdd, Nat.reduceSub, Nat.reduceMul, Int.reduceToNat, Int.reduceLT, Int.reduceLE, Int.reduceEq, Int.reduceNe, Int.reduceNeg, Int.reduceToNat, Int.lt_irrefl, Int.le_refl, g1]
      exact ⟨_, WkE.keep (by simp only [go_sem, List.replicate_succ, Nat.reducePow, Nat.reduceLeDiff, ↓reduceIte, reduceCtorEq, Nat.reduceLT, Nat.reduceEqDiff, Nat.reduceAdd, Nat.reduceSub, Nat.reduceMul, Int.reduceToNat]), ha, rfl⟩
    have g1 : (k : Int) < (s.devs.length : Int) := by omega
    have g0 : (0 : Int) ≤ (k : Int) := by omega
    have w1 : IntKind.i64.wrap ((k : Int) + 1) = ((k + 1 : Nat) : Int) := by rw [wrap_id (by omega) (by omega)]; omega
    have h : s.devs[k]? = some s.devs[k] := List.getElem?_eq_getElem hlt
    have h1 := gdv h
    have hnext := any_take (p := waitsD) hlt
    rw [ha, Bool.false_or] at hnext
    have hmem : waitsD s.devs[k] = true → decideH s = s := fun hw => if_pos (.inr (List.any_eq_true.2 ⟨_, List.getElem_mem hlt, hw⟩))
    generalize s.devs[k] = d at *
    have cont : waitsD d = false → ∀ env objs, WkE 82 ⟨env, objs⟩ ⟨[(0, .ref 5 1 0 0), (2, vi (k + 1 : Nat))], objsR p s ++ [G]⟩ → ∃ m_1 s', m_1 < s.devs.length - k ∧ WkE 82 ⟨env, objs⟩ s' ∧ ∃ k : Nat, m_1 = s.devs.length - k ∧ k ≤ s.devs.length ∧ (s.devs.take k).any waitsD = false ∧ s' = ⟨[(0, .ref 5 1 0 0), (2, vi k)], objsR p s ++ [G]⟩ :=
      fun hw env objs h => ⟨s.devs.length - (k + 1), _, by omega, h, k + 1, rfl, by omega, by rw [hnext, hw], rfl⟩
    unfold waitsD at hmem cont
    refine CwpE.vc ?_
    cases l : d.live with
    | false =>
      rw [l] at cont
      simp only [objsR, oR, vdv, go_sem, List.replicate_succ, Nat.reducePow, Nat.reduceLeDiff, ↓reduceIte, reduceCtorEq, Nat.reduceLT, Nat.reduceEqDiff, Nat.reduceAdd, Nat.reduceSub, Nat.reduceMul, Int.reduceToNat, Int.reduceLT, Int.reduceLE, Int.reduceEq, Int.reduceNe, Int.reduceNeg, Int.reduceToNat, Int.lt_irrefl, Int.le_refl, g1, g0, h1, l, w1]
      exact cont rfl _ _ (WkE.keep (by simp only [go_sem, List.replicate_succ, Nat.reducePow, Nat.reduceLeDiff, ↓reduceIte, reduceCtorEq, Nat.reduceLT, Nat.reduceEqDiff, Nat.reduceAdd, Nat.reduceSub, Nat.reduceMul, Int.reduceToNat]))
    | true =>
      cases o : d.done with
      | true =>
        rw [l, o] at cont
        simp only [objsR, oR, vdv, go_sem, List.replicate_succ, Nat.reducePow, Nat.reduceLeDiff, ↓reduceIte, reduceCtorEq, Nat.reduceLT, Nat.reduceEqDiff, Nat.reduceAdd, Nat.reduceSub, Nat.reduceMul, Int.reduceToNat, Int.reduceLT, Int.reduceLE, Int.reduceEq, Int.reduceNe, Int.reduceNeg, Int.reduceToNat, Int.lt_irrefl, Int.le_refl, g1, g0, h1, l, o, w1]
        exact cont rfl _ _ (WkE.keep (by simp only [go_sem, List.replicate_succ, Nat.reducePow, Nat.reduceLeDiff, ↓reduceIte, reduceCtorEq, Nat.reduceLT, Nat.reduceEqDiff, Nat.reduceAdd, Nat.reduceSub, Nat.reduceMul, Int.reduceToNat]))
      | false =>
        rw [l, o] at hmem
        rw [hmem rfl] at eB
        simp only [objsR, oR, vdv, go_sem, List.replicate_succ, Nat.reducePow, Nat.reduceLeDiff, ↓reduceIte, reduceCtorEq, Nat.reduceLT, Nat.reduceEqDiff, Nat.reduceAdd, Nat.reduceSub, Nat.reduceMul, Int.reduceToNat, Int.reduceLT, Int.reduceLE, Int.reduceEq, Int.reduceNe, Int.reduceNeg, Int.reduceToNat, Int.lt_irrefl, Int.le_refl, g1, g0, h1, l, o]
        exact endR hBl hBi rfl rfl eB.symm
  rintro st ⟨hany, rfl⟩
  by_cases z : s.now = 0
  · have e : decideH s = s := if_pos (.inl z)
    rw [e] at eB
    refine CwpE.vc ?_
    simp only [objsR, oR, go_sem, List.replicate_succ, Nat.reducePow, Nat.reduceLeDiff, ↓reduceIte, reduceCtorEq, Nat.reduceLT, Nat.reduceEqDiff, Nat.reduceAdd, Nat.reduceSub, Nat.reduceMul, Int.reduceToNat, Int.reduceLT, Int.reduceLE, Int.reduceEq, Int.reduceNe, Int.reduceNeg, Int.reduceToNat, Int.lt_irrefl, Int.le_refl, z]
    exact endR hBl hBi rfl rfl (by rw [eB]; simp only [objsR, oR, z]; rfl)
  have e : decideH s = { s with dec := s.dec ++ [s.now], now := 0, devs := s.devs.map Dv.cut } := if_neg (by simp [z, hany])
  have q1 : (s.dec.length + 1) * 8 ≤ 140737488355328 := by omega
  refine CwpE.cut (st := ⟨[(0, .ref 5 1 0 0)], objsR p s ++ [G]⟩) ?_ ?_
  · simp only [objsR, oR, go_sem, List.replicate_succ, Nat.reducePow, Nat.reduceLeDiff, ↓reduceIte, reduceCtorEq, Nat.reduceLT, Nat.reduceEqDiff, Nat.reduceAdd, Nat.reduceSub, Nat.reduceMul, Int.reduceToNat, Int.reduceLT, Int.reduceLE, Int.reduceEq, Int.reduceNe, Int.reduceNeg, Int.reduceToNat, Int.lt_irrefl, Int.le_refl, z]
    exact ⟨_, WkE.keep (by simp only [go_sem, List.replicate_succ, Nat.reducePow, Nat.reduceLeDiff, ↓reduceIte, reduceCtorEq, Nat.reduceLT, Nat.reduceEqDiff, Nat.reduceAdd, Nat.reduceSub, Nat.reduceMul, Int.reduceToNat]), rfl⟩
  refine CwpE.cut (st := ⟨[(0, .ref 5 1 0 0)], objsR p { s with dec := s.dec ++ [s.now] } ++ [G]⟩) ?_ ?_
  · simp only [objsR, oR, go_sem, List.replicate_succ, Nat.reducePow, Nat.reduceLeDiff, ↓reduceIte, reduceCtorEq, Nat.reduceLT, Nat.reduceEqDiff, Nat.reduceAdd, Nat.reduceSub, Nat.reduceMul, Int.reduceToNat, Int.reduceLT, Int.reduceLE, Int.reduceEq, Int.reduceNe, Int.reduceNeg, Int.reduceToNat, Int.lt_irrefl, Int.le_refl, q1]
    refine ⟨_, ?_, rfl⟩
    simp only [List.length_append, List.length_cons, List.length_nil, List.map_append, List.map_cons, List.map_nil, List.cons_append, List.nil_append, Nat.zero_add]
    exact WkE.keep (by simp only [go_sem, List.replicate_succ, Nat.reducePow, Nat.reduceLeDiff, ↓reduceIte, reduceCtorEq, Nat.reduceLT, Nat.reduceEqDiff, Nat.reduceAdd, Nat.reduceSub, Nat.reduceMul, Int.reduceToNat])
  rw [e] at eB
  clear e z hany hd q1
  refine CwpE.cut (st := ⟨[(0, .ref 5 1 0 0)], objsR p { s with dec := s.dec ++ [s.now], now := 0 } ++ [G]⟩) ?_ ?_
  · simp only [objsR, oR, go_sem, List.replicate_succ, Nat.reducePow, Nat.reduceLeDiff, ↓reduceIte, reduceCtorEq, Nat.reduceLT, Nat.reduceEqDiff, Nat.reduceAdd, Nat.reduceSub, Nat.reduceMul, Int.reduceToNat, Int.reduceLT, Int.reduceLE, Int.reduceEq, Int.reduceNe, Int.reduceNeg, Int.reduceToNat, Int.lt_irrefl, Int.le_refl]
    exact ⟨_, WkE.keep (by simp only [go_sem, List.replicate_succ, Nat.reducePow, Nat.reduceLeDiff, ↓reduceIte, reduceCtorEq, Nat.reduceLT, Nat.reduceEqDiff, Nat.reduceAdd, Nat.reduceSub, Nat.reduceMul, Int.reduceToNat]), rfl⟩
  generalize s.dec ++ [s.now] = dec at *
  have ef : stepD (fun _ => true) Dv.cut = Dv.cut := funext fun d => rfl
  rw [← ef] at eB
  have e0 : objsR p { s with dec := dec, now := 0 } = objsR p { s with dec := dec, now := 0, devs := partD (fun _ => true) Dv.cut s.devs 0 } := by simp [partD]
  rw [e0]
  refine CwpE.cut (st := ⟨[(0, .ref 5 1 0 0), (3, vi (0 : Nat))], objsR p { s with dec := dec, now := 0, devs := partD (fun _ => true) Dv.cut s.devs 0 } ++ [G]⟩) ?_ (CwpE.block ?_)
  · simp only [objsR, oR, go_sem, List.replicate_succ, Nat.reducePow, Nat.reduceLeDiff, ↓reduceIte, reduceCtorEq, Nat.reduceLT, Nat.reduceEqDiff, Nat.reduceAdd, Nat.reduceSub, Nat.reduceMul, Int.reduceToNat, Int.reduceLT, Int.reduceLE, Int.reduceEq, Int.reduceNe, Int.reduceNeg, Int.reduceToNat, Int.lt_irrefl, Int.le_refl]
    exact ⟨_, WkE.keep (by simp only [go_sem, List.replicate_succ, Nat.reducePow, Nat.reduceLeDiff, ↓reduceIte, reduceCtorEq, Nat.reduceLT, Nat.reduceEqDiff, Nat.reduceAdd, Nat.reduceSub, Nat.reduceMul, Int.reduceToNat]; rfl), rfl⟩
  refine loopXC 2 (fun m st => ∃ k : Nat, m = s.devs.length - k ∧ k ≤ s.devs.length ∧ st = ⟨[(0, .ref 5 1 0 0), (3, vi k)], objsR p { s with dec := dec, now := 0, devs := partD (fun _ => true) Dv.cut s.devs k } ++ [G]⟩)
    (fun st => st = ⟨[], B⟩) s.devs.length
    ⟨[(0, .ref 5 1 0 0), (3, vi (0 : Nat))], objsR p { s with dec := dec, now := 0, devs := partD (fun _ => true) Dv.cut s.devs 0 } ++ [G]⟩ (.refl _ _) ⟨0, rfl, by omega, rfl⟩ ?_ ?_
  rotate_left
  · rintro st rfl
    simp only [go_sem, List.replicate_succ, Nat.reducePow, Nat.reduceLeDiff, ↓reduceIte, reduceCtorEq, Nat.reduceLT, Nat.reduceEqDiff, Nat.reduceAdd, Nat.reduceSub, Nat.reduceMul, Int.reduceToNat]
    exact endN hBl hBi rfl rfl (List.take_of_length_le (by omega))
  rintro m st ⟨k, rfl, hk, rfl⟩
  have hlk := partD_len (fun _ => true) Dv.cut s.devs k
  by_cases hlt : k < s.devs.length
  rotate_left
  · have e : k = s.devs.length := by omega
    subst e
    have e1 : partD (fun _ => true) Dv.cut s.devs s.devs.length = s.devs.map (stepD (fun _ => true) Dv.cut) := by simp [partD]
    rw [e1] at hlk
    have g1 : ¬ (s.devs.length : Int) < ((s.devs.map (stepD (fun _ => true) Dv.cut)).length : Int) := by omega
    rw [e1]
    generalize s.devs.map (stepD (fun _ => true) Dv.cut) = ds at *
    refine CwpE.vc ?_
    simp only [objsR, oR, go_sem, List.replicate_succ, Nat.reducePow, Nat.reduceLeDiff, ↓reduceIte, reduceCtorEq, Nat.reduceLT, Nat.reduceEqDiff, Nat.reduceAdd, Nat.reduceSub, Nat.reduceMul, Int.reduceToNat, Int.reduceLT, Int.reduceLE, Int.reduceEq, Int.reduceNe, Int.reduceNeg, Int.reduceToNat, Int.lt_irrefl, Int.le_refl, g1]
    exact ⟨⟨[], B⟩, by rw [eB]; exact WkE.keep (by simp only [go_sem, List.replicate_succ, Nat.reducePow, Nat.reduceLeDiff, ↓reduceIte, reduceCtorEq, Nat.reduceLT, Nat.reduceEqDiff, Nat.reduceAdd, Nat.reduceSub, Nat.reduceMul, Int.reduceToNat]), rfl⟩
  have hgk := partD_get (fun _ => true) Dv.cut hlt
  have hsk := partD_succ (fun _ => true) Dv.cut hlt
  obtain ⟨ds', hds'⟩ : ∃ ds', partD (fun _ => true) Dv.cut s.devs (k + 1) = ds' := ⟨_, rfl⟩
  rw [hds'] at hsk
  generalize hds : partD (fun _ => true) Dv.cut s.devs k = ds at *
  generalize hdk : s.devs[k] = d at *
  have g1 : (k : Int) < (ds.length : Int) := by omega
  have g0 : (0 : Int) ≤ (k : Int) := by omega
  have w1 : IntKind.i64.wrap ((k : Int) + 1) = ((k + 1 : Nat) : Int) := by rw [wrap_id (by omega) (by omega)]; omega
  have h1 : (ds.map vdv)[k]? = some (vdv d) := by rw [List.getElem?_map, hgk]; rfl
  have h2 : (ds.map vdv).set k (.agg [vb d.up, vb d.live, vi d.mom, vb d.holds, .val (.bool false), .val (.bool false), .val (.bool false), vb d.up]) = ds'.map vdv := by rw [hsk, List.map_set]; rfl
  have h3 : ds.length = ds'.length := by rw [hsk, List.length_set]
  have g1' : (k : Int) < (ds'.length : Int) := by omega
  refine CwpE.vc ?_
  simp only [objsR, oR, vdv, go_sem, List.replicate_succ, Nat.reducePow, Nat.reduceLeDiff, ↓reduceIte, reduceCtorEq, Nat.reduceLT, Nat.reduceEqDiff, Nat.reduceAdd, Nat.reduceSub, Nat.reduceMul, Int.reduceToNat, Int.reduceLT, Int.reduceLE, Int.reduceEq, Int.reduceNe, Int.reduceNeg, Int.reduceToNat, Int.lt_irrefl, Int.le_refl, g1', g0, h1, h2, h3, w1]
  exact ⟨s.devs.length - (k + 1), ⟨[(0, .ref 5 1 0 0), (3, vi (k + 1 : Nat))], objsR p { s with dec := dec, now := 0, devs := ds' } ++ [G]⟩, by omega, WkE.round ⟨rfl, rfl, trivial⟩ rfl (objsRG_inn p _ hG) rfl, k + 1, rfl, by omega, by rw [hds']; rfl⟩
end Go.Proofs.Ytjpknjicfoiheaa
