/- What is shown: copies of lists. -/
import Derived.Test.YtjpknjicfoiheaaPe
set_option linter.unusedSimpArgs false
set_option linter.unusedVariables false
set_option linter.unusedSectionVars false
namespace Go.Proofs.Ytjpknjicfoiheaa
open Go.RowKit Dak
theorem isT_map {α : Type} {f : α → AV} {l : List α} (h : ∀ x, (f x).isT = true) : ((l.map f).all AV.isT) = true := by
  refine List.all_eq_true.2 fun y hy => ?_
  obtain ⟨x, _, rfl⟩ := List.mem_map.1 hy
  exact h x
theorem wk_list {B objs : List AObj} {s : Nat} {xs : List AV} (hB : B.all (fun o => o.innO B.length) = true) (ho : objs.take B.length = B) {env : List (Nat × AV)} : WkE 1 ⟨(0, .list s xs) :: env, objs⟩ ⟨[(0, .list s xs)], B⟩ :=
  WkE.round (by refine ⟨?_, trivial⟩; rfl) (by simp [AV.inn, AV.inn1]) hB ho
theorem wk_nil {B objs : List AObj} {s : Nat} (e : TypeId) (hB : B.all (fun o => o.innO B.length) = true) (ho : objs.take B.length = B) : WkE 1 ⟨[(0, .val (.slice none 0 0))], objs⟩ ⟨[(0, .list s [])], B⟩ := by
  refine (WkE.nil 0 s e (by omega) rfl).trans ((WkE.freeze 0 objs.length 0 0 0 s e [] (by omega) rfl (by simp) (by simp) rfl).trans (wk_list hB ?_))
  have hle : B.length ≤ objs.length := by rw [← ho]; simp; omega
  rw [List.set_append_right _ _ (Nat.le_refl _), List.take_append_of_le_length hle, ho]
theorem wk_own {B objs : List AObj} {s : Nat} {xs : List AV} (id g m : Nat) (e : TypeId) (hB : B.all (fun o => o.innO B.length) = true) (ho : objs.take B.length = B) (hid : B.length ≤ id) (hg : objs[id]? = some (.arr g s e xs)) (hm : xs.length = m) (hT : (xs.all AV.isT) = true) :
    WkE 1 ⟨[(0, .own id g 0 m)], objs⟩ ⟨[(0, .list s xs)], B⟩ := by
  have e1 : (xs.drop 0).take m = xs := by rw [List.drop_zero, List.take_of_length_le (by omega)]
  have := WkE.freeze (n := 1) (env := [(0, .own id g 0 m)]) 0 id g 0 m s e xs (by omega) rfl hg (by omega) hT
  rw [e1] at this
  refine this.trans (wk_list hB ?_)
  rw [List.take_set_of_le hid, ho]
set_option maxRecDepth 100000 in
theorem Clone_s (s : Hs) (m : Nat) (hm : m ≤ s.dec.length) (hd : s.dec.length ≤ 100000) : CtrM Try.prog 28 [.own 3 s.dec.length 0 m] (objsH s) (.list 1 ((s.dec.take m).map vi)) (objsH s) := by
  refine spec0 s f28 (by simp) (fun _ _ => rfl) fun F0 w0 G B eB hBl hBi hG => ?_
  have hBi' : B.all (fun o => o.innO B.length) = true := by rw [hBl]; exact hBi
  unfold c28
  refine CwpE.cut (st := ⟨[(0, .own 3 s.dec.length 0 m)], objsH s ++ [G]⟩) ?_ ?_
  · simp only [go_sem, List.replicate_succ, Nat.reducePow, Nat.reduceLeDiff, ↓reduceIte, reduceCtorEq, Nat.reduceLT, Nat.reduceEqDiff, Nat.reduceAdd, Nat.reduceSub, Nat.reduceMul, Int.reduceToNat]
    exact ⟨_, WkE.keep (by simp only [go_sem, List.replicate_succ, Nat.reducePow, Nat.reduceLeDiff, ↓reduceIte, reduceCtorEq, Nat.reduceLT, Nat.reduceEqDiff, Nat.reduceAdd, Nat.reduceSub, Nat.reduceMul, Int.reduceToNat]), rfl⟩
  have run : (CwpE Try.prog F0 w0 8 (.seq (.region [⟨some 5, none, .bslice 3 1 []⟩, ⟨some 6, none, .mov (T 0)⟩, ⟨some 7, none, .append 3 1 8 (T 5) (T 6)⟩, ⟨some 2, none, .mov (T 7)⟩]) .ret) (retM [.tmp 2] (.list 1 ((s.dec.take m).map vi)) B) ⟨[(0, .own 3 s.dec.length 0 m)], objsH s ++ [G]⟩) := by
    refine CwpE.vc ?_
    have q1 : m * 8 ≤ 140737488355328 := by omega
    have q3 : (List.take m s.dec).length = m := by simp; omega
    simp only [objsH, oH, go_sem, List.replicate_succ, Nat.reducePow, Nat.reduceLeDiff, ↓reduceIte, reduceCtorEq, Nat.reduceLT, Nat.reduceEqDiff, Nat.reduceAdd, Nat.reduceSub, Nat.reduceMul, Int.reduceToNat, hm, q1, q3, ← List.map_take]
    exact ⟨_, rfl, wk_own 6 m m 3 hBi' (by rw [hBl, eB]; rfl) (by omega) rfl (by simp; omega) (isT_map fun _ => rfl)⟩
  by_cases z : m = 0
  · subst z
    refine CwpE.seqJ (fun st => st = ⟨[(0, .own 3 s.dec.length 0 0)], objsH s ++ [G]⟩) ?_ (by rintro _ rfl; exact run)
    refine CwpE.cut (st := ⟨[(4, .anyB), (0, .own 3 s.dec.length 0 0)], objsH s ++ [G]⟩) ?_ ?_
    · simp only [objsH, oH, go_sem, List.replicate_succ, Nat.reducePow, Nat.reduceLeDiff, ↓reduceIte, reduceCtorEq, Nat.reduceLT, Nat.reduceEqDiff, Nat.reduceAdd, Nat.reduceSub, Nat.reduceMul, Int.reduceToNat]
      exact ⟨_, WkE.keep (by simp only [go_sem, List.replicate_succ, Nat.reducePow, Nat.reduceLeDiff, ↓reduceIte, reduceCtorEq, Nat.reduceLT, Nat.reduceEqDiff, Nat.reduceAdd, Nat.reduceSub, Nat.reduceMul, Int.reduceToNat]), rfl⟩
    refine CwpE.split 4 rfl fun b => CwpE.vc ?_
    cases b
    · simp only [objsH, oH, go_sem, List.replicate_succ, Nat.reducePow, Nat.reduceLeDiff, ↓reduceIte, reduceCtorEq, Nat.reduceLT, Nat.reduceEqDiff, Nat.reduceAdd, Nat.reduceSub, Nat.reduceMul, Int.reduceToNat]
      exact ⟨_, WkE.keep (by simp only [go_sem, List.replicate_succ, Nat.reducePow, Nat.reduceLeDiff, ↓reduceIte, reduceCtorEq, Nat.reduceLT, Nat.reduceEqDiff, Nat.reduceAdd, Nat.reduceSub, Nat.reduceMul, Int.reduceToNat]), rfl⟩
    · simp only [objsH, oH, go_sem, List.replicate_succ, Nat.reducePow, Nat.reduceLeDiff, ↓reduceIte, reduceCtorEq, Nat.reduceLT, Nat.reduceEqDiff, Nat.reduceAdd, Nat.reduceSub, Nat.reduceMul, Int.reduceToNat]
      exact ⟨_, rfl, wk_nil 3 hBi' (by rw [hBl, eB]; rfl)⟩
  · refine CwpE.seqJ (fun st => st = ⟨[(0, .own 3 s.dec.length 0 m)], objsH s ++ [G]⟩) (CwpE.vc ?_) (by rintro _ rfl; exact run)
    have z' : 0 < m := by omega
    simp only [objsH, oH, go_sem, List.replicate_succ, Nat.reducePow, Nat.reduceLeDiff, ↓reduceIte, reduceCtorEq, Nat.reduceLT, Nat.reduceEqDiff, Nat.reduceAdd, Nat.reduceSub, Nat.reduceMul, Int.reduceToNat, z']
    exact ⟨_, WkE.keep (by simp only [go_sem, List.replicate_succ, Nat.reducePow, Nat.reduceLeDiff, ↓reduceIte, reduceCtorEq, Nat.reduceLT, Nat.reduceEqDiff, Nat.reduceAdd, Nat.reduceSub, Nat.reduceMul, Int.reduceToNat]), rfl⟩
set_option maxRecDepth 100000 in
theorem Clone2_s (s : Hs) (m : Nat) (hm : m ≤ s.ans.length) (hd : s.ans.length ≤ 100000) : CtrM Try.prog 29 [.own 4 s.ans.length 0 m] (objsH s) (.list 3 ((s.ans.take m).map vans)) (objsH s) := by
  refine spec0 s f29 (by simp) (fun _ _ => rfl) fun F0 w0 G B eB hBl hBi hG => ?_
  have hBi' : B.all (fun o => o.innO B.length) = true := by rw [hBl]; exact hBi
  unfold c29
  refine CwpE.cut (st := ⟨[(0, .own 4 s.ans.length 0 m)], objsH s ++ [G]⟩) ?_ ?_
  · simp only [go_sem, List.replicate_succ, Nat.reducePow, Nat.reduceLeDiff, ↓reduceIte, reduceCtorEq, Nat.reduceLT, Nat.reduceEqDiff, Nat.reduceAdd, Nat.reduceSub, Nat.reduceMul, Int.reduceToNat]
    exact ⟨_, WkE.keep (by simp only [go_sem, List.replicate_succ, Nat.reducePow, Nat.reduceLeDiff, ↓reduceIte, reduceCtorEq, Nat.reduceLT, Nat.reduceEqDiff, Nat.reduceAdd, Nat.reduceSub, Nat.reduceMul, Int.reduceToNat]), rfl⟩
  have run : (CwpE Try.prog F0 w0 8 (.seq (.region [⟨some 5, none, .bslice 38 3 []⟩, ⟨some 6, none, .mov (T 0)⟩, ⟨some 7, none, .append 38 3 24 (T 5) (T 6)⟩, ⟨some 2, none, .mov (T 7)⟩]) .ret) (retM [.tmp 2] (.list 3 ((s.ans.take m).map vans)) B) ⟨[(0, .own 4 s.ans.length 0 m)], objsH s ++ [G]⟩) := by
    refine CwpE.vc ?_
    have q1 : m * 24 ≤ 140737488355328 := by omega
    have q3 : (List.take m s.ans).length = m := by simp; omega
    simp only [objsH, oH, go_sem, List.replicate_succ, Nat.reducePow, Nat.reduceLeDiff, ↓reduceIte, reduceCtorEq, Nat.reduceLT, Nat.reduceEqDiff, Nat.reduceAdd, Nat.reduceSub, Nat.reduceMul, Int.reduceToNat, hm, q1, q3, ← List.map_take]
    exact ⟨_, rfl, wk_own 6 m m 38 hBi' (by rw [hBl, eB]; rfl) (by omega) rfl (by simp; omega) (isT_map fun _ => rfl)⟩
  by_cases z : m = 0
  · subst z
    refine CwpE.seqJ (fun st => st = ⟨[(0, .own 4 s.ans.length 0 0)], objsH s ++ [G]⟩) ?_ (by rintro _ rfl; exact run)
    refine CwpE.cut (st := ⟨[(4, .anyB), (0, .own 4 s.ans.length 0 0)], objsH s ++ [G]⟩) ?_ ?_
    · simp only [objsH, oH, go_sem, List.replicate_succ, Nat.reducePow, Nat.reduceLeDiff, ↓reduceIte, reduceCtorEq, Nat.reduceLT, Nat.reduceEqDiff, Nat.reduceAdd, Nat.reduceSub, Nat.reduceMul, Int.reduceToNat]
      exact ⟨_, WkE.keep (by simp only [go_sem, List.replicate_succ, Nat.reducePow, Nat.reduceLeDiff, ↓reduceIte, reduceCtorEq, Nat.reduceLT, Nat.reduceEqDiff, Nat.reduceAdd, Nat.reduceSub, Nat.reduceMul, Int.reduceToNat]), rfl⟩
    refine CwpE.split 4 rfl fun b => CwpE.vc ?_
    cases b
    · simp only [objsH, oH, go_sem, List.replicate_succ, Nat.reducePow, Nat.reduceLeDiff, ↓reduceIte, reduceCtorEq, Nat.reduceLT, Nat.reduceEqDiff, Nat.reduceAdd, Nat.reduceSub, Nat.reduceMul, Int.reduceToNat]
      exact ⟨_, WkE.keep (by simp only [go_sem, List.replicate_succ, Nat.reducePow, Nat.reduceLeDiff, ↓reduceIte, reduceCtorEq, Nat.reduceLT, Nat.reduceEqDiff, Nat.reduceAdd, Nat.reduceSub, Nat.reduceMul, Int.reduceToNat]), rfl⟩
    · simp only [objsH, oH, go_sem, List.replicate_succ, Nat.reducePow, Nat.reduceLeDiff, ↓reduceIte, reduceCtorEq, Nat.reduceLT, Nat.reduceEqDiff, Nat.reduceAdd, Nat.reduceSub, Nat.reduceMul, Int.reduceToNat]
      exact ⟨_, rfl, wk_nil 38 hBi' (by rw [hBl, eB]; rfl)⟩
  · refine CwpE.seqJ (fun st => st = ⟨[(0, .own 4 s.ans.length 0 m)], objsH s ++ [G]⟩) (CwpE.vc ?_) (by rintro _ rfl; exact run)
    have z' : 0 < m := by omega
    simp only [objsH, oH, go_sem, List.replicate_succ, Nat.reducePow, Nat.reduceLeDiff, ↓reduceIte, reduceCtorEq, Nat.reduceLT, Nat.reduceEqDiff, Nat.reduceAdd, Nat.reduceSub, Nat.reduceMul, Int.reduceToNat, z']
    exact ⟨_, WkE.keep (by simp only [go_sem, List.replicate_succ, Nat.reducePow, Nat.reduceLeDiff, ↓reduceIte, reduceCtorEq, Nat.reduceLT, Nat.reduceEqDiff, Nat.reduceAdd, Nat.reduceSub, Nat.reduceMul, Int.reduceToNat]), rfl⟩

/-- Shown -/
def shownE (s : Hs) (i : Int) : List Int := if i < 0 ∨ (s.devs.length : Int) ≤ i then [] else match s.devs[i.toNat]? with
  | some d => if d.live = false then [] else s.dec.take d.mom.toNat
  | none => []
/-- No device shows what is not decided. -/
def OkH (s : Hs) : Prop := s.devs.length ≤ 1000 ∧ s.dec.length ≤ 100000 ∧ s.ans.length ≤ 100000 ∧ ∀ d ∈ s.devs, 0 ≤ d.mom ∧ d.mom ≤ s.dec.length
set_option maxRecDepth 100000 in
theorem Shown_s (s : Hs) (ok : OkH s) (x : Int) : CtrM Try.prog 11 [.ref 2 1 0 0, vi x] (objsH s) (vints (shownE s x)) (objsH s) := by
  refine spec0 s f11 (by simp) (fun _ _ => rfl) fun F0 w0 G B eB hBl hBi hG => CwpE.vc ?_
  have hBi' : B.all (fun o => o.innO B.length) = true := by rw [hBl]; exact hBi
  have nl : ∀ env objs, objs.take 6 = B → lk env 4 = .val (.slice none 0 0) → retM [.tmp 4] (vints []) B .ret ⟨env, objs⟩ := fun env objs ho hl => by
    refine ⟨_, ?_, wk_nil 3 hBi' (by rw [hBl]; exact ho)⟩
    simp only [resAllE, List.mapM_cons, List.mapM_nil, resE, hl]; rfl
  by_cases a1 : x < 0
  · have e : shownE s x = [] := if_pos (.inl a1)
    rw [e]
    simp only [c11, objsH, oH, go_sem, List.replicate_succ, Nat.reducePow, Nat.reduceLeDiff, ↓reduceIte, reduceCtorEq, Nat.reduceLT, Nat.reduceEqDiff, Nat.reduceAdd, Nat.reduceSub, Nat.reduceMul, Int.reduceToNat, Int.reduceLT, Int.reduceLE, Int.reduceEq, Int.reduceNe, Int.reduceNeg, Int.reduceToNat, Int.lt_irrefl, Int.le_refl, a1]
    exact nl _ _ eB.symm rfl
  by_cases a2 : (s.devs.length : Int) ≤ x
  · have e : shownE s x = [] := if_pos (.inr a2)
    rw [e]
    simp only [c11, objsH, oH, go_sem, List.replicate_succ, Nat.reducePow, Nat.reduceLeDiff, ↓reduceIte, reduceCtorEq, Nat.reduceLT, Nat.reduceEqDiff, Nat.reduceAdd, Nat.reduceSub, Nat.reduceMul, Int.reduceToNat, Int.reduceLT, Int.reduceLE, Int.reduceEq, Int.reduceNe, Int.reduceNeg, Int.reduceToNat, Int.lt_irrefl, Int.le_refl, a1, a2]
    exact nl _ _ eB.symm rfl
  obtain ⟨i, rfl⟩ : ∃ i : Nat, x = (i : Int) := ⟨x.toNat, by omega⟩
  have hil : i < s.devs.length := by omega
  obtain ⟨d, h⟩ : ∃ d, s.devs[i]? = some d := ⟨_, List.getElem?_eq_getElem hil⟩
  have h1 := gdv h
  have g0 : (0 : Int) ≤ (i : Int) := by omega
  have g1 : (i : Int) < (s.devs.length : Int) := by omega
  have e : shownE s i = if d.live = false then [] else s.dec.take d.mom.toNat := by
    unfold shownE; rw [if_neg (by omega), Int.toNat_natCast, h]
  rw [e]
  cases l : d.live with
  | false =>
    simp only [c11, objsH, oH, vdv, go_sem, List.replicate_succ, Nat.reducePow, Nat.reduceLeDiff, ↓reduceIte, reduceCtorEq, Nat.reduceLT, Nat.reduceEqDiff, Nat.reduceAdd, Nat.reduceSub, Nat.reduceMul, Int.reduceToNat, Int.reduceLT, Int.reduceLE, Int.reduceEq, Int.reduceNe, Int.reduceNeg, Int.reduceToNat, Int.lt_irrefl, Int.le_refl, a1, a2, g0, g1, h1, l]
    exact nl _ _ eB.symm rfl
  | true =>
    obtain ⟨_, hd, _, hm⟩ := ok
    obtain ⟨m0, m1⟩ := hm d (List.mem_of_getElem? h)
    obtain ⟨m, hm⟩ : ∃ m : Nat, d.mom = (m : Int) := ⟨d.mom.toNat, by omega⟩
    have hml : m ≤ s.dec.length := by omega
    have m2 : (0 : Int) ≤ (m : Int) := by omega
    have m3 : (m : Int) ≤ (s.dec.length : Int) := by omega
    simp only [c11, objsH, oH, vdv, go_sem, List.replicate_succ, Nat.reducePow, Nat.reduceLeDiff, ↓reduceIte, reduceCtorEq, Nat.reduceLT, Nat.reduceEqDiff, Nat.reduceAdd, Nat.reduceSub, Nat.reduceMul, Int.reduceToNat, Int.reduceLT, Int.reduceLE, Int.reduceEq, Int.reduceNe, Int.reduceNeg, Int.reduceToNat, Int.lt_irrefl, Int.le_refl, a1, a2, g0, g1, h1, l, hm, m2, m3, Nat.sub_zero]
    refine callM (objsH s) [G] _ (Clone_s s m hml hd) rfl (objsH_inn _ 5 (by omega)) rfl ?_
    simp only [go_sem, List.replicate_succ, Nat.reducePow, Nat.reduceLeDiff, ↓reduceIte, reduceCtorEq, Nat.reduceLT, Nat.reduceEqDiff, Nat.reduceAdd, Nat.reduceSub, Nat.reduceMul, Int.reduceToNat, Int.reduceLT, Int.reduceLE, Int.reduceEq, Int.reduceNe, Int.reduceNeg, Int.reduceToNat, Int.lt_irrefl, Int.le_refl]
    exact endR hBl hBi rfl rfl eB.symm
theorem Answers_s (s : Hs) (hd : s.ans.length ≤ 100000) : CtrM Try.prog 12 [.ref 2 1 0 0] (objsH s) (.list 3 (s.ans.map vans)) (objsH s) := by
  refine spec0 s f12 (by simp) (fun _ _ => rfl) fun F0 w0 G B eB hBl hBi hG => CwpE.vc ?_
  simp only [c12, objsH, oH, go_sem, List.replicate_succ, Nat.reducePow, Nat.reduceLeDiff, ↓reduceIte, reduceCtorEq, Nat.reduceLT, Nat.reduceEqDiff, Nat.reduceAdd, Nat.reduceSub, Nat.reduceMul, Int.reduceToNat, Int.reduceLT, Int.reduceLE, Int.reduceEq, Int.reduceNe, Int.reduceNeg, Int.reduceToNat, Int.lt_irrefl, Int.le_refl]
  have hc := Clone2_s s s.ans.length (Nat.le_refl _) hd
  rw [List.take_length] at hc
  refine callM (objsH s) [G] _ hc rfl (objsH_inn _ 5 (by omega)) rfl ?_
  simp only [go_sem, List.replicate_succ, Nat.reducePow, Nat.reduceLeDiff, ↓reduceIte, reduceCtorEq, Nat.reduceLT, Nat.reduceEqDiff, Nat.reduceAdd, Nat.reduceSub, Nat.reduceMul, Int.reduceToNat, Int.reduceLT, Int.reduceLE, Int.reduceEq, Int.reduceNe, Int.reduceNeg, Int.reduceToNat, Int.lt_irrefl, Int.le_refl]
  exact endR hBl hBi rfl rfl eB.symm
end Go.Proofs.Ytjpknjicfoiheaa
