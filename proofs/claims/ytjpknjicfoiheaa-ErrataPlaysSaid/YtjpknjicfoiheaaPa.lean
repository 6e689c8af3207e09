/- The state of a hall, and what it is in memory; small functions, by contract. -/
import Derived.Test.YtjpknjicfoiheaaCo
import Derived.Test.YtjpknjicfoiheaaDt
set_option linter.unusedSimpArgs false
set_option linter.unusedVariables false
set_option linter.unusedSectionVars false
namespace Go.Proofs.Ytjpknjicfoiheaa
open Go.RowKit Dak

def I64 (n : Int) : Prop := -9223372036854775808 ≤ n ∧ n ≤ 9223372036854775807
abbrev vi (n : Int) : AV := .val (.int .i64 n)
abbrev vb (b : Bool) : AV := .val (.bool b)
abbrev vints (l : List Int) : AV := .list 1 (l.map vi)
theorem wrap_id {n : Int} (h1 : -9223372036854775808 ≤ n) (h2 : n ≤ 9223372036854775807) : IntKind.i64.wrap n = n := by rw [IntKind.wrap_i64]; omega

/-- A place that is not used. -/
theorem WkE.void {n : Nat} {env : List (Nat × AV)} {objs : List AObj} : WkE n ⟨env, objs⟩ ⟨env, objs ++ [.void]⟩ := by
  intro hk
  refine ⟨hk, fun F0 w0 a w hs => ?_⟩
  obtain ⟨hd, L, g, hsz, ht⟩ := sim_slots hk hs
  obtain ⟨gv, hlv⟩ := good_void g
  exact sim_mk (s := ⟨env, objs ++ [.void]⟩) hd gv hsz fun t h => (ht t h).stay hlv

/-- A device. -/
structure Dv where
  up : Bool
  live : Bool
  mom : Int
  holds : Bool
  done : Bool
  f0 : Bool
  f1 : Bool
  f2 : Bool
  deriving DecidableEq
abbrev vdv (d : Dv) : AV := .agg [vb d.up, vb d.live, vi d.mom, vb d.holds, vb d.done, vb d.f0, vb d.f1, vb d.f2]
/-- A hall. -/
structure Hs where
  devs : List Dv
  dec : List Int
  now : Int
  ans : List (Int × Int × Int)
abbrev vans (t : Int × Int × Int) : AV := .agg [vi t.1, vi t.2.1, vi t.2.2]
/-- It in memory: a hall, its devices, what is decided, and the answers. -/
abbrev oH (n dl al : Nat) (D : List AV) (now : Int) (X A : List AV) : List AObj :=
  [.void, .arr n 8 60 D, .arr 1 4 62 [.agg [.own 1 n 0 n, .own 3 dl 0 dl, vi now, .own 4 al 0 al]], .arr dl 1 3 X, .arr al 3 38 A]
def objsH (s : Hs) : List AObj := oH s.devs.length s.dec.length s.ans.length (s.devs.map vdv) s.now (s.dec.map vi) (s.ans.map vans)
theorem inn_map {α : Type} {f : α → AV} {l : List α} {k : Nat} (h : ∀ x, (f x).inn k = true) : (l.map f).all (AV.inn k) = true := by
  refine List.all_eq_true.2 fun y hy => ?_
  obtain ⟨x, _, rfl⟩ := List.mem_map.1 hy
  exact h x
theorem objsH_inn (s : Hs) (k : Nat) (hk : 5 ≤ k) : (objsH s).all (fun o => o.innO k) = true := by
  simp only [objsH, oH, List.all_cons, List.all_nil, AObj.innO, inn_map (f := vdv) (k := k) (fun _ => rfl), inn_map (f := vi) (k := k) (fun _ => rfl), inn_map (f := vans) (k := k) (fun _ => rfl), AV.inn, AV.inn1, Bool.true_and, Bool.and_true, Bool.and_eq_true, decide_eq_true_eq]
  omega
theorem objsH_len (s : Hs) : (objsH s).length = 5 := rfl

theorem specT {f : FuncId} {c : CCode} {n : Nat} {rs : List CRes} {xs : List AV} {s : Hs} (s' : Hs) {tl : List AObj} {r : AV} (hf : fnC Try.prog f = some (c, n, rs)) (hn : xs.length ≤ n) (htl : ∀ m, 5 + tl.length ≤ m → tl.all (fun o => o.innO m) = true) (hr : ∀ m, 5 + tl.length ≤ m → r.inn m = true)
    (h : ∀ F0 w0 G B, B = objsH s' ++ tl ++ [G] → B.length = 6 + tl.length → B.all (fun o => o.innO (6 + tl.length)) = true → (∀ m, 5 + tl.length ≤ m → G.innO m = true) → CwpE Try.prog F0 w0 n c (retM rs r B) ⟨envOf 0 xs, objsH s ++ tl ++ [G]⟩) :
    CtrM Try.prog f xs (objsH s ++ tl) r (objsH s' ++ tl) := by
  have hl : ∀ s, (objsH s ++ tl).length = 5 + tl.length := fun s => by rw [List.length_append, objsH_len]
  refine specM hf hn (by rw [hl, hl]) (by rw [hl, List.all_append, objsH_inn s' _ (by omega), htl _ (by omega)]; rfl) (by rw [hl]; exact hr _ (by omega)) fun F0 w0 G hG => ?_
  rw [hl] at hG
  refine h F0 w0 G _ rfl (by rw [List.length_append, hl]; simp; omega) ?_ hG
  rw [List.all_append, List.all_append, objsH_inn s' _ (by omega), htl _ (by omega)]
  simp [hG (6 + tl.length) (by omega)]
theorem spec0 {f : FuncId} {c : CCode} {n : Nat} {rs : List CRes} {xs : List AV} {s : Hs} (s' : Hs) {r : AV} (hf : fnC Try.prog f = some (c, n, rs)) (hn : xs.length ≤ n) (hr : ∀ m, 5 ≤ m → r.inn m = true)
    (h : ∀ F0 w0 G B, B = objsH s' ++ [G] → B.length = 6 → B.all (fun o => o.innO 6) = true → (∀ m, 5 ≤ m → G.innO m = true) → CwpE Try.prog F0 w0 n c (retM rs r B) ⟨envOf 0 xs, objsH s ++ [G]⟩) :
    CtrM Try.prog f xs (objsH s) r (objsH s') := specT (tl := []) s' hf hn (fun _ _ => rfl) hr h
theorem endR {n : Nat} {rs : List CRes} {r : AV} {B objs : List AObj} {env : List (Nat × AV)} (hl : B.length = n) (hB : B.all (fun o => o.innO n) = true) (hr : r.inn n = true) (hy : resAllE ⟨env, objs⟩ rs = some r) (ho : objs.take n = B) : retM rs r B .ret ⟨env, objs⟩ := by
  subst hl
  exact ⟨r, hy, WkE.round ⟨rfl, trivial⟩ (by simp [hr]) hB ho⟩
theorem endN {n : Nat} {rs : List CRes} {r : AV} {B objs : List AObj} {env : List (Nat × AV)} (hl : B.length = n) (hB : B.all (fun o => o.innO n) = true) (hr : r.inn n = true) (hy : resAllE ⟨env, objs⟩ rs = some r) (ho : objs.take n = B) : retM rs r B .normal ⟨env, objs⟩ := by
  subst hl
  exact ⟨r, hy, WkE.round ⟨rfl, trivial⟩ (by simp [hr]) hB ho⟩
theorem gdv {s : Hs} {i : Nat} {d : Dv} (h : s.devs[i]? = some d) : (s.devs.map vdv)[i]? = some (vdv d) := by rw [List.getElem?_map, h]; rfl
theorem setv {l : List AV} {i : Nat} {x : AV} (h : l[i]? = some x) (y : AV) : (l.set i y)[i]? = some y := List.getElem?_set_self (List.getElem?_eq_some_iff.1 h).1

theorem take_tl (b tl : List AObj) (G : AObj) {a : List AObj} (h : b.length = 5 := by rfl) (e : a = b ++ tl ++ [G] := by rfl) : a.take (6 + tl.length) = b ++ tl ++ [G] := by
  subst e
  exact List.take_of_length_le (by simp; omega)
/-- late -/
theorem late_s (s : Hs) (i : Nat) (d : Dv) (h : s.devs[i]? = some d) : CtrM Try.prog 42 [.ref 2 1 0 0, .ref 1 s.devs.length i 0] (objsH s) (vb (decide (d.mom < s.dec.length))) (objsH s) := by
  refine spec0 s f42 (by simp) (fun _ _ => rfl) fun F0 w0 G B eB hBl hBi hG => CwpE.vc ?_
  simp only [c42, objsH, oH, vdv, go_sem, List.replicate_succ, Nat.reducePow, Nat.reduceLeDiff, ↓reduceIte, reduceCtorEq, Nat.reduceLT, Nat.reduceEqDiff, Nat.reduceAdd, Nat.reduceSub, Nat.reduceMul, Int.reduceToNat, gdv h]
  exact endR hBl hBi rfl rfl eB.symm
/-- Moment -/
theorem Moment_s (s : Hs) : CtrM Try.prog 15 [.ref 2 1 0 0] (objsH s) (vi s.dec.length) (objsH s) := by
  refine spec0 s f15 (by simp) (fun _ _ => rfl) fun F0 w0 G B eB hBl hBi hG => CwpE.vc ?_
  simp only [c15, objsH, oH, vdv, go_sem, List.replicate_succ, Nat.reducePow, Nat.reduceLeDiff, ↓reduceIte, reduceCtorEq, Nat.reduceLT, Nat.reduceEqDiff, Nat.reduceAdd, Nat.reduceSub, Nat.reduceMul, Int.reduceToNat]
  exact endR hBl hBi rfl rfl eB.symm
theorem k30 : (0 : Int) < ((3 : Nat) : Int) := by omega
theorem k31 : (1 : Int) < ((3 : Nat) : Int) := by omega
theorem k32 : (2 : Int) < ((3 : Nat) : Int) := by omega
attribute [go_sem] k30 k31 k32
/-- Whether a message is on its way. -/
def Dv.fl (d : Dv) (k : Int) : Bool := if k = 0 then d.f0 else if k = 1 then d.f1 else d.f2
def hasE (d : Dv) (k : Int) : Int := if k < 0 ∨ 3 ≤ k then 1 else if d.fl k = false then 6 else 0
/-- has -/
theorem has_s (s : Hs) (i : Nat) (d : Dv) (h : s.devs[i]? = some d) (k : Int) : CtrM Try.prog 52 [.ref 1 s.devs.length i 0, vi k] (objsH s) (vi (hasE d k)) (objsH s) := by
  refine spec0 s f52 (by simp) (fun _ _ => rfl) fun F0 w0 G B eB hBl hBi hG => CwpE.vc ?_
  by_cases a : k < 0
  · have e : hasE d k = 1 := if_pos (.inl a)
    simp only [c52, objsH, oH, vdv, go_sem, List.replicate_succ, Nat.reducePow, Nat.reduceLeDiff, ↓reduceIte, reduceCtorEq, Nat.reduceLT, Nat.reduceEqDiff, Nat.reduceAdd, Nat.reduceSub, Nat.reduceMul, Int.reduceToNat, gdv h, a, e]
    exact endR hBl hBi rfl rfl eB.symm
  by_cases b : 3 ≤ k
  · have e : hasE d k = 1 := if_pos (.inr b)
    simp only [c52, objsH, oH, vdv, go_sem, List.replicate_succ, Nat.reducePow, Nat.reduceLeDiff, ↓reduceIte, reduceCtorEq, Nat.reduceLT, Nat.reduceEqDiff, Nat.reduceAdd, Nat.reduceSub, Nat.reduceMul, Int.reduceToNat, gdv h, a, b, e]
    exact endR hBl hBi rfl rfl eB.symm
  obtain ⟨u, l, mo, ho, dn, g0, g1, g2⟩ := d
  obtain rfl | rfl | rfl : k = 0 ∨ k = 1 ∨ k = 2 := by omega
  · cases g0 <;> simp only [hasE, Dv.fl] <;> simp only [c52, objsH, oH, vdv, go_sem, List.replicate_succ, Nat.reducePow, Nat.reduceLeDiff, ↓reduceIte, reduceCtorEq, Nat.reduceLT, Nat.reduceEqDiff, Nat.reduceAdd, Nat.reduceSub, Nat.reduceMul, Int.reduceToNat, Int.reduceLT, Int.reduceLE, Int.reduceEq, Int.reduceNe, Int.reduceNeg, Int.reduceToNat, Int.lt_irrefl, Int.le_refl, gdv h] <;> exact endR hBl hBi rfl rfl eB.symm
  · cases g1 <;> simp only [hasE, Dv.fl] <;> simp only [c52, objsH, oH, vdv, go_sem, List.replicate_succ, Nat.reducePow, Nat.reduceLeDiff, ↓reduceIte, reduceCtorEq, Nat.reduceLT, Nat.reduceEqDiff, Nat.reduceAdd, Nat.reduceSub, Nat.reduceMul, Int.reduceToNat, Int.reduceLT, Int.reduceLE, Int.reduceEq, Int.reduceNe, Int.reduceNeg, Int.reduceToNat, Int.lt_irrefl, Int.le_refl, gdv h] <;> exact endR hBl hBi rfl rfl eB.symm
  · cases g2 <;> simp only [hasE, Dv.fl] <;> simp only [c52, objsH, oH, vdv, go_sem, List.replicate_succ, Nat.reducePow, Nat.reduceLeDiff, ↓reduceIte, reduceCtorEq, Nat.reduceLT, Nat.reduceEqDiff, Nat.reduceAdd, Nat.reduceSub, Nat.reduceMul, Int.reduceToNat, Int.reduceLT, Int.reduceLE, Int.reduceEq, Int.reduceNe, Int.reduceNeg, Int.reduceToNat, Int.lt_irrefl, Int.le_refl, gdv h] <;> exact endR hBl hBi rfl rfl eB.symm
/-- The closures of decide. -/
theorem decide1_s (d : Dv) : Ctr Try.prog 58 [vdv d] (vb (d.live && !d.done)) := by
  refine specE f58 (by simp) fun F0 w0 => ?_
  obtain ⟨u, l, m, h, dn, a, b, c⟩ := d
  cases l <;> cases dn <;> simp only [c58, vdv, go_sem, List.replicate_succ, Nat.reducePow, Nat.reduceLeDiff, ↓reduceIte, reduceCtorEq, Nat.reduceLT, Nat.reduceEqDiff, Nat.reduceAdd, Nat.reduceSub, Nat.reduceMul, Int.reduceToNat] <;> exact .tree _ rfl
theorem decide2_s (s : Hs) (x : AV) : CtrM Try.prog 59 [x] (objsH s) (vb true) (objsH s) := by
  refine spec0 s f59 (by simp) (fun _ _ => rfl) fun F0 w0 G B eB hBl hBi hG => CwpE.vc ?_
  simp only [c59, objsH, oH, vdv, go_sem, List.replicate_succ, Nat.reducePow, Nat.reduceLeDiff, ↓reduceIte, reduceCtorEq, Nat.reduceLT, Nat.reduceEqDiff, Nat.reduceAdd, Nat.reduceSub, Nat.reduceMul, Int.reduceToNat]
  exact endR hBl hBi rfl rfl eB.symm
def Dv.cut (d : Dv) : Dv := { d with done := false, f0 := false, f1 := false, f2 := d.up }
def Hs.put (s : Hs) (i : Nat) (d : Dv) : Hs := { s with devs := s.devs.set i d }
theorem put_objs (s : Hs) (i : Nat) (d : Dv) : objsH (s.put i d) = oH s.devs.length s.dec.length s.ans.length ((s.devs.map vdv).set i (vdv d)) s.now (s.dec.map vi) (s.ans.map vans) := by
  simp only [objsH, Hs.put, List.length_set, List.map_set]
theorem decide3_s (s : Hs) (i : Nat) (d : Dv) (h : s.devs[i]? = some d) : CtrM Try.prog 60 [.ref 1 s.devs.length i 0] (objsH s) (.tup []) (objsH (s.put i d.cut)) := by
  refine spec0 (s.put i d.cut) f60 (by simp) (fun _ _ => rfl) fun F0 w0 G B eB hBl hBi hG => CwpE.vc ?_
  have h1 := gdv h
  have h2 := setv h1
  rw [put_objs] at eB
  simp only [c60, objsH, oH, vdv, go_sem, List.replicate_succ, Nat.reducePow, Nat.reduceLeDiff, ↓reduceIte, reduceCtorEq, Nat.reduceLT, Nat.reduceEqDiff, Nat.reduceAdd, Nat.reduceSub, Nat.reduceMul, Int.reduceToNat, h1, h2, List.set_set]
  exact endN hBl hBi rfl rfl eB.symm
/-- The closures of Announce and Resend have captured the cell of their hall. -/
abbrev capH (G : AObj) : List AObj := [G, .arr 1 1 24 [.ref 2 1 0 0]]
theorem capH_inn {G : AObj} (hG : ∀ m, 6 ≤ m → G.innO m = true) (m : Nat) (hm : 5 + (capH G).length ≤ m) : (capH G).all (fun o => o.innO m) = true := by
  have hm : 7 ≤ m := hm
  have h2 : decide (2 < m) = true := decide_eq_true (by omega)
  show (G.innO m && (AObj.innO m (.arr 1 1 24 [.ref 2 1 0 0]) && true)) = true
  rw [hG m (by omega)]
  simp only [List.all_cons, List.all_nil, AObj.innO, AV.inn, AV.inn1, Bool.and_true, Bool.true_and, h2]
theorem announce1_s (s : Hs) (G0 : AObj) (hG0 : ∀ m, 6 ≤ m → G0.innO m = true) (i : Nat) (d : Dv) (h : s.devs[i]? = some d) : CtrM Try.prog 41 [.ref 1 s.devs.length i 0, .ref 6 1 0 0] (objsH s ++ capH G0) (vb (!decide (d.mom < s.dec.length))) (objsH s ++ capH G0) := by
  refine specT s f41 (by simp) (capH_inn hG0) (fun _ _ => rfl) fun F0 w0 G B eB hBl hBi hG => CwpE.vc ?_
  simp only [c41, objsH, oH, go_sem, List.replicate_succ, Nat.reducePow, Nat.reduceLeDiff, ↓reduceIte, reduceCtorEq, Nat.reduceLT, Nat.reduceEqDiff, Nat.reduceAdd, Nat.reduceSub, Nat.reduceMul, Int.reduceToNat]
  refine callM (objsH s) [G0, .arr 1 1 24 [.ref 2 1 0 0], G] (objsH s) (late_s s i d h) rfl (objsH_inn s 5 (by omega)) rfl ?_
  simp only [objsH, oH, go_sem, List.replicate_succ, Nat.reducePow, Nat.reduceLeDiff, ↓reduceIte, reduceCtorEq, Nat.reduceLT, Nat.reduceEqDiff, Nat.reduceAdd, Nat.reduceSub, Nat.reduceMul, Int.reduceToNat]
  exact endR hBl hBi rfl rfl eB.symm
def Dv.ann (d : Dv) : Dv := { d with holds := false, done := false, f0 := d.f0 || d.live }
theorem announce2_s (s : Hs) (tl : List AObj) (htl : ∀ m, 5 + tl.length ≤ m → tl.all (fun o => o.innO m) = true) (i : Nat) (d : Dv) (h : s.devs[i]? = some d) : CtrM Try.prog 43 [.ref 1 s.devs.length i 0] (objsH s ++ tl) (.tup []) (objsH (s.put i d.ann) ++ tl) := by
  refine specT (s.put i d.ann) f43 (by simp) htl (fun _ _ => rfl) fun F0 w0 G B eB hBl hBi hG => CwpE.vc ?_
  have h1 := gdv h
  have h2 := setv h1
  rw [put_objs] at eB
  obtain ⟨u, l, mo, ho, dn, g0, g1, g2⟩ := d
  cases g0 <;> simp only [c43, objsH, oH, vdv, go_sem, List.replicate_succ, Nat.reducePow, Nat.reduceLeDiff, ↓reduceIte, reduceCtorEq, Nat.reduceLT, Nat.reduceEqDiff, Nat.reduceAdd, Nat.reduceSub, Nat.reduceMul, Int.reduceToNat, Int.reduceLT, Int.reduceLE, Int.reduceEq, Int.reduceNe, Int.reduceNeg, Int.reduceToNat, Int.lt_irrefl, Int.le_refl, h1, h2, List.set_set] <;> refine endN hBl hBi rfl rfl ?_ <;> rw [eB] <;> exact take_tl _ _ _
theorem resend1_s (s : Hs) (tl : List AObj) (htl : ∀ m, 5 + tl.length ≤ m → tl.all (fun o => o.innO m) = true) (i : Nat) (d : Dv) (h : s.devs[i]? = some d) : CtrM Try.prog 54 [.ref 1 s.devs.length i 0] (objsH s ++ tl) (vb d.up) (objsH s ++ tl) := by
  refine specT s f54 (by simp) htl (fun _ _ => rfl) fun F0 w0 G B eB hBl hBi hG => CwpE.vc ?_
  simp only [c54, objsH, oH, vdv, go_sem, List.replicate_succ, Nat.reducePow, Nat.reduceLeDiff, ↓reduceIte, reduceCtorEq, Nat.reduceLT, Nat.reduceEqDiff, Nat.reduceAdd, Nat.reduceSub, Nat.reduceMul, Int.reduceToNat, gdv h]
  refine endR hBl hBi rfl rfl ?_
  rw [eB]; exact take_tl _ _ _
def Hs.res (s : Hs) (d : Dv) : Dv :=
  if d.live = false ∨ d.mom < s.dec.length then { d with f2 := true } else if s.now ≠ 0 ∧ d.holds = false then { d with f0 := true } else if s.now ≠ 0 ∧ d.done = false then { d with f1 := true } else d
theorem set_same {α : Type} {l : List α} {i : Nat} {x : α} (h : l[i]? = some x) : l.set i x = l := by
  refine List.ext_getElem? fun k => ?_
  by_cases e : i = k
  · subst e; rw [List.getElem?_set_self (List.getElem?_eq_some_iff.1 h).1, h]
  · rw [List.getElem?_set_ne e]
set_option maxRecDepth 100000 in
theorem resend2_s (s : Hs) (G0 : AObj) (hG0 : ∀ m, 6 ≤ m → G0.innO m = true) (i : Nat) (d : Dv) (h : s.devs[i]? = some d) : CtrM Try.prog 55 [.ref 1 s.devs.length i 0, .ref 6 1 0 0] (objsH s ++ capH G0) (.tup []) (objsH (s.put i (s.res d)) ++ capH G0) := by
  refine specT (s.put i (s.res d)) f55 (by simp) (capH_inn hG0) (fun _ _ => rfl) fun F0 w0 G B eB hBl hBi hG => ?_
  have h1 := gdv h
  have h2 := setv h1
  have hl := late_s s i d h
  have key : ∀ d' : Dv, s.res d = d' → B = oH s.devs.length s.dec.length s.ans.length ((s.devs.map vdv).set i (vdv d')) s.now (s.dec.map vi) (s.ans.map vans) ++ capH G0 ++ [G] := fun d' e => by rw [eB, put_objs, e]
  clear eB
  obtain ⟨u, l, mo, ho, dn, g0, g1, g2⟩ := d
  refine CwpE.vc ?_
  have hd := set_same h1
  cases l with
  | false =>
    have eB := key _ (if_pos (.inl rfl))
    simp only [c55, objsH, oH, vdv, go_sem, List.replicate_succ, Nat.reducePow, Nat.reduceLeDiff, ↓reduceIte, reduceCtorEq, Nat.reduceLT, Nat.reduceEqDiff, Nat.reduceAdd, Nat.reduceSub, Nat.reduceMul, Int.reduceToNat, Int.reduceLT, Int.reduceLE, Int.reduceEq, Int.reduceNe, Int.reduceNeg, Int.reduceToNat, Int.lt_irrefl, Int.le_refl, h1, h2]
    exact endN hBl hBi rfl rfl eB.symm
  | true =>
    simp only [c55, objsH, oH, vdv, go_sem, List.replicate_succ, Nat.reducePow, Nat.reduceLeDiff, ↓reduceIte, reduceCtorEq, Nat.reduceLT, Nat.reduceEqDiff, Nat.reduceAdd, Nat.reduceSub, Nat.reduceMul, Int.reduceToNat, Int.reduceLT, Int.reduceLE, Int.reduceEq, Int.reduceNe, Int.reduceNeg, Int.reduceToNat, Int.lt_irrefl, Int.le_refl, h1]
    refine callM (objsH s) [G0, .arr 1 1 24 [.ref 2 1 0 0], G] (objsH s) hl rfl (objsH_inn s 5 (by omega)) rfl ?_
    simp only [objsH, oH, go_sem, List.replicate_succ, Nat.reducePow, Nat.reduceLeDiff, ↓reduceIte, reduceCtorEq, Nat.reduceLT, Nat.reduceEqDiff, Nat.reduceAdd, Nat.reduceSub, Nat.reduceMul, Int.reduceToNat, Int.reduceLT, Int.reduceLE, Int.reduceEq, Int.reduceNe, Int.reduceNeg, Int.reduceToNat, Int.lt_irrefl, Int.le_refl]
    by_cases b : mo < s.dec.length
    · have eB := key _ (if_pos (.inr b))
      simp only [b, go_sem, List.replicate_succ, Nat.reducePow, Nat.reduceLeDiff, ↓reduceIte, reduceCtorEq, Nat.reduceLT, Nat.reduceEqDiff, Nat.reduceAdd, Nat.reduceSub, Nat.reduceMul, Int.reduceToNat, Int.reduceLT, Int.reduceLE, Int.reduceEq, Int.reduceNe, Int.reduceNeg, Int.reduceToNat, Int.lt_irrefl, Int.le_refl, h1, h2]
      exact endN hBl hBi rfl rfl eB.symm
    by_cases c : s.now = 0
    · have eB := key _ (by simp only [Hs.res]; rw [if_neg (by simp [b]), if_neg (by simp [c]), if_neg (by simp [c])])
      rw [hd] at eB
      simp only [b, c, go_sem, List.replicate_succ, Nat.reducePow, Nat.reduceLeDiff, ↓reduceIte, reduceCtorEq, Nat.reduceLT, Nat.reduceEqDiff, Nat.reduceAdd, Nat.reduceSub, Nat.reduceMul, Int.reduceToNat, Int.reduceLT, Int.reduceLE, Int.reduceEq, Int.reduceNe, Int.reduceNeg, Int.reduceToNat, Int.lt_irrefl, Int.le_refl, h1, h2]
      exact endN hBl hBi rfl rfl (by rw [eB, c]; rfl)
    cases ho with
    | false =>
      have eB := key _ (by simp only [Hs.res]; rw [if_neg (by simp [b]), if_pos (by simp [c])])
      simp only [b, c, go_sem, List.replicate_succ, Nat.reducePow, Nat.reduceLeDiff, ↓reduceIte, reduceCtorEq, Nat.reduceLT, Nat.reduceEqDiff, Nat.reduceAdd, Nat.reduceSub, Nat.reduceMul, Int.reduceToNat, Int.reduceLT, Int.reduceLE, Int.reduceEq, Int.reduceNe, Int.reduceNeg, Int.reduceToNat, Int.lt_irrefl, Int.le_refl, h1, h2]
      exact endN hBl hBi rfl rfl eB.symm
    | true =>
      cases dn with
      | false =>
        have eB := key _ (by simp only [Hs.res]; rw [if_neg (by simp [b]), if_neg (by simp), if_pos (by simp [c])])
        simp only [b, c, go_sem, List.replicate_succ, Nat.reducePow, Nat.reduceLeDiff, ↓reduceIte, reduceCtorEq, Nat.reduceLT, Nat.reduceEqDiff, Nat.reduceAdd, Nat.reduceSub, Nat.reduceMul, Int.reduceToNat, Int.reduceLT, Int.reduceLE, Int.reduceEq, Int.reduceNe, Int.reduceNeg, Int.reduceToNat, Int.lt_irrefl, Int.le_refl, h1, h2]
        exact endN hBl hBi rfl rfl eB.symm
      | true =>
        have eB := key _ (by simp only [Hs.res]; rw [if_neg (by simp [b]), if_neg (by simp), if_neg (by simp)])
        rw [hd] at eB
        simp only [b, c, go_sem, List.replicate_succ, Nat.reducePow, Nat.reduceLeDiff, ↓reduceIte, reduceCtorEq, Nat.reduceLT, Nat.reduceEqDiff, Nat.reduceAdd, Nat.reduceSub, Nat.reduceMul, Int.reduceToNat, Int.reduceLT, Int.reduceLE, Int.reduceEq, Int.reduceNe, Int.reduceNeg, Int.reduceToNat, Int.lt_irrefl, Int.le_refl, h1, h2]
        exact endN hBl hBi rfl rfl eB.symm
end Go.Proofs.Ytjpknjicfoiheaa
