/- Lemmas used by all laws. -/
import Derived.Test.YtnncijjkbonokaaDoorKa
import Derived.Test.YtnncijjkbonokaaDoorKb
import Derived.Test.YtnncijjkbonokaaDoorKc
import Derived.Test.YtnncijjkbonokaaDoorKd
import Derived.Test.YtnncijjkbonokaaDoorProg
import Derived.WalkKit
import Derived.WalkSpells
import Derived.WalkLawsBesides
import Derived.Orders
import Derived.Laws.MakeOwn
import Derived.Deep.AppendSrc
import Derived.Lib.AppendZerosOnto
import Derived.Defers
import Derived.Laws.StructEq
import Derived.Scope
import Derived.Deep.LoopGhost
import Derived.OrdersIn
import Derived.ControlIn
import Derived.Sort.LoopGhostIn
import Derived.RangeFuncLeaves
import Derived.RangeFuncRecord
import Derived.RangeFuncFrom
import Derived.RangeFuncBox
import Derived.OwnWalkIn
import Derived.TacticsInMore
import Derived.LoopNIn
import Derived.LoopIn
import Derived.Sort.QuietTacIn
import Derived.DataReads
import Derived.Test.YtnncijjkbonokaaDoorTie
import Derived.ProofKit
import Derived.OpenShut
import Derived.ShutString
import Derived.ChangeOld
import Derived.Below
import Derived.LaidMore
import Derived.LaidHandle
import Derived.FnData
set_option linter.unusedSimpArgs false
set_option linter.unusedVariables false
set_option linter.unusedSectionVars false
namespace Go.Proofs.YtnncijjkbonokaaDoor
open Go.RowKit Dak
set_option maxRecDepth 100000 in
theorem Read_s (p : List (List Int)) (hp : p.length <= 100000) (hpc : ∀ x ∈ p, x.length <= 100000) : Ctr Tryd.prog 20 [vpage p] (vme (readP p)) := by
 have k1 : ((1 : Nat) : Int) = 1 := rfl
 have k2 : ((2 : Nat) : Int) = 2 := rfl
 have l12 : (1 : Int) <= 2 := by decide
 have l22 : (2 : Int) <= 2 := by decide
 have l32 : ¬ (3 : Int) <= 2 := by decide
 have w12 : IntKind.i64.wrap (1 + 1) = 2 := by decide
 have w23 : IntKind.i64.wrap (2 + 1) = 3 := by decide
 refine specC f20 (by simp) fun F0 w0 => ?_
 have ret : ∀ env objs m, lk env 2 = .ref 0 1 0 0 -> lk env 3 = vi 0 -> cellsAt objs (.ref 0 1 0 0) = some [vhands m] -> readP p = (m, 0) -> retE [.cell 2 true 1, .tmp 3] (vme (readP p)) .ret ⟨env, objs⟩ := by
  intro env objs m e1 e2 e3 e
  rw [e]
  refine ⟨.tup [.agg [vhands m], vi 0], ?_, .tup _ _ rfl fun i h1 h2 => by
   match i, h1 with
   | 0, _ => exact snap_agg1 (.tree _ rfl)
   | 1, _ => exact .tree _ rfl⟩
  simp only [resAllE, List.mapM_cons, List.mapM_nil, resE, e1, e2, e3]
  rfl
 unfold c20
 refine CwpE.cut (st := ⟨[(0, vpage p), (2, .ref 0 1 0 0)], [.arr 1 1 25 [nilT]]⟩) ?_ ?_
 ·simp only [go_sem, ↓reduceIte, Nat.reduceLT]
  exact ⟨_, WkE.keep (by simp only [go_sem, ↓reduceIte, reduceCtorEq, Nat.reduceEqDiff]), rfl⟩
 refine CwpE.seqJ (fun s => fitsW p (guessP p 1) = false /\ fitsW p (guessP p 2) = false /\ s = ⟨[(0, vpage p), (2, .ref 0 1 0 0)], [.arr 1 1 25 [nilT]]⟩) ?_ ?_
 rotate_left
 ·rintro _ ⟨e1, e2, rfl⟩
  refine CwpE.vc ?_
  simp only [go_sem, ↓reduceIte, reduceCtorEq, Nat.reduceLT, Nat.reduceEqDiff]
  rw [readP, if_neg (by rw [e1]; simp), if_neg (by rw [e2]; simp)]
  refine .tup _ _ rfl fun i h1 h2 => ?_
  match i, h1 with
  | 0, _ => exact snap_agg1 (.nil _)
  | 1, _ => exact .tree _ rfl
 refine CwpE.cut (st := ⟨[(0, vpage p), (2, .ref 0 1 0 0), (4, vi 1)], [.arr 1 1 25 [nilT]]⟩) ?_ ?_
 ·simp only [go_sem, ↓reduceIte, Nat.reduceLT]
  exact ⟨_, WkE.keep (by simp only [go_sem, ↓reduceIte, reduceCtorEq, Nat.reduceEqDiff]), rfl⟩
 refine CwpE.block ?_
 refine loopXC 0 (fun z s => (z = 2 /\ s = ⟨[(0, vpage p), (2, .ref 0 1 0 0), (4, vi 1)], [.arr 1 1 25 [nilT]]⟩) \/ (z = 1 /\ fitsW p (guessP p 1) = false /\ s = ⟨[(0, vpage p), (2, .ref 0 1 0 0), (4, vi 2)], [.arr 1 1 25 [nilT]]⟩) \/ (z = 0 /\ fitsW p (guessP p 1) = false /\ fitsW p (guessP p 2) = false /\ s = ⟨[(0, vpage p), (2, .ref 0 1 0 0), (4, vi 3)], [.arr 1 1 25 [nilT]]⟩))
  (fun s => fitsW p (guessP p 1) = false /\ fitsW p (guessP p 2) = false /\ s = ⟨[(0, vpage p), (2, .ref 0 1 0 0)], [.arr 1 1 25 [nilT]]⟩) 2 _ (.refl _ _) (.inl ⟨rfl, rfl⟩) ?_ ?_
 rotate_left
 ·rintro s h
  simp only [inBlockE, if_true]
  exact ⟨_, .refl _ _, h⟩
 rintro z s (⟨rfl, rfl⟩ | ⟨rfl, i2p, rfl⟩ | ⟨rfl, i2p, i3p, rfl⟩)
 ·refine CwpE.cut (st := ⟨[(0, vpage p), (2, .ref 0 1 0 0), (4, vi (1 : Nat))], [.arr 1 1 25 [nilT]]⟩) ?_ ?_
  ·simp only [go_sem, ↓reduceIte, reduceCtorEq, Nat.reduceLT, Nat.reduceEqDiff, k1, l12]
   exact ⟨_, WkE.keep (by simp only [go_sem, ↓reduceIte, reduceCtorEq, Nat.reduceEqDiff]), rfl⟩
  refine CwpE.seqJ (fun s => fitsW p (guessP p 1) = false /\ s = ⟨[(0, vpage p), (2, .ref 0 1 0 0), (4, vi (1 : Nat))], [.arr 1 1 25 [nilT]]⟩) (CwpE.block ?_) ?_
  ·refine CwpE.cut (st := ⟨[(0, vpage p), (2, .ref 0 1 0 0), (4, vi (1 : Nat)), (5, .ref 1 1 0 0), (6, vb (guessP p 1).2)], [.arr 1 1 25 [nilT], .arr 1 1 25 [vmel (guessP p 1).1]]⟩) ?_ ?_
   ·simp only [go_sem, ↓reduceIte, reduceCtorEq, Nat.reduceLT, Nat.reduceEqDiff, k1]
    refine callT (guess_1 p hpc (by omega)) rfl ?_
    simp only [go_sem, ↓reduceIte, Nat.reduceLT, Nat.reduceEqDiff]
    exact ⟨_, WkE.keep (by simp only [go_sem, ↓reduceIte, reduceCtorEq, Nat.reduceEqDiff]), rfl⟩
   ·refine Read_sw F0 w0 p (by omega) (fun x hx => by have := hpc x hx; omega) 1 (guessP p 1) guess_vm (fun h => ⟨_, .refl _ _, h, rfl⟩) (fun h env objs e1 e2 e3 => ?_)
    refine ret env objs (guessP p 1).1 e1 e2 e3 ?_
    rw [readP, if_pos h]
  ·rintro _ ⟨hfit, rfl⟩
   refine CwpE.vc ?_
   simp only [go_sem, ↓reduceIte, reduceCtorEq, Nat.reduceLT, Nat.reduceEqDiff, k1, w12]
   exact ⟨1, ⟨[(0, vpage p), (2, .ref 0 1 0 0), (4, vi 2)], [.arr 1 1 25 [nilT]]⟩, by omega, WkE.keep (by simp only [go_sem, ↓reduceIte, reduceCtorEq, Nat.reduceEqDiff]), .inr (.inl ⟨rfl, hfit, rfl⟩)⟩
 ·refine CwpE.cut (st := ⟨[(0, vpage p), (2, .ref 0 1 0 0), (4, vi (2 : Nat))], [.arr 1 1 25 [nilT]]⟩) ?_ ?_
  ·simp only [go_sem, ↓reduceIte, reduceCtorEq, Nat.reduceLT, Nat.reduceEqDiff, k2, l22]
   exact ⟨_, WkE.keep (by simp only [go_sem, ↓reduceIte, reduceCtorEq, Nat.reduceEqDiff]), rfl⟩
  refine CwpE.seqJ (fun s => fitsW p (guessP p 2) = false /\ s = ⟨[(0, vpage p), (2, .ref 0 1 0 0), (4, vi (2 : Nat))], [.arr 1 1 25 [nilT]]⟩) (CwpE.block ?_) ?_
  ·refine CwpE.cut (st := ⟨[(0, vpage p), (2, .ref 0 1 0 0), (4, vi (2 : Nat)), (5, .ref 1 1 0 0), (6, vb (guessP p 2).2)], [.arr 1 1 25 [nilT], .arr 1 1 25 [vmel (guessP p 2).1]]⟩) ?_ ?_
   ·simp only [go_sem, ↓reduceIte, reduceCtorEq, Nat.reduceLT, Nat.reduceEqDiff, k2]
    refine callT (guess_2 p hpc (by omega)) rfl ?_
    simp only [go_sem, ↓reduceIte, Nat.reduceLT, Nat.reduceEqDiff]
    exact ⟨_, WkE.keep (by simp only [go_sem, ↓reduceIte, reduceCtorEq, Nat.reduceEqDiff]), rfl⟩
   ·refine Read_sw F0 w0 p (by omega) (fun x hx => by have := hpc x hx; omega) 2 (guessP p 2) guess_vm (fun h => ⟨_, .refl _ _, h, rfl⟩) (fun h env objs e1 e2 e3 => ?_)
    refine ret env objs (guessP p 2).1 e1 e2 e3 ?_
    rw [readP, if_neg (by rw [i2p]; simp), if_pos h]
  ·rintro _ ⟨hfit, rfl⟩
   refine CwpE.vc ?_
   simp only [go_sem, ↓reduceIte, reduceCtorEq, Nat.reduceLT, Nat.reduceEqDiff, k2, w23]
   exact ⟨0, ⟨[(0, vpage p), (2, .ref 0 1 0 0), (4, vi 3)], [.arr 1 1 25 [nilT]]⟩, by omega, WkE.keep (by simp only [go_sem, ↓reduceIte, reduceCtorEq, Nat.reduceEqDiff]), .inr (.inr ⟨rfl, i2p, hfit, rfl⟩)⟩
 ·refine CwpE.vc ?_
  simp only [go_sem, ↓reduceIte, reduceCtorEq, Nat.reduceLT, Nat.reduceEqDiff, l32]
  exact ⟨_, WkE.keep (by simp only [go_sem, ↓reduceIte, reduceCtorEq, Nat.reduceEqDiff]), i2p, i3p, rfl⟩
end Go.Proofs.YtnncijjkbonokaaDoor
namespace Go.Proofs.YtnncijjkbonokaaDoor
open Go.RowKit Dak
def noteN (last k : Int) : Nt :=
 let s1 := (last + k.tmod 11 + 44).tmod 49
 let s2 := if (k.tdiv 440).tmod 7 = 0 then (k.tdiv 3080).tmod 49 else s1
 if (k.tdiv 440).tmod 9 = 1 then ⟨-1, (k.tdiv 11).tmod 5, 0⟩ else ⟨s2, (k.tdiv 11).tmod 5, ((k.tdiv 55).tmod 8).tmod 3 - 1⟩
def notesGo (l : List Int) (at_ : Int) : Nat -> Nat -> Int -> List Nt
 | 0, _, _ => []
 | f + 1, i, last => noteN last (atL l (at_ + 2 + i) 1048576) :: notesGo l at_ f (i + 1) (stepP (noteN last (atL l (at_ + 2 + i) 1048576)) last)
def notesP (l : List Int) (at_ : Int) : List Nt := notesGo l at_ (1 + atL l (at_ + 1) 4).toNat 0 (atL l at_ 49)
theorem around_bd {n most : Int} (hm : 1 <= most) : 0 <= aroundL n most /\ aroundL n most < most := by
 unfold aroundL
 rw [if_neg (by omega)]
 exact ⟨Int.emod_nonneg _ (by omega), Int.emod_lt_of_pos _ (by omega)⟩
theorem atL_bd {l : List Int} {i most : Int} (hm : 1 <= most) : 0 <= atL l i most /\ atL l i most < most := by
 unfold atL
 split
 ·omega
 ·split
  ·exact around_bd hm
  ·omega
theorem noteN_ok {last k : Int} (hl : 0 <= last /\ last <= 48) (hk : 0 <= k /\ k < 1048576) : rightP (noteN last k) = true := by
 obtain ⟨h1, h2⟩ := hl
 obtain ⟨h3, h4⟩ := hk
 unfold noteN
 rw [Int.tmod_eq_emod_of_nonneg (a := k) h3, Int.tdiv_eq_ediv_of_nonneg (a := k) (b := 440) h3, Int.tdiv_eq_ediv_of_nonneg (a := k) (b := 3080) h3, Int.tdiv_eq_ediv_of_nonneg (a := k) (b := 11) h3, Int.tdiv_eq_ediv_of_nonneg (a := k) (b := 55) h3,
  Int.tmod_eq_emod_of_nonneg (a := k / 440) (by omega), Int.tmod_eq_emod_of_nonneg (a := k / 440) (by omega), Int.tmod_eq_emod_of_nonneg (a := k / 3080) (by omega), Int.tmod_eq_emod_of_nonneg (a := k / 11) (by omega), Int.tmod_eq_emod_of_nonneg (a := k / 55) (by omega),
  Int.tmod_eq_emod_of_nonneg (a := k / 55 % 8) (by omega), Int.tmod_eq_emod_of_nonneg (a := last + k % 11 + 44) (by omega)]
 by_cases h9 : (k / 440) % 9 = 1
 ·simp only [h9, if_true, rightP, decide_eq_true_eq]
  refine ⟨?_, ?_, ?_, ?_, ?_, ?_, ?_⟩ <;> first | omega | simp
 ·by_cases h7 : (k / 440) % 7 = 0
  ·simp only [h9, h7, if_true, if_false, rightP, decide_eq_true_eq]
   omega
  ·simp only [h9, h7, if_false, rightP, decide_eq_true_eq]
   omega
theorem step_bd {n : Nt} {last : Int} (hr : rightP n = true) (hl : 0 <= last /\ last <= 48) : 0 <= stepP n last /\ stepP n last <= 48 := by
 obtain ⟨r1, r2, _⟩ := rightP_iff hr
 unfold stepP; split
 ·omega
 ·exact hl
theorem notesGo_ok (l : List Int) (a : Int) : ∀ (f i : Nat) (last : Int), 0 <= last /\ last <= 48 -> (notesGo l a f i last).length = f /\ ∀ n ∈ notesGo l a f i last, rightP n = true
 | 0, _, _, _ => ⟨rfl, fun n h => by cases h⟩
 | f + 1, i, last, hl => by
  have hr := noteN_ok hl (atL_bd (l := l) (i := a + 2 + i) (most := 1048576) (by omega))
  have ih := notesGo_ok l a f (i + 1) _ (step_bd hr hl)
  refine ⟨by simp only [notesGo, List.length_cons, ih.1], fun n hn => ?_⟩
  rcases List.mem_cons.1 hn with rfl | hn
  ·exact hr
  ·exact ih.2 n hn
theorem notesP_ok (l : List Int) (a : Int) : 1 <= (notesP l a).length /\ (notesP l a).length <= 4 /\ ∀ n ∈ notesP l a, rightP n = true := by
 have h1 := atL_bd (l := l) (i := a + 1) (most := 4) (by omega)
 have h2 := atL_bd (l := l) (i := a) (most := 49) (by omega)
 have := notesGo_ok l a (1 + atL l (a + 1) 4).toNat 0 (atL l a 49) (by omega)
 exact ⟨by rw [notesP, this.1]; omega, by rw [notesP, this.1]; omega, this.2⟩
set_option maxRecDepth 100000 in
theorem Notes_s (l : List Int) (a : Int) (hl : ∀ x ∈ l, I64 x) (ha : 0 <= a /\ a <= 1000000) : Ctr Tryd.prog 34 [vints l, vi a] (vbar (notesP l a)) := by
 refine specC f34 (by simp) fun F0 w0 => ?_
 unfold c34
 refine CwpE.cut (st := ⟨[(0, vints l), (1, vi a)], []⟩) ?_ ?_
 ·simp only [go_sem, ↓reduceIte, Nat.reduceLT]
  exact ⟨_, WkE.keep (by simp only [go_sem, ↓reduceIte, reduceCtorEq, Nat.reduceEqDiff]), rfl⟩
 refine CwpE.cut (st := ⟨[(0, vints l), (1, vi a), (5, .own 0 0 0 0)], [.arr 0 3 64 []]⟩) ?_ ?_
 ·simp only [go_sem, ↓reduceIte, Nat.reduceLT]
  exact ⟨_, (WkE.nil 5 3 64 (by omega) rfl).trans (WkE.keep (by simp only [go_sem, ↓reduceIte, reduceCtorEq, Nat.reduceEqDiff])), rfl⟩
 have b49 : I64 49 := ⟨by decide, by decide⟩
 have b4 : I64 4 := ⟨by decide, by decide⟩
 have bk : I64 1048576 := ⟨by decide, by decide⟩
 have w1 : IntKind.i64.wrap (a + 1) = a + 1 := wrap_id (by omega) (by omega)
 have w2 : IntKind.i64.wrap (a + 2) = a + 2 := wrap_id (by omega) (by omega)
 obtain ⟨L0, hL0⟩ : ∃ x, atL l a 49 = x := ⟨_, rfl⟩
 have hb0 := atL_bd (l := l) (i := a) (most := 49) (by omega)
 rw [hL0] at hb0
 refine CwpE.cut (st := ⟨[(0, vints l), (1, vi a), (5, .own 0 0 0 0), (6, vi L0)], [.arr 0 3 64 []]⟩) ?_ ?_
 ·simp only [go_sem, ↓reduceIte, reduceCtorEq, Nat.reduceLT, Nat.reduceEqDiff]
  refine callT (At_s l a 49 hl b49) rfl ?_
  simp only [go_sem, ↓reduceIte, Nat.reduceLT, hL0]
  exact ⟨_, WkE.keep (by simp only [go_sem, ↓reduceIte, reduceCtorEq, Nat.reduceEqDiff]), rfl⟩
 obtain ⟨M, hM⟩ : ∃ x, (1 + atL l (a + 1) 4).toNat = x := ⟨_, rfl⟩
 have hb1 := atL_bd (l := l) (i := a + 1) (most := 4) (by omega)
 have hMi : IntKind.i64.wrap (1 + atL l (a + 1) 4) = (M : Int) := by rw [wrap_id (by omega) (by omega)]; omega
 have hM4 : M <= 4 := by omega
 refine CwpE.cut (st := ⟨[(0, vints l), (1, vi a), (5, .own 0 0 0 0), (6, vi L0), (7, vi M)], [.arr 0 3 64 []]⟩) ?_ ?_
 ·simp only [go_sem, ↓reduceIte, reduceCtorEq, Nat.reduceLT, Nat.reduceEqDiff, w1]
  refine callT (At_s l (a + 1) 4 hl b4) rfl ?_
  simp only [go_sem, ↓reduceIte, Nat.reduceLT, hMi]
  exact ⟨_, WkE.keep (by simp only [go_sem, ↓reduceIte, reduceCtorEq, Nat.reduceEqDiff]), rfl⟩
 refine CwpE.seqJ (fun s => s = ⟨[(5, .own 0 (notesP l a).length 0 (notesP l a).length)], [.arr (notesP l a).length 3 64 ((notesP l a).map vnote)]⟩) ?_ ?_
 rotate_left
 ·rintro _ rfl
  refine CwpE.vc ?_
  simp only [go_sem, ↓reduceIte, Nat.reduceLT]
  exact snap_all (notesP l a) _ rfl rfl fun _ => rfl
 refine CwpE.cut (st := ⟨[(0, vints l), (1, vi a), (5, .own 0 0 0 0), (6, vi L0), (7, vi M), (8, vi (0 : Nat))], [.arr 0 3 64 []]⟩) ?_ ?_
 ·simp only [go_sem, ↓reduceIte, Nat.reduceLT]
  exact ⟨_, WkE.keep (by simp only [go_sem, ↓reduceIte, reduceCtorEq, Nat.reduceEqDiff]; rfl), rfl⟩
 refine CwpE.block ?_
 refine loopXC 0 (fun z s => ∃ (i : Nat) (last : Int) (acc : List Nt), i + z = M /\ (0 <= last /\ last <= 48) /\ acc.length = i /\ acc ++ notesGo l a z i last = notesP l a /\ s = ⟨[(0, vints l), (1, vi a), (5, .own 0 acc.length 0 acc.length), (6, vi last), (7, vi M), (8, vi i)], [.arr acc.length 3 64 (acc.map vnote)]⟩)
  (fun s => s = ⟨[(5, .own 0 (notesP l a).length 0 (notesP l a).length)], [.arr (notesP l a).length 3 64 ((notesP l a).map vnote)]⟩) M _ (.refl _ _) ⟨0, L0, [], by omega, by omega, rfl, by rw [notesP, hM, hL0]; rfl, rfl⟩ ?_ ?_
 rotate_left
 ·rintro s rfl
  simp only [inBlockE, if_true]
  exact ⟨_, .refl _ _, rfl⟩
 rintro z s ⟨i, last, acc, hz, hlast, hai, hacc, rfl⟩
 cases z with
 | zero =>
  have h1 : ¬ (i : Int) < (M : Int) := by omega
  simp only [notesGo, List.append_nil] at hacc
  subst hacc
  refine CwpE.vc ?_
  simp only [go_sem, ↓reduceIte, reduceCtorEq, Nat.reduceLT, Nat.reduceEqDiff, Int.reduceNeg, h1]
  exact ⟨_, WkE.keep (by simp only [go_sem, ↓reduceIte, reduceCtorEq, Nat.reduceEqDiff]), rfl⟩
 | succ z =>
  have h1 : (i : Int) < (M : Int) := by omega
  have hw : IntKind.i64.wrap ((i : Int) + 1) = ((i + 1 : Nat) : Int) := by rw [wrap_id (by omega) (by omega)]; omega
  have hw3 : IntKind.i64.wrap (a + 2 + (i : Int)) = a + 2 + i := wrap_id (by omega) (by omega)
  rw [notesGo] at hacc
  have hkb := atL_bd (l := l) (i := a + 2 + i) (most := 1048576) (by omega)
  have hcall := At_s l (a + 2 + i) 1048576 hl bk
  generalize atL l (a + 2 + i) 1048576 = k at hacc hkb hcall
  have hr := noteN_ok hlast hkb
  have hstep := step_bd hr hlast
  have v1 : IntKind.i64.wrap (last + k.tmod 11) = last + k.tmod 11 := by
   rw [Int.tmod_eq_emod_of_nonneg hkb.1]; exact wrap_id (by omega) (by omega)
  have v2 : IntKind.i64.wrap (last + k.tmod 11 + 44) = last + k.tmod 11 + 44 := by
   rw [Int.tmod_eq_emod_of_nonneg hkb.1]; exact wrap_id (by omega) (by omega)
  have v3 : ∀ d : Int, 1 <= d -> IntKind.i64.wrap (k.tdiv d) = k.tdiv d := fun d hd => by
   rw [Int.tdiv_eq_ediv_of_nonneg hkb.1]
   have h5 := Int.ediv_nonneg hkb.1 (show 0 <= d by omega)
   have h6 := Int.ediv_le_self d hkb.1
   exact wrap_id (by omega) (by omega)
  have v11 := v3 11 (by omega)
  have v55 := v3 55 (by omega)
  have v440 := v3 440 (by omega)
  have v3080 := v3 3080 (by omega)
  have v4 : IntKind.i64.wrap (((k.tdiv 55).tmod 8).tmod 3 - 1) = ((k.tdiv 55).tmod 8).tmod 3 - 1 := by
   rw [Int.tdiv_eq_ediv_of_nonneg hkb.1, Int.tmod_eq_emod_of_nonneg (a := k / 55) (by omega), Int.tmod_eq_emod_of_nonneg (a := k / 55 % 8) (by omega)]
   exact wrap_id (by omega) (by omega)
  refine CwpE.cut (st := ⟨[(0, vints l), (1, vi a), (5, .own 0 acc.length 0 acc.length), (6, vi last), (7, vi M), (8, vi i)], [.arr acc.length 3 64 (acc.map vnote)]⟩) ?_ ?_
  ·simp only [go_sem, ↓reduceIte, reduceCtorEq, Nat.reduceLT, Nat.reduceEqDiff, h1]
   exact ⟨_, WkE.keep (by simp only [go_sem, ↓reduceIte, reduceCtorEq, Nat.reduceEqDiff]), rfl⟩
  refine CwpE.seqJ (fun s => s = ⟨[(0, vints l), (1, vi a), (5, .own 0 (acc.length + 1) 0 (acc.length + 1)), (6, vi (stepP (noteN last k) last)), (7, vi M), (8, vi i)], [.arr (acc.length + 1) 3 64 (acc.map vnote ++ [vnote (noteN last k)])]⟩) (CwpE.block ?_) ?_
  rotate_left
  ·rintro _ rfl
   refine CwpE.vc ?_
   simp only [go_sem, ↓reduceIte, reduceCtorEq, Nat.reduceLT, Nat.reduceEqDiff, hw]
   have e2 : (acc ++ [noteN last k]).length = acc.length + 1 := by simp
   have e3 : (acc ++ [noteN last k]).map vnote = acc.map vnote ++ [vnote (noteN last k)] := by simp
   refine ⟨z, ⟨[(0, vints l), (1, vi a), (5, .own 0 (acc.length + 1) 0 (acc.length + 1)), (6, vi (stepP (noteN last k) last)), (7, vi M), (8, vi (i + 1 : Nat))], [.arr (acc.length + 1) 3 64 (acc.map vnote ++ [vnote (noteN last k)])]⟩, by omega, WkE.keep (by simp only [go_sem, ↓reduceIte, reduceCtorEq, Nat.reduceEqDiff]), i + 1, stepP (noteN last k) last, acc ++ [noteN last k], by omega, hstep, by rw [e2, hai], by rw [List.append_assoc]; exact hacc, ?_⟩
   rw [e2, e3]
  refine CwpE.cut (st := ⟨[(0, vints l), (1, vi a), (5, .own 0 acc.length 0 acc.length), (6, vi last), (7, vi M), (8, vi i), (9, vi k)], [.arr acc.length 3 64 (acc.map vnote)]⟩) ?_ ?_
  ·simp only [go_sem, ↓reduceIte, reduceCtorEq, Nat.reduceLT, Nat.reduceEqDiff, w2, hw3]
   refine callT hcall rfl ?_
   simp only [go_sem, ↓reduceIte, Nat.reduceLT]
   exact ⟨_, WkE.keep (by simp only [go_sem, ↓reduceIte, reduceCtorEq, Nat.reduceEqDiff]), rfl⟩
  obtain ⟨s1, hs1⟩ : ∃ x, (last + k.tmod 11 + 44).tmod 49 = x := ⟨_, rfl⟩
  obtain ⟨le, hle⟩ : ∃ x, (k.tdiv 11).tmod 5 = x := ⟨_, rfl⟩
  obtain ⟨al, hal⟩ : ∃ x, ((k.tdiv 55).tmod 8).tmod 3 - 1 = x := ⟨_, rfl⟩
  rw [hal] at v4
  have nz49 : ¬ (49 : Int) = 0 := by decide
  refine CwpE.cut (st := ⟨[(0, vints l), (1, vi a), (5, .own 0 acc.length 0 acc.length), (6, vi last), (7, vi M), (8, vi i), (9, vi k), (10, .ref 1 1 0 0)], [.arr acc.length 3 64 (acc.map vnote), .arr 1 3 64 [vnote ⟨s1, le, al⟩]]⟩) ?_ ?_
  ·simp only [go_sem, Nat.reduceLeDiff, ↓reduceIte, reduceCtorEq, Nat.reduceLT, Nat.reduceEqDiff, Nat.reduceAdd, Int.reduceEq, v1, v2, v11, v55, v4, hs1, hle, hal]
   exact ⟨_, WkE.keep (by simp only [go_sem, ↓reduceIte, reduceCtorEq, Nat.reduceEqDiff]), rfl⟩
  obtain ⟨s2, hs2⟩ : ∃ x, (if (k.tdiv 440).tmod 7 = 0 then (k.tdiv 3080).tmod 49 else s1) = x := ⟨_, rfl⟩
  refine CwpE.seqJ (fun s => s = ⟨[(0, vints l), (1, vi a), (5, .own 0 acc.length 0 acc.length), (6, vi last), (7, vi M), (8, vi i), (9, vi k), (10, .ref 1 1 0 0)], [.arr acc.length 3 64 (acc.map vnote), .arr 1 3 64 [vnote ⟨s2, le, al⟩]]⟩) ?_ ?_
  ·refine CwpE.vc ?_
   by_cases h7 : (k.tdiv 440).tmod 7 = 0
   ·rw [if_pos h7] at hs2
    simp only [go_sem, Nat.reduceLeDiff, ↓reduceIte, reduceCtorEq, Nat.reduceLT, Nat.reduceEqDiff, Nat.reduceAdd, Int.reduceEq, v440, v3080, h7, hs2]
    exact ⟨_, WkE.keep (by simp only [go_sem, ↓reduceIte, reduceCtorEq, Nat.reduceEqDiff]), rfl⟩
   ·rw [if_neg h7] at hs2
    subst hs2
    simp only [go_sem, ↓reduceIte, reduceCtorEq, Nat.reduceLT, Nat.reduceEqDiff, Int.reduceEq, v440, h7]
    exact ⟨_, WkE.keep (by simp only [go_sem, ↓reduceIte, reduceCtorEq, Nat.reduceEqDiff]), rfl⟩
  rintro _ rfl
  have hnote : noteN last k = if (k.tdiv 440).tmod 9 = 1 then ⟨-1, le, 0⟩ else ⟨s2, le, al⟩ := by
   rw [<- hle, <- hal, <- hs2, <- hs1]; rfl
  refine CwpE.seqJ (fun s => s = ⟨[(0, vints l), (1, vi a), (5, .own 0 acc.length 0 acc.length), (6, vi last), (7, vi M), (8, vi i), (9, vi k), (10, .ref 1 1 0 0)], [.arr acc.length 3 64 (acc.map vnote), .arr 1 3 64 [vnote (noteN last k)]]⟩) ?_ ?_
  ·refine CwpE.vc ?_
   by_cases h9 : (k.tdiv 440).tmod 9 = 1
   ·rw [hnote, if_pos h9]
    simp only [go_sem, Nat.reduceLeDiff, ↓reduceIte, reduceCtorEq, Nat.reduceLT, Nat.reduceEqDiff, Nat.reduceAdd, Int.reduceEq, Int.reduceNeg, v440, h9]
    exact ⟨_, WkE.keep (by simp only [go_sem, ↓reduceIte, reduceCtorEq, Nat.reduceEqDiff]), rfl⟩
   ·rw [hnote, if_neg h9]
    simp only [go_sem, ↓reduceIte, reduceCtorEq, Nat.reduceLT, Nat.reduceEqDiff, Int.reduceEq, Int.reduceNeg, v440, h9]
    exact ⟨_, WkE.keep (by simp only [go_sem, ↓reduceIte, reduceCtorEq, Nat.reduceEqDiff]), rfl⟩
  rintro _ rfl
  generalize noteN last k = nn
  refine CwpE.seqJ (fun s => s = ⟨[(0, vints l), (1, vi a), (5, .own 0 acc.length 0 acc.length), (6, vi (stepP nn last)), (7, vi M), (8, vi i), (10, .ref 1 1 0 0)], [.arr acc.length 3 64 (acc.map vnote), .arr 1 3 64 [vnote nn]]⟩) ?_ ?_
  ·refine CwpE.vc ?_
   by_cases h0 : 0 <= nn.s
   ·rw [show stepP nn last = nn.s by simp only [stepP, h0, if_true]]
    simp only [go_sem, ↓reduceIte, reduceCtorEq, Nat.reduceLT, Nat.reduceEqDiff, h0]
    exact ⟨_, WkE.keep (by simp only [go_sem, ↓reduceIte, reduceCtorEq, Nat.reduceEqDiff]), rfl⟩
   ·rw [show stepP nn last = last by simp only [stepP, h0, if_false]]
    simp only [go_sem, ↓reduceIte, reduceCtorEq, Nat.reduceLT, Nat.reduceEqDiff, h0]
    exact ⟨_, WkE.keep (by simp only [go_sem, ↓reduceIte, reduceCtorEq, Nat.reduceEqDiff]), rfl⟩
  rintro _ rfl
  have q1 : (acc.length + 1) * 24 <= 140737488355328 := by omega
  have htk : List.take acc.length (acc.map vnote) = acc.map vnote := List.take_of_length_le (by simp)
  refine CwpE.vc ?_
  simp only [go_sem, Nat.reducePow, Nat.reduceLeDiff, ↓reduceIte, reduceCtorEq, Nat.reduceLT, Nat.reduceEqDiff, Nat.reduceAdd, Nat.reduceMul, q1, htk]
  refine ⟨_, WkE.round ?_ ?_ ?_ ?_, rfl⟩
  ·simp only [go_sem, ↓reduceIte, reduceCtorEq, Nat.reduceEqDiff]
  ·rfl
  ·simp only [List.all_cons, List.all_nil, AObj.innO, List.all_append, inn_map (f := vnote) (fun _ => rfl), Bool.and_true, Bool.true_and]
   rfl
  ·rfl
end Go.Proofs.YtnncijjkbonokaaDoor
namespace Go.Proofs.YtnncijjkbonokaaDoor
open Go.RowKit Dak
def handP (l : List Int) (bars h : Nat) : List (List Nt) := (List.range bars).map fun b => notesP l (2 + 6 * ((bars * h + b : Nat) : Int))
def melP (l : List Int) : List (List (List Nt)) := (List.range (1 + atL l 0 2).toNat).map fun h => handP l (1 + atL l 1 4).toNat h
theorem melP_vm (l : List Int) : Vm (melP l) := by
 have h1 := atL_bd (l := l) (i := 0) (most := 2) (by omega)
 have h2 := atL_bd (l := l) (i := 1) (most := 4) (by omega)
 have hand : ∀ h ∈ melP l, ∃ k, h = handP l (1 + atL l 1 4).toNat k := fun h hh => by
  obtain ⟨k, _, rfl⟩ := List.mem_map.1 hh
  exact ⟨k, rfl⟩
 have hl : ∀ k, (handP l (1 + atL l 1 4).toNat k).length = (1 + atL l 1 4).toNat := fun k => by simp [handP]
 have hm : manyP (melP l) = (1 + atL l 1 4).toNat := by
  have : 0 < (melP l).length := by simp [melP]; omega
  show ((melP l).headD []).length = _
  cases he : melP l with
  | nil => rw [he] at this; simp at this
  | cons x r =>
   obtain ⟨k, hk⟩ := hand x (by rw [he]; simp)
   simp only [List.headD_cons]
   rw [hk, hl]
 refine ⟨by simp [melP]; omega, by rw [hm]; omega, fun h hh => ?_, fun h hh b hb => ?_⟩
 ·obtain ⟨k, rfl⟩ := hand h hh
  rw [hl, hm]
 ·obtain ⟨k, rfl⟩ := hand h hh
  obtain ⟨j, _, rfl⟩ := List.mem_map.1 hb
  have := notesP_ok l (2 + 6 * (((1 + atL l 1 4).toNat * k + j : Nat) : Int))
  exact ⟨by omega, by omega, this.2.2⟩
theorem Melody_s (l : List Int) (hl : ∀ x ∈ l, I64 x) : Ctr Tryd.prog 10 [vints l] (vmel (melP l)) := by
 refine specC f10 (by simp) fun F0 w0 => ?_
 have b2 : I64 2 := ⟨by decide, by decide⟩
 have b4 : I64 4 := ⟨by decide, by decide⟩
 have g1 := atL_bd (l := l) (i := 0) (most := 2) (by omega)
 have g2 := atL_bd (l := l) (i := 1) (most := 4) (by omega)
 obtain ⟨H, hH⟩ : ∃ x, (1 + atL l 0 2).toNat = x := ⟨_, rfl⟩
 obtain ⟨B, hB⟩ : ∃ x, (1 + atL l 1 4).toNat = x := ⟨_, rfl⟩
 have wH : IntKind.i64.wrap (1 + atL l 0 2) = (H : Int) := by rw [wrap_id (by omega) (by omega)]; omega
 have wB : IntKind.i64.wrap (1 + atL l 1 4) = (B : Int) := by rw [wrap_id (by omega) (by omega)]; omega
 have hH2 : H <= 2 := by omega
 have hB4 : B <= 4 := by omega
 have hmel : melP l = (List.range H).map fun h => handP l B h := by rw [melP, hH, hB]
 unfold c10
 refine CwpE.cut (st := ⟨[(0, vints l), (2, .ref 0 1 0 0)], [.arr 1 1 25 [nilT]]⟩) ?_ ?_
 ·simp only [go_sem, ↓reduceIte, Nat.reduceLT]
  exact ⟨_, WkE.keep (by simp only [go_sem, ↓reduceIte, reduceCtorEq]), rfl⟩
 refine CwpE.cut (st := ⟨[(0, vints l), (2, .ref 0 1 0 0), (3, .ref 1 1 0 0)], [.arr 1 1 25 [nilT], .arr 1 1 25 [.agg [.own 2 0 0 0]], .arr 0 1 28 []]⟩) ?_ ?_
 ·simp only [go_sem, ↓reduceIte, Nat.reduceLT]
  exact ⟨_, (WkE.nilCell 1 1 1 0 0 1 28 25 [nilT] _ rfl rfl rfl).trans (WkE.keep (by simp only [go_sem, ↓reduceIte, reduceCtorEq, Nat.reduceEqDiff])), rfl⟩
 refine CwpE.cut (st := ⟨[(0, vints l), (2, .ref 0 1 0 0), (3, .ref 1 1 0 0), (4, vi H)], [.arr 1 1 25 [nilT], .arr 1 1 25 [.agg [.own 2 0 0 0]], .arr 0 1 28 []]⟩) ?_ ?_
 ·simp only [go_sem, ↓reduceIte, Nat.reduceLT]
  refine callT (At_s l 0 2 hl b2) rfl ?_
  simp only [go_sem, ↓reduceIte, Nat.reduceLT, wH]
  exact ⟨_, WkE.keep (by simp only [go_sem, ↓reduceIte, reduceCtorEq, Nat.reduceEqDiff]), rfl⟩
 refine CwpE.cut (st := ⟨[(0, vints l), (2, .ref 0 1 0 0), (3, .ref 1 1 0 0), (4, vi H), (5, vi B)], [.arr 1 1 25 [nilT], .arr 1 1 25 [.agg [.own 2 0 0 0]], .arr 0 1 28 []]⟩) ?_ ?_
 ·simp only [go_sem, ↓reduceIte, Nat.reduceLT]
  refine callT (At_s l 1 4 hl b4) rfl ?_
  simp only [go_sem, ↓reduceIte, Nat.reduceLT, wB]
  exact ⟨_, WkE.keep (by simp only [go_sem, ↓reduceIte, reduceCtorEq, Nat.reduceEqDiff]), rfl⟩
 refine CwpE.seqJ (fun s => s = ⟨[(2, .ref 0 1 0 0), (3, .ref 1 1 0 0)], [.arr 1 1 25 [nilT], .arr 1 1 25 [.agg [.own 2 (melP l).length 0 (melP l).length]], .arr (melP l).length 1 28 ((melP l).map vhand)]⟩) ?_ ?_
 rotate_left
 ·rintro _ rfl
  refine CwpE.vc ?_
  simp only [go_sem, ↓reduceIte, Nat.reduceEqDiff]
  exact snap_agg1 (snap_all (melP l) _ rfl rfl fun _ => rfl)
 refine CwpE.cut (st := ⟨[(0, vints l), (2, .ref 0 1 0 0), (3, .ref 1 1 0 0), (4, vi H), (5, vi B), (6, vi (0 : Nat))], [.arr 1 1 25 [nilT], .arr 1 1 25 [.agg [.own 2 0 0 0]], .arr 0 1 28 []]⟩) ?_ ?_
 ·simp only [go_sem, ↓reduceIte, Nat.reduceLT]
  exact ⟨_, WkE.keep (by simp only [go_sem, ↓reduceIte, reduceCtorEq, Nat.reduceEqDiff]; rfl), rfl⟩
 refine CwpE.block ?_
 refine loopXC 0 (fun z s => ∃ (h : Nat) (acc : List (List (List Nt))), h + z = H /\ acc = (List.range h).map (fun h => handP l B h) /\ s = ⟨[(0, vints l), (2, .ref 0 1 0 0), (3, .ref 1 1 0 0), (4, vi H), (5, vi B), (6, vi h)], [.arr 1 1 25 [nilT], .arr 1 1 25 [.agg [.own 2 acc.length 0 acc.length]], .arr acc.length 1 28 (acc.map vhand)]⟩)
  (fun s => s = ⟨[(2, .ref 0 1 0 0), (3, .ref 1 1 0 0)], [.arr 1 1 25 [nilT], .arr 1 1 25 [.agg [.own 2 (melP l).length 0 (melP l).length]], .arr (melP l).length 1 28 ((melP l).map vhand)]⟩) H _ (.refl _ _) ⟨0, [], by omega, rfl, rfl⟩ ?_ ?_
 rotate_left
 ·rintro s rfl
  simp only [inBlockE, if_true]
  exact ⟨_, .refl _ _, rfl⟩
 rintro z s ⟨h, acc, hz, hacc, rfl⟩
 cases z with
 | zero =>
  obtain rfl : h = H := by omega
  have h1 : ¬ (h : Int) < (h : Int) := by omega
  rw [<- hmel] at hacc
  subst hacc
  refine CwpE.vc ?_
  simp only [go_sem, ↓reduceIte, reduceCtorEq, Nat.reduceLT, Nat.reduceEqDiff, h1]
  exact ⟨_, WkE.keep (by simp only [go_sem, ↓reduceIte, reduceCtorEq, Nat.reduceEqDiff]), rfl⟩
 | succ z =>
  have h1 : (h : Int) < (H : Int) := by omega
  have hw : IntKind.i64.wrap ((h : Int) + 1) = ((h + 1 : Nat) : Int) := by rw [wrap_id (by omega) (by omega)]; omega
  have hal : acc.length = h := by rw [hacc]; simp
  refine CwpE.cut (st := ⟨[(0, vints l), (2, .ref 0 1 0 0), (3, .ref 1 1 0 0), (4, vi H), (5, vi B), (6, vi h)], [.arr 1 1 25 [nilT], .arr 1 1 25 [.agg [.own 2 acc.length 0 acc.length]], .arr acc.length 1 28 (acc.map vhand)]⟩) ?_ ?_
  ·simp only [go_sem, ↓reduceIte, reduceCtorEq, Nat.reduceLT, Nat.reduceEqDiff, h1]
   exact ⟨_, WkE.keep (by simp only [go_sem, ↓reduceIte, reduceCtorEq, Nat.reduceEqDiff]), rfl⟩
  refine CwpE.seqJ (fun s => s = ⟨[(0, vints l), (2, .ref 0 1 0 0), (3, .ref 1 1 0 0), (4, vi H), (5, vi B), (6, vi h)], [.arr 1 1 25 [nilT], .arr 1 1 25 [.agg [.own 2 (acc.length + 1) 0 (acc.length + 1)]], .arr (acc.length + 1) 1 28 (acc.map vhand ++ [vhand (handP l B h)])]⟩) (CwpE.block ?_) ?_
  rotate_left
  ·rintro _ rfl
   refine CwpE.vc ?_
   simp only [go_sem, ↓reduceIte, reduceCtorEq, Nat.reduceLT, Nat.reduceEqDiff, hw]
   have e2 : (acc ++ [handP l B h]).length = acc.length + 1 := by simp
   have e3 : (acc ++ [handP l B h]).map vhand = acc.map vhand ++ [vhand (handP l B h)] := by simp
   refine ⟨z, ⟨[(0, vints l), (2, .ref 0 1 0 0), (3, .ref 1 1 0 0), (4, vi H), (5, vi B), (6, vi (h + 1 : Nat))], [.arr 1 1 25 [nilT], .arr 1 1 25 [.agg [.own 2 (acc.length + 1) 0 (acc.length + 1)]], .arr (acc.length + 1) 1 28 (acc.map vhand ++ [vhand (handP l B h)])]⟩, by omega, WkE.keep (by simp only [go_sem, ↓reduceIte, reduceCtorEq, Nat.reduceEqDiff]), h + 1, acc ++ [handP l B h], by omega, by rw [hacc, List.range_succ, List.map_append]; rfl, ?_⟩
   rw [e2, e3]
  have htk : List.take acc.length (acc.map vhand) = acc.map vhand := List.take_of_length_le (by simp)
  have hin : ∀ k, (acc.map vhand).all (AV.inn k) = true := fun k => inn_map fun _ => rfl
  have q1 : (acc.length + 1) * 24 <= 140737488355328 := by omega
  have O : ∃ o : List AObj, o = [.arr 1 1 25 [nilT], .arr 1 1 25 [.agg [.own 2 acc.length 0 acc.length]], .arr acc.length 1 28 (acc.map vhand)] := ⟨_, rfl⟩
  refine CwpE.cut (st := ⟨[(0, vints l), (2, .ref 0 1 0 0), (3, .ref 1 1 0 0), (4, vi H), (5, vi B), (6, vi h), (7, .own 3 0 0 0)], [.arr 1 1 25 [nilT], .arr 1 1 25 [.agg [.own 2 acc.length 0 acc.length]], .arr acc.length 1 28 (acc.map vhand), .arr 0 1 34 []]⟩) ?_ ?_
  ·simp only [go_sem, ↓reduceIte, Nat.reduceLT]
   exact ⟨_, (WkE.nil 7 1 34 (by omega) rfl).trans (WkE.keep (by simp only [go_sem, ↓reduceIte, reduceCtorEq, Nat.reduceEqDiff, Nat.reduceAdd])), rfl⟩
  refine CwpE.seqJ (fun s => s = ⟨[(0, vints l), (2, .ref 0 1 0 0), (3, .ref 1 1 0 0), (4, vi H), (5, vi B), (6, vi h), (7, vhand (handP l B h))], [.arr 1 1 25 [nilT], .arr 1 1 25 [.agg [.own 2 acc.length 0 acc.length]], .arr acc.length 1 28 (acc.map vhand)]⟩) ?_ ?_
  rotate_left
  ·rintro _ rfl
   refine CwpE.vc ?_
   simp only [go_sem, Nat.reducePow, Nat.reduceLeDiff, ↓reduceIte, reduceCtorEq, Nat.reduceLT, Nat.reduceEqDiff, Nat.reduceAdd, Nat.reduceMul, q1, htk]
   exact ⟨_, WkE.keep (by simp only [go_sem, ↓reduceIte, reduceCtorEq, Nat.reduceEqDiff]), rfl⟩
  refine CwpE.cut (st := ⟨[(0, vints l), (2, .ref 0 1 0 0), (3, .ref 1 1 0 0), (4, vi H), (5, vi B), (6, vi h), (7, .own 3 0 0 0), (8, vi (0 : Nat))], [.arr 1 1 25 [nilT], .arr 1 1 25 [.agg [.own 2 acc.length 0 acc.length]], .arr acc.length 1 28 (acc.map vhand), .arr 0 1 34 []]⟩) ?_ ?_
  ·simp only [go_sem, ↓reduceIte, Nat.reduceLT]
   exact ⟨_, WkE.keep (by simp only [go_sem, ↓reduceIte, reduceCtorEq, Nat.reduceEqDiff]; rfl), rfl⟩
  refine CwpE.block ?_
  refine loopX 2 (fun y s => ∃ (b : Nat) (row : List (List Nt)), b + y = B /\ row = (List.range b).map (fun b => notesP l (2 + 6 * ((B * h + b : Nat) : Int))) /\ s = ⟨[(0, vints l), (2, .ref 0 1 0 0), (3, .ref 1 1 0 0), (4, vi H), (5, vi B), (6, vi h), (7, .own 3 row.length 0 row.length), (8, vi b)], [.arr 1 1 25 [nilT], .arr 1 1 25 [.agg [.own 2 acc.length 0 acc.length]], .arr acc.length 1 28 (acc.map vhand), .arr row.length 1 34 (row.map vbar)]⟩)
   (fun s => s = ⟨[(0, vints l), (2, .ref 0 1 0 0), (3, .ref 1 1 0 0), (4, vi H), (5, vi B), (6, vi h), (7, vhand (handP l B h))], [.arr 1 1 25 [nilT], .arr 1 1 25 [.agg [.own 2 acc.length 0 acc.length]], .arr acc.length 1 28 (acc.map vhand)]⟩) B _ (.refl _ _) ⟨0, [], by omega, rfl, rfl⟩ ?_ ?_
  rotate_left
  ·rintro s rfl
   simp only [inBlockE, if_true]
   exact ⟨_, .refl _ _, rfl⟩
  rintro y s ⟨b, row, hy, hrow, rfl⟩
  have hrl : row.length = b := by rw [hrow]; simp
  cases y with
  | zero =>
   obtain rfl : b = B := by omega
   have hb1 : ¬ (b : Int) < (b : Int) := by omega
   have hrow' : row = handP l b h := hrow
   subst hrow'
   simp only [go_sem, ↓reduceIte, reduceCtorEq, Nat.reduceLT, Nat.reduceEqDiff, hb1]
   refine ⟨_, (WkE.freeze 7 3 (handP l b h).length 0 (handP l b h).length 1 34 ((handP l b h).map vbar) (by omega) rfl rfl (by simp) (List.all_eq_true.2 fun y hy => by obtain ⟨v, _, rfl⟩ := List.mem_map.1 hy; rfl)).trans (WkE.round ?_ ?_ ?_ ?_), rfl⟩
   ·have e : List.take (handP l b h).length (List.drop 0 ((handP l b h).map vbar)) = (handP l b h).map vbar := List.take_of_length_le (by simp)
    rw [e]
    simp only [go_sem, ↓reduceIte, reduceCtorEq, Nat.reduceEqDiff]
   ·rfl
   ·simp only [List.all_cons, List.all_nil, AObj.innO, hin, Bool.and_true]
    rfl
   ·rfl
  | succ y =>
   have hb1 : (b : Int) < (B : Int) := by omega
   have hbw : IntKind.i64.wrap ((b : Int) + 1) = ((b + 1 : Nat) : Int) := by rw [wrap_id (by omega) (by omega)]; omega
   have hBh : B * h <= 8 := by
    have := Nat.mul_le_mul hB4 (show h <= 2 by omega); omega
   have m1 : IntKind.i64.wrap ((B : Int) * (h : Int)) = ((B * h : Nat) : Int) := by rw [<- Int.natCast_mul, wrap_id (by omega) (by omega)]
   have m2 : IntKind.i64.wrap (((B * h : Nat) : Int) + (b : Int)) = ((B * h + b : Nat) : Int) := by rw [wrap_id (by omega) (by omega)]; omega
   have m3 : IntKind.i64.wrap (6 * ((B * h + b : Nat) : Int)) = 6 * ((B * h + b : Nat) : Int) := wrap_id (by omega) (by omega)
   have m4 : IntKind.i64.wrap (2 + 6 * ((B * h + b : Nat) : Int)) = 2 + 6 * ((B * h + b : Nat) : Int) := wrap_id (by omega) (by omega)
   have q2 : (row.length + 1) * 24 <= 140737488355328 := by omega
   have htk2 : List.take row.length (row.map vbar) = row.map vbar := List.take_of_length_le (by simp)
   obtain ⟨nb, hnb⟩ : ∃ nb, notesP l (2 + 6 * ((B * h + b : Nat) : Int)) = nb := ⟨_, rfl⟩
   have e2 : (row ++ [nb]).length = row.length + 1 := by simp
   have e3 : (row ++ [nb]).map vbar = row.map vbar ++ [vbar nb] := by simp
   simp only [go_sem, ↓reduceIte, reduceCtorEq, Nat.reduceLT, Nat.reduceEqDiff, hb1, m1, m2, m3, m4]
   refine callT (Notes_s l (2 + 6 * ((B * h + b : Nat) : Int)) hl ⟨by omega, by omega⟩) rfl ?_
   simp only [go_sem, Nat.reducePow, Nat.reduceLeDiff, ↓reduceIte, reduceCtorEq, Nat.reduceLT, Nat.reduceEqDiff, Nat.reduceAdd, Nat.reduceMul, hnb, q2, htk2, hbw]
   refine ⟨y, ⟨[(0, vints l), (2, .ref 0 1 0 0), (3, .ref 1 1 0 0), (4, vi H), (5, vi B), (6, vi h), (7, .own 3 (row.length + 1) 0 (row.length + 1)), (8, vi (b + 1 : Nat))], [.arr 1 1 25 [nilT], .arr 1 1 25 [.agg [.own 2 acc.length 0 acc.length]], .arr acc.length 1 28 (acc.map vhand), .arr (row.length + 1) 1 34 (row.map vbar ++ [vbar nb])]⟩, by omega, WkE.keep (by simp only [go_sem, ↓reduceIte, reduceCtorEq, Nat.reduceEqDiff]), b + 1, row ++ [nb], by omega, by rw [hrow, List.range_succ, List.map_append, <- hnb]; rfl, ?_⟩
   rw [e2, e3]
end Go.Proofs.YtnncijjkbonokaaDoor
namespace Go.Proofs.YtnncijjkbonokaaDoor
open Go.RowKit Dak
set_option maxRecDepth 100000 in
theorem refSame_s (A B : List (List (List Nt))) (hA : lenM A) : Ctr Tryd.prog 21 [vmel A, vmel B] (vb (decide (A = B))) := by
 refine specE f21 (by simp) fun F0 w0 => ?_
 by_cases hl : A.length = B.length
 rotate_left
 ·have hl' : ¬ (A.length : Int) = (B.length : Int) := by omega
  simp only [c21, go_sem, ↓reduceIte, reduceCtorEq, Nat.reduceLT, Nat.reduceEqDiff, hl', List.length_map]
  have : decide (A = B) = false := by rw [decide_eq_false_iff_not]; rintro rfl; exact hl rfl
  rw [this]; exact .tree _ rfl
 have hl' : (A.length : Int) = (B.length : Int) := by omega
 have hA1 := hA.1
 simp only [c21, go_sem, ↓reduceIte, reduceCtorEq, Nat.reduceLT, Nat.reduceEqDiff, hl', List.length_map]
 refine loopX 0 (fun z s => ∃ k : Nat, z = B.length - k /\ k <= B.length /\ A.take k = B.take k /\ s = ⟨[(2, .ref 0 1 0 0), (3, .ref 1 1 0 0), (5, vi k)], [.arr 1 1 25 [vmel A], .arr 1 1 25 [vmel B]]⟩)
  (fun s => A = B /\ s = ⟨[], []⟩) B.length ⟨[(2, .ref 0 1 0 0), (3, .ref 1 1 0 0), (5, vi (0 : Nat))], [.arr 1 1 25 [vmel A], .arr 1 1 25 [vmel B]]⟩ (WkE.keep (by simp only [go_sem, ↓reduceIte, Nat.reduceEqDiff]; rfl)) ⟨0, by omega, by omega, rfl, rfl⟩ ?_ ?_
 rotate_left
 ·rintro s ⟨e, rfl⟩
  simp only [go_sem, ↓reduceIte, Nat.reduceLT, e]
  exact .tree _ rfl
 rintro z s ⟨k, rfl, hk, ht, rfl⟩
 by_cases hlt : k < B.length
 rotate_left
 ·have h1 : ¬ (k : Int) < (B.length : Int) := by omega
  simp only [go_sem, ↓reduceIte, Nat.reduceLT, Nat.reduceEqDiff, hl', h1, List.length_map]
  refine ⟨⟨[], []⟩, (WkE.keep (env' := []) trivial).trans (WkE.drop 0 (fun p h => by cases h) (fun o h => by cases h)), ?_, rfl⟩
  rwa [List.take_of_length_le (by omega), List.take_of_length_le (by omega)] at ht
 have hltA : k < A.length := by omega
 have h1 : (k : Int) < (B.length : Int) := by omega
 have h0 : (0 : Int) <= (k : Int) := by omega
 have hw : IntKind.i64.wrap ((k : Int) + 1) = ((k + 1 : Nat) : Int) := by rw [wrap_id (by omega) (by omega)]; omega
 obtain ⟨x, hx⟩ : ∃ x, A[k] = x := ⟨_, rfl⟩
 obtain ⟨y, hy⟩ : ∃ y, B[k] = y := ⟨_, rfl⟩
 have gx : A[k]? = some x := by rw [List.getElem?_eq_getElem hltA, hx]
 have gy : B[k]? = some y := by rw [List.getElem?_eq_getElem hlt, hy]
 have hlx := hA.2 x (hx ▸ List.getElem_mem hltA)
 have ne : x ≠ y -> decide (A = B) = false := fun h => by
  rw [decide_eq_false_iff_not]; rintro rfl; rw [gx] at gy; exact h (Option.some.inj gy)
 by_cases hxy : x.length = y.length
 rotate_left
 ·have hxy' : ¬ (x.length : Int) = (y.length : Int) := by omega
  simp only [go_sem, ↓reduceIte, Nat.reduceLT, Nat.reduceEqDiff, hl', h1, h0, List.length_map, List.getElem?_map, gx, gy, Option.map_some, hxy']
  rw [ne (fun h => hxy (by rw [h]))]
  exact .tree _ rfl
 have hxy' : (x.length : Int) = (y.length : Int) := by omega
 simp only [go_sem, ↓reduceIte, Nat.reduceLT, Nat.reduceEqDiff, hl', h1, h0, List.length_map, List.getElem?_map, gx, gy, Option.map_some, hxy']
 refine loopX 2 (fun z s => ∃ j : Nat, z = y.length - j /\ j <= y.length /\ x.take j = y.take j /\ s = ⟨[(2, .ref 0 1 0 0), (3, .ref 1 1 0 0), (5, vi k), (6, vi j)], [.arr 1 1 25 [vmel A], .arr 1 1 25 [vmel B]]⟩)
  (fun s => x = y /\ s = ⟨[(2, .ref 0 1 0 0), (3, .ref 1 1 0 0), (5, vi k)], [.arr 1 1 25 [vmel A], .arr 1 1 25 [vmel B]]⟩) y.length ⟨[(2, .ref 0 1 0 0), (3, .ref 1 1 0 0), (5, vi k), (6, vi (0 : Nat))], [.arr 1 1 25 [vmel A], .arr 1 1 25 [vmel B]]⟩ (WkE.keep (by simp only [go_sem, ↓reduceIte, Nat.reduceEqDiff]; rfl)) ⟨0, by omega, by omega, rfl, rfl⟩ ?_ ?_
 rotate_left
 ·rintro s ⟨e, rfl⟩
  simp only [go_sem, ↓reduceIte, Nat.reduceLT, Nat.reduceEqDiff, hw]
  exact ⟨B.length - (k + 1), ⟨[(2, .ref 0 1 0 0), (3, .ref 1 1 0 0), (5, vi (k + 1 : Nat))], [.arr 1 1 25 [vmel A], .arr 1 1 25 [vmel B]]⟩, by omega, WkE.keep (by simp only [go_sem, ↓reduceIte, Nat.reduceEqDiff]), k + 1, rfl, by omega, takeS_eq ht hltA hlt (by rw [hx, hy, e]), rfl⟩
 rintro z s ⟨j, rfl, hj, hjt, rfl⟩
 by_cases jlt : j < y.length
 rotate_left
 ·have j1 : ¬ (j : Int) < (y.length : Int) := by omega
  simp only [go_sem, ↓reduceIte, Nat.reduceLT, Nat.reduceEqDiff, h0, hxy', List.length_map, List.getElem?_map, gx, Option.map_some, j1]
  refine ⟨_, WkE.keep (by simp only [go_sem, ↓reduceIte, Nat.reduceEqDiff]), ?_, rfl⟩
  rwa [List.take_of_length_le (by omega), List.take_of_length_le (by omega)] at hjt
 have jltx : j < x.length := by omega
 have j1 : (j : Int) < (y.length : Int) := by omega
 have j0 : (0 : Int) <= (j : Int) := by omega
 have jw : IntKind.i64.wrap ((j : Int) + 1) = ((j + 1 : Nat) : Int) := by rw [wrap_id (by omega) (by omega)]; omega
 simp only [go_sem, ↓reduceIte, Nat.reduceLT, Nat.reduceEqDiff, h0, hxy', List.length_map, List.getElem?_map, gx, gy, Option.map_some, j1, j0, List.getElem?_eq_getElem jlt, List.getElem?_eq_getElem jltx]
 refine callT (Equal47_s x[j] y[j] (hlx.2 _ (List.getElem_mem jltx))) rfl ?_
 by_cases he : x[j] = y[j]
 ·rw [show decide (x[j] = y[j]) = true from decide_eq_true he]
  simp only [go_sem, ↓reduceIte, Nat.reduceLT, Nat.reduceEqDiff, jw]
  exact ⟨y.length - (j + 1), ⟨[(2, .ref 0 1 0 0), (3, .ref 1 1 0 0), (5, vi k), (6, vi (j + 1 : Nat))], [.arr 1 1 25 [vmel A], .arr 1 1 25 [vmel B]]⟩, by omega, WkE.keep (by simp only [go_sem, ↓reduceIte, Nat.reduceEqDiff]), j + 1, rfl, by omega, takeS_eq hjt jltx jlt he, rfl⟩
 ·rw [show decide (x[j] = y[j]) = false from decide_eq_false he]
  simp only [go_sem, ↓reduceIte, Nat.reduceLT]
  rw [ne (by rintro rfl; exact he rfl)]
  exact .tree _ rfl
def exL : List Nt := [⟨21, 2, 0⟩, ⟨23, 2, 0⟩, ⟨26, 2, 0⟩, ⟨19, 2, 0⟩]
def exS : List Nt := [⟨-1, 0, 0⟩, ⟨3, 4, 1⟩]
theorem ex1 : barR exL (-1) = ([16, 57, 43, 42, 56, 42], 0) := by decide +kernel
theorem ex2 : barR exL 21 = ([57, 43, 42, 56, 42], 0) := by decide +kernel
theorem ex3 : barR exS (-1) = ([45, 33, 8, 3, 63], 0) := by decide +kernel
theorem ex4 : encP [[exL]] 40 = ([[16, 57, 43, 42, 56, 42]], 0) := by decide +kernel
theorem ex5 : readP [[16, 57, 43, 42, 56, 42]] = ([[exL]], 0) := by decide +kernel
set_option maxRecDepth 100000 in
theorem lives_s : Ctr Tryd.prog 16 [] (vb true) := by
 refine specE f16 (by simp) fun F0 w0 => ?_
 simp only [c16, go_sem, Nat.reducePow, Nat.reduceLeDiff, ↓reduceIte, reduceCtorEq, Nat.reduceLT, Nat.reduceEqDiff, Nat.reduceAdd, Nat.reduceMul, Int.reduceNeg]
 have okL : ∀ n ∈ exL, okA n := fun n hn => by
  simp only [exL, List.mem_cons, List.not_mem_nil, or_false] at hn; rcases hn with rfl | rfl | rfl | rfl <;> exact ⟨by decide, by decide⟩
 have okS : ∀ n ∈ exS, okA n := fun n hn => by
  simp only [exS, List.mem_cons, List.not_mem_nil, or_false] at hn; rcases hn with rfl | rfl <;> exact ⟨by decide, by decide⟩
 have vmE : Vm [[exL]] := vm_of (by decide +kernel)
 have hvE := vm_len vmE
 refine callT (Bar_s exL (-1) (by decide) okL) rfl ?_
 rw [ex1]
 simp only [go_sem, ↓reduceIte, Nat.reduceLT, Nat.reduceEqDiff, Int.reduceNeg]
 refine callT (Bar_s exL 21 (by decide) okL) rfl ?_
 rw [ex2]
 simp only [go_sem, Nat.reducePow, Nat.reduceLeDiff, ↓reduceIte, reduceCtorEq, Nat.reduceLT, Nat.reduceEqDiff, Nat.reduceAdd, Nat.reduceMul, Int.reduceNeg]
 refine callT (Bar_s exS (-1) (by decide) okS) rfl ?_
 rw [ex3]
 simp only [go_sem, Nat.reducePow, Nat.reduceLeDiff, ↓reduceIte, Nat.reduceLT, Nat.reduceEqDiff, Nat.reduceMul, Int.reduceNeg]
 refine callT (Encode_s [[exL]] 40 hvE.1 hvE.2) rfl ?_
 rw [ex4]
 simp only [go_sem, ↓reduceIte, Nat.reduceLT, Nat.reduceEqDiff, Int.reduceNeg]
 refine callT (Read_s [[16, 57, 43, 42, 56, 42]] (by decide) (fun x hx => by simp only [List.mem_cons, List.not_mem_nil, or_false] at hx; subst hx; decide)) rfl ?_
 rw [ex5]
 have k1 : ((1 : Nat) : Int) = 1 := rfl
 have l01 : (0 : Int) < 1 := by decide
 simp only [go_sem, Nat.reducePow, Nat.reduceLeDiff, ↓reduceIte, reduceCtorEq, Nat.reduceLT, Nat.reduceEqDiff, Nat.reduceAdd, Nat.reduceMul, Int.reduceNeg, k1]
 refine callT (Equal15_s [16, 57, 43, 42, 56, 42] [16, 57, 43, 42, 56, 42] (by decide)) rfl ?_
 rw [show decide ([16, 57, 43, 42, 56, 42] = ([16, 57, 43, 42, 56, 42] : List Int)) = true from rfl]
 simp only [go_sem, Nat.reducePow, Nat.reduceLeDiff, ↓reduceIte, reduceCtorEq, Nat.reduceLT, Nat.reduceEqDiff, Nat.reduceAdd, Nat.reduceMul, Int.reduceNeg]
 refine callT (Equal15_s [57, 43, 42, 56, 42] [57, 43, 42, 56, 42] (by decide)) rfl ?_
 rw [show decide ([57, 43, 42, 56, 42] = ([57, 43, 42, 56, 42] : List Int)) = true from rfl]
 simp only [go_sem, Nat.reducePow, Nat.reduceLeDiff, ↓reduceIte, reduceCtorEq, Nat.reduceLT, Nat.reduceEqDiff, Nat.reduceAdd, Nat.reduceMul, Int.reduceNeg]
 refine callT (Equal15_s [45, 33, 8, 3, 63] [45, 33, 8, 3, 63] (by decide)) rfl ?_
 rw [show decide ([45, 33, 8, 3, 63] = ([45, 33, 8, 3, 63] : List Int)) = true from rfl]
 simp only [go_sem, ↓reduceIte, Nat.reduceLT, Nat.reduceEqDiff, Int.reduceToNat, Int.reduceNeg, Int.reduceToNat, Int.le_refl]
 refine callT (Equal15_s [16, 57, 43, 42, 56, 42] [16, 57, 43, 42, 56, 42] (by decide)) rfl ?_
 rw [show decide ([16, 57, 43, 42, 56, 42] = ([16, 57, 43, 42, 56, 42] : List Int)) = true from rfl]
 simp only [go_sem, ↓reduceIte, Nat.reduceLT, Nat.reduceEqDiff, Int.reduceNeg]
 refine callT (refSame_s [[exL]] [[exL]] hvE.1) rfl ?_
 rw [show decide ([[exL]] = [[exL]]) = true from decide_eq_true rfl]
 simp only [go_sem, ↓reduceIte, Nat.reduceEqDiff, Int.reduceNeg]
 exact .tree _ rfl
end Go.Proofs.YtnncijjkbonokaaDoor
namespace Go.Proofs.YtnncijjkbonokaaDoor
open Dak
def c3 : CCode :=
 (.seq (.region [oo 10 (.mov (.const (.bool false)))])
 (.seq (.region [vv 23 0, oo 24 (.call (.func 10) [(T 23)]), oo 11 (.alloc 25 (.agg [(.val (.slice none 0 0))])), nn (.store 1 (T 11) (T 24))])
 (.seq (.region [oo 25 (.load true 1 (T 11)), vv 26 1, vv 27 2, vv 28 3, oo 29 (.call (.func 11) [(T 25), (T 26), (T 27), (T 28)]), oo 12 (.alloc 25 (.agg [(.val (.slice none 0 0))])), nn (.store 1 (T 12) (T 29))])
 (.seq (.region [oo 30 (.bslice 34 1 [(.const (.slice none 0 0))]), vv 13 30])
 (.seq (.seq (.region [oo 14 (.mov (kk 0))])
 (.block 0 (.loop
 (.seq (.seq (.region [vv 31 14, oo 32 (.fieldAddr 0 (T 11)), oo 33 (.load false 1 (T 32)), oo 34 (.len (T 33)), oo 35 (.ibin .lss (T 31) (T 34))])
 (.cond (T 35)
 .skip
 (.exit 0)))
 (.seq (.block 1 (.region [vv 38 13, oo 39 (.fieldAddr 0 (T 11)), oo 40 (.load false 1 (T 39)), vv 41 14, oo 42 (.idxS 1 (T 40) (T 41)), oo 43 (.load false 1 (T 42)), oo 44 (.append 34 1 24 (T 38) (T 43)), vv 13 44]))
 (.region [vv 36 14, oo 37 (.ibin .add (T 36) (kk 1)), vv 14 37]))))))
 (.seq (.seq (.region [oo 15 (.mov (kk 0))])
 (.block 2 (.loop
 (.seq (.seq (.region [vv 45 15, oo 46 (.fieldAddr 0 (T 12)), oo 47 (.load false 1 (T 46)), oo 48 (.len (T 47)), oo 49 (.ibin .lss (T 45) (T 48))])
 (.cond (T 49)
 .skip
 (.exit 2)))
 (.seq (.block 3 (.region [vv 52 13, oo 53 (.fieldAddr 0 (T 12)), oo 54 (.load false 1 (T 53)), vv 55 15, oo 56 (.idxS 1 (T 54) (T 55)), oo 57 (.load false 1 (T 56)), oo 58 (.append 34 1 24 (T 52) (T 57)), vv 13 58]))
 (.region [vv 50 15, oo 51 (.ibin .add (T 50) (kk 1)), vv 15 51]))))))
 (.seq (.region [vv 59 4, oo 60 (.call (.func 12) [(T 59), (kk 51)]), oo 61 (.ibin .sub (T 60) (kk 1)), vv 62 4, oo 63 (.bslice 3 1 [(T 61), (T 62), (kk (-1))]), vv 16 63])
 (.seq (.seq (.region [oo 17 (.mov (kk 0))])
 (.block 4 (.loop
 (.seq (.seq (.region [vv 64 17, vv 65 13, oo 66 (.len (T 65)), oo 67 (.ibin .lss (T 64) (T 66)), vv 68 67, vt 69 68 17, gt 70 68 (.ibin .lss (T 69) (kk 20)), oo 71 (.pick (T 68) (T 70) (.const (.bool false)))])
 (.cond (T 71)
 .skip
 (.exit 4)))
 (.seq (.block 5 (.seq (.region [oo 18 (.mov (kk 0))])
 (.block 6 (.loop
 (.seq (.seq (.region [vv 74 18, oo 75 (.ibin .lss (T 74) (kk 3))])
 (.cond (T 75)
 .skip
 (.exit 6)))
 (.seq (.block 7 (.seq (.drawn [vv 79 13, vv 80 17, oo 81 (.idxS 1 (T 79) (T 80)), oo 82 (.load false 1 (T 81)), vv 83 16, vv 84 18, oo 85 (.idxS 1 (T 83) (T 84)), oo 86 (.load false 1 (T 85))] [(oo 87 (.call (.func 13) [(T 82), (T 86)]), []), (vv 78 87, []), (oo 88 (.extract (T 78) 0), []), (oo 89 (.extract (T 78) 1), []), (vv 19 88, []), (vv 20 89, [])])
 (.seq (.drawn [vv 91 13, vv 92 17, oo 93 (.idxS 1 (T 91) (T 92)), oo 94 (.load false 1 (T 93)), vv 95 16, vv 96 18, oo 97 (.idxS 1 (T 95) (T 96)), oo 98 (.load false 1 (T 97))] [(oo 99 (.call (.func 14) [(T 94), (T 98)]), []), (vv 90 99, []), (oo 100 (.extract (T 90) 0), []), (oo 101 (.extract (T 90) 1), []), (vv 21 100, []), (vv 22 101, [])])
 (.seq (.region [vv 102 20, vv 103 22, oo 104 (.ibin .neq (T 102) (T 103)), vv 105 104, vf 106 105 19, vf 107 105 21, gf 108 105 (.call (.func 15) [(T 106), (T 107)]), gf 109 105 (.lnot (T 108)), oo 110 (.pick (T 105) (.const (.bool true)) (T 109))])
 (.cond (T 110)
 (.seq (.region [oo 10 (.mov (.const (.bool false)))])
 .ret)
 .skip)))))
 (.region [vv 76 18, oo 77 (.ibin .add (T 76) (kk 1)), vv 18 77])))))))
 (.region [vv 72 17, oo 73 (.ibin .add (T 72) (kk 1)), vv 17 73]))))))
 (.seq (.region [oo 111 (.call (.func 16) []), vv 10 111])
 .ret)))))))))
end Go.Proofs.YtnncijjkbonokaaDoor
namespace Dak
open Go Go.RowKit
variable [Globs]
theorem tr_ofRow {k : IntKind} {w : World} {a : Option Addr} {len cap : Nat} {zs : List Int} (h : (a = none /\ len = 0 /\ cap = 0 /\ zs = []) \/
 ∃ x, a = some x /\ len <= cap /\ cap <= maxLen /\ zs.length = cap /\ (∀ i, i < zs.length -> w.cell? (x.add i) = some (.int k (zs.getD i 0))) /\ ∀ n ∈ zs, (Lit.int k n).wf = true) :
 TR w (fun _ => True) (.list 1 ((zs.take len).map fun n => .val (.int k n))) (.slice a len cap) := by
 rcases h with ⟨rfl, rfl, rfl, rfl⟩ | ⟨⟨b, o, sp⟩, rfl, hl, hm, hz, hc, _⟩
 ·exact .nolist _ _ _ (Nat.zero_le _)
 ·by_cases h0 : len = 0
  ·subst h0; exact .nolist _ _ _ hm
  ·have hsp : sp = none := World.cell?_spot (hc 0 (by omega))
   subst hsp
   have hlen : ((zs.take len).map fun n => AV.val (.int k n)).length = len := by simp; omega
   have := TR.list (w := w) (F := fun _ => True) 1 ((zs.take len).map fun n => AV.val (.int k n)) b o cap (fun i _ => .int k (zs.getD i 0)) trivial (isC.of_cell (hc 0 (by omega))) (by omega) hm
    (fun i hi => by simp [AV.cells]) (fun i j hi hj => by
     have : j = 0 := by omega
     subst this
     have := hc i (by omega)
     rw [Nat.mul_one, Nat.add_zero]
     by_cases hi0 : i = 0
     ·subst hi0; simpa [Addr.add] using this
     ·simpa [Addr.add, hi0] using this) (fun i j hi hj => rfl) (fun i hi j hj => by
     simp only [List.getElem_map, AV.cells, List.length_singleton] at hj ⊢
     have : j = 0 := by omega
     subst this
     have h1 : i < zs.length := by omega
     simp only [List.getElem_cons_zero, List.getElem_take, List.getD_eq_getElem?_getD, List.getElem?_eq_getElem h1, Option.getD_some]
     exact .val _)
   rw [hlen] at this
   exact this
theorem wf_i64 {n : Int} (h : (Lit.int .i64 n).wf = true) : -9223372036854775808 <= n /\ n <= 9223372036854775807 := by
 simp [Lit.wf] at h
 have : IntKind.i64.min = -9223372036854775808 := by decide
 omega
end Dak
namespace Go.Proofs.YtnncijjkbonokaaDoor
open Go Go.RowKit Dak Go.ChangeAt Go.ChangeShapes Go.WideShapes
theorem u91 : Tryd.prog.underlying 91 = some (.array 7 5) := by kernel_rfl
theorem u92 : Tryd.prog.underlying 92 = some (.array 8 5) := by kernel_rfl
theorem u93 : Tryd.prog.underlying 93 = some (.array 5 5) := by kernel_rfl
theorem u5 : Tryd.prog.underlying 5 = some (.int .u8) := by kernel_rfl
theorem cl5 : Tryd.prog.cellsOf 5 = 1 := by kernel_rfl
theorem cl91 : Tryd.prog.cellsOf 91 = 7 := by kernel_rfl
theorem cl92 : Tryd.prog.cellsOf 92 = 8 := by kernel_rfl
theorem cl93 : Tryd.prog.cellsOf 93 = 5 := by kernel_rfl
theorem g0n : Tryd.prog.globalNamed "dactyl/music.octaves" = some 0 := by kernel_rfl
theorem g1n : Tryd.prog.globalNamed "dactyl/music.names" = some 1 := by kernel_rfl
theorem g2n : Tryd.prog.globalNamed "dactyl/music.lengths" = some 2 := by kernel_rfl
theorem g0t : (Tryd.prog.globals[0]?).map (·.type) = some 91 := by kernel_rfl
theorem g1t : (Tryd.prog.globals[1]?).map (·.type) = some 92 := by kernel_rfl
theorem g2t : (Tryd.prog.globals[2]?).map (·.type) = some 93 := by kernel_rfl
abbrev laidL : List (String × DataW Unit) := [("dactyl/music.octaves", Rows.laid_dactyl_music_octaves), ("dactyl/music.names", Rows.laid_dactyl_music_names), ("dactyl/music.lengths", Rows.laid_dactyl_music_lengths)]
section
variable {H : Type} {enc : TypeId × Value -> H} {W : World} {base : Nat} {sp : Nat -> Bool} {held : Bool}
theorem laid_cells {g n t : Nat} {nm : String} {cs : Array Value} {fuel : Nat} {l : List Int} {p : List MemPlace} (hg : Tryd.prog.globalNamed nm = some g) (hv : W.var? Tryd.prog nm = some cs) (hu : Tryd.prog.underlying t = some (.array n 5)) (hct : Tryd.prog.cellsOf t = n)
 (h : DataW.trod enc Tryd.prog W base sp held fuel t cs.toList = some (.agg (l.map fun x => .lit (.int .u8 x)), p)) : ∀ (j : Nat) (hj : j < l.length), W.cell? ⟨g, j, none⟩ = some (.int .u8 l[j]) := by
 obtain ⟨xs, m, rfl, hx, hlen, hn, hel⟩ := DataW.trod_array hu h
 simp only [Prod.mk.injEq, DataW.agg.injEq] at hx
 have hl : l.length = n := by
  have := congrArg List.length hx.1
  simp only [List.length_map] at this
  omega
 intro j hj
 have hE := hel j (by omega)
 have hxj : j < xs.length := by omega
 rw [cl5, Nat.mul_one, List.getElem?_eq_getElem hxj] at hE
 obtain ⟨k, e1, e2, _⟩ := DataW.trod_int u5 hE
 have hk : k = l[j] := by
  have h1 : (l.map fun x => DataW.lit (H := H) (.int .u8 x))[j]? = (xs.map (·.1))[j]? := by rw [hx.1]
  rw [List.getElem?_map, List.getElem?_map, List.getElem?_eq_getElem hj, List.getElem?_eq_getElem hxj, e2] at h1
  simpa using h1.symm
 rw [World.var?_cell hg hv j, <- Array.getElem?_toList, <- hk]
 have h2 : (List.take 1 (List.drop j cs.toList))[0]? = some (Value.int .u8 k) := by rw [e1]; rfl
 rw [List.getElem?_take, if_pos (by omega), List.getElem?_drop, Nat.add_zero] at h2
 exact h2
end
theorem gl_of_laid {W : World} (h : laidMetH Tryd.prog laidL W) : GlOk W (fun _ => True) := by
 rw [MakeChecks.laidMetH_plain _ _ _ (by kernel_rfl)] at h
 obtain ⟨ps, ⟨g0, t0, cs0, f0, p0, q0, hg0, ht0, hv0, hd0, ⟨g1, t1, cs1, f1, p1, q1, hg1, ht1, hv1, hd1, ⟨g2, t2, cs2, f2, p2, q2, hg2, ht2, hv2, hd2, _, _⟩, _⟩, _⟩, _, _⟩ := h
 obtain rfl := Option.some.inj (g0n.symm.trans hg0)
 obtain rfl := Option.some.inj (g1n.symm.trans hg1)
 obtain rfl := Option.some.inj (g2n.symm.trans hg2)
 obtain rfl := Option.some.inj (g0t.symm.trans ht0)
 obtain rfl := Option.some.inj (g1t.symm.trans ht1)
 obtain rfl := Option.some.inj (g2t.symm.trans ht2)
 have k0 := laid_cells (l := [8, 24, 56, 16, 40, 48, 32]) hg0 hv0 u91 cl91 hd0
 have k1 := laid_cells (l := [25, 17, 11, 27, 19, 10, 26, 9]) hg1 hv1 u92 cl92 hd1
 have k2 := laid_cells (l := [36, 4, 32, 0, 36]) hg2 hv2 u93 cl93 hd2
 have key : ∀ (g : Nat) (l : List Int), 0 < l.length -> Globs.tab g = l.map (fun x => Value.int .u8 x) -> (∀ (j : Nat) (hj : j < l.length), W.cell? ⟨g, j, none⟩ = some (.int .u8 l[j])) ->
  True /\ g < W.heap.size /\ ∀ j (h : j < (Globs.tab g).length), W.cell? ⟨g, j, none⟩ = some (Globs.tab g)[j] /\ (Globs.tab g)[j].oneCell' = true := by
  intro g l hl hT hc
  refine ⟨trivial, (isC.of_cell (hc 0 hl)).lt, fun j hj => ?_⟩
  have hj' : j < l.length := by rw [hT, List.length_map] at hj; exact hj
  have e : (Globs.tab g)[j] = Value.int .u8 l[j] := by simp only [hT, List.getElem_map]
  rw [e]
  exact ⟨hc j hj', rfl⟩
 intro g hg
 match g, hg with
 | 0, _ => exact key 0 _ (by decide) rfl k0
 | 1, _ => exact key 1 _ (by decide) rfl k1
 | 2, _ => exact key 2 _ (by decide) rfl k2
 | _ + 3, hg => exact absurd rfl hg
section
variable {H : Type} {enc : TypeId × Value -> H} {W : World} {base : Nat} {sp : Nat -> Bool} {held : Bool}
end
theorem door_met (os : Os) (args : Array Value) : laidMetH Tryd.prog laidL ((World.doorLaid Tryd.prog 400 os).forCall (fun _ _ => 0) ⟨#[], args, []⟩).memory :=
 laidMetH_of_parts3 (fuel := 8) (laidMet_of_run' 8 (by kernel_rfl) (by kernel_rfl)) (by kernel_rfl) (by kernel_rfl)
end Go.Proofs.YtnncijjkbonokaaDoor
