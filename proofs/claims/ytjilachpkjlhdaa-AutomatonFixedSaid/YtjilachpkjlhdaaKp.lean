/- Lemmas used by Fixed. -/
import Derived.Test.YtjilachpkjlhdaaKa
import Derived.Test.YtjilachpkjlhdaaKb
import Derived.Test.YtjilachpkjlhdaaKc
import Derived.Test.YtjilachpkjlhdaaKd
import Derived.Test.YtjilachpkjlhdaaKe
import Derived.Test.YtjilachpkjlhdaaKf
import Derived.Test.YtjilachpkjlhdaaKg
import Derived.Test.YtjilachpkjlhdaaKh
import Derived.Test.YtjilachpkjlhdaaKi
import Derived.Test.YtjilachpkjlhdaaKj
import Derived.Test.YtjilachpkjlhdaaKl
import Derived.Test.YtjilachpkjlhdaaProg
import Derived.WalkKit
import Derived.WalkSpells
import Derived.WalkLawsBesides
import Derived.Orders
import Derived.Laws.MakeOwn
import Derived.Deep.AppendSrc
import Derived.Lib.AppendZerosOnto
import Derived.Defers
import Derived.Laws.BytesString
import Derived.Laws.StructEq
import Derived.Scope
import Derived.Deep.LoopGhost
import Derived.OrdersIn
import Derived.ControlIn
import Derived.Sort.LoopGhostIn
import Derived.RangeFuncLeaves
import Derived.RangeFuncRecord
import Derived.RangeFuncFrom
import Derived.RangeFuncNested
set_option linter.unusedSimpArgs false
set_option linter.unusedVariables false
set_option linter.unusedSectionVars false
set_option maxRecDepth 100000
namespace Go.Proofs.Ytjilachpkjlhdaa
open Dak
theorem f4:fnC Try.prog 4=some (c4,80,[(.tmp 10)]):=by kernel_rfl
end Go.Proofs.Ytjilachpkjlhdaa
namespace P5
theorem fixed_fixed {a:Au} (h:(fixedM a).2=0):fixedM (fixedM a).1=fixedM a:=by
 obtain ⟨_,g,_,_,_,e,hg,_⟩:=fixed_norm h
 rw [e];exact fixed_again hg
end P5
namespace Go.Proofs.Ytjilachpkjlhdaa
open Go.RowKit Dak P5
open Nat (reduceEqDiff reduceLT reduceAdd)
set_option maxHeartbeats 4000000 in
theorem AutomatonFixed_s (l:List Int) (symbols at' how by':Int) (hl:∀ x ∈ l,I64 x) (hs:I64 symbols) (ha:I64 at') (hh:I64 how) (hb:I64 by') :
 Ctr Try.prog 4 [vints l,vi symbols,vi at',vi how,vi by'] (vb true):=by
 refine specC f4 (by simp) fun F0 w0=>?_
 have hp:=pair2_s l [] symbols hl (fun x hx=>by simp at hx) hs
 obtain ⟨m1,m2⟩:=made_sz l (symN symbols)
 have hbe:=Bent_s (madeM l (symN symbols)) (by omega) (by omega) at' how by' ha hh hb
 have hz0:SzA (madeM l (symN symbols)):=⟨by omega,by omega⟩
 have hz1:=bent_sz (a:=madeM l (symN symbols)) (by omega) (by omega) at' how by'
 generalize madeM l (symN symbols)=A at hp hbe hz0 hz1
 generalize bentM A at' how by'=B at hbe hz1
 generalize madeM [] (symN symbols)=D at hp
 have hlv:=lives_s
 unfold c4
 refine CwpE.cut (st:=⟨[(0,vints l),(1,vi symbols),(2,vi at'),(3,vi how),(4,vi by')],[]⟩) ?_ ?_
 ·simp only [go_sem,↓reduceIte,reduceLT,reduceAdd]
  exact ⟨_,WkE.kq,rfl⟩
 refine CwpE.cut (st:=⟨[(2,vi at'),(3,vi how),(4,vi by'),(11,.ref 0 1 0 0)],[oB A,oB D]⟩) ?_ ?_
 ·simp only [go_sem,↓reduceIte,reduceCtorEq,reduceLT,reduceEqDiff]
  refine callN hp (.cons (.tree _ rfl) (.cons (.nil 1) (.cons (.tree _ rfl) .nil))) ?_
  simp only [go_sem,↓reduceIte,reduceLT,reduceEqDiff,reduceAdd]
  exact ⟨_,WkE.kq,rfl⟩
 refine CwpE.cut (st:=⟨[(13,.list 3 [vau A,vau B])],[oB A,oB D]⟩) ?_ ?_
 ·simp only [go_sem,↓reduceIte,reduceLT,reduceEqDiff,reduceAdd]
  refine callT hbe rfl ?_
  simp only [go_sem,Nat.reducePow,Nat.reduceLeDiff,↓reduceIte,reduceCtorEq,reduceLT,reduceEqDiff,reduceAdd,Nat.reduceMul]
  exact ⟨_,WkE.kp,rfl⟩
 refine CwpE.step (fun z=>∃ env objs,z=⟨env,objs⟩) ?_ ?_
 rotate_left
 ·rintro _ ⟨env,objs,rfl⟩
  refine CwpE.wk (s':=⟨[],objs⟩) (WkE.keep (by simp only [go_sem])) ?_
  refine CwpE.vc ?_
  simp only [go_sem]
  refine callT hlv rfl ?_
  simp only [go_sem,↓reduceIte,reduceLT]
  exact .tree _ rfl
 have z0:((0:Nat):Int)=0:=rfl
 have z1:((1:Nat):Int)=1:=rfl
 have z2:((2:Nat):Int)=2:=rfl
 have hall:∀ i:Nat,i<2->∃ X:Au,SzA X/\[vau A,vau B][i]? = some (vau X):=fun i hi=>by
  match i,hi with
  | 0,_=>exact ⟨A,hz0,rfl⟩
  | 1,_=>exact ⟨B,hz1,rfl⟩
 have hlen:([vau A,vau B]:List AV).length=2:=rfl
 obtain ⟨LL,hLL⟩:∃ LL:List AV,[vau A,vau B]=LL:=⟨_,rfl⟩
 rw [hLL] at hall hlen ⊢
 simp only [go_sem,↓reduceIte,reduceLT]
 refine loopX 0 (fun m z=>∃ i:Nat,m=2-i/\i<=2/\z=⟨[(13,.list 3 LL),(14,vi i)],[oB A,oB D]⟩)
  (fun z=>∃ env objs,z=⟨env,objs⟩) 2 ⟨[(13,.list 3 LL),(14,vi (0:Nat))],[oB A,oB D]⟩ (WkE.kp) ⟨0,by omega,by omega,rfl⟩ ?_ ?_
 rotate_left
 ·rintro z h
  simp only [go_sem,↓reduceIte]
  exact ⟨z,.refl _ _,h⟩
 rintro m z ⟨i,rfl,hi,rfl⟩
 by_cases hlt:i<2
 rotate_left
 ·have g:¬ (i:Int)<2:=by omega
  simp only [go_sem,↓reduceIte,reduceLT,reduceEqDiff,g]
  exact ⟨_,.refl _ _,_,_,rfl⟩
 have g1:(i:Int)<2:=by omega
 have g0:(0:Int)<=(i:Int):=by omega
 have g2:(i:Int)<(LL.length:Int):=by omega
 have wi:=wrap_s i (by omega)
 obtain ⟨X,hX,hget⟩:=hall i hlt
 have h1:=ownA_s X hX
 have h2:=Fixed_s X hX
 have h3:=rFixed_s X hX
 have hfz:=fixed_sz X
 have h4:=same_s (fixedM X).1 (fixedM X).1 hfz hfz
 rw [decide_eq_true rfl] at h4
 have h5:=Fixed_s (fixedM X).1 hfz
 have hff:=fixed_fixed (a:=X)
 obtain ⟨c,e,hc⟩:∃ c e,fixedM X=(c,e):=⟨_,_,rfl⟩
 rw [hc] at h2 h3 h4 h5 hff
 simp only at h2 h3 h4 h5 hff
 have inn:([oB A,oB D].all fun o=>o.innO 2)=true:=rfl
 simp only [go_sem,↓reduceIte,reduceLT,reduceEqDiff,reduceAdd,g1,g0,hget,Int.toNat_natCast]
 refine callT h1 rfl ?_
 simp only [go_sem,↓reduceIte,reduceLT]
 refine callT h2 rfl ?_
 simp only [go_sem,↓reduceIte,reduceLT,reduceEqDiff,reduceAdd,g0,hget,Int.toNat_natCast]
 refine callT h3 rfl ?_
 by_cases he:e=0
 rotate_left
 ·simp only [go_sem,↓reduceIte,reduceLT,reduceEqDiff,reduceAdd]
  refine callT h4 rfl ?_
  simp only [go_sem,↓reduceIte,reduceLT,reduceEqDiff,he,wi]
  exact ⟨2-(i+1),⟨[(13,.list 3 LL),(14,vi (i+1:Nat))],[oB A,oB D]⟩,by omega,WkE.round (by simp only [go_sem,↓reduceIte,reduceEqDiff];try rfl) rfl inn rfl,i+1,rfl,by omega,rfl⟩
 ·subst he
  rw [hff rfl] at h5
  simp only [go_sem,↓reduceIte,reduceLT,reduceEqDiff,reduceAdd]
  refine callT h4 rfl ?_
  simp only [go_sem,↓reduceIte,reduceLT,reduceEqDiff,reduceAdd]
  refine callT h5 rfl ?_
  simp only [go_sem,↓reduceIte,reduceLT,reduceEqDiff,reduceAdd]
  refine callT h4 rfl ?_
  simp only [go_sem,↓reduceIte,reduceLT,reduceEqDiff,wi]
  exact ⟨2-(i+1),⟨[(13,.list 3 LL),(14,vi (i+1:Nat))],[oB A,oB D]⟩,by omega,WkE.round (by simp only [go_sem,↓reduceIte,reduceEqDiff];try rfl) rfl inn rfl,i+1,rfl,by omega,rfl⟩
end Go.Proofs.Ytjilachpkjlhdaa
