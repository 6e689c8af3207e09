/- Lemmas used by all laws. -/
import Derived.Test.YtjilachpkjlhdaaKa
import Derived.Test.YtjilachpkjlhdaaKb
import Derived.Test.YtjilachpkjlhdaaKc
import Derived.Test.YtjilachpkjlhdaaKd
import Derived.Test.YtjilachpkjlhdaaKe
import Derived.Test.YtjilachpkjlhdaaKf
import Derived.Test.YtjilachpkjlhdaaProg
import Derived.WalkKit
import Derived.WalkSpells
import Derived.WalkLawsBesides
import Derived.Orders
import Derived.Laws.MakeOwn
import Derived.Deep.AppendSrc
import Derived.Lib.AppendZerosOnto
import Derived.Defers
import Derived.Laws.BytesString
import Derived.Laws.StructEq
import Derived.Scope
import Derived.Deep.LoopGhost
import Derived.OrdersIn
import Derived.ControlIn
import Derived.Sort.LoopGhostIn
import Derived.RangeFuncLeaves
import Derived.RangeFuncRecord
import Derived.RangeFuncFrom
import Derived.RangeFuncNested
import Derived.DataReads
set_option linter.unusedSimpArgs false
set_option linter.unusedVariables false
set_option linter.unusedSectionVars false
set_option maxRecDepth 100000
namespace Go.Proofs.Ytjilachpkjlhdaa
open Go.RowKit Dak P5
open Nat (reduceEqDiff reduceLT reduceAdd)
set_option maxHeartbeats 4000000 in
theorem Same_s (a b:Au) (ha:SzA a) (hb:SzA b):Ctr Try.prog 30 [vau a,vau b] (vb (decide (a=b))):=by
 refine specC f30 (by simp) fun F0 w0=>?_
 obtain ⟨ha1,ha2⟩:=ha
 obtain ⟨hb1,hb2⟩:=hb
 unfold c30
 refine CwpE.cut (st:=⟨[(2,.ref 0 1 0 0),(3,.ref 1 1 0 0),(4,vb false)],[oB a,oB b]⟩) ?_ ?_
 ·simp only [go_sem,↓reduceIte,reduceCtorEq,reduceLT,reduceEqDiff,reduceAdd]
  exact ⟨_,WkE.kp,rfl⟩
 by_cases hall:a.sy=b.sy/\a.acc.length=b.acc.length/\a.ed.length=b.ed.length
 rotate_left
 ·have hne:¬ a=b:=fun e=>hall (by subst e;exact ⟨rfl,rfl,rfl⟩)
  rw [decide_eq_false hne]
  refine CwpE.step (fun _=>False) ?_ (fun _ h=>h.elim)
  by_cases h1:a.sy=b.sy
  ·by_cases h2:a.acc.length=b.acc.length
   ·have h2':(a.acc.length:Int)=(b.acc.length:Int):=by omega
    have h3':¬ (a.ed.length:Int)=(b.ed.length:Int):=fun e=>hall ⟨h1,h2,by omega⟩
    simp only [go_sem,↓reduceIte,reduceLT,reduceEqDiff,h1,h2',h3',List.length_map]
    exact .tree _ rfl
   ·have h2':¬ (a.acc.length:Int)=(b.acc.length:Int):=by omega
    simp only [go_sem,↓reduceIte,reduceLT,reduceEqDiff,h1,h2',List.length_map]
    exact .tree _ rfl
  ·simp only [go_sem,↓reduceIte,reduceLT,reduceEqDiff,h1]
   exact .tree _ rfl
 obtain ⟨h1,h2,h3⟩:=hall
 refine CwpE.cut (st:=⟨[(2,.ref 0 1 0 0),(3,.ref 1 1 0 0),(4,vb false)],[oB a,oB b]⟩) ?_ ?_
 ·have h2':(a.acc.length:Int)=(b.acc.length:Int):=by omega
  have h3':(a.ed.length:Int)=(b.ed.length:Int):=by omega
  simp only [go_sem,↓reduceIte,reduceLT,reduceEqDiff,h1,h2',h3',List.length_map]
  exact ⟨_,WkE.kp,rfl⟩
 refine CwpE.step (fun z=>a.acc=b.acc/\z=⟨[(2,.ref 0 1 0 0),(3,.ref 1 1 0 0),(4,vb false)],[oB a,oB b]⟩) ?_ ?_
 ·simp only [go_sem,↓reduceIte,reduceLT]
  refine loopX 0 (fun m z=>∃ k:Nat,m=a.acc.length-k/\k<=a.acc.length/\a.acc.take k=b.acc.take k/\z=⟨[(2,.ref 0 1 0 0),(3,.ref 1 1 0 0),(4,vb false),(5,vi k)],[oB a,oB b]⟩)
   (fun z=>a.acc=b.acc/\z=⟨[(2,.ref 0 1 0 0),(3,.ref 1 1 0 0),(4,vb false)],[oB a,oB b]⟩) a.acc.length
   ⟨[(2,.ref 0 1 0 0),(3,.ref 1 1 0 0),(4,vb false),(5,vi (0:Nat))],[oB a,oB b]⟩ (WkE.kp) ⟨0,by omega,by omega,rfl,rfl⟩ ?_ ?_
  rotate_left
  ·rintro z ⟨h,rfl⟩
   simp only [go_sem,↓reduceIte]
   exact ⟨_,.refl _ _,h,rfl⟩
  rintro m z ⟨k,rfl,hk,ht,rfl⟩
  by_cases hlt:k<a.acc.length
  rotate_left
  ·have gk:¬ (k:Int)<(a.acc.length:Int):=by omega
   rw [List.take_of_length_le (by omega),List.take_of_length_le (by omega)] at ht
   simp only [go_sem,↓reduceIte,reduceLT,reduceEqDiff,gk,List.length_map]
   exact ⟨_,WkE.kp,ht,rfl⟩
  have g1:(k:Int)<(a.acc.length:Int):=by omega
  have g2:(k:Int)<(b.acc.length:Int):=by omega
  have g0:(0:Int)<=(k:Int):=by omega
  have w1:=wrap_s k (by omega)
  have e1:(a.acc.map vb)[k]? = some (vb a.acc[k]):=by rw [List.getElem?_map,List.getElem?_eq_getElem hlt];rfl
  have e2:(b.acc.map vb)[k]? = some (vb (b.acc[k]'(by omega))):=by rw [List.getElem?_map,List.getElem?_eq_getElem (by omega)];rfl
  have hn:=same_upto hlt (by omega) ht
  by_cases he:a.acc[k]=b.acc[k]'(by omega)
  ·have hn1:=hn he
   have hq:(a.acc[k] == b.acc[k]'(by omega))=true:=by rw [he];exact beq_self_eq_true _
   simp only [go_sem,↓reduceIte,reduceLT,reduceEqDiff,g1,g0,e1,e2,w1,hq,Bool.not_true,List.length_map,Int.toNat_natCast]
   exact ⟨a.acc.length-(k+1),⟨[(2,.ref 0 1 0 0),(3,.ref 1 1 0 0),(4,vb false),(5,vi (k+1:Nat))],[oB a,oB b]⟩,by omega,WkE.kp,k+1,rfl,by omega,hn1,rfl⟩
  ·have hq:(a.acc[k] == b.acc[k]'(by omega))=false:=by simpa using he
   have hne:¬ a=b:=fun e=>he (by subst e;rfl)
   rw [decide_eq_false hne]
   simp only [go_sem,↓reduceIte,reduceLT,reduceEqDiff,g1,g0,e1,e2,hq,Bool.not_false,List.length_map,Int.toNat_natCast]
   exact .tree _ rfl
 rintro _ ⟨hacc,rfl⟩
 refine CwpE.step (fun z=>a.ed=b.ed) ?_ ?_
 ·simp only [go_sem,↓reduceIte,reduceLT]
  refine loopX 2 (fun m z=>∃ k:Nat,m=a.ed.length-k/\k<=a.ed.length/\a.ed.take k=b.ed.take k/\z=⟨[(2,.ref 0 1 0 0),(3,.ref 1 1 0 0),(4,vb false),(6,vi k)],[oB a,oB b]⟩)
   (fun z=>a.ed=b.ed) a.ed.length
   ⟨[(2,.ref 0 1 0 0),(3,.ref 1 1 0 0),(4,vb false),(6,vi (0:Nat))],[oB a,oB b]⟩ (WkE.kp) ⟨0,by omega,by omega,rfl,rfl⟩ ?_ ?_
  rotate_left
  ·rintro z h
   simp only [go_sem,↓reduceIte]
   exact ⟨_,.refl _ _,h⟩
  rintro m z ⟨k,rfl,hk,ht,rfl⟩
  by_cases hlt:k<a.ed.length
  rotate_left
  ·have gk:¬ (k:Int)<(a.ed.length:Int):=by omega
   rw [List.take_of_length_le (by omega),List.take_of_length_le (by omega)] at ht
   simp only [go_sem,↓reduceIte,reduceLT,reduceEqDiff,gk,List.length_map]
   exact ⟨_,.refl _ _,ht⟩
  have g1:(k:Int)<(a.ed.length:Int):=by omega
  have g2:(k:Int)<(b.ed.length:Int):=by omega
  have g0:(0:Int)<=(k:Int):=by omega
  have w1:=wrap_s k (by omega)
  have e1:=edge_get hlt
  have e2:=edge_get (l:=b.ed) (k:=k) (by omega)
  have hn:=same_upto hlt (by omega) ht
  have hne:¬ a.ed[k]=b.ed[k]'(by omega)->¬ a=b:=fun h e=>h (by subst e;rfl)
  have hcell:=edge_eq_cells a.ed[k] (b.ed[k]'(by omega))
  generalize a.ed[k]=e at e1 hn hne hcell
  generalize b.ed[k]'(by omega)=f at e2 hn hne hcell
  by_cases he:e=f
  ·have hn1:=hn he
   rw [decide_eq_true he] at hcell
   simp only [go_sem,↓reduceIte,reduceLT,reduceEqDiff,reduceAdd,g1,g0,e1,e2,w1,hcell,Bool.not_true,List.length_map,Int.toNat_natCast]
   exact ⟨a.ed.length-(k+1),⟨[(2,.ref 0 1 0 0),(3,.ref 1 1 0 0),(4,vb false),(6,vi (k+1:Nat))],[oB a,oB b]⟩,by omega,WkE.kp,k+1,rfl,by omega,hn1,rfl⟩
  ·rw [decide_eq_false he] at hcell
   rw [decide_eq_false (hne he)]
   simp only [go_sem,↓reduceIte,reduceLT,reduceEqDiff,reduceAdd,g1,g0,e1,e2,hcell,Bool.not_false,List.length_map,Int.toNat_natCast]
   exact .tree _ rfl
 intro z hed
 rw [decide_eq_true (au_ext h1 hacc hed)]
 obtain ⟨env,objs⟩:=z
 refine CwpE.wk (s':=⟨[],objs⟩) (WkE.keep (by simp only [go_sem])) ?_
 refine CwpE.vc ?_
 simp only [go_sem,↓reduceIte,reduceLT]
 exact .tree _ rfl
theorem same_s (a b:Au) (ha:SzA a) (hb:SzA b):Ctr Try.prog 24 [vau a,vau b] (vb (decide (a=b))):=by
 refine specC f24 (by simp) fun F0 w0=>?_
 have hp:=plainA_s a ha
 have hs:=Same_s a b ha hb
 unfold c24
 refine CwpE.cut (st:=⟨[(2,.ref 0 1 0 0),(3,.ref 1 1 0 0)],[oX a,oB b]⟩) ?_ ?_
 ·simp only [go_sem,↓reduceIte,reduceCtorEq,reduceLT,reduceEqDiff,reduceAdd]
  exact ⟨_,WkE.kp,rfl⟩
 refine CwpE.vc ?_
 simp only [go_sem,↓reduceIte,reduceLT,reduceEqDiff,reduceAdd]
 refine callT hp rfl ?_
 simp only [go_sem,↓reduceIte,reduceLT,reduceEqDiff,reduceAdd]
 refine callT hs rfl ?_
 simp only [go_sem,↓reduceIte,reduceLT]
 exact .tree _ rfl
end Go.Proofs.Ytjilachpkjlhdaa
namespace Go.Proofs.Ytjilachpkjlhdaa
open Go.RowKit Dak P5
open Nat (reduceEqDiff reduceLT reduceAdd)
def bitM (bits:Int) (i:Nat):Bool:=decide ((bits.fdiv (2 ^ min i 64)).tmod 2=1)
def inM (y:Nat) (k:Int):Int:=if ((k.tdiv 36).tmod (4*(y:Int)+1)).tdiv 4=(y:Int) then -1 else ((k.tdiv 36).tmod (4*(y:Int)+1)).tdiv 4
def madeE (n y:Nat) (k:Int):Edg:=((k.tmod 6).tmod n,inM y k,((k.tdiv 6).tmod 6).tmod n)
def madeN (l:List Int):Nat:=(1+atL l 0 6).toNat
def madeEs (l:List Int) (n y j:Nat):List Edg:=(List.range j).map fun i=>madeE n y (atL l ((i+2:Nat):Int) 1048576)
def madeK (l:List Int):Nat:=min l.length 20-2
def madeM (l:List Int) (y:Nat):Au:=⟨y,(List.range (madeN l)).map (bitM (atL l 1 64)),madeEs l (madeN l) y (madeK l)⟩
theorem madeN_bd (l:List Int):1<=madeN l/\madeN l<=6/\1+atL l 0 6=(madeN l:Int):=by
 have:=atL_bd l 0 6 (by omega)
 unfold madeN
 omega
def accG (n:Nat) (bits:Int) (i:Nat):List AV:=rg n fun q=>vb (if q<i then bitM bits q else false)
def objsK (y n:Nat) (A:List AV) (E:List Edg):List AObj:=[.arr 1 3 26 [nil3],.arr n 1 4 A,.arr 1 3 26 [.agg [vi y,.own 1 n 0 n,.own 3 E.length 0 E.length]],.arr E.length 3 71 (E.map vedge)]
theorem objsK_eq (y n:Nat) (A:List AV) (E:List Edg):objsK y n A E=[.arr 1 3 26 [nil3],.arr n 1 4 A,.arr 1 3 26 [.agg [vi y,.own 1 n 0 n,.own 3 E.length 0 E.length]],.arr E.length 3 71 (E.map vedge)]:=rfl
set_option maxHeartbeats 4000000 in
theorem Made_s (l:List Int) (hl:∀ x ∈ l,I64 x) (y:Nat) (h1:1<=y) (h2:y<=64):Ctr Try.prog 25 [vints l,vi y] (vau (madeM l y)):=by
 refine specC f25 (by simp) fun F0 w0=>?_
 obtain ⟨n1,n2,hne⟩:=madeN_bd l
 have ha0:=At_s l 0 6 hl ⟨by omega,by omega⟩
 have ha1:=At_s l 1 64 hl ⟨by omega,by omega⟩
 have hb0:=atL_bd l 0 6 (by omega)
 rw [madeM]
 generalize madeN l=n at n1 n2 hne ⊢
 generalize atL l 1 64=bits at ha1 ⊢
 generalize atL l 0 6=a0 at ha0 hb0 hne
 have w0:IntKind.i64.wrap (1+a0)=(n:Int):=by rw [wrap_id (by omega) (by omega),hne]
 unfold c25
 refine CwpE.cut (st:=⟨[(0,vints l),(1,vi y),(4,.ref 0 1 0 0)],[.arr 1 3 26 [nil3]]⟩) ?_ ?_
 ·simp only [go_sem,↓reduceIte,reduceLT,reduceAdd]
  exact ⟨_,WkE.kq,rfl⟩
 refine CwpE.cut (st:=⟨[(0,vints l),(1,vi y),(4,.ref 0 1 0 0),(5,vi n)],[.arr 1 3 26 [nil3]]⟩) ?_ ?_
 ·simp only [go_sem,↓reduceIte,reduceLT]
  refine callT ha0 rfl ?_
  simp only [go_sem,↓reduceIte,reduceLT,w0]
  exact ⟨_,WkE.kq,rfl⟩
 have q0:(0:Int)<=(n:Int):=by omega
 have q2:((1:Nat):Int)*(n:Int)<=281474976710656:=by omega
 have q3:(n:Int)<=9223372036854775807:=by omega
 have hz:(rg n fun _=>vb false)=accG n bits 0:=rg_congr fun q _=>by rw [if_neg (by omega)]
 refine CwpE.cut (st:=⟨[(0,vints l),(1,vi y),(4,.ref 0 1 0 0),(5,vi n),(6,.ref 2 1 0 0)],objsK y n (accG n bits 0) []⟩) ?_ ?_
 ·rw [<-hz]
  simp only [go_sem,Nat.reduceLeDiff,↓reduceIte,reduceCtorEq,reduceLT,reduceEqDiff,reduceAdd,q0,q2,q3,Int.le_refl,Int.toNat_natCast,rg_rep]
  refine ⟨_,(WkE.nilCell 2 1 3 0 2 3 71 26 _ (.agg [vi y,.own 1 n 0 n,.val (.slice none 0 0)]) rfl rfl rfl).trans (WkE.kq),rfl⟩
 refine CwpE.cut (st:=⟨[(0,vints l),(1,vi y),(4,.ref 0 1 0 0),(5,vi n),(6,.ref 2 1 0 0),(7,vi bits)],objsK y n (accG n bits 0) []⟩) ?_ ?_
 ·simp only [go_sem,↓reduceIte,reduceLT]
  refine callT ha1 rfl ?_
  simp only [go_sem,↓reduceIte,reduceLT]
  exact ⟨_,WkE.kq,rfl⟩
 refine CwpE.step (fun z=>z=⟨[(0,vints l),(1,vi y),(4,.ref 0 1 0 0),(5,vi n),(6,.ref 2 1 0 0)],objsK y n (accG n bits n) []⟩) ?_ ?_
 ·simp only [go_sem,↓reduceIte,reduceLT]
  refine loopX 0 (fun m z=>∃ i:Nat,m=n-i/\i<=n/\z=⟨[(0,vints l),(1,vi y),(4,.ref 0 1 0 0),(5,vi n),(6,.ref 2 1 0 0),(7,vi bits),(8,vi i)],objsK y n (accG n bits i) []⟩)
   (fun z=>z=⟨[(0,vints l),(1,vi y),(4,.ref 0 1 0 0),(5,vi n),(6,.ref 2 1 0 0)],objsK y n (accG n bits n) []⟩) n
   ⟨[(0,vints l),(1,vi y),(4,.ref 0 1 0 0),(5,vi n),(6,.ref 2 1 0 0),(7,vi bits),(8,vi (0:Nat))],objsK y n (accG n bits 0) []⟩ (WkE.kq) ⟨0,by omega,by omega,rfl⟩ ?_ ?_
  rotate_left
  ·rintro z rfl
   simp only [go_sem,↓reduceIte]
   exact ⟨_,.refl _ _,rfl⟩
  rintro m z ⟨i,rfl,hi,rfl⟩
  by_cases hlt:i<n
  rotate_left
  ·obtain rfl:i=n:=by omega
   simp only [go_sem,↓reduceIte,reduceCtorEq,reduceLT,reduceEqDiff,Int.lt_irrefl]
   exact ⟨_,WkE.kq,rfl⟩
  have g1:(i:Int)<(n:Int):=by omega
  have g0:(0:Int)<=(i:Int):=by omega
  have gn:¬ (i:Int)<0:=by omega
  have wi:=wrap_s i (by omega)
  have wu:IntKind.u64.wrap (i:Int)=(i:Int):=wrap_u (by omega) (by omega)
  have hget:∃ u,(accG n bits i)[i]? = some (vb u):=⟨_,rg_get hlt _⟩
  obtain ⟨u,hget⟩:=hget
  have hset:(accG n bits i).set i (vb (decide ((bits.fdiv (2 ^ min i 64)).tmod 2=1)))=accG n bits (i+1):=by
   rw [accG,accG,rg_set]
   refine rg_congr fun q _=>?_
   by_cases hq:q=i
   ·subst hq
    rw [if_pos rfl,if_pos (by omega)];rfl
   ·rw [if_neg hq]
    by_cases h3:q<i
    ·rw [if_pos h3,if_pos (by omega)]
    ·rw [if_neg h3,if_neg (by omega)]
  rw [objsK_eq y n (accG n bits i) []]
  simp only [go_sem,↓reduceIte,reduceCtorEq,reduceLT,reduceEqDiff,Int.reduceEq,g1,g0,gn,wi,wu,hget,hset,Int.toNat_natCast]
  exact ⟨n-(i+1),⟨[(0,vints l),(1,vi y),(4,.ref 0 1 0 0),(5,vi n),(6,.ref 2 1 0 0),(7,vi bits),(8,vi (i+1:Nat))],objsK y n (accG n bits (i+1)) []⟩,by omega,WkE.kq,i+1,rfl,by omega,rfl⟩
 rintro _ rfl
 have hA:accG n bits n=((List.range n).map (bitM bits)).map vb:=by
  rw [accG,rg,List.map_map]
  refine List.map_congr_left fun q hq=>?_
  rw [if_pos (List.mem_range.1 hq)];rfl
 have hAl:(accG n bits n).length=n:=rg_len _ _
 obtain ⟨A,hAe⟩:∃ A,accG n bits n=A:=⟨_,rfl⟩
 rw [hAe] at hA hAl ⊢
 refine CwpE.step (fun z=>z=⟨[(4,.ref 0 1 0 0),(6,.ref 2 1 0 0)],objsK y n A (madeEs l n y (madeK l))⟩) ?_ ?_
 rotate_left
 ·rintro _ rfl
  refine CwpE.vc ?_
  rw [objsK_eq]
  simp only [go_sem,↓reduceIte,reduceLT,reduceEqDiff,reduceAdd]
  refine .agg _ _ rfl fun i h1 h2=>?_
  match i,h1,h2 with
  | 0,_,_=>exact .tree _ rfl
  | 1,_,_ =>
   refine .own 1 n 0 n 1 4 _ _ rfl (by omega) (by simp) fun q hq=>?_
   simp only [Nat.zero_add,hA]
   exact .tree _ (List.all_eq_true.1 (isT_map (fun _=>rfl) _) _ (List.getElem_mem _))
  | 2,_,_ =>
   refine .own 3 _ 0 _ 3 71 _ _ rfl (by simp) (by simp) fun q hq=>?_
   simp only [Nat.zero_add]
   exact .tree _ (List.all_eq_true.1 (isT_map (fun _=>rfl) _) _ (List.getElem_mem _))
 simp only [go_sem,↓reduceIte,reduceLT]
 refine loopX 2 (fun m z=>∃ j:Nat,m=18-j/\j<=madeK l/\z=⟨[(0,vints l),(1,vi y),(4,.ref 0 1 0 0),(5,vi n),(6,.ref 2 1 0 0),(9,vi (j+2:Nat))],objsK y n A (madeEs l n y j)⟩)
  (fun z=>z=⟨[(4,.ref 0 1 0 0),(6,.ref 2 1 0 0)],objsK y n A (madeEs l n y (madeK l))⟩) 18
  ⟨[(0,vints l),(1,vi y),(4,.ref 0 1 0 0),(5,vi n),(6,.ref 2 1 0 0),(9,vi (0+2:Nat))],objsK y n A (madeEs l n y 0)⟩ (WkE.kq) ⟨0,by omega,by omega,rfl⟩ ?_ ?_
 rotate_left
 ·rintro z rfl
  simp only [go_sem,↓reduceIte]
  exact ⟨_,.refl _ _,rfl⟩
 rintro m z ⟨j,rfl,hj,rfl⟩
 have hkd:madeK l=min l.length 20-2:=rfl
 by_cases hlt:j+2<l.length
 rotate_left
 ·have gk:¬ ((j+2:Nat):Int)<(l.length:Int):=by omega
  have:j=madeK l:=by omega
  subst this
  simp only [go_sem,↓reduceIte,reduceCtorEq,reduceLT,reduceEqDiff,gk,List.length_map]
  exact ⟨_,WkE.kq,rfl⟩
 have gk:((j+2:Nat):Int)<(l.length:Int):=by omega
 by_cases h20:j+2<20
 rotate_left
 ·have g20:¬ ((j+2:Nat):Int)<20:=by omega
  have:j=madeK l:=by omega
  subst this
  simp only [go_sem,↓reduceIte,reduceCtorEq,reduceLT,reduceEqDiff,gk,g20,List.length_map]
  exact ⟨_,WkE.kq,rfl⟩
 have g20:((j+2:Nat):Int)<20:=by omega
 have hak:=At_s l ((j+2:Nat):Int) 1048576 hl ⟨by omega,by omega⟩
 have hkb:=atL_bd l ((j+2:Nat):Int) 1048576 (by omega)
 have hsucc:madeEs l n y (j+1)=madeEs l n y j++[madeE n y (atL l ((j+2:Nat):Int) 1048576)]:=by
  rw [madeEs,madeEs,List.range_succ,List.map_append];rfl
 have hEl:(madeEs l n y j).length=j:=by simp [madeEs]
 generalize atL l ((j+2:Nat):Int) 1048576=k at hak hkb hsucc
 obtain ⟨hk0,hk1⟩:=hkb
 obtain ⟨E0,hE0⟩:∃ E0,madeEs l n y j=E0:=⟨_,rfl⟩
 obtain ⟨E1,hE1⟩:∃ E1,madeEs l n y (j+1)=E1:=⟨_,rfl⟩
 rw [hE0] at hEl hsucc
 rw [hE1] at hsucc
 have hE1l:E1.length=E0.length+1:=by rw [hsucc];simp
 have qe:(E0.length+1)*24<=140737488355328:=by omega
 have b36:0<=k.tdiv 36/\k.tdiv 36<=1048576:=by rw [Int.tdiv_eq_ediv_of_nonneg hk0];omega
 have b6:0<=k.tdiv 6/\k.tdiv 6<=1048576:=by rw [Int.tdiv_eq_ediv_of_nonneg hk0];omega
 have c36:IntKind.i64.wrap (k.tdiv 36)=k.tdiv 36:=wrap_id (by omega) (by omega)
 have c6:IntKind.i64.wrap (k.tdiv 6)=k.tdiv 6:=wrap_id (by omega) (by omega)
 have c4:IntKind.i64.wrap (4*(y:Int))=4*(y:Int):=wrap_id (by omega) (by omega)
 have c5:IntKind.i64.wrap (4*(y:Int)+1)=4*(y:Int)+1:=wrap_id (by omega) (by omega)
 have d5:¬ (4*(y:Int)+1=0):=by omega
 have dn:¬ ((n:Int)=0):=by omega
 have m3:0<=(k.tdiv 36).tmod (4*(y:Int)+1):=Int.tmod_nonneg _ b36.1
 have m4:(k.tdiv 36).tmod (4*(y:Int)+1)<4*(y:Int)+1:=Int.tmod_lt_of_pos _ (by omega)
 have hmade:madeE n y k=((k.tmod 6).tmod n,inM y k,((k.tdiv 6).tmod 6).tmod n):=rfl
 rw [inM] at hmade
 obtain ⟨r,hr⟩:∃ r,(k.tdiv 36).tmod (4*(y:Int)+1)=r:=⟨_,rfl⟩
 rw [hr] at m3 m4 hmade
 have br:0<=r.tdiv 4/\r.tdiv 4<=64:=by rw [Int.tdiv_eq_ediv_of_nonneg m3];omega
 have wy:IntKind.i64.wrap (y:Int)=(y:Int):=wrap_id (by omega) (by omega)
 have cr:IntKind.i64.wrap (r.tdiv 4)=r.tdiv 4:=wrap_id (by omega) (by omega)
 have wj:IntKind.i64.wrap (((j+2:Nat):Int)+1)=((j+1+2:Nat):Int):=by rw [wrap_id (by omega) (by omega)];omega
 have fin:∀ st,WkE 76 st ⟨[(0,vints l),(1,vi y),(4,.ref 0 1 0 0),(5,vi n),(6,.ref 2 1 0 0),(9,vi (j+1+2:Nat))],objsK y n A E1⟩->∃ m s',m<18-j/\WkE 76 st s'/\∃ j,m=18-j/\j<=madeK l/\s'=⟨[(0,vints l),(1,vi y),(4,.ref 0 1 0 0),(5,vi n),(6,.ref 2 1 0 0),(9,vi (j+2:Nat))],objsK y n A (madeEs l n y j)⟩ :=
  fun st hst=>⟨18-(j+1),_,by omega,hst,j+1,rfl,by omega,by rw [hE1]⟩
 rw [hE0,objsK_eq y n A E0]
 by_cases hq:r.tdiv 4=(y:Int)
 ·rw [if_pos hq] at hmade
  have hEm:E0.map vedge++[.agg [vi ((k.tmod 6).tmod n),vi (-1),vi (((k.tdiv 6).tmod 6).tmod n)]]=E1.map vedge:=by rw [hsucc,hmade,List.map_append];rfl
  simp only [go_sem,↓reduceIte,reduceCtorEq,reduceLT,reduceEqDiff,Int.reduceNeg,gk,g20,List.length_map]
  refine callT hak rfl ?_
  simp only [go_sem,Nat.reducePow,Nat.reduceLeDiff,↓reduceIte,reduceCtorEq,reduceLT,reduceEqDiff,reduceAdd,Nat.reduceMul,Int.reduceEq,Int.reduceNeg,c36,c4,c5,d5,dn,c6,hr,hq,wy,eq_self,decide_true,qe,hEm,wj,List.length_map]
  refine fin _ ?_
  rw [objsK_eq,hE1l]
  exact WkE.kq
 ·rw [if_neg hq] at hmade
  have hEm:E0.map vedge++[.agg [vi ((k.tmod 6).tmod n),vi (r.tdiv 4),vi (((k.tdiv 6).tmod 6).tmod n)]]=E1.map vedge:=by rw [hsucc,hmade,List.map_append];rfl
  simp only [go_sem,↓reduceIte,reduceCtorEq,reduceLT,reduceEqDiff,Int.reduceNeg,gk,g20,List.length_map]
  refine callT hak rfl ?_
  simp only [go_sem,Nat.reducePow,Nat.reduceLeDiff,↓reduceIte,reduceCtorEq,reduceLT,reduceEqDiff,reduceAdd,Nat.reduceMul,Int.reduceEq,Int.reduceNeg,c36,c4,c5,d5,dn,c6,hr,cr,hq,qe,hEm,wj,List.length_map]
  refine fin _ ?_
  rw [objsK_eq,hE1l]
  exact WkE.kq
end Go.Proofs.Ytjilachpkjlhdaa
namespace P5
def lvA:Au:=⟨2,[false,false,true],[(0,0,0),(0,1,0),(0,1,1),(1,0,2),(1,1,2)]⟩
def lvB:Au:=⟨2,[false,false,true,true],[(0,0,0),(0,1,1),(1,0,2),(1,1,3),(2,0,0),(2,1,1),(3,0,2),(3,1,3)]⟩
deriving instance DecidableEq for Au
theorem lv_fixed:fixedM lvA=(lvB,0):=by decide +kernel
theorem lv_short:shortestM lvA=some [1,0]:=by decide +kernel
theorem lv_turn:(turnM lvA).2=0:=by decide +kernel
theorem lv_differ:differM lvA (turnM lvA).1=(some [0,1],0):=by decide +kernel
theorem lv_not:(notM lvA).2=0/\(notM lvA).1.acc=[true,true,false,false]:=by decide +kernel
theorem lv_acc:acceptsM lvA [0,1,0]=true/\acceptsM lvA [1,0,0]=false:=by decide +kernel
end P5
namespace Go.Proofs.Ytjilachpkjlhdaa
open Go.RowKit Dak P5
open Nat (reduceEqDiff reduceLT reduceAdd)
set_option maxHeartbeats 4000000 in
theorem lives_s:Ctr Try.prog 21 [] (vb true):=by
 have hz:SzA lvA:=⟨by decide,by decide⟩
 have hzB:SzA lvB:=⟨by decide,by decide⟩
 have hF:=Fixed_s lvA hz
 rw [lv_fixed] at hF
 have hT:=Turn_s lvA hz
 obtain ⟨tA,hTe⟩:∃ tA,turnM lvA=(tA,0):=⟨(turnM lvA).1,Prod.ext rfl lv_turn⟩
 obtain ⟨_,g,hTn,hTg,_⟩:=turn_norm (a:=lvA) lv_turn
 have hzT:SzA tA:=by
  have e:tA=auOf g:=(Prod.mk.inj (hTe.symm.trans hTn)).1
  rw [e];exact szA_va hTg.va
 have hD:=Differ_s lvA tA hz hzT
 have hde:=lv_differ
 rw [hTe] at hde hT
 simp only at hde
 rw [hde] at hD
 replace hD:Ctr Try.prog 26 [vau lvA,vau tA] (.tup [vints [0,1],vb true,vi 0]):=hD
 have hS:=Shortest_s lvA hz
 rw [lv_short] at hS
 replace hS:Ctr Try.prog 18 [vau lvA] (.tup [vints [1,0],vb true]):=hS
 have hN:=Not_s lvA hz
 obtain ⟨nA,hNe⟩:∃ nA,P5.notM lvA=(nA,0):=⟨(P5.notM lvA).1,Prod.ext rfl lv_not.1⟩
 have hNa:nA.acc=[true,true,false,false]:=by have:=lv_not.2;rw [hNe] at this;exact this
 rw [hNe] at hN
 have hA1:=Accepts_s lvA hz [0,1,0] (by simp)
 have hA2:=Accepts_s lvA hz [1,0,0] (by simp)
 rw [lv_acc.1] at hA1
 rw [lv_acc.2] at hA2
 have hSm:=same_s lvB lvB hzB hzB
 rw [decide_eq_true rfl] at hSm
 have hI1:=SameInts_s [0,1] [0,1] (by simp)
 have hI2:=SameInts_s [1,0] [1,0] (by simp)
 rw [decide_eq_true rfl] at hI1 hI2
 obtain ⟨na,nb,nc⟩:=nA
 simp only at hNa
 subst hNa
 refine specC f21 (by simp) fun F0 w0=>?_
 unfold c21
 refine CwpE.cut (st:=⟨[],[]⟩) ?_ ?_
 ·simp only [go_sem,↓reduceIte]
  exact ⟨_,WkE.keep (by simp only [go_sem];try rfl),rfl⟩
 refine CwpE.cut (st:=⟨[(1,.ref 0 1 0 0)],[oX lvA]⟩) ?_ ?_
 ·simp only [go_sem,Nat.reducePow,Nat.reduceLeDiff,↓reduceIte,reduceCtorEq,reduceLT,reduceEqDiff,reduceAdd,Nat.reduceMul]
  exact ⟨_,WkE.kp,rfl⟩
 refine CwpE.cut (st:=⟨[(1,.ref 0 1 0 0),(2,.ref 1 1 0 0),(3,vi 0)],[oX lvA,oX lvB]⟩) ?_ ?_
 ·generalize lvA=A at *
  generalize lvB=B at *
  simp only [go_sem,↓reduceIte,reduceLT,reduceAdd]
  refine callT hF rfl ?_
  simp only [go_sem,↓reduceIte,reduceLT,reduceEqDiff,reduceAdd]
  exact ⟨_,WkE.kp,rfl⟩
 refine CwpE.cut (st:=⟨[(1,.ref 0 1 0 0),(2,.ref 1 1 0 0),(3,vi 0),(4,.ref 2 1 0 0),(5,vi 0)],[oX lvA,oX lvB,oX tA]⟩) ?_ ?_
 ·generalize lvA=A at *
  generalize lvB=B at *
  simp only [go_sem,↓reduceIte,reduceLT,reduceAdd]
  refine callT hT rfl ?_
  simp only [go_sem,↓reduceIte,reduceLT,reduceEqDiff,reduceAdd]
  exact ⟨_,WkE.kp,rfl⟩
 refine CwpE.cut (st:=⟨[(1,.ref 0 1 0 0),(2,.ref 1 1 0 0),(3,vi 0),(5,vi 0),(6,vints [0,1]),(7,vb true),(8,vi 0)],[oX lvA,oX lvB,oX tA]⟩) ?_ ?_
 ·generalize lvA=A at *
  generalize lvB=B at *
  simp only [go_sem,↓reduceIte,reduceLT,reduceEqDiff,reduceAdd]
  refine callT hD rfl ?_
  simp only [go_sem,↓reduceIte,reduceLT,reduceEqDiff]
  exact ⟨_,WkE.kp,rfl⟩
 refine CwpE.cut (st:=⟨[(1,.ref 0 1 0 0),(2,.ref 1 1 0 0),(3,vi 0),(5,vi 0),(6,vints [0,1]),(7,vb true),(8,vi 0),(9,vints [1,0]),(10,vb true)],[oX lvA,oX lvB,oX tA]⟩) ?_ ?_
 ·generalize lvA=A at *
  generalize lvB=B at *
  simp only [go_sem,↓reduceIte,reduceLT,reduceAdd]
  refine callT hS rfl ?_
  simp only [go_sem,↓reduceIte,reduceLT,reduceEqDiff]
  exact ⟨_,WkE.kp,rfl⟩
 refine CwpE.cut (st:=⟨[(1,.ref 0 1 0 0),(2,.ref 1 1 0 0),(3,vi 0),(5,vi 0),(6,vints [0,1]),(7,vb true),(8,vi 0),(9,vints [1,0]),(10,vb true),(11,.ref 3 1 0 0)],[oX lvA,oX lvB,oX tA,oB lvB]⟩) ?_ ?_
 ·simp only [go_sem,Nat.reducePow,Nat.reduceLeDiff,↓reduceIte,reduceCtorEq,reduceLT,reduceEqDiff,reduceAdd,Nat.reduceMul]
  exact ⟨_,WkE.kp,rfl⟩
 refine CwpE.cut (st:=⟨[(1,.ref 0 1 0 0),(2,.ref 1 1 0 0),(3,vi 0),(5,vi 0),(6,vints [0,1]),(7,vb true),(8,vi 0),(9,vints [1,0]),(10,vb true),(11,.ref 3 1 0 0),(12,.ref 4 1 0 0),(13,vi 0)],[oX lvA,oX lvB,oX tA,oB lvB,oX ⟨na,[true,true,false,false],nc⟩]⟩) ?_ ?_
 ·generalize lvA=A at *
  generalize lvB=B at *
  simp only [go_sem,↓reduceIte,reduceLT,reduceAdd]
  refine callT hN rfl ?_
  simp only [go_sem,↓reduceIte,reduceLT,reduceEqDiff,reduceAdd]
  exact ⟨_,WkE.kp,rfl⟩
 generalize lvA=A at *
 generalize lvB=B at *
 have k4:((4:Nat):Int)=4:=rfl
 refine CwpE.cut (st:=⟨[(1,.ref 0 1 0 0),(2,.ref 1 1 0 0),(6,vints [0,1]),(9,vints [1,0]),(11,.ref 3 1 0 0),(12,.ref 4 1 0 0)],[oX A,oX B,oX tA,oB B,oX ⟨na,[true,true,false,false],nc⟩]⟩) ?_ ?_
 ·simp only [go_sem,↓reduceIte,reduceLT,reduceEqDiff,reduceAdd,k4,List.length_cons,List.length_nil]
  exact ⟨_,WkE.kp,rfl⟩
 refine CwpE.cut (st:=⟨[(1,.ref 0 1 0 0),(2,.ref 1 1 0 0),(11,.ref 3 1 0 0),(12,.ref 4 1 0 0),(14,vb true)],[oX A,oX B,oX tA,oB B,oX ⟨na,[true,true,false,false],nc⟩]⟩) ?_ ?_
 ·simp only [go_sem,Nat.reducePow,Nat.reduceLeDiff,↓reduceIte,reduceCtorEq,reduceLT,reduceEqDiff,reduceAdd,Nat.reduceMul]
  refine callT hI1 rfl ?_
  simp only [go_sem,Nat.reducePow,Nat.reduceLeDiff,↓reduceIte,reduceCtorEq,reduceLT,reduceEqDiff,reduceAdd,Nat.reduceMul]
  refine callT hI2 rfl ?_
  simp only [go_sem,↓reduceIte,reduceLT,reduceEqDiff]
  exact ⟨_,WkE.kp,rfl⟩
 refine CwpE.vc ?_
 simp only [go_sem,↓reduceIte,reduceLT,reduceEqDiff,reduceAdd]
 refine callT hSm rfl ?_
 simp only [go_sem,Nat.reducePow,Nat.reduceLeDiff,↓reduceIte,reduceCtorEq,reduceLT,reduceEqDiff,reduceAdd,Nat.reduceMul,Int.reduceToNat,Int.reduceLE,Int.reduceToNat,Int.le_refl,List.map_cons,List.map_nil,List.length_cons,List.length_nil]
 refine callT hA1 rfl ?_
 simp only [go_sem,Nat.reducePow,Nat.reduceLeDiff,↓reduceIte,reduceCtorEq,reduceLT,reduceEqDiff,reduceAdd,Nat.reduceMul]
 refine callT hA2 rfl ?_
 simp only [go_sem,↓reduceIte,reduceEqDiff]
 exact .tree _ rfl
def symN (s:Int):Nat:=(1+aroundL s 3).toNat
theorem symN_bd (s:Int):1<=symN s/\symN s<=3/\1+aroundL s 3=(symN s:Int):=by
 have:=aroundL_bd s 3 (by omega)
 unfold symN;omega
theorem pair2_s (l m:List Int) (s:Int) (hl:∀ x ∈ l,I64 x) (hm:∀ x ∈ m,I64 x) (hs:I64 s):Ctr Try.prog 10 [vints l,vints m,vi s] (.tup [vau (madeM l (symN s)),vau (madeM m (symN s))]):=by
 refine specC f10 (by simp) fun F0 w0=>?_
 obtain ⟨s1,s2,s3⟩:=symN_bd s
 have ha:=Around_s s 3 hs ⟨by omega,by omega⟩
 generalize symN s=y at s1 s2 s3 ⊢
 generalize aroundL s 3=r at ha s3
 have hw:IntKind.i64.wrap (1+r)=(y:Int):=by rw [wrap_id (by omega) (by omega),s3]
 have h1:=Made_s l hl y s1 (by omega)
 have h2:=Made_s m hm y s1 (by omega)
 generalize madeM l y=A at h1 ⊢
 generalize madeM m y=B at h2 ⊢
 unfold c10
 refine CwpE.cut (st:=⟨[(0,vints l),(1,vints m),(2,vi s),(6,.ref 0 1 0 0),(7,.ref 1 1 0 0)],[.arr 1 3 26 [nil3],.arr 1 3 26 [nil3]]⟩) ?_ ?_
 ·simp only [go_sem,↓reduceIte,reduceLT,reduceAdd]
  exact ⟨_,WkE.kq,rfl⟩
 refine CwpE.cut (st:=⟨[(0,vints l),(1,vints m),(6,.ref 0 1 0 0),(7,.ref 1 1 0 0),(8,vi y)],[.arr 1 3 26 [nil3],.arr 1 3 26 [nil3]]⟩) ?_ ?_
 ·simp only [go_sem,↓reduceIte,reduceCtorEq,reduceLT,reduceEqDiff]
  refine callT ha rfl ?_
  simp only [go_sem,↓reduceIte,reduceLT,hw]
  exact ⟨_,WkE.kq,rfl⟩
 refine CwpE.vc ?_
 simp only [go_sem,↓reduceIte,reduceCtorEq,reduceLT,reduceEqDiff]
 refine callT h1 rfl ?_
 simp only [go_sem,↓reduceIte,reduceCtorEq,reduceEqDiff]
 refine callT h2 rfl ?_
 simp only [go_sem,↓reduceIte,reduceCtorEq,reduceLT,reduceEqDiff,reduceAdd]
 exact snap_tup2 (.tree _ rfl) (.tree _ rfl)
end Go.Proofs.Ytjilachpkjlhdaa
namespace Go.Proofs.Ytjilachpkjlhdaa
open Go.RowKit Dak P5
open Nat (reduceEqDiff reduceLT reduceAdd)
theorem made_sz (l:List Int) (y:Nat):(madeM l y).acc.length<=6/\(madeM l y).ed.length<=18:=by
 obtain ⟨n1,n2,_⟩:=madeN_bd l
 simp only [madeM,madeEs,List.length_map,List.length_range]
 unfold madeK
 omega
end Go.Proofs.Ytjilachpkjlhdaa
namespace Dak
open Go Go.RowKit
variable [Globs]
theorem tr_ofRow {k:IntKind} {w:World} {a:Option Addr} {len cap:Nat} {zs:List Int} (h:(a=none/\len=0/\cap=0/\zs=[]) \/
 ∃ x,a=some x/\len<=cap/\cap<=maxLen/\zs.length=cap/\(∀ i,i<zs.length->w.cell? (x.add i)=some (.int k (zs.getD i 0)))/\∀ n ∈ zs,(Lit.int k n).wf=true) :
 TR w (fun _=>True) (.list 1 ((zs.take len).map fun n=>.val (.int k n))) (.slice a len cap):=by
 rcases h with ⟨rfl,rfl,rfl,rfl⟩ | ⟨⟨b,o,sp⟩,rfl,hl,hm,hz,hc,_⟩
 ·exact .nolist _ _ _ (Nat.zero_le _)
 ·by_cases h0:len=0
  ·subst h0;exact .nolist _ _ _ hm
  ·have hsp:sp=none:=World.cell?_spot (hc 0 (by omega))
   subst hsp
   have hlen:((zs.take len).map fun n=>AV.val (.int k n)).length=len:=by simp;omega
   have:=TR.list (w:=w) (F:=fun _=>True) 1 ((zs.take len).map fun n=>AV.val (.int k n)) b o cap (fun i _=>.int k (zs.getD i 0)) trivial (isC.of_cell (hc 0 (by omega))) (by omega) hm
    (fun i hi=>by simp [AV.cells]) (fun i j hi hj=>by
     have:j=0:=by omega
     subst this
     have:=hc i (by omega)
     rw [Nat.mul_one,Nat.add_zero]
     by_cases hi0:i=0
     ·subst hi0;simpa [Addr.add] using this
     ·simpa [Addr.add,hi0] using this) (fun i j hi hj=>rfl) (fun i hi j hj=>by
     simp only [List.getElem_map,AV.cells,List.length_singleton] at hj ⊢
     have:j=0:=by omega
     subst this
     have h1:i<zs.length:=by omega
     simp only [List.getElem_cons_zero,List.getElem_take,List.getD_eq_getElem?_getD,List.getElem?_eq_getElem h1,Option.getD_some]
     exact .val _)
   rw [hlen] at this
   exact this
theorem wf_i64 {n:Int} (h:(Lit.int .i64 n).wf=true) : -9223372036854775808<=n/\n<=9223372036854775807:=by
 simp [Lit.wf] at h
 have:IntKind.i64.min = -9223372036854775808:=by decide
 omega
end Dak
