/- Lemmas used by Shortest, Words. -/
import Derived.Test.YtjilachpkjlhdaaKa
import Derived.Test.YtjilachpkjlhdaaKb
import Derived.Test.YtjilachpkjlhdaaKc
import Derived.Test.YtjilachpkjlhdaaKd
import Derived.Test.YtjilachpkjlhdaaKe
import Derived.Test.YtjilachpkjlhdaaKf
import Derived.Test.YtjilachpkjlhdaaKg
import Derived.Test.YtjilachpkjlhdaaKi
import Derived.Test.YtjilachpkjlhdaaProg
import Derived.WalkKit
import Derived.WalkSpells
import Derived.WalkLawsBesides
import Derived.Orders
import Derived.Laws.MakeOwn
import Derived.Deep.AppendSrc
import Derived.Lib.AppendZerosOnto
import Derived.Defers
import Derived.Laws.BytesString
import Derived.Laws.StructEq
import Derived.Scope
import Derived.Deep.LoopGhost
import Derived.OrdersIn
import Derived.ControlIn
import Derived.Sort.LoopGhostIn
import Derived.RangeFuncLeaves
import Derived.RangeFuncRecord
import Derived.RangeFuncFrom
import Derived.RangeFuncNested
set_option linter.unusedSimpArgs false
set_option linter.unusedVariables false
set_option linter.unusedSectionVars false
set_option maxRecDepth 100000
namespace Go.Proofs.Ytjilachpkjlhdaa
open Dak
def c32:CCode :=
 (.seq (.region [oo 4 (.mov (.const (.slice none 0 0)))])
 (.seq (.region [oo 12 (.bslice 22 1 [(.const (.slice none 0 0))]),vv 5 12])
 (.seq (.region [oo 6 (.mov (kk 0))])
 (.seq (.seq (.region [oo 7 (.mov (kk 0))])
 (.block 0 (.loop
 (.seq (.seq (.region [vv 13 7,vv 14 1,oo 15 (.ibin .lss (T 13) (T 14))])
 (.cond (T 15)
 .skip
 (.exit 0)))
 (.seq (.block 1 (.seq (.region [vv 18 5,oo 19 (.len (T 18)),vv 8 19])
 (.seq (.seq (.region [vv 20 6,vv 9 20])
 (.block 2 (.loop
 (.seq (.seq (.region [vv 21 9,vv 22 8,oo 23 (.ibin .lss (T 21) (T 22))])
 (.cond (T 23)
 .skip
 (.exit 2)))
 (.seq (.block 3 (.seq (.region [oo 10 (.mov (kk 0))])
 (.block 4 (.loop
 (.seq (.seq (.region [vv 26 10,vv 27 0,oo 28 (.ibin .lss (T 26) (T 27))])
 (.cond (T 28)
 .skip
 (.exit 4)))
 (.seq (.block 5 (.seq (.region [oo 11 (.mov (.const (.slice none 0 0)))])
 (.region [vv 31 5,vv 32 11,vv 33 5,vv 34 9,oo 35 (.idxS 1 (T 33) (T 34)),oo 36 (.load false 1 (T 35)),oo 37 (.append 3 1 8 (T 32) (T 36)),vv 38 10,oo 39 (.bslice 3 1 [(T 38)]),oo 40 (.append 3 1 8 (T 37) (T 39)),oo 41 (.bslice 22 1 [(T 40)]),oo 42 (.append 22 1 24 (T 31) (T 41)),vv 5 42])))
 (.region [vv 29 10,oo 30 (.ibin .add (T 29) (kk 1)),vv 10 30])))))))
 (.region [vv 24 9,oo 25 (.ibin .add (T 24) (kk 1)),vv 9 25]))))))
 (.region [vv 43 8,vv 6 43]))))
 (.region [vv 16 7,oo 17 (.ibin .add (T 16) (kk 1)),vv 7 17]))))))
 (.seq (.region [vv 44 5,vv 4 44])
 .ret)))))
theorem f32:fnC Try.prog 32=some (c32,45,[(.tmp 4)]):=by kernel_rfl
end Go.Proofs.Ytjilachpkjlhdaa
namespace P5
def llt:List Nat->List Nat->Prop
 | x::u,y::v=>x<y \/ x=y/\llt u v
 | _,_=>False
def wlt (u v:List Nat):Prop:=u.length<v.length \/ u.length=v.length/\llt u v
theorem llt_app:∀ {u v a b:List Nat},llt u v->llt (u++a) (v++b)
 | [],_,_,_,h=>h.elim
 | _::_,[],_,_,h=>h.elim
 | x::u,y::v,a,b,h=>by
  rcases h with h | ⟨rfl,h⟩
  ·exact .inl h
  ·exact .inr ⟨rfl,llt_app h⟩
theorem llt_pre:∀ (u:List Nat) {a b:List Nat},llt a b->llt (u++a) (u++b)
 | [],_,_,h=>h
 | _::u,_,_,h=>.inr ⟨rfl,llt_pre u h⟩
theorem wlt_snoc2 {u v:List Nat} (x y:Nat) (h:wlt u v):wlt (u++[x]) (v++[y]):=by
 rcases h with h | ⟨h,h'⟩
 ·exact .inl (by simp;exact h)
 ·exact .inr ⟨by simp [h],llt_app h'⟩
theorem wlt_last (u:List Nat) {x y:Nat} (h:x<y):wlt (u++[x]) (u++[y]):=.inr ⟨by simp,llt_pre u (.inl h)⟩
section
variable {K S : Type}
variable {Q : Type} {nx : K -> Nat -> K} {fr : K -> S -> Bool} {ad : S -> K -> S} {goal : K -> Bool} {sy : Nat} {k0 : K} {pt : K -> Q -> Prop} {lq : List Nat -> Q -> Prop} {G : K -> Prop} {Z : S -> Prop} {sn : S -> Q -> Prop} {m : S -> Nat}
theorem wI_snoc (w:List Nat) (x:Nat):wI (w++[x])=wI w++[(x:Int)]:=by simp [wI]
theorem range_lt (n:Nat):(List.range n).Pairwise (· < ·):=List.pairwise_lt_range
end
end P5
namespace Go.Proofs.Ytjilachpkjlhdaa
open Go.RowKit Dak P5
open Nat (reduceEqDiff reduceLT reduceAdd)
theorem madeE_ok {n y:Nat} (hn:1<=n) {k:Int} (hk:0<=k):(0<=(madeE n y k).1/\(madeE n y k).1<n)/\(0<=(madeE n y k).2.2/\(madeE n y k).2.2<n)/\-1<=(madeE n y k).2.1/\(1<=y->(madeE n y k).2.1<y):=by
 unfold madeE inM
 simp only
 have h36:0<=k.tdiv 36:=Int.tdiv_nonneg hk (by omega)
 have h6:0<=k.tdiv 6:=Int.tdiv_nonneg hk (by omega)
 have m1:0<=k.tmod 6:=Int.tmod_nonneg _ hk
 have m2:0<=(k.tdiv 6).tmod 6:=Int.tmod_nonneg _ h6
 have m3:0<=(k.tdiv 36).tmod (4*(y:Int)+1):=Int.tmod_nonneg _ h36
 have m4:(k.tdiv 36).tmod (4*(y:Int)+1)<4*(y:Int)+1:=Int.tmod_lt_of_pos _ (by omega)
 refine ⟨⟨Int.tmod_nonneg _ m1,Int.tmod_lt_of_pos _ (by omega)⟩,⟨Int.tmod_nonneg _ m2,Int.tmod_lt_of_pos _ (by omega)⟩,?_,fun hy=>?_⟩
 ·split
  ·omega
  ·have:=Int.tdiv_nonneg m3 (show (0:Int)<=4 by omega)
   omega
 ·generalize (k.tdiv 36).tmod (4*(y:Int)+1)=r at m3 m4
  rw [Int.tdiv_eq_ediv_of_nonneg m3]
  split <;> omega
theorem made_VA (l:List Int) {y:Nat} (h1:1<=y) (h2:y<=64):VA (madeM l y):=by
 obtain ⟨n1,n2,_⟩:=madeN_bd l
 have hk:madeK l<=18:=by unfold madeK;omega
 refine ⟨⟨by show (1:Int)<=(y:Int);omega,by show (y:Int)<=64;omega⟩,?_,?_,fun e he=>?_⟩
 ·simp only [madeM,List.length_map,List.length_range];omega
 ·simp only [madeM,madeEs,List.length_map,List.length_range];omega
 ·obtain ⟨i,_,rfl⟩:=List.mem_map.1 he
  have hb:=atL_bd l ((i+2:Nat):Int) 1048576 (by omega)
  have:=madeE_ok (y:=y) n1 hb.1
  simp only [madeM,List.length_map,List.length_range]
  exact ⟨this.1,this.2.1,this.2.2.1,this.2.2.2 h1⟩
end Go.Proofs.Ytjilachpkjlhdaa
namespace P5
def lvN (y:Nat):Nat->List (List Nat)
 | 0=>[[]]
 | n+1=>(lvN y n).flatMap fun w=>(List.range y).map fun x=>w++[x]
def wordsN (y:Nat):Nat->List (List Nat)
 | 0=>[[]]
 | n+1=>wordsN y n++lvN y (n+1)
theorem lvN_mem {y:Nat}:∀ {n:Nat} {w:List Nat},w ∈ lvN y n ↔ w.length=n/\∀ x ∈ w,x<y
 | 0,w=>by
  rw [lvN,List.mem_singleton]
  constructor
  ·rintro rfl;simp
  ·intro h;exact List.eq_nil_of_length_eq_zero h.1
 | n+1,w=>by
  rw [lvN]
  simp only [List.mem_flatMap,List.mem_map,List.mem_range]
  constructor
  ·rintro ⟨v,hv,x,hx,rfl⟩
   obtain ⟨h1,h2⟩:=lvN_mem.1 hv
   refine ⟨by simp [h1],fun z hz=>?_⟩
   rcases List.mem_append.1 hz with h | h
   ·exact h2 z h
   ·rw [List.mem_singleton.1 h];exact hx
  ·rintro ⟨h1,h2⟩
   have hne:w ≠ []:=fun e=>by rw [e] at h1;simp at h1
   refine ⟨w.dropLast,lvN_mem.2 ⟨by rw [List.length_dropLast,h1];omega,fun x hx=>h2 x (List.dropLast_subset w hx)⟩,w.getLast hne,h2 _ (List.getLast_mem hne),List.dropLast_concat_getLast hne⟩
theorem wordsN_mem {y:Nat}:∀ {n:Nat} {w:List Nat},w ∈ wordsN y n ↔ w.length<=n/\∀ x ∈ w,x<y
 | 0,w=>by
  rw [wordsN,List.mem_singleton]
  constructor
  ·rintro rfl;simp
  ·intro h;exact List.eq_nil_of_length_eq_zero (by omega)
 | n+1,w=>by
  rw [wordsN,List.mem_append,wordsN_mem,lvN_mem]
  constructor
  ·rintro (⟨h1,h2⟩ | ⟨h1,h2⟩)
   ·exact ⟨by omega,h2⟩
   ·exact ⟨by omega,h2⟩
  ·rintro ⟨h1,h2⟩
   by_cases h:w.length=n+1
   ·exact .inr ⟨h,h2⟩
   ·exact .inl ⟨by omega,h2⟩
theorem lvN_sorted (y:Nat):∀ n,(lvN y n).Pairwise wlt
 | 0=>by simp [lvN]
 | n+1=>by
  rw [lvN,List.pairwise_flatMap]
  refine ⟨fun w _=>?_,(lvN_sorted y n).imp fun {a b} h u hu v hv=>?_⟩
  ·rw [List.pairwise_map]
   exact (range_lt y).imp fun h=>wlt_last w h
  ·obtain ⟨x,_,rfl⟩:=List.mem_map.1 hu
   obtain ⟨z,_,rfl⟩:=List.mem_map.1 hv
   exact wlt_snoc2 x z h
theorem lvN_len (y:Nat):∀ n,(lvN y n).length=y ^ n
 | 0=>rfl
 | n+1=>by
  rw [lvN,List.length_flatMap]
  have:(List.map (fun a:List Nat=>(List.map (fun x=>a++[x]) (List.range y)).length) (lvN y n))=List.replicate (lvN y n).length y:=by
   apply List.ext_getElem <;> simp
  rw [this,List.sum_replicate_nat,lvN_len y n,Nat.pow_succ]
theorem lvN_le {y:Nat} (hy:y<=3) {n:Nat} (hn:n<=4):(lvN y n).length<=81:=by
 rw [lvN_len]
 exact Nat.le_trans (Nat.pow_le_pow_left hy n) (Nat.le_trans (Nat.pow_le_pow_right (n:=3) (by omega) hn) (by decide))
theorem wordsN_len3 {y:Nat} (hy:y<=3):∀ n,n<=4->(wordsN y n).length<=1+81*n
 | 0,_=>by simp [wordsN]
 | n+1,h=>by
  rw [wordsN,List.length_append]
  have:=wordsN_len3 hy n (by omega)
  have:=lvN_le hy (n:=n+1) h
  omega
end P5
namespace Go.Proofs.Ytjilachpkjlhdaa
open Go.RowKit Dak P5
open Nat (reduceEqDiff reduceLT reduceAdd)
abbrev vws (L:List (List Nat)):List AV:=L.map fun w=>vints (wI w)
theorem vws_get {L:List (List Nat)} {k:Nat} (h:k<L.length):(vws L)[k]? = some (vints (wI L[k])):=by rw [vws,List.getElem?_map,List.getElem?_eq_getElem h];rfl
def wordsJ (y n j:Nat):List (List Nat):=wordsN y n++((lvN y n).take j).flatMap fun w=>(List.range y).map fun x=>w++[x]
theorem wordsJ_zero (y n:Nat):wordsJ y n 0=wordsN y n:=by simp [wordsJ]
theorem wordsJ_all (y n:Nat):wordsJ y n (lvN y n).length=wordsN y (n+1):=by rw [wordsJ,List.take_length,wordsN,lvN]
theorem wordsJ_succ {y n j:Nat} (h:j<(lvN y n).length):wordsJ y n (j+1)=wordsJ y n j++(List.range y).map fun x=>(lvN y n)[j]++[x]:=by
 rw [wordsJ,wordsJ,List.take_succ_eq_append_getElem h,List.flatMap_append,List.append_assoc];simp
theorem wordsN_last (y:Nat):∀ n,∃ P,wordsN y n=P++lvN y n
 | 0=>⟨[],rfl⟩
 | n+1=>⟨wordsN y n,rfl⟩
theorem wordsJ_get {y n j i:Nat} (hi:i+(lvN y n).length=(wordsN y n).length) (hj:j<(lvN y n).length) (X:List (List Nat)):(wordsJ y n j++X)[i+j]? = some (lvN y n)[j]:=by
 obtain ⟨P,hP⟩:=wordsN_last y n
 have hl:P.length=i:=by
  have:=congrArg List.length hP
  rw [List.length_append] at this;omega
 rw [wordsJ,hP,List.append_assoc,List.append_assoc,List.getElem?_append_right (by omega),hl,Nat.add_sub_cancel_left,List.getElem?_append_left hj,List.getElem?_eq_getElem hj]
theorem wI_len (w:List Nat):(wI w).length=w.length:=by simp [wI]
set_option maxHeartbeats 4000000 in
theorem Words_s (y:Nat) (hy:y<=3):Ctr Try.prog 32 [vi y,vi 4] (.list 1 (vws (wordsN y 4))):=by
 refine specC f32 (by simp) fun F0 w0=>?_
 unfold c32
 refine CwpE.cut (st:=⟨[(0,vi y),(1,vi 4)],[]⟩) ?_ ?_
 ·simp only [go_sem,↓reduceIte,reduceLT]
  exact ⟨_,WkE.kq,rfl⟩
 refine CwpE.seqJ (fun st=>st=⟨[(0,vi y),(1,vi 4),(5,.own 0 1 0 1)],[.arr 1 1 22 (vws (wordsN y 0))]⟩) ?_ ?_
 ·refine CwpE.regionC (csa:=[]) (csb:=[⟨some 5,none,.mov (T 12)⟩]) (by omega) (by decide) ?_
  simp only [go_sem,↓reduceIte,reduceLT]
  refine ⟨_,WkE.keep (env':=[(0,vi y),(1,vi 4),(12,.own 0 1 0 1)]) (by simp only [go_sem,↓reduceIte,reduceCtorEq,reduceEqDiff];try rfl),?_⟩
  simp only [go_sem,↓reduceIte,reduceCtorEq,reduceEqDiff]
  refine ⟨_,(WkE.nilCell 0 1 1 0 0 1 3 22 [nilV] nilV rfl rfl rfl).trans ((WkE.freezeCell 0 1 1 0 0 1 0 0 0 1 22 3 [.own 1 0 0 0] [] (.own 1 0 0 0) rfl rfl rfl rfl (by omega) (by simp) rfl).trans (WkE.round (by simp only [go_sem,↓reduceIte,reduceCtorEq,reduceEqDiff];try rfl) rfl rfl rfl)),rfl⟩
 rintro _ rfl
 refine CwpE.cut (st:=⟨[(0,vi y),(1,vi 4),(5,.own 0 1 0 1),(6,vi (0:Nat))],[.arr 1 1 22 (vws (wordsN y 0))]⟩) ?_ ?_
 ·simp only [go_sem,↓reduceIte,reduceLT]
  exact ⟨_,WkE.kq,rfl⟩
 refine CwpE.step (fun z=>z=⟨[(5,.own 0 (wordsN y 4).length 0 (wordsN y 4).length)],[.arr (wordsN y 4).length 1 22 (vws (wordsN y 4))]⟩) ?_ ?_
 rotate_left
 ·rintro _ rfl
  refine CwpE.vc ?_
  simp only [go_sem,↓reduceIte,reduceLT]
  refine .own 0 _ 0 _ 1 22 _ _ rfl (by simp) (by simp) fun q hq=>?_
  simp only [Nat.zero_add]
  exact .tree _ (List.all_eq_true.1 (isT_map (f:=fun w=>vints (wI w)) (fun _=>rfl) _) _ (List.getElem_mem _))
 have inn:∀ (G:Nat) (L:List (List Nat)),([AObj.arr G 1 22 (vws L)].all fun o=>o.innO 1)=true:=fun G L=>Bool.and_eq_true_iff.2 ⟨inn_map (f:=fun w=>vints (wI w)) fun _=>rfl,rfl⟩
 simp only [go_sem,↓reduceIte,reduceLT]
 refine loopX 0 (fun m z=>∃ n f:Nat,m=4-n/\n<=4/\f+(lvN y n).length=(wordsN y n).length/\z=⟨[(0,vi y),(1,vi 4),(5,.own 0 (wordsN y n).length 0 (wordsN y n).length),(6,vi f),(7,vi n)],[.arr (wordsN y n).length 1 22 (vws (wordsN y n))]⟩)
  (fun z=>z=⟨[(5,.own 0 (wordsN y 4).length 0 (wordsN y 4).length)],[.arr (wordsN y 4).length 1 22 (vws (wordsN y 4))]⟩) 4
  ⟨[(0,vi y),(1,vi 4),(5,.own 0 1 0 1),(6,vi (0:Nat)),(7,vi (0:Nat))],[.arr 1 1 22 (vws (wordsN y 0))]⟩ (WkE.kq) ⟨0,0,by omega,by omega,rfl,rfl⟩ ?_ ?_
 rotate_left
 ·rintro z rfl
  simp only [go_sem,↓reduceIte]
  exact ⟨_,.refl _ _,rfl⟩
 rintro m z ⟨n,f,rfl,hn,hf,rfl⟩
 by_cases hlt:n<4
 rotate_left
 ·obtain rfl:n=4:=by omega
  have gk:¬ ((4:Nat):Int)<4:=by omega
  simp only [go_sem,↓reduceIte,reduceCtorEq,reduceLT,reduceEqDiff,Nat.reduceSub,gk]
  exact ⟨_,WkE.kq,rfl⟩
 have g1:(n:Int)<4:=by omega
 have wn:=wrap_s n (by omega)
 have hnext:=wordsJ_all y n
 have hb:=wordsN_len3 hy (n+1) (by omega)
 have hb0:=wordsN_len3 hy n (by omega)
 have hf2:(wordsN y n).length+(lvN y (n+1)).length=(wordsN y (n+1)).length:=by rw [wordsN,List.length_append]
 have hwl:∀ w ∈ lvN y n,w.length<=4:=fun w hw=>by have:=(lvN_mem.1 hw).1;omega
 obtain ⟨len,hlen⟩:∃ len,(lvN y n).length=len:=⟨_,rfl⟩
 have hJ0:=wordsJ_zero y n
 simp only [go_sem,↓reduceIte,reduceCtorEq,reduceLT,reduceEqDiff,g1]
 rw [<-hJ0]
 refine loopX 2 (fun m z=>∃ j:Nat,m=len-j/\j<=len/\z=⟨[(0,vi y),(1,vi 4),(5,.own 0 (wordsJ y n j).length 0 (wordsJ y n j).length),(7,vi n),(8,vi (wordsN y n).length),(9,vi (f+j:Nat))],[.arr (wordsJ y n j).length 1 22 (vws (wordsJ y n j))]⟩)
  (fun z=>z=⟨[(0,vi y),(1,vi 4),(5,.own 0 (wordsN y (n+1)).length 0 (wordsN y (n+1)).length),(7,vi n),(8,vi (wordsN y n).length)],[.arr (wordsN y (n+1)).length 1 22 (vws (wordsN y (n+1)))]⟩) len
  ⟨[(0,vi y),(1,vi 4),(5,.own 0 (wordsJ y n 0).length 0 (wordsJ y n 0).length),(7,vi n),(8,vi (wordsN y n).length),(9,vi (f+0:Nat))],[.arr (wordsJ y n 0).length 1 22 (vws (wordsJ y n 0))]⟩ ?_ ⟨0,by omega,by omega,rfl⟩ ?_ ?_
 ·rw [hJ0]
  exact WkE.kq
 rotate_left
 ·rintro z rfl
  simp only [go_sem,↓reduceIte,reduceCtorEq,reduceLT,reduceEqDiff,wn]
  exact ⟨4-(n+1),⟨[(0,vi y),(1,vi 4),(5,.own 0 (wordsN y (n+1)).length 0 (wordsN y (n+1)).length),(6,vi (wordsN y n).length),(7,vi (n+1:Nat))],[.arr (wordsN y (n+1)).length 1 22 (vws (wordsN y (n+1)))]⟩,by omega,WkE.kq,n+1,(wordsN y n).length,rfl,by omega,hf2,rfl⟩
 rintro m z ⟨j,rfl,hj,rfl⟩
 by_cases hjl:j<len
 rotate_left
 ·have gk:¬ ((f+j:Nat):Int)<((wordsN y n).length:Int):=by omega
  obtain rfl:j=len:=by omega
  rw [<-hlen,hnext]
  rw [<-hlen] at gk
  simp only [go_sem,↓reduceIte,reduceCtorEq,reduceLT,reduceEqDiff,gk]
  exact ⟨_,WkE.kq,rfl⟩
 have gj:((f+j:Nat):Int)<((wordsN y n).length:Int):=by omega
 have wj:=wrap_s (f+j) (by omega)
 have hjl':j<(lvN y n).length:=by omega
 have hsu:=wordsJ_succ hjl'
 have hget:=fun X=>wordsJ_get hf hjl' X
 have hwb:=hwl _ (List.getElem_mem hjl')
 obtain ⟨w,hw⟩:∃ w,(lvN y n)[j]=w:=⟨_,rfl⟩
 rw [hw] at hsu hwb
 simp only [hw] at hget
 have hJle:(wordsJ y n (j+1)).length<=1000:=by
  have h1:(wordsJ y n (j+1)).length<=(wordsN y (n+1)).length:=by
   rw [<-hnext,wordsJ,wordsJ,List.length_append,List.length_append]
   have:(((lvN y n).take (j+1)).flatMap fun w=>(List.range y).map fun x=>w++[x]).length<=(((lvN y n).take (lvN y n).length).flatMap fun w=>(List.range y).map fun x=>w++[x]).length:=by
    have e:(lvN y n).take (lvN y n).length=(lvN y n).take (j+1)++(lvN y n).drop (j+1):=by rw [List.take_length,List.take_append_drop]
    rw [e,List.flatMap_append,List.length_append];omega
   omega
  omega
 obtain ⟨O,hO⟩:∃ O,wordsJ y n j=O:=⟨_,rfl⟩
 rw [hO] at hsu ⊢
 simp only [hO] at hget
 rw [hsu,List.length_append,List.length_map,List.length_range] at hJle
 simp only [go_sem,↓reduceIte,reduceCtorEq,reduceLT,reduceEqDiff,gj]
 refine loopXC 4 (fun m z=>∃ x:Nat,m=y-x/\x<=y/\z=⟨[(0,vi y),(1,vi 4),(5,.own 0 (O++(List.range x).map fun x=>w++[x]).length 0 (O++(List.range x).map fun x=>w++[x]).length),(7,vi n),(8,vi (wordsN y n).length),(9,vi (f+j:Nat)),(10,vi x)],[.arr (O++(List.range x).map fun x=>w++[x]).length 1 22 (vws (O++(List.range x).map fun x=>w++[x]))]⟩)
  (fun z=>z=⟨[(0,vi y),(1,vi 4),(5,.own 0 (wordsJ y n (j+1)).length 0 (wordsJ y n (j+1)).length),(7,vi n),(8,vi (wordsN y n).length),(9,vi (f+j:Nat))],[.arr (wordsJ y n (j+1)).length 1 22 (vws (wordsJ y n (j+1)))]⟩) y
  ⟨[(0,vi y),(1,vi 4),(5,.own 0 O.length 0 O.length),(7,vi n),(8,vi (wordsN y n).length),(9,vi (f+j:Nat)),(10,vi (0:Nat))],[.arr O.length 1 22 (vws O)]⟩ (WkE.kq) ⟨0,by omega,by omega,by simp⟩ ?_ ?_
 rotate_left
 ·rintro z rfl
  simp only [go_sem,↓reduceIte,reduceCtorEq,reduceLT,reduceEqDiff,wj]
  exact ⟨len-(j+1),⟨[(0,vi y),(1,vi 4),(5,.own 0 (wordsJ y n (j+1)).length 0 (wordsJ y n (j+1)).length),(7,vi n),(8,vi (wordsN y n).length),(9,vi (f+(j+1):Nat))],[.arr (wordsJ y n (j+1)).length 1 22 (vws (wordsJ y n (j+1)))]⟩,by omega,WkE.kq,j+1,rfl,by omega,rfl⟩
 rintro m z ⟨x,rfl,hx,rfl⟩
 by_cases hxy:x<y
 rotate_left
 ·obtain rfl:x=y:=by omega
  rw [hsu]
  refine CwpE.vc ?_
  simp only [go_sem,↓reduceIte,reduceCtorEq,reduceLT,reduceEqDiff,Int.lt_irrefl]
  exact ⟨_,WkE.kq,rfl⟩
 have gx:(x:Int)<(y:Int):=by omega
 have wx:=wrap_s x (by omega)
 have hXs:(O++(List.range (x+1)).map fun x=>w++[x])=(O++(List.range x).map fun x=>w++[x])++[w++[x]]:=by rw [List.range_succ,List.map_append,<-List.append_assoc];rfl
 have hgx:=hget ((List.range x).map fun x=>w++[x])
 have hXl:(O++(List.range x).map fun x=>w++[x]).length<=1000:=by rw [List.length_append,List.length_map,List.length_range];omega
 obtain ⟨O2,hO2⟩:∃ O2,(O++(List.range (x+1)).map fun x=>w++[x])=O2:=⟨_,rfl⟩
 obtain ⟨O1,hO1⟩:∃ O1,(O++(List.range x).map fun x=>w++[x])=O1:=⟨_,rfl⟩
 have hlen2:O2.length=O.length+(x+1):=by rw [<-hO2,List.length_append,List.length_map,List.length_range]
 rw [hO1,hO2] at hXs
 rw [hO1] at hgx hXl ⊢
 have hgw:(vws O1)[f+j]? = some (vints (wI w)):=by rw [vws,List.getElem?_map,hgx];rfl
 have hO2l:O2.length=O1.length+1:=by rw [hXs];simp
 have gO:((f+j:Nat):Int)<(O1.length:Int):=by
  have:=(List.getElem?_eq_some_iff.1 hgx).1
  omega
 have g0:(0:Int)<=((f+j:Nat):Int):=by omega
 refine CwpE.cut (st:=⟨[(0,vi y),(1,vi 4),(5,.own 0 O1.length 0 O1.length),(7,vi n),(8,vi (wordsN y n).length),(9,vi (f+j:Nat)),(10,vi x)],[.arr O1.length 1 22 (vws O1)]⟩) ?_ ?_
 ·simp only [go_sem,↓reduceIte,reduceCtorEq,reduceLT,reduceEqDiff,gx]
  exact ⟨_,WkE.kq,rfl⟩
 refine CwpE.seqJ (fun z=>z=⟨[(0,vi y),(1,vi 4),(5,.own 0 O2.length 0 O2.length),(7,vi n),(8,vi (wordsN y n).length),(9,vi (f+j:Nat)),(10,vi x)],[.arr O2.length 1 22 (vws O2)]⟩) (CwpE.block ?_) ?_
 rotate_left
 ·rintro _ rfl
  refine CwpE.vc ?_
  simp only [go_sem,↓reduceIte,reduceCtorEq,reduceLT,reduceEqDiff,wx]
  exact ⟨y-(x+1),⟨[(0,vi y),(1,vi 4),(5,.own 0 O2.length 0 O2.length),(7,vi n),(8,vi (wordsN y n).length),(9,vi (f+j:Nat)),(10,vi (x+1:Nat))],[.arr O2.length 1 22 (vws O2)]⟩,by omega,WkE.kq,x+1,rfl,by omega,by rw [hO2,hlen2]⟩
 refine CwpE.cut (st:=⟨[(11,.own 1 0 0 0),(0,vi y),(1,vi 4),(5,.own 0 O1.length 0 O1.length),(7,vi n),(8,vi (wordsN y n).length),(9,vi (f+j:Nat)),(10,vi x)],[.arr O1.length 1 22 (vws O1),.arr 0 1 3 []]⟩) ?_ ?_
 ·simp only [go_sem,↓reduceIte,reduceLT]
  exact ⟨_,(WkE.nil 11 1 3 (by omega) rfl).trans (WkE.kq),rfl⟩
 have hwil:=wI_len w
 have qw:(wI w).length*8<=140737488355328:=by omega
 have qw1:((wI w).length+1)*8<=140737488355328:=by omega
 have qW:(O1.length+1)*24<=140737488355328:=by omega
 refine CwpE.vc ?_
 obtain ⟨V1,hV1⟩:∃ V1,vws O1=V1:=⟨_,rfl⟩
 have hV1l:V1.length=O1.length:=by rw [<-hV1,vws,List.length_map]
 rw [hV1] at hgw ⊢
 simp only [go_sem,Nat.reducePow,Nat.reduceLeDiff,↓reduceIte,reduceCtorEq,reduceLT,reduceEqDiff,reduceAdd,Nat.reduceMul,gO,g0,hgw,qw,qw1,qW,hV1l,List.length_map,Nat.zero_add,Int.toNat_natCast]
 refine ⟨_,?_,rfl⟩
 have hfr:=freezeLast (n:=45) (env:=[(0,vi y),(1,vi 4),(5,.own 0 (O1.length+1) 0 (O1.length+1)),(7,vi n),(8,vi (wordsN y n).length),(9,vi (f+j:Nat)),(10,vi x)]) [] [] [.arr 1 1 22 [.own 1 ((wI w).length+1) 0 ((wI w).length+1)]] 0 rfl (O1.length+1) 1 22 V1 (.own 1 ((wI w).length+1) 0 ((wI w).length+1)) 0 1 ((wI w).map vi++[vi x]) ((wI w).length+1) (by simp) rfl rfl (by rw [List.all_append,Bool.and_eq_true];exact ⟨isT_map (fun _=>rfl) _,rfl⟩)
 have he2 : [AObj.arr (O1.length+1) 1 22 (V1++[.list 1 ((wI w).map vi++[vi x])])]=[AObj.arr O2.length 1 22 (vws O2)]:=by
  rw [hO2l,hXs,<-hV1]
  simp only [vws,List.map_append,List.map_cons,List.map_nil,vints,wI_snoc]
 have hin:=inn O2.length O2
 rw [<-he2] at hin ⊢
 rw [hO2l]
 refine (WkE.keep ?_).trans (hfr.trans (WkE.round ?_ rfl hin rfl))
 ·simp only [go_sem,↓reduceIte,reduceCtorEq,reduceEqDiff];try rfl
 ·simp only [go_sem,↓reduceIte,reduceCtorEq,reduceEqDiff];try rfl
end Go.Proofs.Ytjilachpkjlhdaa
