/- Lemmas used by all laws. -/
import Derived.Test.YtjilachpkjlhdaaKa
import Derived.Test.YtjilachpkjlhdaaKb
import Derived.Test.YtjilachpkjlhdaaKc
import Derived.Test.YtjilachpkjlhdaaKd
import Derived.Test.YtjilachpkjlhdaaKe
import Derived.Test.YtjilachpkjlhdaaProg
import Derived.WalkKit
import Derived.WalkSpells
import Derived.WalkLawsBesides
import Derived.Orders
import Derived.Laws.MakeOwn
import Derived.Deep.AppendSrc
import Derived.Lib.AppendZerosOnto
import Derived.Defers
import Derived.Laws.BytesString
import Derived.Laws.StructEq
import Derived.Scope
import Derived.Deep.LoopGhost
import Derived.OrdersIn
import Derived.ControlIn
import Derived.Sort.LoopGhostIn
import Derived.RangeFuncLeaves
import Derived.RangeFuncRecord
import Derived.RangeFuncFrom
import Derived.RangeFuncNested
set_option linter.unusedSimpArgs false
set_option linter.unusedVariables false
set_option linter.unusedSectionVars false
set_option maxRecDepth 100000
namespace Go.Proofs.Ytjilachpkjlhdaa
open Go.RowKit Dak P5
open Nat (reduceEqDiff reduceLT reduceAdd)
set_option maxHeartbeats 4000000 in
theorem trim_s (g:Gr) (h:GrOk g) (hnb:g.acc.length<=257) (hyb:g.sy<=1000):Ctr Try.prog 75 [vgr g] (vgr (trimM g)):=by
 have hlv:=live_s g h hnb hyb
 have hll:=live_len g
 have hok:=trim_ok h
 have hcl:∀ i,(hi:i<g.acc.length)->CtrN Try.prog 47 [vints (P5.rowAt g i)] (.own 0 g.sy 0 g.sy) [.arr g.sy 1 3 (rg g.sy fun p=>vi (gto g i p))]:=fun i hi=>by
  have:=Clone47_n (P5.rowAt g i) (by rw [rowAt_len h hi];omega)
  rw [rowAt_len h hi] at this
  rw [<-row_rg h hi]
  exact this
 refine specC f75 (by simp) fun F0 w0=>?_
 obtain ⟨n,hn⟩:∃ n,g.acc.length=n:=⟨_,rfl⟩
 obtain ⟨y,hy⟩:∃ y,g.sy=y:=⟨_,rfl⟩
 have hto:g.to.length=n:=by rw [h.len,hn]
 have hrow:=fun i (hi:i<n)=>row_get h (i:=i) (by omega)
 have hrl:=fun i (hi:i<n)=>rowAt_len h (i:=i) (by omega)
 have hgt:=fun i x (hi:i<n) (hx:x<y)=>gto_get h (i:=i) (x:=x) (by omega) (by omega)
 rw [hn] at hcl hll
 rw [hy] at hrl
 simp only [hy] at hcl
 have q0:(0:Int)<=(n:Int):=by omega
 have q2:((24:Nat):Int)*(n:Int)<=281474976710656:=by omega
 have q3:(n:Int)<=9223372036854775807:=by omega
 obtain ⟨Mk,hMk⟩:∃ Mk:Nat->List AV,Mk=fun k=>rg n fun q=>if q<k then .own (q+3) y 0 y else nilV:=⟨_,rfl⟩
 obtain ⟨Rk,hRk⟩:∃ Rk:Nat->List AObj,Rk=fun k=>rg k fun i=>.arr y 1 3 (rg y fun p=>vi (trimT g (gto g i p))):=⟨_,rfl⟩
 have hM0:(rg n fun _=>nilV)=Mk 0:=by rw [hMk];exact rg_congr fun q _=>by rw [if_neg (by omega)]
 have hR0:([]:List AObj)=Rk 0:=by rw [hRk];rfl
 unfold c75
 refine CwpE.cut (st:=⟨[(1,.ref 0 1 0 0),(2,.ref 1 1 0 0)],[oG g,.arr 1 3 97 [nil3]]⟩) ?_ ?_
 ·simp only [go_sem,↓reduceIte,reduceLT,reduceAdd]
  exact ⟨_,WkE.kp,rfl⟩
 refine CwpE.cut (st:=⟨[(1,.ref 0 1 0 0),(2,.ref 1 1 0 0),(3,vbools (liveM g))],[oG g,.arr 1 3 97 [nil3]]⟩) ?_ ?_
 ·simp only [go_sem,↓reduceIte,reduceLT,reduceAdd]
  refine callT hlv rfl ?_
  simp only [go_sem,↓reduceIte,reduceLT]
  exact ⟨_,WkE.kp,rfl⟩
 refine CwpE.cut (st:=⟨[(1,.ref 0 1 0 0),(2,.ref 1 1 0 0),(3,vbools (liveM g)),(4,.own 2 n 0 n)],objsX g n (Mk 0) (Rk 0)⟩) ?_ ?_
 ·rw [<-hM0,<-hR0]
  simp only [go_sem,↓reduceIte,reduceLT,reduceAdd,List.length_map,hto,q0,q2,q3,Int.le_refl,Int.toNat_natCast,rg_rep]
  exact ⟨_,WkE.kp,rfl⟩
 refine CwpE.step (fun z=>z=⟨[(1,.ref 0 1 0 0),(2,.ref 1 1 0 0),(4,.own 2 n 0 n)],objsX g n (Mk n) (Rk n)⟩) ?_ ?_
 ·simp only [go_sem,↓reduceIte,reduceLT,List.length_map,hto]
  refine loopX 0 (fun m z=>∃ i:Nat,m=n-i/\i<=n/\z=⟨[(1,.ref 0 1 0 0),(2,.ref 1 1 0 0),(3,vbools (liveM g)),(4,.own 2 n 0 n),(16,vrows g.to),(17,vi n),(18,vi i)],objsX g n (Mk i) (Rk i)⟩)
   (fun z=>z=⟨[(1,.ref 0 1 0 0),(2,.ref 1 1 0 0),(4,.own 2 n 0 n)],objsX g n (Mk n) (Rk n)⟩) n
   ⟨[(1,.ref 0 1 0 0),(2,.ref 1 1 0 0),(3,vbools (liveM g)),(4,.own 2 n 0 n),(16,vrows g.to),(17,vi n),(18,vi (0:Nat))],objsX g n (Mk 0) (Rk 0)⟩ (WkE.kp) ⟨0,by omega,by omega,rfl⟩ ?_ ?_
  rotate_left
  ·rintro z rfl
   simp only [go_sem,↓reduceIte]
   exact ⟨_,.refl _ _,rfl⟩
  rintro m z ⟨i,rfl,hi,rfl⟩
  by_cases hlt:i<n
  rotate_left
  ·obtain rfl:i=n:=by omega
   simp only [go_sem,↓reduceIte,reduceLT,reduceEqDiff,Int.lt_irrefl]
   exact ⟨_,WkE.kp,rfl⟩
  have g1:(i:Int)<(n:Int):=by omega
  have g0:(0:Int)<=(i:Int):=by omega
  have wi:=wrap_s i (by omega)
  have hMg:(Mk i)[i]? = some nilV:=by rw [hMk];simp only;rw [rg_get hlt,if_neg (by omega)]
  have hMn:(Mk i).set i (.own (i+3) y 0 y)=Mk (i+1):=by
   rw [hMk]
   simp only
   rw [rg_set]
   refine rg_congr fun p _=>?_
   by_cases h:p=i
   ·rw [if_pos h,if_pos (by omega),h]
   ·rw [if_neg h]
    by_cases h2:p<i
    ·rw [if_pos h2,if_pos (by omega)]
    ·rw [if_neg h2,if_neg (by omega)]
  have hRn:Rk i++[.arr y 1 3 (rg y fun p=>vi (trimT g (gto g i p)))]=Rk (i+1):=by
   rw [hRk]
   simp only
   rw [rg_succ]
  have hRl:(Rk i).length=i:=by rw [hRk];exact rg_len _ _
  obtain ⟨M1,hM1⟩:∃ M1,Mk (i+1)=M1:=⟨_,rfl⟩
  obtain ⟨R1,hR1⟩:∃ R1,Rk (i+1)=R1:=⟨_,rfl⟩
  rw [hM1] at hMn
  rw [hR1] at hRn
  have hM1g:M1[i]? = some (.own (i+3) y 0 y):=by rw [<-hMn,List.getElem?_set_self];have:=(List.getElem?_eq_some_iff.1 hMg).1;exact this
  generalize Mk i=M at hMg hMn ⊢
  generalize Rk i=R at hRn hRl ⊢
  have hR2:∀ o,(R++[o])[i]? = some o:=fun o=>by rw [<-hRl];simp
  have hRs:∀ o x,(R++[o]).set i x=R++[x]:=fun o x=>by rw [<-hRl];simp
  have hri:=hrow i hlt
  have hli:=hrl i hlt
  simp only [go_sem,↓reduceIte,reduceLT,reduceEqDiff,g1,g0,hri,Int.toNat_natCast]
  refine callNew (hcl i hlt) (.cons (.tree _ rfl) .nil) ?_
  obtain ⟨D,hD⟩:∃ D:Nat->Nat->AV,D=fun x p=>if p<x then vi (trimT g (gto g i p)) else vi (gto g i p):=⟨_,rfl⟩
  have hsh:(rg y fun p=>vi (gto g i p)).map (AV.shift (R.length+1+1+1))=rg y (D 0):=by
   rw [rg_mapA]
   exact rg_congr fun p _=>by rw [hD];simp only;rw [if_neg (by omega)];rfl
  rw [hRl] at hsh
  simp only [go_sem,↓reduceIte,reduceLT,reduceEqDiff,AV.shift,AV.shift1,AObj.shiftO,Nat.zero_add,hRl,hsh,g1,g0,hMg,hR2,hli,List.length_map,Int.toNat_natCast]
  refine loopX 2 (fun m z=>∃ x:Nat,m=y-x/\x<=y/\z=⟨[(1,.ref 0 1 0 0),(2,.ref 1 1 0 0),(3,vbools (liveM g)),(4,.own 2 n 0 n),(5,vi i),(16,vrows g.to),(17,vi n),(18,vi i),(28,vints (P5.rowAt g i)),(29,vi y),(30,vi x)],objsX g n M1 (R++[.arr y 1 3 (rg y (D x))])⟩)
   (fun z=>z=⟨[(1,.ref 0 1 0 0),(2,.ref 1 1 0 0),(3,vbools (liveM g)),(4,.own 2 n 0 n),(16,vrows g.to),(17,vi n),(18,vi i)],objsX g n M1 (R++[.arr y 1 3 (rg y (D y))])⟩) y
   ⟨[(1,.ref 0 1 0 0),(2,.ref 1 1 0 0),(3,vbools (liveM g)),(4,.own 2 n 0 n),(5,vi i),(16,vrows g.to),(17,vi n),(18,vi i),(28,vints (P5.rowAt g i)),(29,vi y),(30,vi (0:Nat))],objsX g n M1 (R++[.arr y 1 3 (rg y (D 0))])⟩ ?_ ⟨0,by omega,by omega,rfl⟩ ?_ ?_
  ·rw [<-hMn]
   exact WkE.kp
  rotate_left
  ·rintro z rfl
   have e:(.arr y 1 3 (rg y (D y)):AObj) = .arr y 1 3 (rg y fun p=>vi (trimT g (gto g i p))):=by
    congr 1
    exact rg_congr fun p hp=>by rw [hD];simp only;rw [if_pos hp]
   rw [e,hRn]
   simp only [go_sem,↓reduceIte,reduceLT,reduceEqDiff,wi]
   exact ⟨n-(i+1),⟨[(1,.ref 0 1 0 0),(2,.ref 1 1 0 0),(3,vbools (liveM g)),(4,.own 2 n 0 n),(16,vrows g.to),(17,vi n),(18,vi (i+1:Nat))],objsX g n M1 R1⟩,by omega,WkE.kp,i+1,rfl,by omega,by rw [hM1,hR1];rfl⟩
  rintro m z ⟨x,rfl,hx,rfl⟩
  by_cases hxy:x<y
  rotate_left
  ·obtain rfl:x=y:=by omega
   simp only [go_sem,↓reduceIte,reduceLT,reduceEqDiff,Int.lt_irrefl]
   exact ⟨_,WkE.kp,rfl⟩
  have gx1:(x:Int)<(y:Int):=by omega
  have gx0:(0:Int)<=(x:Int):=by omega
  have wx:=wrap_s x (by omega)
  have hgx:=hgt i x hlt hxy
  have hDs:∀ v,v=trimT g (gto g i x)->(rg y (D x)).set x (vi v)=rg y (D (x+1)):=fun v hv=>by
   rw [rg_set]
   refine rg_congr fun p _=>?_
   rw [hD]
   simp only
   by_cases h:p=x
   ·rw [if_pos h,if_pos (by omega),hv,h]
   ·rw [if_neg h]
    by_cases h2:p<x
    ·rw [if_pos h2,if_pos (by omega)]
    ·rw [if_neg h2,if_neg (by omega)]
  have hDx:(rg y (D x))[x]? = some (vi (gto g i x)):=by
   rw [rg_get hxy,hD];simp only;rw [if_neg (by omega)]
  have hsame:trimT g (gto g i x)=gto g i x->rg y (D x)=rg y (D (x+1)):=fun e=>by
   refine rg_congr fun p _=>?_
   rw [hD]
   simp only
   by_cases h2:p<x
   ·rw [if_pos h2,if_pos (by omega)]
   ·rw [if_neg h2]
    by_cases h3:p=x
    ·rw [if_pos (by omega),h3,e]
    ·rw [if_neg (by omega)]
  have hhi:=h.hi i x
  obtain ⟨t,ht⟩:∃ t,gto g i x=t:=⟨_,rfl⟩
  rw [ht] at hgx hDs hDx hsame hhi
  by_cases b1:0<=t
  rotate_left
  ·have e:=hsame (by rw [trimT,if_neg (by omega)])
   simp only [go_sem,↓reduceIte,reduceLT,reduceEqDiff,gx1,gx0,hgx,b1,wx,Int.toNat_natCast]
   exact ⟨y-(x+1),⟨[(1,.ref 0 1 0 0),(2,.ref 1 1 0 0),(3,vbools (liveM g)),(4,.own 2 n 0 n),(5,vi i),(16,vrows g.to),(17,vi n),(18,vi i),(28,vints (P5.rowAt g i)),(29,vi y),(30,vi (x+1:Nat))],objsX g n M1 (R++[.arr y 1 3 (rg y (D x))])⟩,by omega,WkE.kp,x+1,rfl,by omega,by rw [e];rfl⟩
  have hlt':=bt_get (s:=liveM g) (k:=t.toNat) (by omega)
  cases hb:bt (liveM g) t.toNat with
  | true =>
   rw [hb] at hlt'
   have e:=hsame (by rw [trimT,if_neg (by rw [hb];simp)])
   simp only [go_sem,↓reduceIte,reduceLT,reduceEqDiff,gx1,gx0,hgx,b1,hlt',wx,Int.toNat_natCast]
   exact ⟨y-(x+1),⟨[(1,.ref 0 1 0 0),(2,.ref 1 1 0 0),(3,vbools (liveM g)),(4,.own 2 n 0 n),(5,vi i),(16,vrows g.to),(17,vi n),(18,vi i),(28,vints (P5.rowAt g i)),(29,vi y),(30,vi (x+1:Nat))],objsX g n M1 (R++[.arr y 1 3 (rg y (D x))])⟩,by omega,WkE.kp,x+1,rfl,by omega,by rw [e];rfl⟩
  | false =>
   rw [hb] at hlt'
   have hD1:=hDs (-1) (by rw [trimT,if_pos ⟨b1,hb⟩])
   simp only [go_sem,↓reduceIte,reduceLT,reduceEqDiff,gx1,gx0,g1,g0,hgx,b1,hlt',hM1g,hR2,hRs,hDx,hD1,wx,Int.toNat_natCast]
   exact ⟨y-(x+1),⟨[(1,.ref 0 1 0 0),(2,.ref 1 1 0 0),(3,vbools (liveM g)),(4,.own 2 n 0 n),(5,vi i),(16,vrows g.to),(17,vi n),(18,vi i),(28,vints (P5.rowAt g i)),(29,vi y),(30,vi (x+1:Nat))],objsX g n M1 (R++[.arr y 1 3 (rg y (D (x+1)))])⟩,by omega,WkE.kp,x+1,rfl,by omega,rfl⟩
 rintro _ rfl
 have hMq:∀ q,q<n->(Mk n)[q]? = some (.own (q+3) y 0 y):=fun q hq=>by rw [hMk];simp only;rw [rg_get hq,if_pos hq]
 have hMl:(Mk n).length=n:=by rw [hMk];exact rg_len _ _
 have hRq:∀ q,q<n->(Rk n)[q]? = some (.arr y 1 3 ((P5.rowAt (trimM g) q).map vi)):=fun q hq=>by
  rw [hRk]
  simp only
  have hsy:(trimM g).sy=y:=hy
  rw [rg_get hq,row_rg hok (by show q<g.acc.length;omega),hsy]
  congr 2
  exact rg_congr fun p _=>by rw [trim_to]
 have hrl2:∀ q,q<n->(P5.rowAt (trimM g) q).length=y:=fun q hq=>by rw [rowAt_len hok (by show q<g.acc.length;omega)];exact hy
 generalize Mk n=M at *
 generalize Rk n=R at *
 refine CwpE.vc ?_
 simp only [go_sem,Nat.reduceLeDiff,↓reduceIte,reduceLT,reduceEqDiff,reduceAdd]
 refine .agg _ _ rfl fun i h1 h2=>?_
 match i,h1,h2 with
 | 0,_,_=>exact .tree _ rfl
 | 1,_,_=>exact .tree _ rfl
 | 2,_,_ =>
  have htl:(trimM g).to.length=n:=by rw [hok.len];exact hn
  show Snap _ (.own 2 n 0 n) (.list 1 ((trimM g).to.map vints))
  refine .own 2 n 0 n 1 22 M _ rfl (by omega) (by rw [List.length_map,htl]) fun q hq=>?_
  rw [List.length_map,htl] at hq
  have e1:M[0+q]'(by omega) = .own (q+3) y 0 y:=by
   have:=hMq q hq
   rw [List.getElem?_eq_getElem (by omega)] at this
   simpa using Option.some.inj this
  have e2:((trimM g).to.map vints)[q]'(by rw [List.length_map,htl];exact hq)=vints (P5.rowAt (trimM g) q):=by
   have:=row_get hok (i:=q) (by show q<g.acc.length;omega)
   rw [List.getElem?_eq_getElem (by rw [List.length_map,htl];exact hq)] at this
   exact Option.some.inj this
  rw [e1,e2]
  refine .own (q+3) y 0 y 1 3 ((P5.rowAt (trimM g) q).map vi) _ ?_ (by simp [hrl2 q hq]) (by simp [hrl2 q hq]) fun x hx=>?_
  ·simp only [List.getElem?_cons_succ]
   exact hRq q hq
  ·simp only [Nat.zero_add]
   exact .tree _ (List.all_eq_true.1 (isT_map (fun _=>rfl) _) _ (List.getElem_mem _))
end Go.Proofs.Ytjilachpkjlhdaa
namespace Go.Proofs.Ytjilachpkjlhdaa
open Go.RowKit Dak P5
open Nat (reduceEqDiff reduceLT reduceAdd)
abbrev vge (r:Gr × Int):AV:=.tup [vgr r.1,vi r.2]
abbrev nilG:Gr:=⟨0,[],[]⟩
def resE {K:Type} (y:Nat) (acc:K->Bool):Option (List K × List (List Int))->Gr × Int
 | none=>(nilG,4)
 | some r=>(grOf y acc r.1 r.2,0)
def nextE {K:Type} (raw:K->Nat->K × Bool) (k:K) (x:Nat):Option K:=if (raw k x).2=true then some (raw k x).1 else none
def keyS (s:List Bool):MK:=.a [wdi s 0,wdi s 1,wdi s 2,wdi s 3]
def keyP (p:PI):MK:=.a [p.1,p.2]
theorem keyS_inj {s t:List Bool} (hl:s.length=t.length) (h2:s.length<=256) (h:keyS s=keyS t):s=t:=by
 simp only [keyS,MK.a.injEq,List.cons.injEq,and_true] at h
 obtain ⟨h0,h1,h3,h4⟩:=h
 have key:∀ k,wdi s k=wdi t k->wdv s k=wdv t k:=fun k e=>by
  unfold wdi at e
  exact BitVec.eq_of_toNat_eq (Int.ofNat.inj e)
 refine words_ext hl h2 fun k hk=>?_
 match k,hk with
 | 0,_=>exact key 0 h0
 | 1,_=>exact key 1 h1
 | 2,_=>exact key 2 h3
 | 3,_=>exact key 3 h4
theorem keyP_inj {s t:PI} (h:keyP s=keyP t):s=t:=by
 simp only [keyP,MK.a.injEq,List.cons.injEq,and_true] at h
 exact Prod.ext h.1 h.2
theorem rowGo_lb {K:Type} [DecidableEq K] (nx:Nat->Option K) (L:List K):∀ x,(rowGo nx (List.range x) L).2.length<=L.length+x
 | 0=>Nat.le_refl _
 | x+1=>by
  have ih:=rowGo_lb nx L x
  rw [rowGo_range]
  cases nx x with
  | none=>exact Nat.le_succ_of_le ih
  | some t=>exact Nat.le_trans (addK_len_le _ _).2 (Nat.succ_le_succ ih)
def Numb {K:Type} [DecidableEq K] (ok:K->Prop) (key:K->MK) (ks:List (MK × Value)) (L:List K):Prop:=∀ t,ok t->kget ks (key t)=if posF L t<L.length then some (.int .i64 (posF L t:Nat)) else none
theorem Numb.one {K:Type} [DecidableEq K] {ok:K->Prop} {key:K->MK} (hinj:∀ s t,ok s->ok t->key s=key t->s=t) {k:K} (hk:ok k):Numb ok key [(key k,.int .i64 0)] [k]:=by
 intro t ht
 rw [kget_cons,kget_nil]
 by_cases h:t=k
 ·subst h
  rw [if_pos rfl]
  have:posF [t] t=0:=by simp [posF]
  rw [if_pos (by rw [this];simp),this];rfl
 ·rw [if_neg (fun e=>h (hinj _ _ ht hk e)),if_neg]
  intro h2
  exact h (List.mem_singleton.1 (posF_mem.1 h2))
theorem Numb.add {K:Type} [DecidableEq K] {ok:K->Prop} {key:K->MK} (hinj:∀ s t,ok s->ok t->key s=key t->s=t) {ks:List (MK × Value)} {L:List K} {k:K} (hk:ok k) (h:Numb ok key ks L) (hn:k ∉ L) :
 Numb ok key (kset ks (key k) (.int .i64 (L.length:Nat))) (L++[k]):=by
 intro t ht
 rw [kget_kset]
 by_cases e:t=k
 ·subst e
  rw [if_pos rfl,posF_snoc hn,if_pos (by simp)]
 ·rw [if_neg (fun e2=>e (hinj _ _ ht hk e2)),h t ht]
  by_cases hm:t ∈ L
  ·rw [posF_app_left hm,if_pos (posF_lt hm),if_pos (by have:=posF_lt hm;simp;omega)]
  ·rw [if_neg (fun h2=>hm (posF_mem.1 h2)),if_neg]
   intro h2
   rcases List.mem_append.1 (posF_mem.1 h2) with h3 | h3
   ·exact hm h3
   ·exact e (List.mem_singleton.1 h3)
def partR (y:Nat) (r:List Int):List Int:=rg y fun p=>r.getD p 0
theorem partR_len (y:Nat) (r:List Int):(partR y r).length=y:=rg_len _ _
theorem partR_nil (y:Nat):List.replicate y (vi 0)=(partR y []).map vi:=by
 rw [rg_rep,partR,rg,rg,List.map_map]
 exact List.map_congr_left fun p _=>by simp
theorem partR_set {y x:Nat} {r:List Int} (hr:r.length=x) (v:Int):((partR y r).map vi).set x (vi v)=(partR y (r++[v])).map vi:=by
 have e:(partR y r).map vi=rg y fun p=>vi (r.getD p 0):=by rw [partR,rg,rg,List.map_map];rfl
 have e2:(partR y (r++[v])).map vi=rg y fun p=>vi ((r++[v]).getD p 0):=by rw [partR,rg,rg,List.map_map];rfl
 rw [e,e2,rg_set]
 refine rg_congr fun p hp=>?_
 subst hr
 by_cases h:p=r.length
 ·subst h;simp
 ·rw [if_neg h]
  by_cases h2:p<r.length
  ·rw [List.getD_eq_getElem?_getD,List.getD_eq_getElem?_getD,List.getElem?_append_left h2]
  ·rw [List.getD_eq_getElem?_getD,List.getD_eq_getElem?_getD,List.getElem?_eq_none (by omega),List.getElem?_eq_none (by simp;omega)]
theorem partR_full {y:Nat} {r:List Int} (hr:r.length=y):partR y r=r:=by
 apply List.ext_getElem?
 intro j
 by_cases h:j<y
 ·rw [partR,rg_get h,List.getD_eq_getElem?_getD,List.getElem?_eq_getElem (by omega)];rfl
 ·rw [List.getElem?_eq_none (by rw [partR_len];omega),List.getElem?_eq_none (by omega)]
theorem gr_snap (y:Nat) (A:List Bool) (R:List (List Int)) (objs:List AObj) (p q:Nat) (hp:p=A.length) (hq:q=R.length) (h5:objs[5]? = some (.arr p 1 4 (A.map vb))) (h6:objs[6]? = some (.arr q 1 22 (R.map vints))) :
 Snap objs (.agg [vi y,.own 5 p 0 p,.own 6 q 0 q]) (vgr ⟨y,A,R⟩):=by
 subst hp hq
 refine .agg _ _ rfl fun i h1 h2=>?_
 match i,h1,h2 with
 | 0,_,_=>exact .tree _ rfl
 | 1,_,_ =>
  refine .own 5 A.length 0 A.length 1 4 _ _ h5 (by simp) (by simp) fun q hq=>?_
  simp only [Nat.zero_add]
  exact .tree _ (List.all_eq_true.1 (isT_map (fun _=>rfl) _) _ (List.getElem_mem _))
 | 2,_,_ =>
  refine .own 6 R.length 0 R.length 1 22 _ _ h6 (by simp) (by simp) fun q hq=>?_
  simp only [Nat.zero_add]
  exact .tree _ (List.all_eq_true.1 (isT_map (fun _=>rfl) _) _ (List.getElem_mem _))
theorem nilG_snap {objs:List AObj}:Snap objs nil3 (vgr nilG):=by
 refine .agg _ _ rfl fun i h1 h2=>?_
 match i,h1,h2 with
 | 0,_,_=>exact .tree _ rfl
 | 1,_,_=>exact .nil 1
 | 2,_,_=>exact .nil 1
end Go.Proofs.Ytjilachpkjlhdaa
namespace Go.Proofs.Ytjilachpkjlhdaa
open Go.RowKit Dak P5
open Nat (reduceEqDiff reduceLT reduceAdd)
def objsexplA (ox:AObj) (y:Nat) (ks:List (MK × Value)) (L:List AV) (A:List Bool) (R:List (List Int)) (T:List AObj):List AObj :=
 [ox,.arr 1 3 97 [nil3],.arr 1 3 97 [.agg [vi y,.own 5 A.length 0 A.length,.own 6 R.length 0 R.length]],.arr 1 1 (mapT+11) [.val (mapV ks)],.arr L.length 4 79 L,.arr A.length 1 4 (A.map vb),.arr R.length 1 22 (R.map vints)]++T
theorem objsexplA_eq (ox:AObj) (y:Nat) (ks:List (MK × Value)) (L:List AV) (A:List Bool) (R:List (List Int)) (T:List AObj):objsexplA ox y ks L A R T =
 [ox,.arr 1 3 97 [nil3],.arr 1 3 97 [.agg [vi y,.own 5 A.length 0 A.length,.own 6 R.length 0 R.length]],.arr 1 1 (mapT+11) [.val (mapV ks)],.arr L.length 4 79 L,.arr A.length 1 4 (A.map vb),.arr R.length 1 22 (R.map vints)]++T:=rfl
theorem objsexplA_drop {m:Nat} {env env':List (Nat × AV)} (k0:(List Bool)) (y:Nat) (ks:List (MK × Value)) (L:List (List Bool)) (A:List Bool) (R:List (List Int)) (T T':List AObj) (hA:Agree env env') (he:(env'.all fun p=>p.2.inn (7+T.length))=true) (hT:(T.all fun o=>o.innO (7+T.length))=true) :
 WkE m ⟨env,objsexplA (.arr 1 4 79 [vset k0]) y ks (L.map vset) A R (T++T')⟩ ⟨env',objsexplA (.arr 1 4 79 [vset k0]) y ks (L.map vset) A R T⟩:=by
 have hl:(objsexplA (.arr 1 4 79 [vset k0]) y ks (L.map vset) A R T).length=7+T.length:=by rw [objsexplA_eq,List.length_append];rfl
 refine WkE.round hA (by rw [hl];exact he) ?_ ?_
 ·rw [hl,objsexplA_eq,List.all_append,Bool.and_eq_true]
  refine ⟨?_,hT⟩
  have h1:((L.map vset).all (AV.inn (7+T.length)))=true:=inn_map fun _=>rfl
  have h2:((A.map vb).all (AV.inn (7+T.length)))=true:=inn_map fun _=>rfl
  have h3:((R.map vints).all (AV.inn (7+T.length)))=true:=inn_map fun _=>rfl
  simp [AObj.innO,h1,h2,h3,AV.inn,AV.inn1]
  omega
 ·rw [hl,objsexplA_eq,objsexplA_eq,<-List.append_assoc]
  exact List.take_left' (by rw [List.length_append];rfl)
set_option maxHeartbeats 8000000 in
theorem explA_s (ok:(List Bool)->Prop) (hinj:∀ s t,ok s->ok t->keyS s=keyS t->s=t) (fa fn:AV) (first:(List Bool)) (y:Nat) (hy:y<=64) (acc:(List Bool)->Bool) (raw:(List Bool)->Nat->(List Bool) × Bool) (hf0:ok first)
 (hr:∀ k x,ok k->x<y->(raw k x).2=true->ok (raw k x).1)
 (ha:∀ k,ok k->∀ objs,CallOk Try.prog objs fa [vset k] (vb (acc k)))
 (hn:∀ k x,ok k->x<y->∀ objs,CallOk Try.prog objs fn [vset k,vi (x:Int)] (.tup [vset (raw k x).1,vb (raw k x).2]))
 (hfi:∀ k,fa.inn k=true/\fn.inn k=true) :
 Ctr Try.prog 48 [vset first,vi y,fa,fn] (vge (resE y acc (bfs 256 (nextE raw) y first))):=by
 refine specC f48 (by simp) fun F0 w0=>?_
 obtain ⟨B,hB⟩:∃ B,bfs 256 (nextE raw) y first=B:=⟨_,rfl⟩
 rw [hB]
 unfold c48
 refine CwpE.cut (st:=⟨[(1,vi y),(2,fa),(3,fn),(4,.ref 0 1 0 0),(8,.ref 1 1 0 0)],[.arr 1 4 79 [vset first],.arr 1 3 97 [nil3]]⟩) ?_ ?_
 ·simp only [go_sem,↓reduceIte,reduceLT,reduceAdd]
  exact ⟨_,WkE.kq,rfl⟩
 refine CwpE.cut (st:=⟨[(1,vi y),(2,fa),(3,fn),(4,.ref 0 1 0 0),(8,.ref 1 1 0 0),(10,.ref 2 1 0 0)],[.arr 1 4 79 [vset first],.arr 1 3 97 [nil3],.arr 1 3 97 [.agg [vi y,nilV,nilV]]]⟩) ?_ ?_
 ·simp only [go_sem,Nat.reduceLeDiff,↓reduceIte,reduceLT,reduceEqDiff,reduceAdd]
  exact ⟨_,WkE.kp,rfl⟩
 refine CwpE.cut (st:=⟨[(1,vi y),(2,fa),(3,fn),(4,.ref 0 1 0 0),(8,.ref 1 1 0 0),(10,.ref 2 1 0 0),(11,.mref 3 1)],[.arr 1 4 79 [vset first],.arr 1 3 97 [nil3],.arr 1 3 97 [.agg [vi y,nilV,nilV]],.arr 1 1 (mapT+11) [.val (mapV [(keyS first,.int .i64 0)])]]⟩) ?_ ?_
 ·simp only [go_sem,↓reduceIte,reduceLT,reduceEqDiff,reduceAdd]
  exact ⟨_,WkE.kp,rfl⟩
 refine CwpE.seqJ (fun z=>∃ (ks:List (MK × Value)) (L:List ((List Bool))) (rows:List (List Int)),B=some (L,rows)/\z=⟨[(1,vi y),(2,fa),(3,fn),(8,.ref 1 1 0 0),(10,.ref 2 1 0 0),(11,.mref 3 1),(12,.own 4 (L).length 0 (L).length)],objsexplA (.arr 1 4 79 [vset first]) y ks (L.map vset) (L.map acc) (rows) []⟩) ?_ ?_
 rotate_left
 ·rintro _ ⟨ks,L,rows,hBs,rfl⟩
  rw [hBs]
  refine CwpE.vc ?_
  rw [objsexplA_eq]
  simp only [go_sem,↓reduceIte,reduceLT,reduceEqDiff,reduceAdd]
  exact snap_tup2 (gr_snap y (L.map acc) rows _ _ _ (by simp) rfl rfl rfl) (.tree _ rfl)
 refine CwpE.seqJ (fun st=>st=⟨[(1,vi y),(2,fa),(3,fn),(8,.ref 1 1 0 0),(10,.ref 2 1 0 0),(11,.mref 3 1),(12,.own 4 ([first]).length 0 ([first]).length)],objsexplA (.arr 1 4 79 [vset first]) y [(keyS first,.int .i64 0)] ([first].map vset) ([]) ([]) []⟩) ?_ ?_
 ·refine CwpE.regionC (csa:=[⟨some 25,none,.load true 4 (T 4)⟩]) (csb:=[⟨some 12,none,.mov (T 26)⟩]) (by omega) (by decide) ?_
  simp only [go_sem,↓reduceIte,reduceLT,reduceEqDiff,reduceAdd]
  refine ⟨_,.refl _ _,?_⟩
  simp only [go_sem,↓reduceIte]
  exact ⟨_,(WkE.nilCell 2 1 3 0 1 1 4 97 _ (.agg [vi y,nilV,nilV]) rfl rfl rfl).trans ((WkE.nilCell 2 1 3 0 2 1 22 97 _ (.agg [vi y,.own 5 0 0 0,nilV]) rfl rfl rfl).trans (WkE.kp)),rfl⟩
 rintro _ rfl
 refine CwpE.vc ?_
 simp only [go_sem]
 have hB0:B=bfsGo 256 (nextE raw) y 257 [first] []:=by rw [<-hB];rfl
 refine loopX 0 (fun m z=>∃ (i:Nat) (ks:List (MK × Value)) (L:List ((List Bool))) (rows:List (List Int)),m=257-i/\rows.length=i/\i<=L.length/\L.length<=256/\(∀ t ∈ L,ok t)/\(∀ r ∈ rows,r.length=y)/\Numb ok keyS ks L/\B=bfsGo 256 (nextE raw) y (257-i) L rows /\
  z=⟨[(1,vi y),(2,fa),(3,fn),(8,.ref 1 1 0 0),(10,.ref 2 1 0 0),(11,.mref 3 1),(12,.own 4 (L).length 0 (L).length)],objsexplA (.arr 1 4 79 [vset first]) y ks (L.map vset) ((L.take i).map acc) (rows) []⟩)
  (fun z=>∃ (ks:List (MK × Value)) (L:List ((List Bool))) (rows:List (List Int)),B=some (L,rows)/\z=⟨[(1,vi y),(2,fa),(3,fn),(8,.ref 1 1 0 0),(10,.ref 2 1 0 0),(11,.mref 3 1),(12,.own 4 (L).length 0 (L).length)],objsexplA (.arr 1 4 79 [vset first]) y ks (L.map vset) (L.map acc) (rows) []⟩) 257
  ⟨[(1,vi y),(2,fa),(3,fn),(8,.ref 1 1 0 0),(10,.ref 2 1 0 0),(11,.mref 3 1),(12,.own 4 ([first]).length 0 ([first]).length)],objsexplA (.arr 1 4 79 [vset first]) y [(keyS first,.int .i64 0)] ([first].map vset) ([]) ([]) []⟩ (.refl _ _)
  ⟨0,_,[first],[],rfl,rfl,by simp,by simp,fun t ht=>by rw [List.mem_singleton.1 ht];exact hf0,fun r hr=>by simp at hr,Numb.one hinj hf0,hB0,rfl⟩ ?_ ?_
 rotate_left
 ·rintro z ⟨ks,L,rows,h1,rfl⟩
  simp only [go_sem,↓reduceIte]
  exact ⟨_,.refl _ _,ks,L,rows,h1,rfl⟩
 rintro m z ⟨i,ks,L,rows,rfl,hri,hiL,hL,hLn,hrl,hks,hBi,rfl⟩
 by_cases hlt:i<L.length
 rotate_left
 ·have gk:¬ (rows.length:Int)<(L.length:Int):=by omega
  rw [bfsGo_end (by omega)] at hBi
  have htk:L.take i=L:=List.take_of_length_le (by omega)
  rw [htk,objsexplA_eq]
  simp only [go_sem,↓reduceIte,reduceLT,reduceEqDiff,reduceAdd,gk,List.length_map]
  refine ⟨_,?_,ks,L,rows,hBi,rfl⟩
  rw [objsexplA_eq]
  simp only [List.length_map]
  exact WkE.kp
 have hf:257-i=(257-(i+1))+1:=by omega
 rw [hf,bfsGo_step (by omega)] at hBi
 have hnx:nextE raw L[rows.length]=nextE raw L[i]:=by simp only [hri]
 rw [hnx] at hBi
 obtain ⟨q,hq⟩:∃ q,L[i]=q:=⟨_,rfl⟩
 have hqo:ok q:=by rw [<-hq];exact hLn _ (List.getElem_mem hlt)
 have g1:(rows.length:Int)<(L.length:Int):=by omega
 have g0:(0:Int)<=(rows.length:Int):=by omega
 have hLi:(L.map vset)[rows.length]? = some (vset q):=by rw [List.getElem?_map,List.getElem?_eq_getElem (by omega)];simp only [hri,hq];rfl
 rw [hq] at hBi
 obtain ⟨nx,hnxe⟩:∃ nx,nextE raw q=nx:=⟨_,rfl⟩
 rw [hnxe] at hBi
 have nxv:∀ x,nx x=if (raw q x).2=true then some (raw q x).1 else none:=fun x=>by rw [<-hnxe];rfl
 have hAl:((L.take i).map acc).length=i:=by simp;omega
 have hA1:((L.take i).map acc)++[acc q]=(L.take (i+1)).map acc:=by
  rw [List.take_succ_eq_append_getElem hlt,List.map_append,hq];rfl
 obtain ⟨A,hAe⟩:∃ A,(L.take i).map acc=A:=⟨_,rfl⟩
 rw [hAe] at hAl hA1 ⊢
 have hacc:=ha q hqo
 have q0:(0:Int)<=(y:Int):=by omega
 have q2:((8:Nat):Int)*(y:Int)<=281474976710656:=by omega
 have q3:(y:Int)<=9223372036854775807:=by omega
 rw [objsexplA_eq]
 simp only [go_sem,↓reduceIte,reduceLT,reduceEqDiff,reduceAdd,g1,g0,hLi,List.length_map,q0,q2,q3,Int.le_refl,Int.toNat_natCast,rg_rep]
 refine loopX 2 (fun m z=>∃ (x:Nat) (ks:List (MK × Value)),m=y-x/\x<=y/\Numb ok keyS ks (rowGo nx (List.range x) L).2/\(∀ t ∈ (rowGo nx (List.range x) L).2,ok t) /\
  z=⟨[(1,vi y),(2,fa),(3,fn),(8,.ref 1 1 0 0),(10,.ref 2 1 0 0),(11,.mref 3 1),(12,.own 4 ((rowGo nx (List.range x) L).2).length 0 ((rowGo nx (List.range x) L).2).length),(13,.ref 7 1 0 0),(14,.own 8 y 0 y),(42,vi y),(43,vi x)],objsexplA (.arr 1 4 79 [vset first]) y ks (((rowGo nx (List.range x) L).2).map vset) (A) (rows) [.arr 1 4 79 [vset q],.arr y 1 3 ((partR y (rowGo nx (List.range x) L).1).map vi)]⟩)
  (fun z=>∃ (ks:List (MK × Value)),Numb ok keyS ks (rowGo nx (List.range y) L).2/\(∀ t ∈ (rowGo nx (List.range y) L).2,ok t) /\
   z=⟨[(1,vi y),(2,fa),(3,fn),(8,.ref 1 1 0 0),(10,.ref 2 1 0 0),(11,.mref 3 1),(12,.own 4 ((rowGo nx (List.range y) L).2).length 0 ((rowGo nx (List.range y) L).2).length),(13,.ref 7 1 0 0),(14,vints (rowGo nx (List.range y) L).1)],objsexplA (.arr 1 4 79 [vset first]) y ks (((rowGo nx (List.range y) L).2).map vset) (A) (rows) [.arr 1 4 79 [vset q]]⟩) y
  ⟨[(1,vi y),(2,fa),(3,fn),(8,.ref 1 1 0 0),(10,.ref 2 1 0 0),(11,.mref 3 1),(12,.own 4 (L).length 0 (L).length),(13,.ref 7 1 0 0),(14,.own 8 y 0 y),(42,vi y),(43,vi (0:Nat))],objsexplA (.arr 1 4 79 [vset first]) y ks ((L).map vset) (A) (rows) [.arr 1 4 79 [vset q],.arr y 1 3 ((partR y []).map vi)]⟩ ?_ ⟨0,ks,by omega,by omega,hks,hLn,rfl⟩ ?_ ?_
 ·rw [objsexplA_eq]
  have e0:(rg y fun _=>vi 0)=(partR y []).map vi:=by rw [<-partR_nil,rg_rep]
  rw [<-e0]
  simp only [List.length_map]
  exact WkE.kp
 rotate_left
 ·rintro z ⟨ks1,hk1,ho1,rfl⟩
  have hr1l:((rowGo nx (List.range y) L).1).length=y:=by rw [rowGo_len,List.length_range]
  have hpre:=rowGo_pre nx (List.range y) L
  obtain ⟨L1,hL1⟩:∃ L1,(rowGo nx (List.range y) L).2=L1:=⟨_,rfl⟩
  obtain ⟨r1,hr1⟩:∃ r1,(rowGo nx (List.range y) L).1=r1:=⟨_,rfl⟩
  rw [hL1] at hk1 ho1 hBi hpre ⊢
  rw [hr1] at hr1l hBi ⊢
  rw [objsexplA_eq]
  by_cases h256:256<L1.length
  ·have hBn:B=none:=by rw [hBi,if_pos h256]
   have g256:(256:Int)<(L1.length:Int):=by omega
   rw [hBn]
   simp only [go_sem,↓reduceIte,reduceCtorEq,reduceLT,reduceEqDiff,reduceAdd,g256,List.length_map]
   exact snap_tup2 nilG_snap (.tree _ rfl)
  have g256:¬ (256:Int)<(L1.length:Int):=by omega
  rw [if_neg h256] at hBi
  have qa:(A.length+1)*1<=140737488355328:=by omega
  have qr:(rows.length+1)*24<=140737488355328:=by omega
  simp only [go_sem,Nat.reducePow,Nat.reduceLeDiff,↓reduceIte,reduceLT,reduceEqDiff,reduceAdd,Nat.reduceMul,g256,List.length_map,qr]
  obtain ⟨A1,hA1e⟩:∃ A1,(L.take (i+1)).map acc=A1:=⟨_,rfl⟩
  rw [hA1e] at hA1
  have fin:∀ st,WkE 99 st ⟨[(1,vi y),(2,fa),(3,fn),(8,.ref 1 1 0 0),(10,.ref 2 1 0 0),(11,.mref 3 1),(12,.own 4 (L1).length 0 (L1).length)],objsexplA (.arr 1 4 79 [vset first]) y ks1 (L1.map vset) A1 (rows++[r1]) []⟩->∃ m s',m<257-i/\WkE 99 st s'/\∃ (i:Nat) (ks:List (MK × Value)) (L:List (List Bool)) (rows:List (List Int)),m=257-i/\rows.length=i/\i<=L.length/\L.length<=256/\(∀ t ∈ L,ok t)/\(∀ r ∈ rows,r.length=y)/\Numb ok keyS ks L/\B=bfsGo 256 (nextE raw) y (257-i) L rows /\
   s'=⟨[(1,vi y),(2,fa),(3,fn),(8,.ref 1 1 0 0),(10,.ref 2 1 0 0),(11,.mref 3 1),(12,.own 4 (L).length 0 (L).length)],objsexplA (.arr 1 4 79 [vset first]) y ks (L.map vset) ((L.take i).map acc) (rows) []⟩:=by
   intro st hst
   refine ⟨257-(i+1),_,by omega,hst,i+1,ks1,L1,rows++[r1],rfl,by simp [hri],?_,by omega,ho1,?_,hk1,hBi,?_⟩
   ·have:=hpre.length_le;omega
   ·intro r hr
    rcases List.mem_append.1 hr with hr | hr
    ·exact hrl r hr
    ·rw [List.mem_singleton.1 hr,hr1l]
   ·have e2:(L1.take (i+1)).map acc=A1:=by
     obtain ⟨r,hr⟩:=hpre
     rw [<-hr,List.take_append_of_le_length (by omega),hA1e]
    rw [e2]
  have hA1m:A.map vb++[vb (acc q)]=A1.map vb:=by rw [<-hA1,List.map_append];rfl
  have hA1l:A1.length=A.length+1:=by rw [<-hA1];simp
  have fin2:∀ env,Agree env [(1,vi y),(2,fa),(3,fn),(8,.ref 1 1 0 0),(10,.ref 2 1 0 0),(11,.mref 3 1),(12,.own 4 L1.length 0 L1.length)]->WkE 99 ⟨env,[.arr 1 4 79 [vset first],.arr 1 3 97 [nil3],.arr 1 3 97 [.agg [vi y,.own 5 (A.length+1) 0 (A.length+1),.own 6 (rows.length+1) 0 (rows.length+1)]],.arr 1 1 (mapT+11) [.val (mapV ks1)],.arr L1.length 4 79 (L1.map vset),.arr (A.length+1) 1 4 (A.map vb++[vb (acc q)]),.arr (rows.length+1) 1 22 (rows.map vints++[vints r1]),.arr 1 4 79 [vset q]]⟩ ⟨[(1,vi y),(2,fa),(3,fn),(8,.ref 1 1 0 0),(10,.ref 2 1 0 0),(11,.mref 3 1),(12,.own 4 (L1).length 0 (L1).length)],objsexplA (.arr 1 4 79 [vset first]) y ks1 (L1.map vset) A1 (rows++[r1]) []⟩:=by
   intro env henv
   have:=objsexplA_drop (m:=99) (env:=env) (env':=[(1,vi y),(2,fa),(3,fn),(8,.ref 1 1 0 0),(10,.ref 2 1 0 0),(11,.mref 3 1),(12,.own 4 L1.length 0 L1.length)]) first y ks1 L1 A1 (rows++[r1]) [] [.arr 1 4 79 [vset q]] henv (by simp only [List.all_cons,List.all_nil,(hfi _).1,(hfi _).2];rfl) rfl
   rw [objsexplA_eq] at this
   simp only [hA1l,<-hA1m,List.length_append,List.map_append,List.length_map,List.length_singleton,List.map_cons,List.map_nil] at this
   exact this
  refine ⟨?_,?_⟩
  ·refine callOk (hacc _) ?_
   simp only [go_sem,Nat.reducePow,Nat.reduceLeDiff,↓reduceIte,reduceLT,reduceEqDiff,reduceAdd,Nat.reduceMul,qa,List.length_map]
   exact ⟨⟨fin _ (fin2 _ (by simp only [go_sem,↓reduceIte,reduceEqDiff])),fin _ (fin2 _ (by simp only [go_sem,↓reduceIte,reduceEqDiff]))⟩,fin _ (fin2 _ (by simp only [go_sem,↓reduceIte,reduceEqDiff]))⟩
  ·refine callOk (hacc _) ?_
   simp only [go_sem,Nat.reducePow,Nat.reduceLeDiff,↓reduceIte,reduceLT,reduceEqDiff,reduceAdd,Nat.reduceMul,qa,List.length_map]
   exact fin _ (fin2 _ (by simp only [go_sem,↓reduceIte,reduceEqDiff]))
 rintro m z ⟨x,ks,rfl,hx,hks,hLo,rfl⟩
 by_cases hxy:x<y
 rotate_left
 ·obtain rfl:y=x:=by omega
  have hrl1:((rowGo nx (List.range y) L).1).length=y:=by rw [rowGo_len,List.length_range]
  obtain ⟨L1,hL1⟩:∃ L1,(rowGo nx (List.range y) L).2=L1:=⟨_,rfl⟩
  obtain ⟨r1,hr1⟩:∃ r1,(rowGo nx (List.range y) L).1=r1:=⟨_,rfl⟩
  rw [hL1] at hks hLo ⊢
  rw [hr1] at hrl1 ⊢
  rw [objsexplA_eq]
  simp only [go_sem,↓reduceIte,reduceLT,reduceEqDiff,reduceAdd,Int.lt_irrefl,partR_full hrl1]
  refine ⟨_,?_,ks,hks,hLo,rfl⟩
  have hz:=WkE.freeze (n:=99) (env:=[(1,vi y),(2,fa),(3,fn),(8,.ref 1 1 0 0),(10,.ref 2 1 0 0),(11,.mref 3 1),(12,.own 4 L1.length 0 L1.length),(13,.ref 7 1 0 0),(14,.own 8 y 0 y),(42,vi y),(43,vi y)]) (objs:=objsexplA (.arr 1 4 79 [vset first]) y ks (L1.map vset) A rows [.arr 1 4 79 [vset q],.arr y 1 3 (r1.map vi)]) 14 8 y 0 y 1 3 (r1.map vi) (by omega) rfl rfl (by simp [hrl1]) (isT_map (fun _=>rfl) _)
  have e1:((r1.map vi).drop 0).take y=r1.map vi:=by rw [List.drop_zero,List.take_of_length_le (by simp [hrl1])]
  rw [e1] at hz
  have hd:=objsexplA_drop (m:=99) (env:=(14,vints r1)::[(1,vi y),(2,fa),(3,fn),(8,.ref 1 1 0 0),(10,.ref 2 1 0 0),(11,.mref 3 1),(12,.own 4 L1.length 0 L1.length),(13,.ref 7 1 0 0),(14,.own 8 y 0 y),(42,vi y),(43,vi y)]) (env':=[(1,vi y),(2,fa),(3,fn),(8,.ref 1 1 0 0),(10,.ref 2 1 0 0),(11,.mref 3 1),(12,.own 4 L1.length 0 L1.length),(13,.ref 7 1 0 0),(14,vints r1)]) first y ks L1 A rows [.arr 1 4 79 [vset q]] [.dead] (by simp only [go_sem,↓reduceIte,reduceEqDiff];try rfl) (by simp only [List.all_cons,List.all_nil,(hfi _).1,(hfi _).2];rfl) rfl
  have hzd:=hz.trans hd
  simp only [objsexplA_eq,List.length_map,List.cons_append,List.nil_append] at hzd ⊢
  refine WkE.trans (WkE.keep ?_) hzd
  simp only [go_sem,↓reduceIte,reduceEqDiff];try rfl
 have hrx:((rowGo nx (List.range x) L).1).length=x:=by rw [rowGo_len,List.length_range]
 have hpx:=(rowGo_pre nx (List.range x) L).length_le
 have hrr:=rowGo_range nx x L
 have hlb:=rowGo_lb nx L x
 obtain ⟨Lx,hLx⟩:∃ Lx,(rowGo nx (List.range x) L).2=Lx:=⟨_,rfl⟩
 obtain ⟨rx,hrxe⟩:∃ rx,(rowGo nx (List.range x) L).1=rx:=⟨_,rfl⟩
 obtain ⟨L1,hL1⟩:∃ L1,(rowGo nx (List.range (x+1)) L).2=L1:=⟨_,rfl⟩
 obtain ⟨r1,hr1⟩:∃ r1,(rowGo nx (List.range (x+1)) L).1=r1:=⟨_,rfl⟩
 have hnx2:=nxv x
 simp only [hLx,hrxe] at hks hLo hrx hrr hpx hlb ⊢
 have gx:(x:Int)<(y:Int):=by omega
 have gx0:(0:Int)<=(x:Int):=by omega
 have wx:=wrap_s x (by omega)
 have hstep:=hn q x hqo hxy
 have hset:∀ v,((partR y rx).map vi).set x (vi v)=(partR y (rx++[v])).map vi:=fun v=>partR_set hrx v
 have hplen:=partR_len y rx
 obtain ⟨u0,hget⟩:∃ u0,((partR y rx).map vi)[x]? = some (vi u0):=⟨_,by rw [List.getElem?_map,List.getElem?_eq_getElem (by omega)];rfl⟩
 have fin:∀ (st:Est) (ks2:List (MK × Value)) (L2:List (List Bool)) (r2:List Int),L1=L2->r1=r2->Numb ok keyS ks2 L2->(∀ t ∈ L2,ok t)->WkE 99 st ⟨[(1,vi y),(2,fa),(3,fn),(8,.ref 1 1 0 0),(10,.ref 2 1 0 0),(11,.mref 3 1),(12,.own 4 (L2).length 0 (L2).length),(13,.ref 7 1 0 0),(14,.own 8 y 0 y),(42,vi y),(43,vi (x+1:Nat))],objsexplA (.arr 1 4 79 [vset first]) y ks2 (L2.map vset) (A) (rows) [.arr 1 4 79 [vset q],.arr y 1 3 ((partR y r2).map vi)]⟩ ->
  ∃ m s',m<y-x/\WkE 99 st s'/\∃ (x:Nat) (ks:List (MK × Value)),m=y-x/\x<=y/\Numb ok keyS ks (rowGo nx (List.range x) L).2/\(∀ t ∈ (rowGo nx (List.range x) L).2,ok t) /\
  s'=⟨[(1,vi y),(2,fa),(3,fn),(8,.ref 1 1 0 0),(10,.ref 2 1 0 0),(11,.mref 3 1),(12,.own 4 ((rowGo nx (List.range x) L).2).length 0 ((rowGo nx (List.range x) L).2).length),(13,.ref 7 1 0 0),(14,.own 8 y 0 y),(42,vi y),(43,vi x)],objsexplA (.arr 1 4 79 [vset first]) y ks (((rowGo nx (List.range x) L).2).map vset) (A) (rows) [.arr 1 4 79 [vset q],.arr y 1 3 ((partR y (rowGo nx (List.range x) L).1).map vi)]⟩:=by
  rintro st ks2 L2 r2 rfl rfl h1 h2 hst
  exact ⟨y-(x+1),_,by omega,hst,x+1,ks2,rfl,by omega,by rw [hL1];exact h1,by rw [hL1];exact h2,by rw [hL1,hr1]⟩
 have fin2:∀ env objs9 (ks2:List (MK × Value)) (L2:List (List Bool)) (r2:List Int),Agree env [(1,vi y),(2,fa),(3,fn),(8,.ref 1 1 0 0),(10,.ref 2 1 0 0),(11,.mref 3 1),(12,.own 4 L2.length 0 L2.length),(13,.ref 7 1 0 0),(14,.own 8 y 0 y),(42,vi y),(43,vi (x+1:Nat))]->WkE 99 ⟨env,[.arr 1 4 79 [vset first],.arr 1 3 97 [nil3],.arr 1 3 97 [.agg [vi y,.own 5 A.length 0 A.length,.own 6 rows.length 0 rows.length]],.arr 1 1 (mapT+11) [.val (mapV ks2)],.arr L2.length 4 79 (L2.map vset),.arr A.length 1 4 (A.map vb),.arr rows.length 1 22 (rows.map vints),.arr 1 4 79 [vset q],.arr y 1 3 ((partR y r2).map vi),objs9]⟩ ⟨[(1,vi y),(2,fa),(3,fn),(8,.ref 1 1 0 0),(10,.ref 2 1 0 0),(11,.mref 3 1),(12,.own 4 (L2).length 0 (L2).length),(13,.ref 7 1 0 0),(14,.own 8 y 0 y),(42,vi y),(43,vi (x+1:Nat))],objsexplA (.arr 1 4 79 [vset first]) y ks2 (L2.map vset) (A) (rows) [.arr 1 4 79 [vset q],.arr y 1 3 ((partR y r2).map vi)]⟩:=by
  intro env o9 ks2 L2 r2 henv
  have h1:(((partR y r2).map vi).all (AV.inn 9))=true:=inn_map fun _=>rfl
  have:=objsexplA_drop (m:=99) (env:=env) (env':=[(1,vi y),(2,fa),(3,fn),(8,.ref 1 1 0 0),(10,.ref 2 1 0 0),(11,.mref 3 1),(12,.own 4 L2.length 0 L2.length),(13,.ref 7 1 0 0),(14,.own 8 y 0 y),(42,vi y),(43,vi (x+1:Nat))]) first y ks2 L2 A rows [.arr 1 4 79 [vset q],.arr y 1 3 ((partR y r2).map vi)] [o9] henv (by simp only [List.all_cons,List.all_nil,(hfi _).1,(hfi _).2];rfl) (Bool.and_eq_true_iff.2 ⟨rfl,Bool.and_eq_true_iff.2 ⟨h1,rfl⟩⟩)
  simp only [objsexplA_eq,List.length_map,List.cons_append,List.nil_append] at this ⊢
  exact this
 rw [objsexplA_eq]
 simp only [go_sem,↓reduceIte,reduceLT,reduceEqDiff,reduceAdd,gx]
 refine callOk (hstep _) ?_
 cases hok:(raw q x).2 with
 | false =>
  simp only [hok,Bool.false_eq_true,if_false] at hnx2
  rw [hnx2] at hrr
  simp only [hL1,hr1,Prod.ext_iff] at hrr
  simp only [go_sem,↓reduceIte,reduceLT,reduceEqDiff,reduceAdd,gx,gx0,hget,hset,wx,Int.toNat_natCast]
  refine fin _ ks Lx (rx++[-1]) hrr.2 hrr.1 hks hLo (fin2 _ _ _ _ _ ?_)
  simp only [go_sem,↓reduceIte,reduceEqDiff];try rfl
 | true =>
  simp only [hok,if_true] at hnx2
  have hto:=hr q x hqo hxy hok
  obtain ⟨t,ht⟩:∃ t,(raw q x).1=t:=⟨_,rfl⟩
  rw [ht] at hnx2 hto ⊢
  rw [hnx2] at hrr
  simp only [hL1,hr1,Prod.ext_iff] at hrr
  have hk:=hks t hto
  by_cases hm:posF Lx t<Lx.length
  ·rw [if_pos hm] at hk
   have hk':kget ks (.a [wdi t 0,wdi t 1,wdi t 2,wdi t 3])=some (.int .i64 (posF Lx t:Nat)):=hk
   have hk1:addK Lx t=Lx:=by rw [addK,if_pos hm]
   rw [hk1] at hrr
   simp only [go_sem,↓reduceIte,reduceLT,reduceEqDiff,reduceAdd,gx,gx0,hget,hset,wx,hk',Int.toNat_natCast,Option.getD_some,Option.isSome_some]
   refine fin _ ks Lx (rx++[(posF Lx t:Int)]) hrr.2 hrr.1 hks hLo (fin2 _ _ _ _ _ ?_)
   simp only [go_sem,↓reduceIte,reduceEqDiff];try rfl
  ·rw [if_neg hm] at hk
   have hk':kget ks (.a [wdi t 0,wdi t 1,wdi t 2,wdi t 3])=none:=hk
   have hnm:t ∉ Lx:=fun h=>hm (posF_mem.2 h)
   have hk1:addK Lx t=Lx++[t]:=by rw [addK,if_neg hm]
   rw [hk1,posF_new hnm] at hrr
   have qL:(Lx.length+1)*32<=140737488355328:=by omega
   have hm1:Lx.map vset++[vset t]=(Lx++[t]).map vset:=by rw [List.map_append];rfl
   have hl1:(Lx++[t]).length=Lx.length+1:=by simp
   simp only [go_sem,Nat.reducePow,Nat.reduceLeDiff,↓reduceIte,reduceLT,reduceEqDiff,reduceAdd,Nat.reduceMul,gx,gx0,hget,hset,wx,hk',List.length_map,Int.toNat_natCast,Option.getD_none,Option.isSome_none,qL]
   have h2:=fun env o9 h=>fin2 env o9 (kset ks (keyS t) (.int .i64 (Lx.length:Nat))) (Lx++[t]) (rx++[(Lx.length:Int)]) h
   rw [hl1] at h2
   rw [<-hm1] at h2
   refine fin _ (kset ks (keyS t) (.int .i64 (Lx.length:Nat))) (Lx++[t]) (rx++[(Lx.length:Int)]) hrr.2 hrr.1 (hks.add hinj hto hnm) ?_ ?_
   ·intro u hu
    rcases List.mem_append.1 hu with hu | hu
    ·exact hLo u hu
    ·rw [List.mem_singleton.1 hu];exact hto
   ·rw [hl1,<-hm1]
    exact h2 _ _ (by simp only [go_sem,↓reduceIte,reduceEqDiff];try rfl)
end Go.Proofs.Ytjilachpkjlhdaa
namespace Go.Proofs.Ytjilachpkjlhdaa
open Go.RowKit Dak P5
open Nat (reduceEqDiff reduceLT reduceAdd)
def kb:List Int->List Int
 | []=>[]
 | c::l=>IntKind.u8.wrap (c.fdiv 256)::IntKind.u8.wrap c::kb l
theorem kb_snoc (c:Int):∀ l,kb (l++[c])=kb l++[IntKind.u8.wrap (c.fdiv 256),IntKind.u8.wrap c]
 | []=>rfl
 | d::l=>by rw [List.cons_append,kb,kb,kb_snoc c l];rfl
theorem kb_len:∀ l,(kb l).length=2*l.length
 | []=>rfl
 | c::l=>by rw [kb,List.length_cons,List.length_cons,List.length_cons,kb_len l];omega
def keyB (l:List Int):MK:=.s (bytesOf ((kb l).map vc))
theorem byte_inj {m n:Int} (h1:0<=m) (h2:m<256) (h3:0<=n) (h4:n<256) (h:UInt8.ofNat m.toNat=UInt8.ofNat n.toNat):m=n:=by
 have h5:=congrArg UInt8.toNat h
 rw [UInt8.toNat_ofNat',UInt8.toNat_ofNat'] at h5
 omega
theorem kb_inj:∀ (l m:List Int),l.length=m.length->(∀ c ∈ l,-1<=c/\c<32768)->(∀ c ∈ m,-1<=c/\c<32768)->(kb l).map (fun n=>UInt8.ofNat n.toNat)=(kb m).map (fun n=>UInt8.ofNat n.toNat)->l=m
 | [],[],_,_,_,_=>rfl
 | c::l,d::m,hl,h1,h2,h=>by
  simp only [kb,List.map_cons,List.cons.injEq] at h
  obtain ⟨e1,e2,e3⟩:=h
  have hc:=h1 c (by simp)
  have hd:=h2 d (by simp)
  have f:∀ x:Int,x.fdiv 256=x / 256:=fun x=>Int.fdiv_eq_ediv_of_nonneg x (by omega)
  rw [f,f] at e1
  have w:∀ x,IntKind.u8.wrap x=x % 256:=fun x=>by rw [IntKind.wrap_u8]
  rw [w,w] at e1 e2
  have a1:=byte_inj (by omega) (by omega) (by omega) (by omega) e1
  have a2:=byte_inj (by omega) (by omega) (by omega) (by omega) e2
  have e:c=d:=by omega
  rw [e,kb_inj l m (by simpa using hl) (fun c hc=>h1 c (by simp [hc])) (fun c hc=>h2 c (by simp [hc])) e3]
theorem bytesOf_vc (l:List Int):bytesOf (l.map vc)=⟨(l.map fun n=>UInt8.ofNat n.toNat).toArray⟩:=by
 unfold bytesOf
 rw [List.map_map]
 rfl
def KeyOk (y:Nat) (l:List Int):Prop:=l.length=y/\∀ c ∈ l,-1<=c/\c<32768
theorem keyB_inj (y:Nat):∀ s t,KeyOk y s->KeyOk y t->keyB s=keyB t->s=t:=by
 intro s t hs ht h
 simp only [keyB,MK.s.injEq,bytesOf_vc,ByteArray.mk.injEq] at h
 refine kb_inj s t (by rw [hs.1,ht.1]) hs.2 ht.2 ?_
 have:=congrArg Array.toList h
 simpa using this
theorem all_tt {α : Type}:∀ l:List α,(l.all fun _=>true)=true
 | []=>rfl
 | x::l=>by rw [List.all_cons,all_tt l];rfl
theorem n8:¬ (8:Int)<0:=by omega
theorem p8:(2 ^ min 8 64:Int)=256:=rfl
end Go.Proofs.Ytjilachpkjlhdaa
namespace Go.Proofs.Ytjilachpkjlhdaa
open Go.RowKit Dak P5
open Nat (reduceEqDiff reduceLT reduceAdd)
abbrev tmask (_:Nat):Bool:=true
theorem tmask_mask {g:Gr} (ht:∀ i x,¬ gto g i x<0->∃ w,lang g w (gto g i x).toNat=true):Mask g tmask:=⟨fun _ _ _=>rfl,fun i x _ _ h0 _=>ht i x h0⟩
def accP (g:Gr) (n k:Nat):List AV:=rg n fun q=>vi (if q<k/\bt g.acc q=true then 1 else 0)
theorem accP_zero (g:Gr) (n:Nat):(rg n fun _=>vi 0)=accP g n 0:=rg_congr fun q _=>by rw [if_neg (by omega)]
theorem accP_f {g:Gr} {n k:Nat} (h:bt g.acc k=false):accP g n k=accP g n (k+1):=rg_congr fun q _=>by
 by_cases e:q=k
 ·subst e;simp only [h,Bool.false_eq_true,and_false,if_false]
 ·have:q<k ↔ q<k+1:=by omega
  simp only [this]
theorem accP_t {g:Gr} {n k:Nat} (h:bt g.acc k=true):(accP g n k).set k (vi 1)=accP g n (k+1):=by
 rw [accP,rg_set]
 refine rg_congr fun q _=>?_
 by_cases e:q=k
 ·subst e;simp only [h,and_true,Nat.lt_add_one,if_true]
 ·rw [if_neg e]
  have:q<k ↔ q<k+1:=by omega
  simp only [this]
theorem accP_get {g:Gr} {n k:Nat} (h:k<n):∃ u,(accP g n k)[k]? = some (vi u):=⟨_,rg_get h _⟩
theorem accP_all {g:Gr} {n:Nat} (h:g.acc.length=n):accP g n n=(accI g tmask).map vi:=by
 apply List.ext_getElem?
 intro j
 by_cases hj:j<n
 ·rw [accP,rg_get hj,accI,List.getElem?_map,List.getElem?_map,List.getElem?_range (by omega)]
  simp [hj]
 ·rw [List.getElem?_eq_none (by rw [accP,rg_len];omega),List.getElem?_eq_none (by simp [accI];omega)]
def deadP (lv:List Bool) (c:List Int) (n k:Nat):List AV:=rg n fun q=>vi (if q<k/\bt lv q=false then -1 else cg c q)
theorem deadP_zero {lv:List Bool} {c:List Int} {n:Nat} (h:c.length=n):c.map vi=deadP lv c n 0:=by
 apply List.ext_getElem?
 intro j
 by_cases hj:j<n
 ·rw [deadP,rg_get hj,cg_get (by omega),if_neg (by omega)]
 ·rw [List.getElem?_eq_none (by rw [List.length_map];omega),List.getElem?_eq_none (by rw [deadP,rg_len];omega)]
theorem deadP_t {lv:List Bool} {c:List Int} {n k:Nat} (h:bt lv k=true):deadP lv c n k=deadP lv c n (k+1):=rg_congr fun q _=>by
 by_cases e:q=k
 ·subst e;simp only [h,Bool.true_eq_false,and_false,if_false]
 ·have:q<k ↔ q<k+1:=by omega
  simp only [this]
theorem deadP_f {lv:List Bool} {c:List Int} {n k:Nat} (h:bt lv k=false):(deadP lv c n k).set k (vi (-1))=deadP lv c n (k+1):=by
 rw [deadP,rg_set]
 refine rg_congr fun q _=>?_
 by_cases e:q=k
 ·subst e;simp only [h,and_true,Nat.lt_add_one,if_true]
 ·rw [if_neg e]
  have:q<k ↔ q<k+1:=by omega
  simp only [this]
theorem deadP_get {lv:List Bool} {c:List Int} {n k:Nat} (h:k<n):∃ u,(deadP lv c n k)[k]? = some (vi u):=⟨_,rg_get h _⟩
theorem deadP_all (lv:List Bool) (c:List Int) (n:Nat):deadP lv c n n=((List.range n).map fun i=>if bt lv i=true then cg c i else -1).map vi:=by
 rw [List.map_map]
 refine List.map_congr_left fun q hq=>?_
 have:=List.mem_range.1 hq
 show vi _=vi _
 cases h:bt lv q <;> simp only [this,h,and_true,and_false,Bool.true_eq_false,Bool.false_eq_true,if_true,if_false]
theorem ren_two (g:Gr) (n:Nat) (l:List Int) (o1 o2:AObj):Ren (fun k=>if k=0 then 0 else 3) [oG g,.arr n 1 3 (l.map vi)] [oG g,o1,o2,.arr n 1 3 (l.map vi)]:=by
 refine ⟨fun i j hi hj e=>?_,fun i g' s e xs h=>?_⟩
 ·have b:∀ k,isArr [oG g,.arr n 1 3 (l.map vi)] k=true->k<2:=fun k hk=>by
   obtain ⟨_,_,_,_,h⟩:=isArr_some hk
   have:=(List.getElem?_eq_some_iff.1 h).1
   simpa using this
  have h1:=b i hi
  have h2:=b j hj
  have e:(if i=0 then 0 else 3)=(if j=0 then 0 else 3):=e
  split at e <;> split at e <;> omega
 ·match i,h with
  | 0,h =>
   simp only [List.getElem?_cons_zero,Option.some.injEq,AObj.arr.injEq] at h
   obtain ⟨rfl,rfl,rfl,rfl⟩:=h
   rfl
  | 1,h =>
   simp only [List.getElem?_cons_succ,List.getElem?_cons_zero,Option.some.injEq,AObj.arr.injEq] at h
   obtain ⟨rfl,rfl,rfl,rfl⟩:=h
   rw [List.map_map]
   rfl
  | i+2,h=>simp at h
set_option maxHeartbeats 4000000 in
theorem classes_s (g:Gr) (h:GrOk g) (hnb:g.acc.length<=257) (hyb:g.sy<=1000) (ht:∀ i x,¬ gto g i x<0->∃ w,lang g w (gto g i x).toNat=true):Ctr Try.prog 76 [vgr g] (vints (classesP g)):=by
 refine specC f76 (by simp) fun F0 w0=>?_
 obtain ⟨n,hn⟩:∃ n,g.acc.length=n:=⟨_,rfl⟩
 have hlv:=live_s g h hnb hyb
 have hll:=live_len g
 have hto:g.to.length=n:=by rw [h.len,hn]
 have q0:(0:Int)<=(n:Int):=by omega
 have q2:((8:Nat):Int)*(n:Int)<=281474976710656:=by omega
 have q3:(n:Int)<=9223372036854775807:=by omega
 unfold c76
 refine CwpE.cut (st:=⟨[(1,.ref 0 1 0 0)],[oG g]⟩) ?_ ?_
 ·simp only [go_sem,↓reduceIte,reduceLT,reduceAdd]
  exact ⟨_,WkE.kp,rfl⟩
 refine CwpE.cut (st:=⟨[(1,.ref 0 1 0 0),(3,.own 1 n 0 n)],[oG g,.arr n 1 3 (accP g n 0)]⟩) ?_ ?_
 ·rw [<-accP_zero]
  simp only [go_sem,↓reduceIte,reduceLT,List.length_map,hto,q0,q2,q3,Int.le_refl,Int.toNat_natCast,rg_rep]
  exact ⟨_,WkE.kp,rfl⟩
 refine CwpE.step (fun z=>z=⟨[(1,.ref 0 1 0 0),(3,.own 1 n 0 n)],[oG g,.arr n 1 3 ((accI g tmask).map vi)]⟩) ?_ ?_
 ·simp only [go_sem,↓reduceIte,reduceLT,List.length_map,hn]
  refine loopX 0 (fun m z=>∃ k:Nat,m=n-k/\k<=n/\z=⟨[(1,.ref 0 1 0 0),(3,.own 1 n 0 n),(24,vbools g.acc),(25,vi n),(26,vi k)],[oG g,.arr n 1 3 (accP g n k)]⟩)
   (fun z=>z=⟨[(1,.ref 0 1 0 0),(3,.own 1 n 0 n)],[oG g,.arr n 1 3 ((accI g tmask).map vi)]⟩) n
   ⟨[(1,.ref 0 1 0 0),(3,.own 1 n 0 n),(24,vbools g.acc),(25,vi n),(26,vi (0:Nat))],[oG g,.arr n 1 3 (accP g n 0)]⟩ (WkE.kp) ⟨0,by omega,by omega,rfl⟩ ?_ ?_
  rotate_left
  ·rintro z rfl
   simp only [go_sem,↓reduceIte]
   exact ⟨_,.refl _ _,rfl⟩
  rintro m z ⟨k,rfl,hk,rfl⟩
  by_cases hlt:k<n
  rotate_left
  ·obtain rfl:k=n:=by omega
   rw [accP_all hn]
   simp only [go_sem,↓reduceIte,reduceLT,reduceEqDiff,Int.lt_irrefl]
   exact ⟨_,WkE.kp,rfl⟩
  have g1:(k:Int)<(n:Int):=by omega
  have g0:(0:Int)<=(k:Int):=by omega
  have w1:=wrap_s k (by omega)
  have hag:=bt_get (s:=g.acc) (k:=k) (by omega)
  obtain ⟨u0,hu⟩:=accP_get (g:=g) hlt
  cases hc:bt g.acc k with
  | false =>
   rw [hc] at hag
   have e1:=accP_f (n:=n) hc
   simp only [go_sem,↓reduceIte,reduceLT,reduceEqDiff,g1,g0,hag,w1,Int.toNat_natCast]
   refine ⟨n-(k+1),⟨[(1,.ref 0 1 0 0),(3,.own 1 n 0 n),(24,vbools g.acc),(25,vi n),(26,vi (k+1:Nat))],[oG g,.arr n 1 3 (accP g n (k+1))]⟩,by omega,?_,k+1,rfl,by omega,rfl⟩
   rw [<-e1]
   exact WkE.kp
  | true =>
   rw [hc] at hag
   have e1:=accP_t (n:=n) hc
   simp only [go_sem,↓reduceIte,reduceLT,reduceEqDiff,g1,g0,hag,hu,e1,w1,Int.toNat_natCast]
   exact ⟨n-(k+1),⟨[(1,.ref 0 1 0 0),(3,.own 1 n 0 n),(24,vbools g.acc),(25,vi n),(26,vi (k+1:Nat))],[oG g,.arr n 1 3 (accP g n (k+1))]⟩,by omega,WkE.kp,k+1,rfl,by omega,rfl⟩
 rintro _ rfl
 have hcP:classesP g=(List.range n).map fun i=>if bt (liveM g) i then cg (clsP g tmask (n+1) (accI g tmask) 0) i else -1:=by rw [classesP,hn]
 rw [hcP]
 refine CwpE.cut (st:=⟨[(1,.ref 0 1 0 0),(3,.own 1 n 0 n),(6,vi (0:Nat))],[oG g,.arr n 1 3 ((accI g tmask).map vi)]⟩) ?_ ?_
 ·simp only [go_sem,↓reduceIte,reduceLT]
  exact ⟨_,WkE.kp,rfl⟩
 have hR0:=accI_ref g tmask
 have hmask:=tmask_mask ht
 have hb0:∀ i,i<n->cg (accI g tmask) i<32768:=fun i hi=>by rw [accI_get (by omega)];split <;> (try split) <;> omega
 generalize accI g tmask=c0 at hR0 hb0 ⊢
 obtain ⟨RS,hRS⟩:∃ RS,clsP g tmask (n+1) c0 0=RS:=⟨_,rfl⟩
 rw [hRS]
 refine CwpE.step (fun z=>RS.length=n/\z=⟨[(1,.ref 0 1 0 0),(3,.own 1 n 0 n)],[oG g,.arr n 1 3 (RS.map vi)]⟩) ?_ ?_
 rotate_left
 ·rintro _ ⟨hRSl,rfl⟩
  obtain ⟨lv,hlve⟩:∃ lv,liveM g=lv:=⟨_,rfl⟩
  rw [hlve] at hlv hll ⊢
  refine CwpE.step (fun z=>z=⟨[(3,.own 1 n 0 n)],[oG g,.arr n 1 3 (deadP lv RS n n)]⟩) ?_ ?_
  rotate_left
  ·rintro _ rfl
   refine CwpE.vc ?_
   rw [deadP_all]
   simp only [go_sem,↓reduceIte,reduceLT]
   refine .own 1 n 0 n 1 3 _ _ rfl (by simp) (by simp) fun q hq=>?_
   simp only [Nat.zero_add]
   exact .tree _ (List.all_eq_true.1 (isT_map (fun _=>rfl) _) _ (List.getElem_mem _))
  rw [deadP_zero (lv:=lv) hRSl]
  simp only [go_sem,↓reduceIte,reduceLT,reduceAdd]
  refine callT hlv rfl ?_
  have hlvn:lv.length=n:=by omega
  simp only [go_sem,↓reduceIte,reduceLT,List.length_map,hlvn]
  refine loopX 8 (fun m z=>∃ k:Nat,m=n-k/\k<=n/\z=⟨[(3,.own 1 n 0 n),(109,vbools lv),(110,vi n),(111,vi k)],[oG g,.arr n 1 3 (deadP lv RS n k)]⟩)
   (fun z=>z=⟨[(3,.own 1 n 0 n)],[oG g,.arr n 1 3 (deadP lv RS n n)]⟩) n
   ⟨[(3,.own 1 n 0 n),(109,vbools lv),(110,vi n),(111,vi (0:Nat))],[oG g,.arr n 1 3 (deadP lv RS n 0)]⟩ (WkE.kp) ⟨0,by omega,by omega,rfl⟩ ?_ ?_
  rotate_left
  ·rintro z rfl
   simp only [go_sem,↓reduceIte]
   exact ⟨_,.refl _ _,rfl⟩
  rintro m z ⟨k,rfl,hk,rfl⟩
  by_cases hlt:k<n
  rotate_left
  ·obtain rfl:k=n:=by omega
   simp only [go_sem,↓reduceIte,reduceLT,reduceEqDiff,Int.lt_irrefl]
   exact ⟨_,WkE.kp,rfl⟩
  have g1:(k:Int)<(n:Int):=by omega
  have g0:(0:Int)<=(k:Int):=by omega
  have w1:=wrap_s k (by omega)
  have hag:=bt_get (s:=lv) (k:=k) (by omega)
  obtain ⟨u0,hu⟩:=deadP_get (lv:=lv) (c:=RS) hlt
  cases hc:bt lv k with
  | true =>
   rw [hc] at hag
   have e1:=deadP_t (c:=RS) (n:=n) hc
   simp only [go_sem,↓reduceIte,reduceLT,reduceEqDiff,g1,g0,hag,w1,Int.toNat_natCast]
   refine ⟨n-(k+1),⟨[(3,.own 1 n 0 n),(109,vbools lv),(110,vi n),(111,vi (k+1:Nat))],[oG g,.arr n 1 3 (deadP lv RS n (k+1))]⟩,by omega,?_,k+1,rfl,by omega,rfl⟩
   rw [<-e1]
   exact WkE.kp
  | false =>
   rw [hc] at hag
   have e1:=deadP_f (c:=RS) (n:=n) hc
   simp only [go_sem,↓reduceIte,reduceLT,reduceEqDiff,g1,g0,hag,hu,e1,w1,Int.toNat_natCast]
   exact ⟨n-(k+1),⟨[(3,.own 1 n 0 n),(109,vbools lv),(110,vi n),(111,vi (k+1:Nat))],[oG g,.arr n 1 3 (deadP lv RS n (k+1))]⟩,by omega,WkE.kp,k+1,rfl,by omega,rfl⟩
 simp only [go_sem]
 refine loopX 2 (fun m z=>∃ (c:List Int) (many:Nat),Ref g tmask c many/\(∀ i,i<n->cg c i<32768)/\n-many<m/\clsP g tmask m c many=RS/\z=⟨[(1,.ref 0 1 0 0),(3,.own 1 n 0 n),(6,vi many)],[oG g,.arr n 1 3 (c.map vi)]⟩)
  (fun z=>RS.length=n/\z=⟨[(1,.ref 0 1 0 0),(3,.own 1 n 0 n)],[oG g,.arr n 1 3 (RS.map vi)]⟩) (n+1) ⟨[(1,.ref 0 1 0 0),(3,.own 1 n 0 n),(6,vi (0:Nat))],[oG g,.arr n 1 3 (c0.map vi)]⟩ (.refl _ _) ⟨c0,0,hR0,hb0,by omega,hRS,rfl⟩ ?_ ?_
 rotate_left
 ·rintro z ⟨hl,rfl⟩
  simp only [go_sem,↓reduceIte]
  exact ⟨_,.refl _ _,hl,rfl⟩
 rintro m z ⟨c,many,hRef,hcb,hmn,hRc,rfl⟩
 obtain ⟨f,rfl⟩:∃ f,m=f+1:=⟨m-1,by omega⟩
 have hcl:=hRef.len
 rw [hn] at hcl
 have hle:=step_le hRef
 rw [clsP] at hRc
 obtain ⟨nx,hnx⟩:∃ nx,maskO g tmask c=nx:=⟨_,rfl⟩
 have hnxv:∀ i,nx i=some (keyM g c i):=fun i=>by rw [<-hnx];rfl
 have hstep:clsStep g tmask c=rowGo nx (List.range n) []:=by rw [clsStep,hnx,hn]
 have hsr:=step_ref h hmask hRef
 rw [hstep] at hRc hle hsr
 obtain ⟨RR,hRR⟩:∃ RR:Nat->List Int,RR=fun i=>(rowGo nx (List.range i) []).1:=⟨_,rfl⟩
 obtain ⟨KS,hKS⟩:∃ KS:Nat->List (List Int),KS=fun i=>(rowGo nx (List.range i) []).2:=⟨_,rfl⟩
 have hRRl:∀ i,(RR i).length=i:=fun i=>by rw [hRR];simp only;rw [rowGo_len,List.length_range]
 have hKle:∀ i,i<=n->(KS i).length<=257:=fun i hi=>by
  have h1:=(rowGo_part nx hi ([]:List (List Int))).length_le
  rw [hKS]
  simp only
  omega
 have hsome:∀ i,RR (i+1)=RR i++[((posF (KS i) (keyM g c i):Nat):Int)]/\KS (i+1)=addK (KS i) (keyM g c i):=fun i=>by
  have:=rowGo_range nx i ([]:List (List Int))
  rw [hnxv] at this
  rw [hRR,hKS]
  simp only
  rw [this]
  exact ⟨rfl,rfl⟩
 have hRRq:∀ k i,i<k->∃ u,(RR k)[i]? = some u/\u=((posF (KS i) (keyM g c i):Nat):Int):=fun k=>by
  induction k with
  | zero=>intro i hi;omega
  | succ k ih =>
   intro i hi
   rw [(hsome k).1]
   by_cases e:i=k
   ·subst e
    exact ⟨_,by rw [List.getElem?_append_right (by rw [hRRl];exact Nat.le_refl _),hRRl,Nat.sub_self];rfl,rfl⟩
   ·obtain ⟨u,h1,h2⟩:=ih i (by omega)
    exact ⟨u,by rw [List.getElem?_append_left (by rw [hRRl];omega)];exact h1,h2⟩
 have hRRp:∀ i (hi:i<n),(RR n)[i]'(by rw [hRRl];exact hi)=((posF (KS i) (keyM g c i):Nat):Int):=fun i hi=>by
  obtain ⟨u,h1,h2⟩:=hRRq n i hi
  rw [List.getElem?_eq_getElem (by rw [hRRl];exact hi)] at h1
  rw [Option.some.inj h1,h2]
 have hRn:RR n=(rowGo nx (List.range n) []).1:=by rw [hRR]
 have hKn':KS n=(rowGo nx (List.range n) []).2:=by rw [hKS]
 have hK0:KS 0=[]:=by rw [hKS];rfl
 have hR0':RR 0=[]:=by rw [hRR];rfl
 rw [<-hRn,<-hKn'] at hRc hsr
 rw [<-hKn'] at hle
 clear hRR hKS hstep
 simp only [go_sem,↓reduceIte,reduceLT,reduceEqDiff,reduceAdd,List.length_map,hto,q0,q2,q3,Int.le_refl,Int.toNat_natCast,rg_rep]
 obtain ⟨y,hy⟩:∃ y,g.sy=y:=⟨_,rfl⟩
 have hKok:∀ i,i<n->KeyOk (y+1) (keyM g c i):=fun i hi=>by
  refine ⟨by rw [keyM,List.length_cons,List.length_map,rowAt_len h (by omega),hy],fun d hd=>?_⟩
  have hc0:∀ j,j<n->-1<=cg c j/\cg c j<32768:=fun j hj=>⟨by have:=hRef.pos j (by omega) rfl;omega,hcb j hj⟩
  rcases List.mem_cons.1 hd with rfl | hd
  ·exact hc0 i hi
  ·obtain ⟨t,ht,rfl⟩:=List.mem_map.1 hd
   split
   ·omega
   ·rename_i h0
    obtain ⟨x,hx,rfl⟩:=List.getElem_of_mem ht
    rw [rowAt_get hx] at h0 ⊢
    exact hc0 _ (by have:=gto_lt h h0;omega)
 refine loopX 4 (fun m z=>∃ (i:Nat) (ks:List (MK × Value)),m=n-i/\i<=n/\Numb (KeyOk (y+1)) keyB ks (KS i)/\(∀ l ∈ KS i,KeyOk (y+1) l)/\ks.length=(KS i).length /\
  z=⟨[(1,.ref 0 1 0 0),(3,.own 1 n 0 n),(6,vi many),(7,.mref 2 1),(8,.own 3 n 0 n),(41,vrows g.to),(42,vi n),(43,vi i)],[oG g,.arr n 1 3 (c.map vi),.arr 1 1 (mapT+1) [.val (mapV ks)],.arr n 1 3 (nums n (RR i) i 0)]⟩)
  (fun z=>∃ ks:List (MK × Value),ks.length=(KS n).length/\z=⟨[(1,.ref 0 1 0 0),(3,.own 1 n 0 n),(6,vi many),(7,.mref 2 1),(8,.own 3 n 0 n)],[oG g,.arr n 1 3 (c.map vi),.arr 1 1 (mapT+1) [.val (mapV ks)],.arr n 1 3 ((RR n).map vi)]⟩) n
  ⟨[(1,.ref 0 1 0 0),(3,.own 1 n 0 n),(6,vi many),(7,.mref 2 1),(8,.own 3 n 0 n),(41,vrows g.to),(42,vi n),(43,vi (0:Nat))],[oG g,.arr n 1 3 (c.map vi),.arr 1 1 (mapT+1) [.val (mapV [])],.arr n 1 3 (nums n (RR 0) 0 0)]⟩ ?_ ⟨0,[],by omega,by omega,?_,by rw [hK0];simp,by rw [hK0];rfl,rfl⟩ ?_ ?_
 ·rw [hR0',nums_zero]
  exact WkE.kp
 ·intro t _
  rw [hK0]
  rfl
 rotate_left
 ·rintro z ⟨ks,hkl,rfl⟩
  by_cases he:(KS n).length=many
  ·rw [if_pos he] at hRc
   have heI:(ks.length:Int)=(many:Int):=by omega
   simp only [go_sem,↓reduceIte,reduceLT,reduceEqDiff,reduceAdd,heI]
   refine ⟨_,?_,by rw [<-hRc];exact hcl,rfl⟩
   rw [<-hRc]
   have hin:((c.map vi).all (AV.inn 2))=true:=inn_map fun _=>rfl
   exact WkE.round (by simp only [go_sem,↓reduceIte,reduceEqDiff];try rfl) rfl (Bool.and_eq_true_iff.2 ⟨rfl,Bool.and_eq_true_iff.2 ⟨hin,rfl⟩⟩) rfl
  ·rw [if_neg he] at hRc
   have heI:¬ (ks.length:Int)=(many:Int):=by omega
   simp only [go_sem,↓reduceIte,reduceLT,reduceEqDiff,reduceAdd,heI]
   rw [hkl]
   refine ⟨f,⟨[(1,.ref 0 1 0 0),(3,.own 1 n 0 n),(6,vi (KS n).length)],[oG g,.arr n 1 3 ((RR n).map vi)]⟩,by omega,?_,RR n,(KS n).length,hsr,?_,by omega,hRc,rfl⟩
   ·refine WkE.rename (fun k=>if k=0 then 0 else 3) (ren_two _ _ _ _ _) (by simp [AObj.inRO,AV.inR,AV.inR1]) ?_
    exact ⟨rfl,rfl,rfl,rfl,rfl,rfl,trivial⟩
   ·intro i hi
    obtain ⟨h1,_⟩:=hsome i
    have hb:=hKle (i+1) (by omega)
    have hpl:=posF_le (KS i) (keyM g c i)
    have hle2:=hKle i (by omega)
    have e1:(RR n)[i]'(by rw [hRRl];exact hi)=((posF (KS i) (keyM g c i):Nat):Int):=hRRp i hi
    rw [cg,List.getD_eq_getElem?_getD,List.getElem?_eq_getElem (by rw [hRRl];exact hi),e1]
    show ((posF (KS i) (keyM g c i):Nat):Int)<32768
    omega
 rintro m z ⟨i,ks,rfl,hi,hks,hKo,hkl,rfl⟩
 by_cases hlt:i<n
 rotate_left
 ·obtain rfl:i=n:=by omega
  rw [nums_all (hRRl i)]
  simp only [go_sem,↓reduceIte,reduceLT,reduceEqDiff,reduceAdd,Int.lt_irrefl]
  exact ⟨_,WkE.kp,ks,hkl,rfl⟩
 have g1:(i:Int)<(n:Int):=by omega
 have g0:(0:Int)<=(i:Int):=by omega
 have w1:=wrap_s i (by omega)
 have hrow:=row_get h (i:=i) (by omega)
 have hrl:=rowAt_len h (i:=i) (by omega)
 have hcg:=cg_get (c:=c) (i:=i) (by omega)
 simp only [go_sem,Nat.reducePow,Nat.reduceLeDiff,↓reduceIte,reduceCtorEq,reduceLT,reduceEqDiff,reduceAdd,Nat.reduceSub,Nat.reduceMul,Int.reduceToNat,g1,g0,hrow,hcg,List.length_map,Int.toNat_natCast,n8,p8]
 obtain ⟨ts,hts⟩:∃ ts:List Int,(P5.rowAt g i).map (fun t=>if t<0 then -1 else cg c t.toNat)=ts:=⟨_,rfl⟩
 have hkM:keyM g c i=cg c i::ts:=by rw [keyM,hts]
 have htl:ts.length=y:=by rw [<-hts,List.length_map,hrl,hy]
 rw [hy] at hrl
 obtain ⟨KB,hKB⟩:∃ KB:Nat->List Int,KB=fun p=>kb (cg c i::ts.take p):=⟨_,rfl⟩
 have hKB0:(KB 0).map vc=[vc (IntKind.u8.wrap ((cg c i).fdiv 256)),vc (IntKind.u8.wrap (cg c i))]:=by rw [hKB];rfl
 have hKBl:∀ p,p<=y->(KB p).length=2*p+2:=fun p hp=>by rw [hKB];simp only;rw [kb_len,List.length_cons,List.length_take];omega
 have hKBs:∀ p (hp:p<y),(KB p).map vc++[vc (IntKind.u8.wrap ((ts[p]'(by omega)).fdiv 256)),vc (IntKind.u8.wrap (ts[p]'(by omega)))]=(KB (p+1)).map vc:=fun p hp=>by
  rw [hKB]
  simp only
  rw [List.take_succ_eq_append_getElem (by omega),<-List.cons_append,kb_snoc,List.map_append]
  rfl
 have hKBy:keyB (keyM g c i) = .s (bytesOf ((KB y).map vc)):=by rw [hkM,keyB,hKB];simp only;rw [List.take_of_length_le (by omega)]
 clear hKB
 rw [<-hKB0]
 refine loopX 6 (fun m z=>∃ p:Nat,m=y-p/\p<=y /\
  z=⟨[(1,.ref 0 1 0 0),(3,.own 1 n 0 n),(6,vi many),(7,.mref 2 1),(8,.own 3 n 0 n),(9,vi i),(11,.own 4 (2*p+2) 0 (2*p+2)),(41,vrows g.to),(42,vi n),(43,vi i),(60,vints (P5.rowAt g i)),(61,vi y),(62,vi p)],[oG g,.arr n 1 3 (c.map vi),.arr 1 1 (mapT+1) [.val (mapV ks)],.arr n 1 3 (nums n (RR i) i 0),.arr (2*p+2) 1 5 ((KB p).map vc)]⟩)
  (fun z=>z=⟨[(1,.ref 0 1 0 0),(3,.own 1 n 0 n),(6,vi many),(7,.mref 2 1),(8,.own 3 n 0 n),(9,vi i),(11,.own 4 (2*y+2) 0 (2*y+2)),(41,vrows g.to),(42,vi n),(43,vi i)],[oG g,.arr n 1 3 (c.map vi),.arr 1 1 (mapT+1) [.val (mapV ks)],.arr n 1 3 (nums n (RR i) i 0),.arr (2*y+2) 1 5 ((KB y).map vc)]⟩) y
  ⟨[(1,.ref 0 1 0 0),(3,.own 1 n 0 n),(6,vi many),(7,.mref 2 1),(8,.own 3 n 0 n),(9,vi i),(11,.own 4 (2*0+2) 0 (2*0+2)),(41,vrows g.to),(42,vi n),(43,vi i),(60,vints (P5.rowAt g i)),(61,vi y),(62,vi (0:Nat))],[oG g,.arr n 1 3 (c.map vi),.arr 1 1 (mapT+1) [.val (mapV ks)],.arr n 1 3 (nums n (RR i) i 0),.arr (2*0+2) 1 5 ((KB 0).map vc)]⟩ ?_ ⟨0,by omega,by omega,rfl⟩ ?_ ?_
 ·rw [<-hrl]
  exact WkE.keep (by simp only [go_sem,↓reduceIte,reduceEqDiff,Nat.reduceMul];try rfl)
 rotate_left
 ·rintro z rfl
  have hKyl:=hKBl y (by omega)
  have htk:((KB y).map vc).take (2*y+2)=(KB y).map vc:=List.take_of_length_le (by rw [List.length_map,hKyl];omega)
  have hget:=nums_get (n:=n) (rr:=RR i) (i:=i) (v:=0) hlt
  have hns:∀ w,(nums n (RR i) i 0).set i (vi w)=nums n (RR i) i w:=fun w=>nums_set
  obtain ⟨h1,h2⟩:=hsome i
  have hk:=hks _ (hKok i hlt)
  rw [hKBy] at hk
  have hin:∀ ks' v,([oG g,.arr n 1 3 (c.map vi),.arr 1 1 (mapT+1) [.val (mapV ks')],.arr n 1 3 (nums n (RR i) i v)].all fun o=>o.innO 4)=true:=fun ks' v =>
   Bool.and_eq_true_iff.2 ⟨rfl,Bool.and_eq_true_iff.2 ⟨inn_map fun _=>rfl,Bool.and_eq_true_iff.2 ⟨rfl,Bool.and_eq_true_iff.2 ⟨rg_all fun q _=>rfl,rfl⟩⟩⟩⟩
  have fin:∀ env ks' v o5,RR (i+1)=RR i++[v]->Numb (KeyOk (y+1)) keyB ks' (KS (i+1))->ks'.length=(KS (i+1)).length->(∀ l ∈ KS (i+1),KeyOk (y+1) l)->Agree env [(1,.ref 0 1 0 0),(3,.own 1 n 0 n),(6,vi many),(7,.mref 2 1),(8,.own 3 n 0 n),(41,vrows g.to),(42,vi n),(43,vi (i+1:Nat))] ->
   ∃ m z,m<n-i/\WkE 123 ⟨env,[oG g,.arr n 1 3 (c.map vi),.arr 1 1 (mapT+1) [.val (mapV ks')],.arr n 1 3 (nums n (RR i) i v),o5]⟩ z/\∃ (i:Nat) (ks:List (MK × Value)),m=n-i/\i<=n/\Numb (KeyOk (y+1)) keyB ks (KS i)/\(∀ l ∈ KS i,KeyOk (y+1) l)/\ks.length=(KS i).length /\
   z=⟨[(1,.ref 0 1 0 0),(3,.own 1 n 0 n),(6,vi many),(7,.mref 2 1),(8,.own 3 n 0 n),(41,vrows g.to),(42,vi n),(43,vi i)],[oG g,.arr n 1 3 (c.map vi),.arr 1 1 (mapT+1) [.val (mapV ks)],.arr n 1 3 (nums n (RR i) i 0)]⟩:=by
   intro env ks' v o5 hv hn1 hl1 hk1 hA
   refine ⟨n-(i+1),_,by omega,WkE.round hA rfl (hin ks' v) rfl,i+1,ks',rfl,by omega,hn1,hk1,hl1,?_⟩
   rw [nums_snoc (hRRl i),<-hv]
  by_cases hm:posF (KS i) (keyM g c i)<(KS i).length
  ·rw [if_pos hm] at hk
   have ha:KS (i+1)=KS i:=by rw [h2,addK,if_pos hm]
   simp only [go_sem,↓reduceIte,reduceLT,reduceEqDiff,reduceAdd,g1,g0,htk,hk,hget,hns,w1,Int.toNat_natCast,List.length_map,hKyl,List.all_map,Function.comp_def,all_tt,Option.getD_some,Option.isSome_some]
   exact fin _ _ _ _ h1 (by rw [ha];exact hks) (by rw [ha];exact hkl) (by rw [ha];exact hKo) (by simp only [go_sem,↓reduceIte,reduceEqDiff];try rfl)
  ·rw [if_neg hm] at hk
   have hnm:keyM g c i ∉ KS i:=fun hh=>hm (posF_mem.2 hh)
   have ha:KS (i+1)=KS i++[keyM g c i]:=by rw [h2,addK,if_neg hm]
   rw [posF_new hnm,<-hkl] at h1
   have hadd:=hks.add (keyB_inj (y+1)) (hKok i hlt) hnm
   rw [<-ha,<-hkl,hKBy] at hadd
   simp only [go_sem,↓reduceIte,reduceLT,reduceEqDiff,reduceAdd,g1,g0,htk,hk,hget,hns,w1,Int.toNat_natCast,List.length_map,hKyl,List.all_map,Function.comp_def,all_tt,Option.getD_none,Option.isSome_none]
   exact fin _ _ _ _ h1 hadd (by rw [kset_len,hk,ha,hkl];simp) (fun l hl=>by
    rw [ha] at hl
    rcases List.mem_append.1 hl with hl | hl
    ·exact hKo l hl
    ·rw [List.mem_singleton.1 hl];exact hKok i hlt) (by simp only [go_sem,↓reduceIte,reduceEqDiff];try rfl)
 rintro m z ⟨p,rfl,hp,rfl⟩
 by_cases hpy:p<y
 rotate_left
 ·obtain rfl:y=p:=by omega
  simp only [go_sem,↓reduceIte,reduceLT,reduceEqDiff,reduceAdd,Int.lt_irrefl]
  exact ⟨_,WkE.kp,rfl⟩
 have p1:(p:Int)<(y:Int):=by omega
 have p0:(0:Int)<=(p:Int):=by omega
 have wp:=wrap_s p (by omega)
 have hgt:=gto_get h (i:=i) (x:=p) (by omega) (by omega)
 have hKs:=hKBs p hpy
 have hKpl:=hKBl p (by omega)
 have htp:ts[p]'(by omega)=if gto g i p<0 then -1 else cg c (gto g i p).toNat:=by
  simp only [<-hts,List.getElem_map]
  rw [rowAt_get]
 rw [htp] at hKs
 have qk:(2*p+2+2)*1<=140737488355328:=by omega
 have e2:2*p+2+2=2*(p+1)+2:=by omega
 have fin:∀ env o6,Agree env [(1,.ref 0 1 0 0),(3,.own 1 n 0 n),(6,vi many),(7,.mref 2 1),(8,.own 3 n 0 n),(9,vi i),(11,.own 4 (2*p+2+2) 0 (2*p+2+2)),(41,vrows g.to),(42,vi n),(43,vi i),(60,vints (P5.rowAt g i)),(61,vi y),(62,vi (p+1:Nat))] ->
  ∃ m z,m<y-p/\WkE 123 ⟨env,[oG g,.arr n 1 3 (c.map vi),.arr 1 1 (mapT+1) [.val (mapV ks)],.arr n 1 3 (nums n (RR i) i 0),.arr (2*p+2+2) 1 5 ((KB (p+1)).map vc),o6]⟩ z/\∃ p:Nat,m=y-p/\p<=y /\
  z=⟨[(1,.ref 0 1 0 0),(3,.own 1 n 0 n),(6,vi many),(7,.mref 2 1),(8,.own 3 n 0 n),(9,vi i),(11,.own 4 (2*p+2) 0 (2*p+2)),(41,vrows g.to),(42,vi n),(43,vi i),(60,vints (P5.rowAt g i)),(61,vi y),(62,vi p)],[oG g,.arr n 1 3 (c.map vi),.arr 1 1 (mapT+1) [.val (mapV ks)],.arr n 1 3 (nums n (RR i) i 0),.arr (2*p+2) 1 5 ((KB p).map vc)]⟩:=by
  intro env o6 hA
  rw [e2] at hA ⊢
  refine ⟨y-(p+1),_,by omega,WkE.round hA rfl ?_ rfl,p+1,rfl,by omega,rfl⟩
  exact Bool.and_eq_true_iff.2 ⟨rfl,Bool.and_eq_true_iff.2 ⟨inn_map fun _=>rfl,Bool.and_eq_true_iff.2 ⟨rfl,Bool.and_eq_true_iff.2 ⟨rg_all fun q _=>rfl,Bool.and_eq_true_iff.2 ⟨inn_map fun _=>rfl,rfl⟩⟩⟩⟩⟩
 by_cases hneg:gto g i p<0
 ·rw [if_pos hneg] at hKs
  have hge:¬ (0:Int)<=gto g i p:=by omega
  simp only [go_sem,Nat.reducePow,Nat.reduceLeDiff,↓reduceIte,reduceCtorEq,reduceLT,reduceEqDiff,reduceAdd,Nat.reduceSub,Nat.reduceMul,Int.reduceToNat,p1,p0,hgt,hge,List.length_map,Int.toNat_natCast,n8,p8,hKs,hKpl,qk,wp]
  exact fin _ _ (by simp only [go_sem,↓reduceIte,reduceEqDiff];try rfl)
 ·rw [if_neg hneg] at hKs
  have hge:(0:Int)<=gto g i p:=by omega
  have hlt2:=gto_lt h hneg
  have hlt3:gto g i p<(n:Int):=by omega
  have hcg2:=cg_get (c:=c) (i:=(gto g i p).toNat) (by omega)
  simp only [go_sem,Nat.reducePow,Nat.reduceLeDiff,↓reduceIte,reduceCtorEq,reduceLT,reduceEqDiff,reduceAdd,Nat.reduceSub,Nat.reduceMul,Int.reduceToNat,p1,p0,hgt,hge,hlt3,hcg2,List.length_map,Int.toNat_natCast,n8,p8,hKs,hKpl,qk,wp]
  exact fin _ _ (by simp only [go_sem,↓reduceIte,reduceEqDiff];try rfl)
end Go.Proofs.Ytjilachpkjlhdaa
namespace Go.Proofs.Ytjilachpkjlhdaa
open Go.RowKit Dak P5
open Nat (reduceEqDiff reduceLT reduceAdd)
def objsQ (o0:AObj) (sy:Int) (ks:List (MK × Value)) (L:List Nat) (A:List Bool) (E:List Edg):List AObj :=
 [o0,.arr 1 3 34 [nil3],.arr 1 1 (mapT+0) [.val (mapV ks)],.arr 1 3 34 [.agg [vi sy,.own 5 A.length 0 A.length,.own 6 E.length 0 E.length]],.arr L.length 1 3 (L.map vn),.arr A.length 1 4 (A.map vb),.arr E.length 3 72 (E.map vedge)]
theorem objsQ_eq (o0:AObj) (sy:Int) (ks:List (MK × Value)) (L:List Nat) (A:List Bool) (E:List Edg):objsQ o0 sy ks L A E =
 [o0,.arr 1 3 34 [nil3],.arr 1 1 (mapT+0) [.val (mapV ks)],.arr 1 3 34 [.agg [vi sy,.own 5 A.length 0 A.length,.own 6 E.length 0 E.length]],.arr L.length 1 3 (L.map vn),.arr A.length 1 4 (A.map vb),.arr E.length 3 72 (E.map vedge)]:=rfl
theorem objsQ_snap (sy:Int) (A:List Bool) (E:List Edg) (objs:List AObj) (p q:Nat) (hp:p=A.length) (hq:q=E.length) (h4:objs[5]? = some (.arr p 1 4 (A.map vb))) (h5:objs[6]? = some (.arr q 3 72 (E.map vedge))) :
 Snap objs (.agg [vi sy,.own 5 p 0 p,.own 6 q 0 q]) (vau ⟨sy,A,E⟩):=by
 subst hp hq
 refine .agg _ _ rfl fun i h1 h2=>?_
 match i,h1,h2 with
 | 0,_,_=>exact .tree _ rfl
 | 1,_,_ =>
  refine .own 5 A.length 0 A.length 1 4 _ _ h4 (by simp) (by simp) fun q hq=>?_
  simp only [Nat.zero_add]
  exact .tree _ (List.all_eq_true.1 (isT_map (fun _=>rfl) _) _ (List.getElem_mem _))
 | 2,_,_ =>
  refine .own 6 E.length 0 E.length 3 72 _ _ h5 (by simp) (by simp) fun q hq=>?_
  simp only [Nat.zero_add]
  exact .tree _ (List.all_eq_true.1 (isT_map (fun _=>rfl) _) _ (List.getElem_mem _))
abbrev NumC (c:List Int) (ks:List (MK × Value)) (L:List Nat):Prop:=Numb (fun _:Int=>True) MK.i ks (L.map (cg c))
theorem mki_inj:∀ s t:Int,True->True->MK.i s=MK.i t->s=t:=fun s t _ _ h=>by injection h
set_option maxHeartbeats 8000000 in
theorem least_s (g0:Gr) (h0:GrOk g0) (hnb:g0.acc.length<=257) (hyb:g0.sy<=64):Ctr Try.prog 50 [vgr g0] (vae (checkedM (leastP g0))):=by
 have htr:=trim_s g0 h0 hnb (by omega)
 have h:=trim_ok h0
 have hnb2:(trimM g0).acc.length<=257:=hnb
 have hyb2:(trimM g0).sy<=64:=hyb
 have hcs:=classes_s (trimM g0) h hnb2 (by omega) (fun i x h1=>trim_live h0 h1)
 have hci:=classesP_is h (fun i x h1=>trim_live h0 h1)
 have hsz:SzA (auOf (leastG (trimM g0) (classesP (trimM g0)))):=by
  obtain ⟨a1,a2,_⟩:=least_lang h hci hnb2
  exact szA_of a1 (Nat.le_trans a2 hnb2) hyb2
 refine specC f50 (by simp) fun F0 w0=>?_
 rw [leastP]
 unfold c50
 refine CwpE.cut (st:=⟨[(1,.ref 0 1 0 0),(2,.ref 1 1 0 0)],[oG g0,.arr 1 3 34 [nil3]]⟩) ?_ ?_
 ·simp only [go_sem,↓reduceIte,reduceLT,reduceAdd]
  exact ⟨_,WkE.kp,rfl⟩
 refine CwpE.cut (st:=⟨[(1,.ref 0 1 0 0),(2,.ref 1 1 0 0)],[oG (trimM g0),.arr 1 3 34 [nil3]]⟩) ?_ ?_
 ·simp only [go_sem,↓reduceIte,reduceLT,reduceAdd]
  refine callT htr rfl ?_
  simp only [go_sem,↓reduceIte,reduceLT,reduceEqDiff,reduceAdd]
  exact ⟨_,WkE.kp,rfl⟩
 have hcl0:=hci.len
 generalize trimM g0=g at h hnb2 hyb2 hcs hci hcl0 hsz ⊢
 obtain ⟨n,hn⟩:∃ n,g.acc.length=n:=⟨_,rfl⟩
 obtain ⟨y,hy⟩:∃ y,g.sy=y:=⟨_,rfl⟩
 have hcl:(classesP g).length=n:=by rw [hcl0,hn]
 obtain ⟨LG,hLG⟩:∃ LG,lgo g (classesP g) 258 [0] []=LG:=⟨_,rfl⟩
 have hres:auOf (leastG g (classesP g))=⟨(y:Int),LG.1.map (bt g.acc),edAll 0 LG.2⟩:=by rw [leastG,hLG,auOf,hy]
 have hrep0:Reps g (classesP g) [0]:=⟨by simp,fun p hp=>by rw [List.mem_singleton.1 hp];have:=h.n;omega⟩
 rw [checkedM,hres]
 rw [hres] at hsz
 clear hci
 generalize classesP g=c at hcs hcl hLG hrep0
 refine CwpE.cut (st:=⟨[(1,.ref 0 1 0 0),(2,.ref 1 1 0 0),(4,vints c)],[oG g,.arr 1 3 34 [nil3]]⟩) ?_ ?_
 ·simp only [go_sem,↓reduceIte,reduceLT,reduceAdd]
  refine callT hcs rfl ?_
  simp only [go_sem,↓reduceIte,reduceLT]
  exact ⟨_,WkE.kp,rfl⟩
 have hc0:=cg_get (c:=c) (i:=0) (by have:=h.n;omega)
 refine CwpE.cut (st:=⟨[(1,.ref 0 1 0 0),(2,.ref 1 1 0 0),(4,vints c),(5,.mref 2 1)],[oG g,.arr 1 3 34 [nil3],.arr 1 1 (mapT+0) [.val (mapV [(.i (cg c 0),.int .i64 0)])]]⟩) ?_ ?_
 ·simp only [go_sem,↓reduceIte,reduceLT,reduceEqDiff,reduceAdd,Int.reduceToNat,Int.reduceToNat,Int.le_refl,hc0]
  exact ⟨_,WkE.kp,rfl⟩
 refine CwpE.cut (st:=⟨[(1,.ref 0 1 0 0),(2,.ref 1 1 0 0),(4,vints c),(5,.mref 2 1),(6,.ref 3 1 0 0)],[oG g,.arr 1 3 34 [nil3],.arr 1 1 (mapT+0) [.val (mapV [(.i (cg c 0),.int .i64 0)])],.arr 1 3 34 [.agg [vi y,.val (.slice none 0 0),.val (.slice none 0 0)]]]⟩) ?_ ?_
 ·simp only [go_sem,Nat.reduceLeDiff,↓reduceIte,reduceLT,reduceEqDiff,reduceAdd,hy]
  exact ⟨_,WkE.kp,rfl⟩
 refine CwpE.seqJ (fun z=>∃ ks L rows,LG=(L,rows)/\z=⟨[(2,.ref 1 1 0 0),(6,.ref 3 1 0 0)],objsQ (oG g) y ks L (L.map (bt g.acc)) (edAll 0 rows)⟩) ?_ ?_
 rotate_left
 ·rintro _ ⟨ks,L,rows,hBs,rfl⟩
  rw [hBs] at hsz ⊢
  have hv:=Valid_s _ hsz
  obtain ⟨A,hA⟩:∃ A,L.map (bt g.acc)=A:=⟨_,rfl⟩
  have hAl:A.length=L.length:=by rw [<-hA,List.length_map]
  rw [hA] at hv ⊢
  refine CwpE.vc ?_
  rw [objsQ_eq]
  by_cases h0:validM ⟨(y:Int),A,edAll 0 rows⟩=0
  ·rw [if_pos h0]
   rw [h0] at hv
   simp only [go_sem,↓reduceIte,reduceLT,reduceEqDiff,reduceAdd]
   refine callF hv (.cons (objsQ_snap y A (edAll 0 rows) _ _ _ rfl rfl rfl rfl) .nil) rfl ?_
   simp only [go_sem,↓reduceIte,reduceLT,reduceEqDiff,reduceAdd]
   exact snap_tup2 (objsQ_snap y A (edAll 0 rows) _ _ _ rfl rfl rfl rfl) (.tree _ rfl)
  ·rw [if_neg h0]
   simp only [go_sem,↓reduceIte,reduceLT,reduceEqDiff,reduceAdd]
   refine callF hv (.cons (objsQ_snap y A (edAll 0 rows) _ _ _ rfl rfl rfl rfl) .nil) rfl ?_
   simp only [go_sem,↓reduceIte,reduceLT,reduceEqDiff,reduceAdd,h0]
   exact snap_tup2 nil_snap (.tree _ rfl)
 refine CwpE.seqJ (fun st=>st=⟨[(1,.ref 0 1 0 0),(2,.ref 1 1 0 0),(4,vints c),(5,.mref 2 1),(6,.ref 3 1 0 0),(7,.own 4 1 0 1)],objsQ (oG g) y [(.i (cg c 0),.int .i64 0)] [0] [] []⟩) ?_ ?_
 ·refine CwpE.regionB 1 (by omega) rfl (by decide) ?_
  simp only [go_sem,↓reduceIte,reduceLT,reduceAdd]
  refine ⟨_,(WkE.nilCell 3 1 3 0 1 1 4 34 _ (.agg [vi y,.val (.slice none 0 0),.val (.slice none 0 0)]) rfl rfl rfl).trans ((WkE.nilCell 3 1 3 0 2 3 72 34 _ (.agg [vi y,.own 5 0 0 0,.val (.slice none 0 0)]) rfl rfl rfl).trans (WkE.keep (env':=[(1,.ref 0 1 0 0),(2,.ref 1 1 0 0),(4,vints c),(5,.mref 2 1),(6,.ref 3 1 0 0),(7,.own 4 1 0 1)]) (by simp only [go_sem,↓reduceIte,reduceEqDiff];try rfl))),?_⟩
  simp only [go_sem,reduceAdd]
  exact ⟨_,WkE.kp,rfl⟩
 rintro _ rfl
 refine CwpE.vc ?_
 simp only [go_sem]
 have hks0:NumC c [(.i (cg c 0),.int .i64 0)] [0]:=Numb.one mki_inj trivial
 refine loopX 0 (fun m z=>∃ (i:Nat) (ks:List (MK × Value)) (L:List Nat) (rows:List (List Int)),m=258-i/\rows.length=i/\i<=L.length/\Reps g c L/\(∀ r ∈ rows,r.length=y)/\NumC c ks L/\LG=lgo g c (258-i) L rows /\
  z=⟨[(1,.ref 0 1 0 0),(2,.ref 1 1 0 0),(4,vints c),(5,.mref 2 1),(6,.ref 3 1 0 0),(7,.own 4 L.length 0 L.length)],objsQ (oG g) y ks L ((L.take i).map (bt g.acc)) (edAll 0 rows)⟩)
  (fun z=>∃ ks L rows,LG=(L,rows)/\z=⟨[(2,.ref 1 1 0 0),(6,.ref 3 1 0 0)],objsQ (oG g) y ks L (L.map (bt g.acc)) (edAll 0 rows)⟩) 258
  ⟨[(1,.ref 0 1 0 0),(2,.ref 1 1 0 0),(4,vints c),(5,.mref 2 1),(6,.ref 3 1 0 0),(7,.own 4 1 0 1)],objsQ (oG g) y [(.i (cg c 0),.int .i64 0)] [0] [] []⟩ (.refl _ _)
  ⟨0,_,[0],[],rfl,rfl,by simp,hrep0,fun r hr=>by simp at hr,hks0,hLG.symm,rfl⟩ ?_ ?_
 rotate_left
 ·rintro z ⟨ks,L,rows,h1,rfl⟩
  simp only [go_sem,↓reduceIte]
  exact ⟨_,.refl _ _,ks,L,rows,h1,rfl⟩
 rintro m z ⟨i,ks,L,rows,rfl,hri,hiL,hrep,hrl,hks,hBi,rfl⟩
 have hLle:=hrep.le
 have hAl:((L.take i).map (bt g.acc)).length=i:=by simp;omega
 by_cases hlt:i<L.length
 rotate_left
 ·have gk:¬ (i:Int)<(L.length:Int):=by omega
  rw [lgo_end (by omega)] at hBi
  rw [objsQ_eq]
  simp only [go_sem,↓reduceIte,reduceLT,reduceEqDiff,gk,hAl]
  refine ⟨⟨[(2,.ref 1 1 0 0),(6,.ref 3 1 0 0)],objsQ (oG g) y ks L (L.map (bt g.acc)) (edAll 0 rows)⟩,?_,ks,L,rows,hBi,rfl⟩
  have htk:L.take i=L:=List.take_of_length_le (by omega)
  have hil:i=L.length:=by omega
  rw [htk,objsQ_eq]
  simp only [List.length_map,hil]
  exact WkE.kp
 have hf:258-i=(258-(i+1))+1:=by omega
 rw [hf,lgo_step (by omega)] at hBi
 have hnx:L[rows.length]=L[i]:=by simp only [hri]
 rw [hnx,hy] at hBi
 have g1:(i:Int)<(L.length:Int):=by omega
 have g0:(0:Int)<=(i:Int):=by omega
 have wi:=wrap_s i (by omega)
 have hLi:=vn_get hlt
 have hLin:=hrep.lt _ (List.getElem_mem hlt)
 have hedl:=edAll_len rows 0 (m:=y) (fun r hr=>Nat.le_of_eq (hrl r hr))
 have hedb:(edAll 0 rows).length<=16448:=Nat.le_trans hedl (Nat.le_trans (Nat.mul_le_mul (show rows.length<=257 by omega) (show y<=64 by omega)) (by omega))
 have hA1:((L.take i).map (bt g.acc))++[bt g.acc L[i]]=(L.take (i+1)).map (bt g.acc):=by
  rw [List.take_succ_eq_append_getElem hlt,List.map_append];rfl
 have qa:(i+1)*1<=140737488355328:=by omega
 have hkeep:∀ x (h:i<((lrow g c L[i] (List.range x) L).2).length),((lrow g c L[i] (List.range x) L).2)[i]=L[i]:=fun x h=>((lrow_pre g c L[i] (List.range x) L).getElem hlt).symm
 have hLxr:∀ x,Reps g c (lrow g c L[i] (List.range x) L).2:=fun x=>lrow_reps h _ hrep
 obtain ⟨s,hs⟩:∃ s,L[i]=s:=⟨_,rfl⟩
 rw [hs] at hBi hLi hLin hA1
 simp only [hs] at hkeep hLxr
 have s0:(0:Int)<=(s:Int):=by omega
 have hsa:=bt_get (s:=g.acc) (k:=s) hLin
 have hrow:=row_get h hLin
 have hrl2:=rowAt_len h hLin
 rw [hy] at hrl2
 rw [objsQ_eq]
 have hAe:((L.take i).map (bt g.acc)).map vb++[vb (bt g.acc s)]=((L.take (i+1)).map (bt g.acc)).map vb:=by
  rw [<-hA1,List.map_append];rfl
 have hAl1:((L.take (i+1)).map (bt g.acc)).length=i+1:=by simp;omega
 obtain ⟨A0,hA0⟩:∃ A0,((L.take i).map (bt g.acc))=A0:=⟨_,rfl⟩
 obtain ⟨A1,hA1e⟩:∃ A1,((L.take (i+1)).map (bt g.acc))=A1:=⟨_,rfl⟩
 rw [hA0] at hAl hAe
 rw [hA1e] at hAl1 hAe
 rw [hA0]
 obtain ⟨E0,hE0⟩:∃ E0,edAll 0 rows=E0:=⟨_,rfl⟩
 rw [hE0] at hedb ⊢
 simp only [go_sem,Nat.reducePow,Nat.reduceLeDiff,↓reduceIte,reduceLT,reduceEqDiff,reduceAdd,Nat.reduceMul,g1,g0,hLi,s0,hsa,hAl,qa,hAe,hrow,hrl2,List.length_map,Int.toNat_natCast]
 obtain ⟨LX,hLX⟩:∃ LX:Nat->List Nat,LX=fun x=>(lrow g c s (List.range x) L).2:=⟨_,rfl⟩
 obtain ⟨RX,hRX⟩:∃ RX:Nat->List Int,RX=fun x=>(lrow g c s (List.range x) L).1:=⟨_,rfl⟩
 have hRXl:∀ x,(RX x).length=x:=fun x=>by rw [hRX];simp only;rw [lrow_len,List.length_range]
 have hLX0:LX 0=L:=by rw [hLX];rfl
 have hRX0:RX 0=[]:=by rw [hRX];rfl
 have hLXr:∀ x,Reps g c (LX x):=fun x=>by rw [hLX];exact hLxr x
 have hLXp:∀ x,L <+: LX x:=fun x=>by rw [hLX];exact lrow_pre g c s _ L
 have hLXk:∀ x (h:i<(LX x).length),(LX x)[i]=s:=fun x h=>by
  have:=((hLXp x).getElem hlt)
  rw [<-this,hs]
 have hskip:∀ x,(gto g s x<0 \/ cg c (gto g s x).toNat<0)->LX (x+1)=LX x/\RX (x+1)=RX x++[-1]:=fun x hx=>by
  rw [hLX,hRX]
  dsimp only
  rw [lrow_range]
  dsimp only
  rw [if_pos hx]
  exact ⟨rfl,rfl⟩
 have htake:∀ x,¬ (gto g s x<0 \/ cg c (gto g s x).toNat<0)->LX (x+1)=(if posF ((LX x).map (cg c)) (cg c (gto g s x).toNat)<(LX x).length then LX x else LX x++[(gto g s x).toNat])/\RX (x+1)=RX x++[((posF ((LX x).map (cg c)) (cg c (gto g s x).toNat):Nat):Int)]:=fun x hx=>by
  rw [hLX,hRX]
  dsimp only
  rw [lrow_range]
  dsimp only
  rw [if_neg hx]
  exact ⟨rfl,rfl⟩
 have hLXy:(lrow g c s (List.range y) L).2=LX y:=by rw [hLX]
 have hRXy:(lrow g c s (List.range y) L).1=RX y:=by rw [hRX]
 rw [hLXy,hRXy] at hBi
 clear hLX hRX hkeep hLxr
 refine loopX 2 (fun m z=>∃ (x:Nat) (ks:List (MK × Value)),m=y-x/\x<=y/\NumC c ks (LX x) /\
  z=⟨[(1,.ref 0 1 0 0),(2,.ref 1 1 0 0),(4,vints c),(5,.mref 2 1),(6,.ref 3 1 0 0),(7,.own 4 (LX x).length 0 (LX x).length),(8,vi i),(55,vints (P5.rowAt g s)),(56,vi y),(57,vi x)],objsQ (oG g) y ks (LX x) A1 (E0++edRow (i:Int) 0 (RX x))⟩)
  (fun z=>∃ ks:List (MK × Value),NumC c ks (LX y)/\z=⟨[(1,.ref 0 1 0 0),(2,.ref 1 1 0 0),(4,vints c),(5,.mref 2 1),(6,.ref 3 1 0 0),(7,.own 4 (LX y).length 0 (LX y).length)],objsQ (oG g) y ks (LX y) A1 (E0++edRow (i:Int) 0 (RX y))⟩) y
  ⟨[(1,.ref 0 1 0 0),(2,.ref 1 1 0 0),(4,vints c),(5,.mref 2 1),(6,.ref 3 1 0 0),(7,.own 4 (LX 0).length 0 (LX 0).length),(8,vi i),(55,vints (P5.rowAt g s)),(56,vi y),(57,vi (0:Nat))],objsQ (oG g) y ks (LX 0) A1 (E0++edRow (i:Int) 0 (RX 0))⟩ ?_ ⟨0,ks,by omega,by omega,by rw [hLX0];exact hks,rfl⟩ ?_ ?_
 ·rw [hLX0,hRX0,edRow,List.append_nil,objsQ_eq,hAl1]
  exact WkE.kp
 rotate_left
 ·rintro z ⟨ks,hks,rfl⟩
  simp only [go_sem,↓reduceIte]
  refine ⟨258-(i+1),_,by omega,.refl _ _,i+1,ks,LX y,rows++[RX y],rfl,by simp [hri],?_,hLXr y,?_,hks,hBi,?_⟩
  ·have:=(hLXp y).length_le;omega
  ·intro r hr
   rcases List.mem_append.1 hr with hr | hr
   ·exact hrl r hr
   ·rw [List.mem_singleton.1 hr,hRXl]
  ·have e1:edAll 0 (rows++[RX y])=E0++edRow (i:Int) 0 (RX y):=by rw [edAll_snoc,hE0,hri,Nat.zero_add]
   have e2:((LX y).take (i+1)).map (bt g.acc)=A1:=by
    obtain ⟨r,hr⟩:=hLXp y
    rw [<-hr,List.take_append_of_le_length (by omega),hA1e]
   rw [e1,e2]
 rintro m z ⟨x,ks,rfl,hx,hks,rfl⟩
 by_cases hxy:x<y
 rotate_left
 ·obtain rfl:y=x:=by omega
  rw [objsQ_eq]
  simp only [go_sem,↓reduceIte,reduceLT,reduceEqDiff,Int.lt_irrefl]
  refine ⟨_,?_,ks,hks,rfl⟩
  rw [objsQ_eq]
  simp only [List.length_append]
  exact WkE.kp
 have gx:(x:Int)<(y:Int):=by omega
 have x0:(0:Int)<=(x:Int):=by omega
 have wx:=wrap_s x (by omega)
 have hgt:=gto_get h hLin (show x<g.sy by omega)
 have hee:=edRow_len (i:Int) (RX x) 0
 rw [hRXl] at hee
 have hel:(E0++edRow (i:Int) 0 (RX x)).length<=16448+64:=by rw [List.length_append];omega
 have e1:∀ p:Nat,edRow (i:Int) 0 (RX x++[(p:Int)])=edRow (i:Int) 0 (RX x)++[((i:Int),(x:Int),(p:Int))]:=fun p=>by
  rw [edRow_snoc,if_neg (by omega),Nat.zero_add,hRXl]
 have e0:edRow (i:Int) 0 (RX x++[-1])=edRow (i:Int) 0 (RX x):=by rw [edRow_snoc,if_pos (by omega),List.append_nil]
 have hsk:=hskip x
 have htk:=htake x
 have hhi:=h.hi s x
 have hrepx:=hLXr x
 have hlex:=hrepx.le
 obtain ⟨E1,hE1⟩:∃ E1,E0++edRow (i:Int) 0 (RX x)=E1:=⟨_,rfl⟩
 rw [hE1] at hel ⊢
 obtain ⟨Lx,hLx⟩:∃ Lx,LX x=Lx:=⟨_,rfl⟩
 rw [hLx] at hsk htk hrepx hlex hks ⊢
 have fin:∀ (st:Est) (ks2:List (MK × Value)) (L2:List Nat) (E2:List Edg),LX (x+1)=L2->E0++edRow (i:Int) 0 (RX (x+1))=E2->NumC c ks2 L2->WkE 109 st ⟨[(1,.ref 0 1 0 0),(2,.ref 1 1 0 0),(4,vints c),(5,.mref 2 1),(6,.ref 3 1 0 0),(7,.own 4 L2.length 0 L2.length),(8,vi i),(55,vints (P5.rowAt g s)),(56,vi y),(57,vi (x+1:Nat))],objsQ (oG g) y ks2 L2 A1 E2⟩ ->
  ∃ m s',m<y-x/\WkE 109 st s'/\∃ (x:Nat) (ks:List (MK × Value)),m=y-x/\x<=y/\NumC c ks (LX x) /\
  s'=⟨[(1,.ref 0 1 0 0),(2,.ref 1 1 0 0),(4,vints c),(5,.mref 2 1),(6,.ref 3 1 0 0),(7,.own 4 (LX x).length 0 (LX x).length),(8,vi i),(55,vints (P5.rowAt g s)),(56,vi y),(57,vi x)],objsQ (oG g) y ks (LX x) A1 (E0++edRow (i:Int) 0 (RX x))⟩:=by
  rintro st ks2 L2 E2 rfl rfl hk hst
  exact ⟨y-(x+1),_,by omega,hst,x+1,ks2,rfl,by omega,hk,rfl⟩
 obtain ⟨t,ht⟩:∃ t,gto g s x=t:=⟨_,rfl⟩
 rw [ht] at hsk htk hhi hgt
 rw [objsQ_eq]
 by_cases b1:t<0
 ·obtain ⟨h1,h2⟩:=hsk (.inl b1)
  simp only [go_sem,↓reduceIte,reduceLT,reduceEqDiff,gx,x0,hgt,b1,wx,Int.toNat_natCast]
  refine fin _ ks Lx E1 h1 (by rw [h2,e0,hE1]) hks ?_
  rw [objsQ_eq]
  exact WkE.kp
 have b0:0<=t:=by omega
 have bn:t<(n:Int):=by omega
 have hct:=cg_get (c:=c) (i:=t.toNat) (by omega)
 by_cases b2:cg c t.toNat<0
 ·obtain ⟨h1,h2⟩:=hsk (.inr b2)
  simp only [go_sem,↓reduceIte,reduceLT,reduceEqDiff,gx,x0,hgt,b1,b0,hct,b2,wx,Int.toNat_natCast]
  refine fin _ ks Lx E1 h1 (by rw [h2,e0,hE1]) hks ?_
  rw [objsQ_eq]
  exact WkE.kp
 obtain ⟨h1,h2⟩:=htk (fun e=>e.elim b1 b2)
 obtain ⟨pos,hpos⟩:∃ pos,posF (Lx.map (cg c)) (cg c t.toNat)=pos:=⟨_,rfl⟩
 have hk:=hks (cg c t.toNat) trivial
 have hple:=posF_le (Lx.map (cg c)) (cg c t.toNat)
 rw [hpos] at h1 h2 hk
 rw [hpos,List.length_map] at hple
 rw [List.length_map] at hk
 have qe:(E1.length+1)*24<=140737488355328:=by omega
 have ql:(Lx.length+1)*8<=140737488355328:=by omega
 have tcast:((t.toNat:Nat):Int)=t:=by omega
 by_cases hm:pos<Lx.length
 ·rw [if_pos hm] at h1 hk
  simp only [go_sem,Nat.reducePow,Nat.reduceLeDiff,↓reduceIte,reduceLT,reduceEqDiff,reduceAdd,Nat.reduceMul,gx,x0,hgt,b1,b0,hct,b2,wx,hk,qe,List.length_map,Int.toNat_natCast,Option.getD_some,Option.isSome_some]
  refine fin _ ks Lx (E1++[((i:Int),(x:Int),(pos:Int))]) h1 (by rw [h2,e1,<-List.append_assoc,hE1]) hks ?_
  rw [objsQ_eq]
  simp only [List.length_append,List.length_singleton,List.map_append,List.map_cons,List.map_nil]
  exact WkE.kp
 ·rw [if_neg hm] at h1 hk
  have hpe:pos=Lx.length:=by omega
  have hnm:cg c t.toNat ∉ Lx.map (cg c):=fun hh=>hm (by have:=posF_mem.2 hh;rw [hpos,List.length_map] at this;exact this)
  have hadd:=Numb.add mki_inj trivial hks hnm
  have hmap:Lx.map (cg c)++[cg c t.toNat]=(Lx++[t.toNat]).map (cg c):=by rw [List.map_append];rfl
  rw [hmap,List.length_map] at hadd
  simp only [go_sem,Nat.reducePow,Nat.reduceLeDiff,↓reduceIte,reduceLT,reduceEqDiff,reduceAdd,Nat.reduceMul,gx,x0,hgt,b1,b0,hct,b2,wx,hk,qe,ql,List.length_map,Int.toNat_natCast,Option.getD_none,Option.isSome_none]
  refine fin _ (kset ks (.i (cg c t.toNat)) (.int .i64 (Lx.length:Nat))) (Lx++[t.toNat]) (E1++[((i:Int),(x:Int),(pos:Int))]) h1 (by rw [h2,e1,<-List.append_assoc,hE1]) hadd ?_
  rw [objsQ_eq,hpe]
  simp only [List.length_append,List.length_singleton,List.map_append,List.map_cons,List.map_nil,vn,tcast]
  exact WkE.kp
end Go.Proofs.Ytjilachpkjlhdaa
namespace Go.Proofs.Ytjilachpkjlhdaa
open Go.RowKit Dak P5
open Nat (reduceEqDiff reduceLT reduceAdd)
theorem wdi_zero {s:List Bool} (hl:s.length<=256):([wdi s 0,wdi s 1,wdi s 2,wdi s 3]=[(0:Int),0,0,0]) ↔ ¬ ∃ j,bt s j=true:=by
 have hn:∀ n k,wdi (noneS n) k=0:=wdi_none
 constructor
 ·intro h
  simp only [List.cons.injEq,and_true] at h
  obtain ⟨h0,h1,h2,h3⟩:=h
  have e:s=noneS s.length:=by
   refine keyS_inj (by simp [noneS]) hl ?_
   rw [keyS,keyS,h0,h1,h2,h3,hn,hn,hn,hn]
  rintro ⟨j,hj⟩
  rw [e,noneS_bt] at hj
  cases hj
 ·intro h
  have e:s=noneS s.length:=bt_ext (by simp [noneS]) fun i _=>by
   rw [noneS_bt]
   constructor
   ·intro hi;exact absurd ⟨i,hi⟩ h
   ·intro hi;cases hi
  rw [e,hn,hn,hn,hn]
theorem fixed1_s (a:Au) (hv:VA a) (s:List Bool) (x:Nat) (hx:(x:Int)<a.sy):Ctr Try.prog 49 [vset s,vi x,.ptr [vmach a]] (.tup [vset (afterA a s (x:Int)),vb (anyA a s (x:Int))]):=by
 refine specC f49 (by simp) fun F0 w0=>?_
 have haf:=after_s a hv s x hx
 have hn:=hv.n
 have hz:=wdi_zero (s:=afterA a s (x:Int)) (by rw [afterA_len];omega)
 rw [<-any_iff hv] at hz
 generalize afterA a s (x:Int)=t at haf hz ⊢
 have hd:decide ([wdi t 0,wdi t 1,wdi t 2,wdi t 3]=[(0:Int),0,0,0]) = !anyA a s (x:Int):=by
  cases h:anyA a s (x:Int) with
  | false=>exact decide_eq_true (hz.2 (by rw [h];simp))
  | true=>exact decide_eq_false (fun e=>hz.1 e h)
 unfold c49
 refine CwpE.cut (st:=⟨[(1,vi x),(2,.ptr [vmach a]),(3,.ref 0 1 0 0),(5,.ref 1 1 0 0)],[.arr 1 4 79 [vset s],.arr 1 4 79 [.agg [vw 0,vw 0,vw 0,vw 0]]]⟩) ?_ ?_
 ·simp only [go_sem,↓reduceIte,reduceLT,reduceAdd]
  exact ⟨_,WkE.kq,rfl⟩
 refine CwpE.cut (st:=⟨[(5,.ref 1 1 0 0),(7,.ref 2 1 0 0)],[.arr 1 4 79 [vset s],.arr 1 4 79 [.agg [vw 0,vw 0,vw 0,vw 0]],.arr 1 4 79 [vset t]]⟩) ?_ ?_
 ·simp only [go_sem,↓reduceIte,reduceLT,reduceEqDiff,reduceAdd]
  refine callT haf rfl ?_
  simp only [go_sem,↓reduceIte,reduceLT,reduceEqDiff,reduceAdd]
  exact ⟨_,WkE.kp,rfl⟩
 refine CwpE.vc ?_
 simp only [go_sem,↓reduceIte,reduceLT,reduceEqDiff,reduceAdd,hd]
 rw [Bool.not_not]
 exact snap_tup2 (.tree _ rfl) (.tree _ rfl)
theorem toV_set (s:List Bool):toV (.agg [vw (wdi s 0),vw (wdi s 1),vw (wdi s 2),vw (wdi s 3)])=some (.agg #[.int .u64 (wdi s 0),.int .u64 (wdi s 1),.int .u64 (wdi s 2),.int .u64 (wdi s 3)]):=rfl
theorem bnd_meets (s t:List Bool) (hs:s.length<=256) (objs:List AObj):CallOk Try.prog objs (.val (.func (.func 43) [Value.agg #[.int .u64 (wdi s 0),.int .u64 (wdi s 1),.int .u64 (wdi s 2),.int .u64 (wdi s 3)]].toArray #[])) [vset t] (vb (meets s t)):=by
 refine .bnd 43 _ [vset s] [vset t] [vset s,vset t] _ rfl ?_ (.cons (.tree _ rfl) (.cons (.tree _ rfl) .nil)) (meets_s s t hs)
 intro w F i h h2
 match i,h,h2 with
 | 0,_,_ =>
  refine .agg _ _ rfl ?_ ?_
  ·intro i hi
   match i,hi with
   | 0,_=>rfl
   | 1,_=>rfl
   | 2,_=>rfl
   | 3,_=>rfl
  ·intro i hi hi2
   match i,hi,hi2 with
   | 0,_,_=>exact .val _
   | 1,_,_=>exact .val _
   | 2,_,_=>exact .val _
   | 3,_,_=>exact .val _
theorem meets_comm (s t:List Bool):meets s t=meets t s:=by
 rw [Bool.eq_iff_iff,meets_iff,meets_iff]
 exact ⟨fun ⟨i,h1,h2⟩=>⟨i,h2,h1⟩,fun ⟨i,h1,h2⟩=>⟨i,h2,h1⟩⟩
set_option maxHeartbeats 4000000 in
theorem Fixed_s (a:Au) (hz:SzA a):Ctr Try.prog 22 [vau a] (vae (fixedM a)):=by
 refine specC f22 (by simp) fun F0 w0=>?_
 have hval:=Valid_s a hz
 unfold c22
 refine CwpE.cut (st:=⟨[(1,.ref 0 1 0 0),(2,.ref 1 1 0 0),(3,vi 0)],[.arr 1 3 34 [vau a],.arr 1 3 34 [nil3]]⟩) ?_ ?_
 ·simp only [go_sem,↓reduceIte,reduceLT,reduceAdd]
  exact ⟨_,WkE.kp,rfl⟩
 by_cases h0:validM a=0
 rotate_left
 ·refine CwpE.step (fun _=>False) ?_ (fun _ h=>h.elim)
  have:fixedM a=(nilA,validM a):=by rw [fixedM,if_neg h0]
  rw [this]
  simp only [go_sem,↓reduceIte,reduceLT,reduceAdd]
  refine callT hval rfl ?_
  simp only [go_sem,↓reduceIte,reduceLT,reduceEqDiff,reduceAdd,h0]
  exact snap_tup2 nil_snap (.tree _ rfl)
 rw [h0] at hval
 have hV:=valid_VA.1 h0
 obtain ⟨⟨hsy1,hsy2⟩,⟨hn1,hn2⟩,hm,hed⟩:=id hV
 obtain ⟨y,hy⟩:∃ y:Nat,a.sy=(y:Int):=⟨a.sy.toNat,by omega⟩
 have hyT:a.sy.toNat=y:=by omega
 refine CwpE.cut (st:=⟨[(1,.ref 0 1 0 0),(2,.ref 1 1 0 0),(3,vi 0)],[.arr 1 3 34 [vau a],.arr 1 3 34 [nil3]]⟩) ?_ ?_
 ·simp only [go_sem,↓reduceIte,reduceLT,reduceAdd]
  refine callT hval rfl ?_
  simp only [go_sem,↓reduceIte,reduceLT]
  exact ⟨_,WkE.kp,rfl⟩
 have hnm:=newMachine_s a hV
 refine CwpE.cut (st:=⟨[(5,.ptr [vmach a]),(1,.ref 0 1 0 0),(2,.ref 1 1 0 0),(3,vi 0)],[.arr 1 3 34 [vau a],.arr 1 3 34 [nil3],.dead]⟩) ?_ ?_
 ·simp only [go_sem,↓reduceIte,reduceLT,reduceAdd]
  refine callT hnm rfl ?_
  simp only [go_sem,↓reduceIte,reduceLT,reduceEqDiff,reduceAdd]
  refine ⟨_,(WkE.freezeS (n:=40) (objs:=[.arr 1 3 34 [vau a],.arr 1 3 34 [nil3],.arr 1 1 75 [vmach a]]) 5 2 1 1 75 [vmach a] (.ref 2 1 0 0) (.ptr [vmach a]) (by omega) rfl rfl ?_).trans (WkE.kp),rfl⟩
  refine .ref 2 1 0 0 _ _ rfl rfl fun i h1 h2=>?_
  match i,h1,h2 with
  | 0,_,_=>exact .tree _ rfl
 have hfix:fixedM a=match setsM a with | none=>(nilA,4) | some g=>checkedM (leastR g):=by rw [fixedM,if_pos h0];rfl
 have hex:=explA_s (fun s=>s.length=a.acc.length) (fun s t hs ht=>keyS_inj (by rw [hs,ht]) (by omega)) (.val (.func (.func 43) [Value.agg #[.int .u64 (wdi a.acc 0),.int .u64 (wdi a.acc 1),.int .u64 (wdi a.acc 2),.int .u64 (wdi a.acc 3)]].toArray #[]))
  (.clo (.func 49) [.ptr [vmach a]]) (firstA a) y (by omega) (fun s=>meets s a.acc) (fun s x=>(afterA a s (x:Int),anyA a s (x:Int))) (firstA_len a) (fun s x _ _ _=>afterA_len a s x)
  (fun s hs objs=>by rw [meets_comm];exact bnd_meets a.acc s hn2 objs) (fun s x hs hx objs=>.data 49 _ _ _ _ (.cons (.tree _ rfl) (.cons (.tree _ rfl) (.cons (.tree _ rfl) .nil))) (fixed1_s a hV s x (by omega))) (fun k=>⟨rfl,rfl⟩)
 have hB:bfs 256 (nextE fun s (x:Nat)=>(afterA a s (x:Int),anyA a s (x:Int))) y (firstA a)=bfs 256 (nextA a) a.sy.toNat (firstA a):=by rw [hyT];rfl
 rw [hB,<-hy] at hex
 obtain ⟨MV,hMV⟩:∃ MV,MV=rg a.acc.length fun i=>AV.list 4 (rg a.sy.toNat fun x=>vset (moveP a i (x:Int))):=⟨_,rfl⟩
 have hvm:vmach a = .ptr [vi a.sy,vw (wdi a.acc 0),vw (wdi a.acc 1),vw (wdi a.acc 2),vw (wdi a.acc 3),.list 1 MV,vw (wdi (firstA a) 0),vw (wdi (firstA a) 1),vw (wdi (firstA a) 2),vw (wdi (firstA a) 3)]:=by rw [vmach,hMV]
 rw [hvm] at hex ⊢
 rw [hfix]
 cases hs:setsM a with
 | none =>
  have hb:bfs 256 (nextA a) a.sy.toNat (firstA a)=none:=by
   rw [setsM] at hs
   exact Option.map_eq_none_iff.1 hs
  rw [hb] at hex
  refine CwpE.vc ?_
  simp only [go_sem,Nat.reduceLeDiff,↓reduceIte,reduceLT,reduceEqDiff,reduceAdd,toV_set]
  refine callN hex (.cons (.tree _ rfl) (.cons (.tree _ rfl) (.cons (.tree _ rfl) (.cons (.tree _ rfl) .nil)))) ?_
  simp only [resE,go_sem,↓reduceIte,reduceLT,reduceEqDiff,reduceAdd,Int.reduceEq]
  exact snap_tup2 nil_snap (.tree _ rfl)
 | some g =>
  have hgo:=setsM_ok hs
  obtain ⟨r,hb,hgr⟩:∃ r,bfs 256 (nextA a) a.sy.toNat (firstA a)=some r/\grOf a.sy.toNat (fun s=>meets s a.acc) r.1 r.2=g:=by
   rw [setsM] at hs
   exact Option.map_eq_some_iff.1 hs
  rw [hb,resE] at hex
  rw [hyT] at hgr
  rw [hgr] at hex
  have hls:=least_s g hgo.1 (by omega) (by omega)
  rw [leastP_R hgo.1 (by omega)] at hls
  refine CwpE.vc ?_
  simp only [go_sem,Nat.reduceLeDiff,↓reduceIte,reduceLT,reduceEqDiff,reduceAdd,toV_set]
  refine callN hex (.cons (.tree _ rfl) (.cons (.tree _ rfl) (.cons (.tree _ rfl) (.cons (.tree _ rfl) .nil)))) ?_
  simp only [go_sem,↓reduceIte,reduceLT,reduceEqDiff,reduceAdd]
  refine callT hls rfl ?_
  simp only [go_sem,↓reduceIte,reduceLT,reduceEqDiff,reduceAdd]
  exact snap_tup2 (.tree _ rfl) (.tree _ rfl)
end Go.Proofs.Ytjilachpkjlhdaa
namespace Go.Proofs.Ytjilachpkjlhdaa
open Go.RowKit Dak P5
open Nat (reduceEqDiff reduceLT reduceAdd)
def hiE (x y:Int):Int :=
 let m:Int:=4294967295
 let a (u v:Int):Int:=IntKind.u64.wrap ((BitVec.ofInt IntKind.u64.bits u &&& BitVec.ofInt IntKind.u64.bits v).toNat:Nat)
 let s (u:Int):Int:=u.fdiv (2 ^ min (32:Int).toNat IntKind.u64.bits)
 let w (u:Int):Int:=IntKind.u64.wrap u
 let x0:=a x m
 let x1:=s x
 let y0:=a y m
 let y1:=s y
 let w0:=w (x0*y0)
 let t:=w (w (x1*y0)+s w0)
 let w1:=a t m
 let w2:=s t
 let w1:=w (w1+w (x0*y1))
 w (w (w (x1*y1)+w2)+s w1)
theorem hiE_zero (n:Nat) (h:n<=64):hiE 1 n=0/\IntKind.u64.wrap (1*(n:Int))=n:=by
 have:∀ k:Fin 65,hiE 1 ((k:Nat):Int)=0/\IntKind.u64.wrap (1*((k:Nat):Int))=((k:Nat):Int):=by decide +kernel
 exact this ⟨n,by omega⟩
theorem n32:¬ (32:Int)<0:=by omega
theorem Mul64_s (n:Nat) (h8:n<=64):Ctr Try.prog 85 [vw 1,vw n] (.tup [vw 0,vw n]):=by
 refine specE f85 (by simp) fun F0 w0=>?_
 obtain ⟨h1,h2⟩:=hiE_zero n h8
 have e:(AV.tup [vw 0,vw n]) = .tup [vw (hiE 1 n),vw (IntKind.u64.wrap (1*(n:Int)))]:=by rw [h1,h2]
 rw [e]
 simp only [c85,go_sem,↓reduceIte,reduceCtorEq,reduceLT,reduceEqDiff,Int.reduceToNat,Int.reduceToNat,n32]
 exact .tree _ rfl
theorem Mul_s (n:Nat) (h8:n<=64):Ctr Try.prog 80 [vw 1,vw n] (.tup [vw 0,vw n]):=by
 refine specE f80 (by simp) fun F0 w0=>?_
 simp only [c80,go_sem,↓reduceIte,reduceCtorEq,reduceLT,reduceEqDiff]
 refine callT (Mul64_s n h8) rfl ?_
 simp only [go_sem,↓reduceIte,reduceLT,reduceEqDiff]
 exact .tree _ rfl
abbrev fillR (v:Int) (k n:Nat):List AV:=List.replicate k (vi v)++List.replicate (n-k) (vi 0)
theorem Repeat_s (v:Int) (n:Nat) (h1:1<=n) (h8:n<=64):CtrN Try.prog 66 [.list 1 [vi v],vi n] (.own 0 n 0 n) [.arr n 1 3 (List.replicate n (vi v))]:=by
 refine specN f66 (by simp) rfl (by simp [AObj.innO,AV.inn,AV.inn1]) rfl fun F0 w0=>?_
 have n0:((n:Int)<0)=False:=eq_false (by omega)
 have u1:IntKind.u64.wrap ((1:Nat):Int)=1:=rfl
 have u2:IntKind.u64.wrap (n:Int)=(n:Int):=by rw [IntKind.wrap_u64];omega
 have u3:IntKind.i64.wrap (n:Int)=(n:Int):=wrap_id (by omega) (by omega)
 have u4:((9223372036854775807:Int)<(n:Int))=False:=eq_false (by omega)
 have q0:(0:Int)<=(n:Int):=by omega
 have q2:((8:Nat):Int)*(n:Int)<=281474976710656:=by omega
 have q3:(n:Int)<=9223372036854775807:=by omega
 have m1:min 1 n=1:=by omega
 unfold c66
 refine CwpE.cut (st:=⟨[(0,.list 1 [vi v]),(1,vi n)],[]⟩) ?_ ?_
 ·simp only [go_sem,↓reduceIte,reduceLT]
  exact ⟨_,WkE.kq,rfl⟩
 refine CwpE.cut (st:=⟨[(0,.list 1 [vi v]),(1,vi n)],[]⟩) ?_ ?_
 ·simp only [go_sem,↓reduceIte,reduceCtorEq,reduceLT,n0]
  exact ⟨_,WkE.kq,rfl⟩
 refine CwpE.cut (st:=⟨[(0,.list 1 [vi v]),(1,vi n),(5,vw 0),(6,vw n)],[]⟩) ?_ ?_
 ·simp only [go_sem,↓reduceIte,reduceCtorEq,reduceLT,reduceEqDiff,u1,u2]
  refine callT (Mul_s n h8) rfl ?_
  simp only [go_sem,↓reduceIte,reduceLT,reduceEqDiff]
  exact ⟨_,WkE.kq,rfl⟩
 refine CwpE.cut (st:=⟨[(0,.list 1 [vi v]),(1,vi n),(6,vw n)],[]⟩) ?_ ?_
 ·simp only [go_sem,↓reduceIte,reduceCtorEq,reduceLT,reduceEqDiff,Int.lt_irrefl,u4]
  exact ⟨_,WkE.kq,rfl⟩
 refine CwpE.cut (st:=⟨[(0,.list 1 [vi v]),(7,.own 0 n 0 n)],[.arr n 1 3 (List.replicate n (vi 0))]⟩) ?_ ?_
 ·simp only [go_sem,↓reduceIte,reduceCtorEq,reduceLT,reduceEqDiff,u3,q0,q2,q3,Int.le_refl,Int.toNat_natCast]
  exact ⟨_,WkE.kq,rfl⟩
 have z1:n<=(List.replicate n (vi 0)).length:=by simp
 refine CwpE.cut (st:=⟨[(7,.own 0 n 0 n),(8,vi (1:Nat))],[.arr n 1 3 (fillR v 1 n)]⟩) ?_ ?_
 ·simp only [go_sem,↓reduceIte,reduceCtorEq,reduceLT,reduceEqDiff,z1,m1]
  have e:vi v::List.drop 1 (List.replicate n (vi 0))=fillR v 1 n:=by simp [fillR]
  rw [e]
  exact ⟨_,WkE.kq,rfl⟩
 refine CwpE.step (fun st=>st=⟨[(7,.own 0 n 0 n)],[.arr n 1 3 (fillR v n n)]⟩) ?_ ?_
 rotate_left
 ·rintro st rfl
  refine CwpE.vc ?_
  have e:fillR v n n=List.replicate n (vi v):=by simp [fillR]
  rw [e]
  simp only [go_sem,↓reduceIte,reduceLT]
  exact ⟨_,rfl,.refl _ _⟩
 simp only [go_sem]
 refine loopX 0 (fun m st=>∃ k:Nat,m=n-k/\1<=k/\k<=n/\st=⟨[(7,.own 0 n 0 n),(8,vi k)],[.arr n 1 3 (fillR v k n)]⟩)
  (fun st=>st=⟨[(7,.own 0 n 0 n)],[.arr n 1 3 (fillR v n n)]⟩) (n-1) _ (.refl _ _) ⟨1,rfl,Nat.le_refl _,h1,rfl⟩ ?_ ?_
 rotate_left
 ·rintro st rfl
  simp only [go_sem,↓reduceIte]
  exact ⟨_,.refl _ _,rfl⟩
 rintro m st ⟨k,rfl,hk1,hk,rfl⟩
 by_cases hlt:k<n
 rotate_left
 ·have g1:¬ (k:Int)<(n:Int):=by omega
  obtain rfl:k=n:=by omega
  simp only [go_sem,↓reduceIte,reduceLT,reduceEqDiff,g1]
  exact ⟨_,WkE.kp,rfl⟩
 have g1:(k:Int)<(n:Int):=by omega
 have g2:(0:Int)<=(k:Int):=by omega
 have g3:(k:Int)<=(n:Int):=by omega
 have g4:k<=n:=by omega
 have hl:(fillR v k n).length=n:=by simp [fillR];omega
 obtain ⟨c,hc⟩:∃ c,min k (n-k)=c:=⟨_,rfl⟩
 have hc1:c<=k/\c<=n-k/\1<=c:=by omega
 have w1:IntKind.i64.wrap ((k:Int)+(c:Int))=((k+c:Nat):Int):=by rw [wrap_id (by omega) (by omega)];omega
 have e3:List.take k (fillR v k n)++List.take c (List.take k (fillR v k n))++List.drop (k+c) (fillR v k n)=fillR v (k+c) n:=by
  have t1:List.take k (fillR v k n)=List.replicate k (vi v):=by
   rw [fillR,List.take_append_of_le_length (by simp),List.take_of_length_le (by simp)]
  have t2:List.drop (k+c) (fillR v k n)=List.replicate (n-(k+c)) (vi 0):=by
   rw [fillR,List.drop_append,List.drop_eq_nil_of_le (by simp),List.nil_append]
   simp;omega
  have t3:List.take c (List.replicate k (vi v))=List.replicate c (vi v):=by
   rw [List.take_replicate,Nat.min_eq_left hc1.1]
  rw [t1,t2,t3,fillR,List.replicate_append_replicate]
 generalize fillR v k n=l at *
 have hle:k+(n-k)<=l.length:=by omega
 have hle2:k<=l.length:=by omega
 have hlt2:(List.take k l).length=k:=by simp;omega
 simp only [go_sem,↓reduceIte,reduceLT,reduceEqDiff,g1,g2,g3,hle,hle2,hlt2,hc,w1,Nat.sub_zero,e3,Int.toNat_natCast]
 exact ⟨n-(k+c),⟨[(7,.own 0 n 0 n),(8,vi (k+c:Nat))],[.arr n 1 3 (fillR v (k+c) n)]⟩,by omega,WkE.kp,k+c,rfl,by omega,by omega,rfl⟩
end Go.Proofs.Ytjilachpkjlhdaa
namespace Go.Proofs.Ytjilachpkjlhdaa
open Go.RowKit Dak P5
open Nat (reduceEqDiff reduceLT reduceAdd)
abbrev oX (a:Au):AObj:=.arr 1 3 34 [vau a]
abbrev objsW (a:Au) (n y:Nat) (M:List AV) (R:List AObj):List AObj:=[oX a,.arr 1 3 97 [nil3],.arr n 1 22 M,.arr 1 3 97 [.agg [vi y,vbools a.acc,.own 2 n 0 n]]]++R
theorem objsW_drop {a:Au} {n y m:Nat} {M:List AV} {T:List (List Int)} {o:AObj} {env env':List (Nat × AV)} (h:T.length=n) (hM:(M.all (AV.inn (n+4)))=true) (hA:Agree env env') (he:∀ k,(env'.all fun p=>p.2.inn (k+4))=true) :
 WkE m ⟨env,objsW a n y M (T.map (orow y)++[o])⟩ ⟨env',objsW a n y M (T.map (orow y))⟩:=by
 have hl:(objsW a n y M (T.map (orow y))).length=n+4:=by rw [objsW,List.length_append,List.length_map,h];simp;omega
 refine WkE.round hA (by rw [hl];exact he n) ?_ ?_
 ·rw [hl,objsW,List.all_append,Bool.and_eq_true]
  refine ⟨by simp [AObj.innO,AV.inn,AV.inn1,hM],List.all_eq_true.2 fun o ho=>?_⟩
  obtain ⟨r,_,rfl⟩:=List.mem_map.1 ho
  exact inn_map fun _=>rfl
 ·rw [hl,objsW,objsW,<-List.append_assoc]
  exact List.take_left' (by rw [List.length_append,List.length_map,h];simp;omega)
def newsG (n y:Nat) (T:List (List Int)):List AObj:=[.arr n 1 22 (rg n fun q=>.own (q+1) y 0 y)]++T.map (orow y)
theorem newsG_len {n y:Nat} {T:List (List Int)} (h:T.length=n):(newsG n y T).length=n+1:=by rw [newsG,List.length_append,List.length_map,h];simp;omega
theorem newsG_plain (n y:Nat) (T:List (List Int)):((newsG n y T).all AObj.plain)=true:=by
 rw [newsG,List.all_append,Bool.and_eq_true]
 refine ⟨rfl,List.all_eq_true.2 fun o ho=>?_⟩
 obtain ⟨r,_,rfl⟩:=List.mem_map.1 ho
 rfl
theorem newsG_inn {n y:Nat} {T:List (List Int)} (h:T.length=n):((newsG n y T).all fun o=>o.innO (newsG n y T).length)=true:=by
 rw [newsG_len h,newsG,List.all_append,Bool.and_eq_true]
 refine ⟨Bool.and_eq_true_iff.2 ⟨?_,rfl⟩,List.all_eq_true.2 fun o ho=>?_⟩
 ·exact rg_all fun q hq=>by simp [AV.inn,AV.inn1];omega
 ·obtain ⟨r,_,rfl⟩:=List.mem_map.1 ho
  exact inn_map fun _=>rfl
theorem newsG_row {n y:Nat} {T:List (List Int)} {q:Nat} (h:T.length=n) (hq:q<n):(newsG n y T)[q+1]? = some (orow y (T[q]'(by omega))):=by
 rw [newsG]
 simp only [List.cons_append,List.nil_append,List.getElem?_cons_succ,List.getElem?_map]
 rw [List.getElem?_eq_getElem (by omega)];rfl
theorem newsG_arr {n y:Nat} {T:List (List Int)} (h:T.length=n) {i:Nat} (hi:i<n+1):isArr (newsG n y T) i=true:=by
 unfold isArr
 cases i with
 | zero=>rfl
 | succ q=>rw [newsG_row h (by omega)]
theorem newsG_ren {n y:Nat} {T:List (List Int)} {o0 o1 o3:AObj} (h:T.length=n):Ren (fun k=>if k=0 then 2 else k+3) (newsG n y T) ([o0,o1,.arr n 1 22 (rg n fun q=>.own (q+4) y 0 y),o3]++T.map (orow y)):=by
 refine ⟨fun i j hi hj e=>?_,fun i g' s e xs hh=>?_⟩
 ·have e:(if i=0 then 2 else i+3)=(if j=0 then 2 else j+3):=e
  split at e <;> split at e <;> omega
 ·have hi:=(List.getElem?_eq_some_iff.1 hh).1
  rw [newsG_len h] at hi
  cases i with
  | zero =>
   simp only [newsG,List.cons_append,List.nil_append,List.getElem?_cons_zero,Option.some.injEq,AObj.arr.injEq] at hh
   obtain ⟨rfl,rfl,rfl,rfl⟩:=hh
   show some _=some _
   congr 2
   rw [rg,rg,List.map_map]
   exact List.map_congr_left fun q _=>rfl
  | succ q =>
   rw [newsG_row h (by omega),Option.some.injEq,orow,AObj.arr.injEq] at hh
   obtain ⟨rfl,rfl,rfl,rfl⟩:=hh
   show (T.map (orow y))[q]? = _
   rw [List.getElem?_map,List.getElem?_eq_getElem (by omega)]
   show some (AObj.arr y 1 3 (T[q].map vi))=some (AObj.arr y 1 3 ((T[q].map vi).map (AV.ren fun k=>if k=0 then 2 else k+3)))
   rw [List.map_map]
   rfl
theorem newsG_inR {n y:Nat} {T:List (List Int)} (h:T.length=n):((newsG n y T).all fun o=>o.inRO (newsG n y T))=true:=by
 refine List.all_eq_true.2 fun o ho=>?_
 obtain ⟨i,hi,rfl⟩:=List.getElem_of_mem ho
 have hi2:=hi
 rw [newsG_len h] at hi2
 cases i with
 | zero =>
  show ((rg n fun q=>AV.own (q+1) y 0 y).all (AV.inR (newsG n y T)))=true
  exact rg_all fun q hq=>newsG_arr h (by omega)
 | succ q =>
  have:=newsG_row (y:=y) h (q:=q) (by omega)
  rw [List.getElem?_eq_getElem hi,Option.some.injEq] at this
  rw [this]
  show ((T[q].map vi).all (AV.inR (newsG n y T)))=true
  rw [List.all_map]
  exact all_tt _
set_option maxHeartbeats 4000000 in
theorem fixedg_n (a:Au) (hv:VA a) (hne:∀ e ∈ a.ed,0<=e.2.1):CtrN Try.prog 65 [vau a] (.agg [vi a.sy,vbools a.acc,.own 0 a.acc.length 0 a.acc.length]) (newsG a.acc.length a.sy.toNat (tabM a)):=by
 obtain ⟨⟨hsy1,hsy2⟩,⟨hn1,hn2⟩,hm,hed0⟩:=id hv
 obtain ⟨n,hn⟩:∃ n,a.acc.length=n:=⟨_,rfl⟩
 obtain ⟨y,hy⟩:∃ y:Nat,a.sy=(y:Int):=⟨a.sy.toNat,by omega⟩
 have hyT:a.sy.toNat=y:=by omega
 have htab:tabM a=tabGo (tab0 n y) a.ed:=by rw [tabM,hn,hyT]
 have hed:∀ e ∈ a.ed,(0<=e.1/\e.1<n)/\(0<=e.2.1/\e.2.1<y):=fun e he=>by have:=hed0 e he;have:=hne e he;omega
 have htok:TabOk (tabM a) n y:=by rw [htab];exact tabGo_ok (tab0_ok n y) fun e he=>by have:=hed e he;omega
 rw [hn,hyT,hy]
 refine specN f65 (by simp) (newsG_plain _ _ _) (newsG_inn htok.len) (by rw [newsG_len htok.len];simp [AV.inn,AV.inn1]) fun F0 w0=>?_
 rw [htab]
 unfold c65
 refine CwpE.cut (st:=⟨[(1,.ref 0 1 0 0),(2,.ref 1 1 0 0)],[oX a,.arr 1 3 97 [nil3]]⟩) ?_ ?_
 ·simp only [go_sem,↓reduceIte,reduceLT,reduceAdd]
  exact ⟨_,WkE.kp,rfl⟩
 have q0:(0:Int)<=(n:Int):=by omega
 have q2:((24:Nat):Int)*(n:Int)<=281474976710656:=by omega
 have q3:(n:Int)<=9223372036854775807:=by omega
 have hrep:=Repeat_s (-1) y (by omega) (by omega)
 obtain ⟨Mk,hMk⟩:∃ Mk:Nat->List AV,Mk=fun k=>rg n fun q=>if q<k then .own (q+4) y 0 y else nilV:=⟨_,rfl⟩
 obtain ⟨Rk,hRk⟩:∃ Rk:Nat->List AObj,Rk=fun k=>rg k fun _=>orow y (List.replicate y (-1)):=⟨_,rfl⟩
 have hM0:(rg n fun _=>nilV)=Mk 0:=by rw [hMk];exact rg_congr fun q _=>by rw [if_neg (by omega)]
 have hR0:([]:List AObj)=Rk 0:=by rw [hRk];rfl
 have hMkl:∀ k,(Mk k).length=n:=fun k=>by rw [hMk];exact rg_len _ _
 refine CwpE.cut (st:=⟨[(1,.ref 0 1 0 0),(2,.ref 1 1 0 0),(3,.ref 3 1 0 0)],objsW a n y (Mk 0) (Rk 0)⟩) ?_ ?_
 ·rw [<-hM0,<-hR0]
  simp only [go_sem,Nat.reduceLeDiff,↓reduceIte,reduceLT,reduceEqDiff,reduceAdd,List.length_map,hn,hy,q0,q2,q3,Int.le_refl,Int.toNat_natCast,rg_rep]
  exact ⟨_,WkE.kp,rfl⟩
 refine CwpE.step (fun z=>z=⟨[(1,.ref 0 1 0 0),(2,.ref 1 1 0 0),(3,.ref 3 1 0 0)],objsW a n y (Mk n) (Rk n)⟩) ?_ ?_
 ·simp only [go_sem,↓reduceIte,reduceLT,reduceEqDiff]
  refine loopX 0 (fun m z=>∃ i:Nat,m=n-i/\i<=n/\z=⟨[(1,.ref 0 1 0 0),(2,.ref 1 1 0 0),(3,.ref 3 1 0 0),(18,vi n),(19,vi i)],objsW a n y (Mk i) (Rk i)⟩)
   (fun z=>z=⟨[(1,.ref 0 1 0 0),(2,.ref 1 1 0 0),(3,.ref 3 1 0 0)],objsW a n y (Mk n) (Rk n)⟩) n
   ⟨[(1,.ref 0 1 0 0),(2,.ref 1 1 0 0),(3,.ref 3 1 0 0),(18,vi n),(19,vi (0:Nat))],objsW a n y (Mk 0) (Rk 0)⟩ (WkE.kp) ⟨0,by omega,by omega,rfl⟩ ?_ ?_
  rotate_left
  ·rintro z rfl
   simp only [go_sem,↓reduceIte]
   exact ⟨_,.refl _ _,rfl⟩
  rintro m z ⟨i,rfl,hi,rfl⟩
  by_cases hlt:i<n
  rotate_left
  ·obtain rfl:i=n:=by omega
   simp only [go_sem,↓reduceIte,reduceLT,reduceEqDiff,Int.lt_irrefl]
   exact ⟨_,WkE.kp,rfl⟩
  have g1:(i:Int)<(n:Int):=by omega
  have g0:(0:Int)<=(i:Int):=by omega
  have wi:=wrap_s i (by omega)
  have hMg:(Mk i)[i]? = some nilV:=by rw [hMk];simp only;rw [rg_get hlt,if_neg (by omega)]
  have hMn:(Mk i).set i (.own (i+4) y 0 y)=Mk (i+1):=by
   rw [hMk]
   simp only
   rw [rg_set]
   refine rg_congr fun p _=>?_
   by_cases h:p=i
   ·rw [if_pos h,if_pos (by omega),h]
   ·rw [if_neg h]
    by_cases h2:p<i
    ·rw [if_pos h2,if_pos (by omega)]
    ·rw [if_neg h2,if_neg (by omega)]
  have hRn:Rk i++[orow y (List.replicate y (-1))]=Rk (i+1):=by
   rw [hRk]
   simp only
   rw [rg_succ]
  have hRl:(Rk i).length=i:=by rw [hRk];exact rg_len _ _
  obtain ⟨M1,hM1⟩:∃ M1,Mk (i+1)=M1:=⟨_,rfl⟩
  have hR1i:(Rk (i+1))[i]? = some (.arr y 1 3 ((List.replicate y (-1:Int)).map vi)):=by rw [hRk];simp only;rw [rg_get (by omega)]
  obtain ⟨R1,hR1⟩:∃ R1,Rk (i+1)=R1:=⟨_,rfl⟩
  rw [hR1] at hR1i
  rw [hM1] at hMn
  rw [hR1] at hRn
  generalize Mk i=M at hMg hMn ⊢
  generalize Rk i=R at hRn hRl ⊢
  have hsh:(List.replicate y (vi (-1))).map (AV.shift (i+4))=(List.replicate y (-1:Int)).map vi:=by rw [List.map_replicate,List.map_replicate];rfl
  simp only [go_sem,Nat.reducePow,Nat.reduceLeDiff,↓reduceIte,reduceLT,reduceEqDiff,Nat.reduceMul,g1,hy]
  refine callNew (cap:=[]) (args:=[.list 1 [vi (-1)],vi y]) hrep (.cons (.tree _ rfl) (.cons (.tree _ rfl) .nil)) ?_
  simp only [go_sem,↓reduceIte,reduceLT,reduceEqDiff,AV.shift,AV.shift1,AObj.shiftO,Nat.zero_add,hRl,hsh,g1,g0,hMg,hMn,hRn,hR1i,wi,Int.toNat_natCast,beq_self_eq_true]
  exact ⟨n-(i+1),⟨[(1,.ref 0 1 0 0),(2,.ref 1 1 0 0),(3,.ref 3 1 0 0),(18,vi n),(19,vi (i+1:Nat))],objsW a n y M1 R1⟩,by omega,WkE.kp,i+1,rfl,by omega,by rw [hM1,hR1];rfl⟩
 rintro _ rfl
 obtain ⟨Mf,hMf⟩:∃ Mf,(rg n fun q=>AV.own (q+4) y 0 y)=Mf:=⟨_,rfl⟩
 have hMe:Mk n=Mf:=by rw [hMk,<-hMf];exact rg_congr fun q hq=>by rw [if_pos hq]
 have hMq:∀ q,q<n->Mf[q]? = some (.own (q+4) y 0 y):=fun q hq=>by rw [<-hMf,rg_get hq]
 have hMl:Mf.length=n:=by rw [<-hMf,rg_len]
 obtain ⟨T,hT⟩:∃ T:Nat->List (List Int),T=fun k=>tabGo (tab0 n y) (a.ed.take k):=⟨_,rfl⟩
 have hTok:∀ k,TabOk (T k) n y:=fun k=>by
  rw [hT]
  exact tabGo_ok (tab0_ok n y) fun e he=>by have:=hed e (List.mem_of_mem_take he);omega
 have hRe:Rk n=(T 0).map (orow y):=by
  rw [hRk,hT]
  simp only [List.take_zero,tabGo,tab0,List.map_replicate]
  exact (rg_rep n _).symm
 rw [hMe,hRe]
 have hTn:∀ k (hk:k<a.ed.length),T (k+1)=setT (T k) a.ed[k].1.toNat a.ed[k].2.1.toNat a.ed[k].2.2:=fun k hk=>by
  rw [hT]
  simp only
  rw [List.take_succ_eq_append_getElem hk]
  have:∀ (l:List Edg) (t:List (List Int)) (e:Edg),tabGo t (l++[e])=setT (tabGo t l) e.1.toNat e.2.1.toNat e.2.2:=by
   intro l
   induction l with
   | nil=>intro t e;rfl
   | cons x l ih=>intro t e;exact ih _ _
  exact this _ _ _
 refine CwpE.step (fun z=>z=⟨[(2,.ref 1 1 0 0),(3,.ref 3 1 0 0)],objsW a n y Mf ((T a.ed.length).map (orow y))⟩) ?_ ?_
 ·simp only [go_sem,↓reduceIte,reduceLT,List.length_map]
  refine loopX 2 (fun m z=>∃ k:Nat,m=a.ed.length-k/\k<=a.ed.length/\z=⟨[(1,.ref 0 1 0 0),(2,.ref 1 1 0 0),(3,.ref 3 1 0 0),(32,vedges a.ed),(33,vi a.ed.length),(34,vi k)],objsW a n y Mf ((T k).map (orow y))⟩)
   (fun z=>z=⟨[(2,.ref 1 1 0 0),(3,.ref 3 1 0 0)],objsW a n y Mf ((T a.ed.length).map (orow y))⟩) a.ed.length
   ⟨[(1,.ref 0 1 0 0),(2,.ref 1 1 0 0),(3,.ref 3 1 0 0),(32,vedges a.ed),(33,vi a.ed.length),(34,vi (0:Nat))],objsW a n y Mf ((T 0).map (orow y))⟩ (WkE.kp) ⟨0,by omega,by omega,rfl⟩ ?_ ?_
  rotate_left
  ·rintro z rfl
   simp only [go_sem,↓reduceIte]
   exact ⟨_,.refl _ _,rfl⟩
  rintro m z ⟨k,rfl,hk,rfl⟩
  by_cases hlt:k<a.ed.length
  rotate_left
  ·obtain rfl:k=a.ed.length:=by omega
   simp only [go_sem,↓reduceIte,reduceLT,reduceEqDiff,Int.lt_irrefl]
   exact ⟨_,WkE.kp,rfl⟩
  have g1:(k:Int)<(a.ed.length:Int):=by omega
  have g0:(0:Int)<=(k:Int):=by omega
  have w1:=wrap_s k (by omega)
  have hee:=hed _ (List.getElem_mem hlt)
  have heg:=edge_get hlt
  have htn:=hTn k hlt
  generalize a.ed[k]=e at hee heg htn
  obtain ⟨e1,e2,e3⟩:=e
  simp only at hee htn
  obtain ⟨p,rfl⟩:∃ p:Nat,e1=(p:Int):=⟨e1.toNat,by omega⟩
  obtain ⟨x,rfl⟩:∃ x:Nat,e2=(x:Int):=⟨e2.toNat,by omega⟩
  simp only [Int.toNat_natCast] at htn
  have hpn:p<n:=by omega
  have hxy:x<y:=by omega
  have p0:(0:Int)<=(p:Int):=by omega
  have p1:(p:Int)<(n:Int):=by omega
  have x0:(0:Int)<=(x:Int):=by omega
  have x1:(x:Int)<(y:Int):=by omega
  have hok:=hTok k
  obtain ⟨t1,ht1⟩:∃ t1,T (k+1)=t1:=⟨_,rfl⟩
  rw [ht1] at htn
  generalize T k=t at htn hok ⊢
  have hrow:t[p]? = some (t.getD p []):=by
   rw [List.getD_eq_getElem?_getD,List.getElem?_eq_getElem (by rw [hok.len];exact hpn)];rfl
  have hrl:=hok.getD hpn
  obtain ⟨row,hrw⟩:∃ row,t.getD p []=row:=⟨_,rfl⟩
  rw [hrw] at hrow hrl
  have htn':t1=t.set p (row.set x e3):=by rw [htn,setT,hrw]
  have hRp:(t.map (orow y))[p]? = some (orow y row):=by rw [List.getElem?_map,hrow];rfl
  have hrx:∃ v,(row.map vi)[x]? = some (vi v):=⟨_,int_get (by omega)⟩
  obtain ⟨v,hrx⟩:=hrx
  have hRs:(t.map (orow y)).set p (.arr y 1 3 ((row.map vi).set x (vi e3)))=t1.map (orow y):=by
   rw [htn',List.map_set,orow,List.map_set]
  have htl:=hok.len
  have hA0:∀ o:AObj,(t.map (orow y)++[o])[n]? = some o:=fun o=>by rw [List.getElem?_append_right (by rw [List.length_map];omega),List.length_map,htl,Nat.sub_self];rfl
  have hA1:∀ o:AObj,(t.map (orow y)++[o])[p]? = some (orow y row):=fun o=>by rw [List.getElem?_append_left (by rw [List.length_map];omega),hRp]
  have hA2:∀ o x:AObj,(t.map (orow y)++[o]).set n x=t.map (orow y)++[x]:=fun o x=>by rw [List.set_append_right _ _ (by rw [List.length_map];omega),List.length_map,htl,Nat.sub_self];rfl
  have hA3:∀ o:AObj,(t.map (orow y)++[o]).set p (.arr y 1 3 ((row.map vi).set x (vi e3)))=t1.map (orow y)++[o]:=fun o=>by rw [List.set_append_left _ _ (by rw [List.length_map];omega),hRs]
  simp only [go_sem,↓reduceIte,reduceLT,reduceEqDiff,reduceAdd,g1,g0,heg,htl,hA0,hA2,hMq p hpn,hA1,hrx,hA3,p0,p1,x0,x1,w1,List.length_map,Int.toNat_natCast]
  refine ⟨a.ed.length-(k+1),⟨[(1,.ref 0 1 0 0),(2,.ref 1 1 0 0),(3,.ref 3 1 0 0),(32,vedges a.ed),(33,vi a.ed.length),(34,vi (k+1:Nat))],objsW a n y Mf (t1.map (orow y))⟩,by omega,?_,k+1,rfl,by omega,by rw [ht1];rfl⟩
  have ht1l:t1.length=n:=by rw [htn',List.length_set,htl]
  exact objsW_drop ht1l (by rw [<-hMf];exact rg_all fun q hq=>by simp [AV.inn,AV.inn1];omega) (by simp only [go_sem,↓reduceIte,reduceEqDiff];try rfl) (fun m=>rfl)
 rintro _ rfl
 have hfin:T a.ed.length=tabGo (tab0 n y) a.ed:=by rw [hT];simp only;rw [List.take_length]
 have hok:=hTok a.ed.length
 rw [<-hfin]
 generalize T a.ed.length=t at hok ⊢
 refine CwpE.vc ?_
 simp only [go_sem,↓reduceIte,reduceLT,reduceEqDiff,reduceAdd]
 refine ⟨_,rfl,WkE.rename (fun k=>if k=0 then 2 else k+3) ?_ (newsG_inR hok.len) ⟨rfl,?_,trivial⟩⟩
 ·rw [<-hMf]
  exact newsG_ren hok.len
 ·show ((AV.inR1 (newsG n y t) (vi y)) && ((AV.inR1 (newsG n y t) (vbools a.acc)) && (isArr (newsG n y t) 0 && true)))=true
  rw [newsG_arr hok.len (by omega)];rfl
end Go.Proofs.Ytjilachpkjlhdaa
namespace Go.Proofs.Ytjilachpkjlhdaa
open Go.RowKit Dak P5
open Nat (reduceEqDiff reduceLT reduceAdd)
theorem fixed_ok {a:Au} (h:(fixedM a).2=0):VA (fixedM a).1/\(∀ e ∈ (fixedM a).1.ed,0<=e.2.1)/\(fixedM a).1.sy=a.sy/\fixedM a=((fixedM a).1,0):=by
 obtain ⟨hv,g,d,h1,h2,h3,h4,h5,_⟩:=fixed_norm h
 have h6:(fixedM (auOf g))=(auOf g,0):=fixed_again h4
 have hva:VA (auOf g):=by
  have:(fixedM (auOf g)).2=0:=by rw [h6]
  exact (fixed_norm this).1
 rw [h3]
 refine ⟨hva,fun e he=>?_,?_,rfl⟩
 ·obtain ⟨i,x,_,_,_,rfl⟩:=(mem_auOf h4.ok).1 he
  simp only;omega
 ·show (g.sy:Int)=a.sy
  have:=hv.sy
  omega
theorem grN_snap {objs:List AObj} {k n y:Nat} {s:Int} (hs:(y:Int)=s) {A:List Bool} {T:List (List Int)} (h:T.length=n) (hk:objs[k]? = some (.arr n 1 22 (rg n fun q=>.own (q+1+k) y 0 y))) (hr:∀ q (hq:q<n),objs[q+1+k]? = some (orow y (T[q]'(by omega)))) (hrl:∀ r ∈ T,r.length=y) :
 Snap objs (.agg [vi s,vbools A,.own k n 0 n]) (vgr ⟨y,A,T⟩):=by
 subst hs
 refine .agg _ _ rfl fun i h1 h2=>?_
 match i,h1,h2 with
 | 0,_,_=>exact .tree _ rfl
 | 1,_,_=>exact .tree _ rfl
 | 2,_,_ =>
  refine .own k n 0 n 1 22 _ _ hk (by rw [rg_len];omega) (by simp [h]) fun q hq=>?_
  replace hq:q<T.length:=by simpa using hq
  have e1:(rg n fun q=>AV.own (q+1+k) y 0 y)[0+q]'(by rw [rg_len];omega) = .own (q+1+k) y 0 y:=by
   have:=rg_get (n:=n) (q:=q) (by omega) (fun q=>AV.own (q+1+k) y 0 y)
   rw [List.getElem?_eq_getElem (by rw [rg_len];omega)] at this
   simp only [Nat.zero_add]
   exact Option.some.inj this
  rw [e1,List.getElem_map]
  have hT:=hrl _ (List.getElem_mem hq)
  refine .own (q+1+k) y 0 y 1 3 _ _ (hr q (by omega)) (by simp [hT]) (by simp [hT]) fun j hj=>?_
  simp only [Nat.zero_add]
  exact .tree _ (List.all_eq_true.1 (isT_map (fun _=>rfl) _) _ (List.getElem_mem _))
theorem newsG_shift (n y L:Nat) (T:List (List Int)):(newsG n y T).map (AObj.shiftO L) = .arr n 1 22 (rg n fun q=>.own (q+1+L) y 0 y)::T.map (orow y):=by
 rw [newsG,List.map_append,List.map_map]
 show AObj.arr n 1 22 _::_=_
 congr 1
 ·congr 1
  rw [rg,rg,List.map_map]
  exact List.map_congr_left fun q _=>rfl
 ·refine List.map_congr_left fun r _=>?_
  show AObj.arr y 1 3 _=AObj.arr y 1 3 _
  rw [List.map_map]
  rfl
theorem tabM_ok {a:Au} (hv:VA a) (hne:∀ e ∈ a.ed,0<=e.2.1):TabOk (tabM a) a.acc.length a.sy.toNat :=
 tabGo_ok (tab0_ok _ _) fun e he=>by have:=(hv.ed e he).1;omega
set_option maxHeartbeats 4000000 in
theorem two_s (a b:Au) (ha:SzA a) (hb:SzA b):Ctr Try.prog 55 [vau a,vau b] (.tup [vgr (twoM a b).2.1,vgr (twoM a b).2.2,vi (twoM a b).1]):=by
 refine specC f55 (by simp) fun F0 w0=>?_
 have hva:=Valid_s a ha
 have hvb:=Valid_s b hb
 have hfa:=Fixed_s a ha
 have hfb:=Fixed_s b hb
 unfold c55
 refine CwpE.cut (st:=⟨[(2,.ref 0 1 0 0),(3,.ref 1 1 0 0),(4,.ref 2 1 0 0),(5,.ref 3 1 0 0),(6,vi 0)],[oX a,oX b,.arr 1 3 97 [nil3],.arr 1 3 97 [nil3]]⟩) ?_ ?_
 ·simp only [go_sem,↓reduceIte,reduceCtorEq,reduceLT,reduceEqDiff,reduceAdd]
  exact ⟨_,WkE.kp,rfl⟩
 have bad:∀ {e:Int} {t:Int × Gr × Gr},t=(e,nilG,nilG)->∀ objs,Snap objs (.tup [nil3,nil3,vi e]) (.tup [vgr t.2.1,vgr t.2.2,vi t.1]):=by
  rintro e t rfl objs
  refine .tup _ _ rfl fun i h1 h2=>?_
  match i,h1,h2 with
  | 0,_,_=>exact nilG_snap
  | 1,_,_=>exact nilG_snap
  | 2,_,_=>exact .tree _ rfl
 refine CwpE.step (fun z=>validM a=0/\validM b=0/\z=⟨[(2,.ref 0 1 0 0),(3,.ref 1 1 0 0),(4,.ref 2 1 0 0),(5,.ref 3 1 0 0),(6,vi 0)],[oX a,oX b,.arr 1 3 97 [nil3],.arr 1 3 97 [nil3]]⟩) ?_ ?_
 ·simp only [go_sem,Nat.reducePow,Nat.reduceLeDiff,↓reduceIte,reduceCtorEq,reduceLT,reduceEqDiff,reduceAdd,Nat.reduceMul]
  refine loopX 0 (fun m z=>∃ k:Nat,m=2-k/\k<=2/\(1<=k->validM a=0)/\(2<=k->validM b=0)/\z=⟨[(2,.ref 0 1 0 0),(3,.ref 1 1 0 0),(4,.ref 2 1 0 0),(5,.ref 3 1 0 0),(6,vi 0),(14,.list 3 [vau a,vau b]),(15,vi (2:Nat)),(16,vi k)],[oX a,oX b,.arr 1 3 97 [nil3],.arr 1 3 97 [nil3]]⟩)
   (fun z=>validM a=0/\validM b=0/\z=⟨[(2,.ref 0 1 0 0),(3,.ref 1 1 0 0),(4,.ref 2 1 0 0),(5,.ref 3 1 0 0),(6,vi 0)],[oX a,oX b,.arr 1 3 97 [nil3],.arr 1 3 97 [nil3]]⟩) 2
   ⟨[(2,.ref 0 1 0 0),(3,.ref 1 1 0 0),(4,.ref 2 1 0 0),(5,.ref 3 1 0 0),(6,vi 0),(14,.list 3 [vau a,vau b]),(15,vi (2:Nat)),(16,vi (0:Nat))],[oX a,oX b,.arr 1 3 97 [nil3],.arr 1 3 97 [nil3]]⟩ (WkE.kp) ⟨0,by omega,by omega,by omega,by omega,rfl⟩ ?_ ?_
  rotate_left
  ·rintro z ⟨h1,h2,rfl⟩
   simp only [go_sem,↓reduceIte]
   exact ⟨_,.refl _ _,h1,h2,rfl⟩
  rintro m z ⟨k,rfl,hk,h1,h2,rfl⟩
  have z0:((0:Nat):Int)=0:=rfl
  have z1:((1:Nat):Int)=1:=rfl
  have z2:((2:Nat):Int)=2:=rfl
  have hk3:k=0 \/ k=1 \/ k=2:=by omega
  rcases hk3 with rfl | rfl | rfl
  ·by_cases h0:validM a=0
   ·rw [h0] at hva
    simp only [go_sem,↓reduceIte,reduceLT,reduceEqDiff,reduceAdd,Nat.reduceSub,Int.reduceToNat,Int.reduceLT,Int.reduceToNat,Int.le_refl,z0,z2]
    refine callT hva rfl ?_
    simp only [go_sem,↓reduceIte,reduceLT,reduceEqDiff]
    refine ⟨1,⟨[(2,.ref 0 1 0 0),(3,.ref 1 1 0 0),(4,.ref 2 1 0 0),(5,.ref 3 1 0 0),(6,vi 0),(14,.list 3 [vau a,vau b]),(15,vi (2:Nat)),(16,vi (1:Nat))],[oX a,oX b,.arr 1 3 97 [nil3],.arr 1 3 97 [nil3]]⟩,by omega,WkE.round (by simp only [go_sem,↓reduceIte,reduceEqDiff,z1,z2];rfl) rfl rfl rfl,1,rfl,by omega,fun _=>h0,by omega,rfl⟩
   ·simp only [go_sem,↓reduceIte,reduceLT,reduceEqDiff,reduceAdd,Nat.reduceSub,Int.reduceToNat,Int.reduceLT,Int.reduceToNat,Int.le_refl,z0,z2]
    refine callT hva rfl ?_
    simp only [go_sem,↓reduceIte,reduceLT,reduceEqDiff,reduceAdd,h0]
    exact bad (by rw [twoM];rw [if_neg h0]) _
  ·have h0:=h1 (by omega)
   by_cases h3:validM b=0
   ·rw [h3] at hvb
    simp only [go_sem,↓reduceIte,reduceLT,reduceEqDiff,reduceAdd,Nat.reduceSub,Int.reduceToNat,Int.reduceLT,Int.reduceLE,Int.reduceToNat,z1,z2]
    refine callT hvb rfl ?_
    simp only [go_sem,↓reduceIte,reduceLT,reduceEqDiff]
    refine ⟨0,⟨[(2,.ref 0 1 0 0),(3,.ref 1 1 0 0),(4,.ref 2 1 0 0),(5,.ref 3 1 0 0),(6,vi 0),(14,.list 3 [vau a,vau b]),(15,vi (2:Nat)),(16,vi (2:Nat))],[oX a,oX b,.arr 1 3 97 [nil3],.arr 1 3 97 [nil3]]⟩,by omega,WkE.round (by simp only [go_sem,↓reduceIte,reduceEqDiff,z2];rfl) rfl rfl rfl,2,rfl,by omega,fun _=>h0,fun _=>h3,rfl⟩
   ·simp only [go_sem,↓reduceIte,reduceLT,reduceEqDiff,reduceAdd,Nat.reduceSub,Int.reduceToNat,Int.reduceLT,Int.reduceLE,Int.reduceToNat,z1,z2]
    refine callT hvb rfl ?_
    simp only [go_sem,↓reduceIte,reduceLT,reduceEqDiff,reduceAdd,h3]
    exact bad (by rw [twoM];rw [if_pos h0,if_neg h3]) _
  ·simp only [go_sem,↓reduceIte,reduceLT,reduceEqDiff,Nat.reduceSub,Int.lt_irrefl,z2]
   exact ⟨_,WkE.kp,h1 (by omega),h2 (by omega),rfl⟩
 rintro _ ⟨h1,h2,rfl⟩
 have ht:twoM a b=if a.sy=b.sy then if (fixedM a).2=0 then if (fixedM b).2=0 then (0,tabG (fixedM a).1,tabG (fixedM b).1) else ((fixedM b).2,nilG,nilG) else ((fixedM a).2,nilG,nilG) else (13,nilG,nilG):=by rw [twoM];rw [if_pos h1,if_pos h2]
 by_cases hs:a.sy=b.sy
 rotate_left
 ·refine CwpE.vc ?_
  simp only [go_sem,↓reduceIte,reduceLT,reduceEqDiff,reduceAdd,hs]
  exact bad (by rw [ht,if_neg hs]) _
 rw [if_pos hs] at ht
 refine CwpE.cut (st:=⟨[(2,.ref 0 1 0 0),(3,.ref 1 1 0 0),(4,.ref 2 1 0 0),(5,.ref 3 1 0 0),(6,vi 0)],[oX a,oX b,.arr 1 3 97 [nil3],.arr 1 3 97 [nil3]]⟩) ?_ ?_
 ·simp only [go_sem,↓reduceIte,reduceLT,reduceEqDiff,hs]
  exact ⟨_,WkE.kp,rfl⟩
 obtain ⟨c,e,hc⟩:∃ c e,fixedM a=(c,e):=⟨_,_,rfl⟩
 obtain ⟨d,e',hd⟩:∃ d e,fixedM b=(d,e):=⟨_,_,rfl⟩
 have hco:=fixed_ok (a:=a)
 have hdo:=fixed_ok (a:=b)
 rw [hc] at hfa ht hco
 rw [hd] at hfb ht hdo
 simp only at ht hco hdo
 refine CwpE.cut (st:=⟨[(2,.ref 0 1 0 0),(3,.ref 1 1 0 0),(4,.ref 2 1 0 0),(5,.ref 3 1 0 0),(6,vi e),(10,.ref 4 1 0 0)],[oX a,oX b,.arr 1 3 97 [nil3],.arr 1 3 97 [nil3],oX c]⟩) ?_ ?_
 ·simp only [go_sem,↓reduceIte,reduceLT,reduceAdd]
  refine callT hfa rfl ?_
  simp only [go_sem,↓reduceIte,reduceLT,reduceEqDiff,reduceAdd]
  exact ⟨_,WkE.kp,rfl⟩
 by_cases he:e=0
 rotate_left
 ·refine CwpE.vc ?_
  simp only [go_sem,↓reduceIte,reduceLT,reduceEqDiff,reduceAdd,he]
  exact bad (by rw [ht,if_neg he]) _
 subst he
 rw [if_pos rfl] at ht
 refine CwpE.cut (st:=⟨[(2,.ref 0 1 0 0),(3,.ref 1 1 0 0),(4,.ref 2 1 0 0),(5,.ref 3 1 0 0),(10,.ref 4 1 0 0)],[oX a,oX b,.arr 1 3 97 [nil3],.arr 1 3 97 [nil3],oX c]⟩) ?_ ?_
 ·simp only [go_sem,↓reduceIte,reduceLT,reduceEqDiff]
  exact ⟨_,WkE.kp,rfl⟩
 refine CwpE.cut (st:=⟨[(2,.ref 0 1 0 0),(3,.ref 1 1 0 0),(4,.ref 2 1 0 0),(5,.ref 3 1 0 0),(6,vi e'),(10,.ref 4 1 0 0),(11,.ref 5 1 0 0)],[oX a,oX b,.arr 1 3 97 [nil3],.arr 1 3 97 [nil3],oX c,oX d]⟩) ?_ ?_
 ·simp only [go_sem,↓reduceIte,reduceLT,reduceEqDiff,reduceAdd]
  refine callT hfb rfl ?_
  simp only [go_sem,↓reduceIte,reduceLT,reduceEqDiff,reduceAdd]
  exact ⟨_,WkE.kp,rfl⟩
 by_cases he:e'=0
 rotate_left
 ·refine CwpE.vc ?_
  simp only [go_sem,↓reduceIte,reduceLT,reduceEqDiff,reduceAdd,he]
  exact bad (by rw [ht,if_neg he]) _
 subst he
 rw [if_pos rfl] at ht
 refine CwpE.cut (st:=⟨[(2,.ref 0 1 0 0),(3,.ref 1 1 0 0),(4,.ref 2 1 0 0),(5,.ref 3 1 0 0),(10,.ref 4 1 0 0),(11,.ref 5 1 0 0)],[oX a,oX b,.arr 1 3 97 [nil3],.arr 1 3 97 [nil3],oX c,oX d]⟩) ?_ ?_
 ·simp only [go_sem,↓reduceIte,reduceLT,reduceEqDiff]
  exact ⟨_,WkE.kp,rfl⟩
 obtain ⟨c1,c2,_,_⟩:=hco rfl
 obtain ⟨d1,d2,_,_⟩:=hdo rfl
 have k1:=fixedg_n c c1 c2
 have k2:=fixedg_n d d1 d2
 refine CwpE.vc ?_
 simp only [go_sem,↓reduceIte,reduceLT,reduceEqDiff,reduceAdd]
 refine callNew (cap:=[]) (args:=[vau c]) k1 (.cons (.tree _ rfl) .nil) ?_
 have tl1:(tabM c).length=c.acc.length:=(tabM_ok c1 c2).len
 have tl2:(tabM d).length=d.acc.length:=(tabM_ok d1 d2).len
 have tr1:=(tabM_ok c1 c2).row
 have tr2:=(tabM_ok d1 d2).row
 have y1:((c.sy.toNat:Nat):Int)=c.sy:=by have:=c1.sy;omega
 have y2:((d.sy.toNat:Nat):Int)=d.sy:=by have:=d1.sy;omega
 have hR1:((tabM c).map (orow c.sy.toNat)).length=c.acc.length:=by rw [List.length_map,tl1]
 have hR2:((tabM d).map (orow d.sy.toNat)).length=d.acc.length:=by rw [List.length_map,tl2]
 simp only [go_sem,↓reduceIte,reduceLT,reduceEqDiff,reduceAdd,AV.shift,AV.shift1,newsG_shift,Nat.zero_add]
 refine callNew (cap:=[]) (args:=[vau d]) k2 (.cons (.tree _ rfl) .nil) ?_
 simp only [go_sem,↓reduceIte,reduceLT,reduceEqDiff,reduceAdd,AV.shift,AV.shift1,newsG_shift,Nat.zero_add,tl1]
 rw [ht]
 refine .tup _ _ rfl fun i h1 h2=>?_
 match i,h1,h2 with
 | 0,_,_ =>
  refine grN_snap (k:=6) y1 tl1 rfl (fun q hq=>?_) tr1
  show ((tabM c).map (orow c.sy.toNat)++_)[q]? = _
  rw [List.getElem?_append_left (by rw [hR1];exact hq),List.getElem?_map,List.getElem?_eq_getElem (by omega)];rfl
 | 1,_,_ =>
  refine grN_snap (k:=c.acc.length+7) y2 tl2 ?_ (fun q hq=>?_) tr2
  ·show ((tabM c).map (orow c.sy.toNat)++_)[c.acc.length]? = _
   rw [List.getElem?_append_right (by rw [hR1];exact Nat.le_refl _),hR1,Nat.sub_self];rfl
  ·show ((tabM c).map (orow c.sy.toNat)++_)[q+1+c.acc.length]? = _
   rw [List.getElem?_append_right (by rw [hR1];omega),hR1,Nat.add_sub_cancel]
   show ((tabM d).map (orow d.sy.toNat))[q]? = _
   rw [List.getElem?_map,List.getElem?_eq_getElem (by omega)];rfl
 | 2,_,_=>exact .tree _ rfl
end Go.Proofs.Ytjilachpkjlhdaa
namespace Go.Proofs.Ytjilachpkjlhdaa
open Go.RowKit Dak P5
open Nat (reduceEqDiff reduceLT reduceAdd)
theorem w02:(0:Int)<((2:Nat):Int):=by omega
theorem w12:(1:Int)<((2:Nat):Int):=by omega
end Go.Proofs.Ytjilachpkjlhdaa
namespace P5
theorem freshB_iff {s z:List Bool}:freshB s z=true ↔ ∃ i,bt s i=true/\¬ bt z i=true:=by
 unfold freshB
 simp only [List.any_eq_true,List.mem_range,Bool.and_eq_true]
 constructor
 ·rintro ⟨i,_,h1,h2⟩
  exact ⟨i,h1,by simpa using h2⟩
 ·rintro ⟨i,h1,h2⟩
  exact ⟨i,bt_lt h1,h1,by simpa using h2⟩
theorem stepI_in {g:Gr} (h:GrOk g) (i:Int) (x:Nat) : -1<=stepI g i x/\stepI g i x<g.acc.length:=by
 unfold stepI
 have:=h.n
 split
 ·omega
 ·exact ⟨h.lo _ _,h.hi _ _⟩
structure InD (g h:Gr) (p:PI):Prop where
 a0 : -1<=p.1
 a1:p.1<g.acc.length
 b0 : -1<=p.2
 b1:p.2<h.acc.length
def allP (n m:Nat):List PI:=(List.range (n+1)).flatMap fun (i:Nat)=>(List.range (m+1)).map fun (j:Nat)=>((i:Int)-1,(j:Int)-1)
theorem allP_len (n m:Nat):(allP n m).length=(n+1)*(m+1):=by
 unfold allP
 generalize m+1=m'
 generalize n+1=k
 induction k with
 | zero=>simp
 | succ k ih=>rw [List.range_succ,List.flatMap_append,List.length_append,ih];simp [Nat.succ_mul]
theorem allP_mem {g h:Gr} {p:PI} (hp:InD g h p):p ∈ allP g.acc.length h.acc.length:=by
 obtain ⟨a0,a1,b0,b1⟩:=hp
 unfold allP
 simp only [List.mem_flatMap,List.mem_map,List.mem_range]
 refine ⟨(p.1+1).toNat,by omega,(p.2+1).toNat,by omega,?_⟩
 refine Prod.ext ?_ ?_
 ·show ((p.1+1).toNat:Int)-1=p.1
  omega
 ·show ((p.2+1).toNat:Int)-1=p.2
  omega
end P5
namespace P5
theorem lang_app {g:Gr}:∀ (u v:List Nat) (i:Nat),lang g (u++v) i=true->∃ j,lang g v j=true
 | [],v,i,h=>⟨i,h⟩
 | x::u,v,i,h=>by
  rw [List.cons_append,lang] at h
  split at h
  ·cases h
  ·exact lang_app u v _ h
theorem least_accepts {d:Gr} (h:GrOk d) (hn:d.acc.length<=257) (hc:(checkedM (leastR d)).2=0):checkedM (leastR d)=(auOf (leastR d),0)/\Norm (leastR d)/\(leastR d).sy=d.sy/\lng (leastR d) 0=lng d 0/\∀ w,acceptsM (checkedM (leastR d)).1 (wI w)=lang d w 0:=by
 obtain ⟨l1,l2,l3⟩:=leastR_lang h hn
 have hsy:(leastR d).sy=d.sy:=rfl
 rcases checked_cases (leastR d) with ⟨c1,c2⟩ | ⟨_,c2⟩
 ·refine ⟨c2,⟨l1,c1,?_⟩,hsy,l3,fun w=>?_⟩
  ·rw [l3,hsy];exact leastR_eq h hn
  ·rw [c2]
   simp only
   rw [accepts_norm l1 c1]
   exact congrFun l3 w
 ·rw [c2] at hc;simp at hc
theorem two_norm {a b:Au} (h:(twoM a b).1=0):VA a/\VA b/\a.sy=b.sy/\(fixedM a).2=0/\(fixedM b).2=0/\∃ g k,twoM a b=(0,g,k)/\fixedM a=(auOf g,0)/\fixedM b=(auOf k,0)/\Norm g/\Norm k/\g.sy=a.sy.toNat/\k.sy=a.sy.toNat/\(lng g 0=fun w=>acceptsM a (wI w))/\(lng k 0=fun w=>acceptsM b (wI w)):=by
 unfold twoM at h ⊢
 simp only at h ⊢
 by_cases h1:validM a=0
 ·rw [if_pos h1] at h ⊢
  by_cases h2:validM b=0
  ·rw [if_pos h2] at h ⊢
   by_cases h3:a.sy=b.sy
   ·rw [if_pos h3] at h ⊢
    by_cases h4:(fixedM a).2=0
    ·rw [if_pos h4] at h ⊢
     by_cases h5:(fixedM b).2=0
     ·rw [if_pos h5]
      obtain ⟨_,g,d,a1,a2,a3,a4,a5,a6⟩:=fixed_norm h4
      obtain ⟨_,k,e,b1,b2,b3,b4,b5,b6⟩:=fixed_norm h5
      refine ⟨valid_VA.1 h1,valid_VA.1 h2,h3,h4,h5,g,k,?_,a3,b3,a4,b4,a5,by rw [b5,h3],a6,b6⟩
      rw [a3,b3]
      simp only
      rw [tab_auOf a4.ok,tab_auOf b4.ok]
     ·rw [if_neg h5] at h;exact absurd h h5
    ·rw [if_neg h4] at h;exact absurd h h4
   ·rw [if_neg h3] at h;simp at h
  ·rw [if_neg h2] at h;exact absurd h h2
 ·rw [if_neg h1] at h;exact absurd h h1
theorem neg_ok {g:Gr} (h:GrOk g):GrOk (negG g):=by
 have hl:(negG g).acc.length=g.acc.length+1:=by simp [negG]
 have hrow:∀ r ∈ (negG g).to,r.length=(negG g).sy/\∀ t ∈ r,0<=t/\t<((negG g).acc.length:Int):=by
  intro r hr
  rw [hl]
  rcases List.mem_append.1 hr with hu0 | hu
  ·obtain ⟨u,hu,rfl⟩:=List.mem_map.1 hu0
   refine ⟨by rw [List.length_map,h.row u hu];rfl,fun t ht=>?_⟩
   obtain ⟨v,hv,rfl⟩:=List.mem_map.1 ht
   obtain ⟨x,hx,rfl⟩:=List.getElem_of_mem hv
   obtain ⟨i,hi,rfl⟩:=List.getElem_of_mem hu
   have e:g.to[i][x]=gto g i x:=by
    rw [gto,List.getD_eq_getElem?_getD,List.getD_eq_getElem?_getD,List.getElem?_eq_getElem hi]
    simp only [Option.getD_some]
    rw [List.getElem?_eq_getElem hx];rfl
   have h1:=h.hi i x
   rw [e]
   split <;> omega
  ·rw [List.mem_singleton.1 hu]
   refine ⟨by simp [negG],fun t ht=>?_⟩
   rw [List.eq_of_mem_replicate ht]
   omega
 have hg:∀ i x,gto (negG g) i x = -1 \/ 0<=gto (negG g) i x/\gto (negG g) i x<((negG g).acc.length:Int):=by
  intro i x
  rw [gto]
  by_cases hi:i<(negG g).to.length
  ·have hr:=hrow _ (List.getElem_mem hi)
   rw [List.getD_eq_getElem?_getD,List.getD_eq_getElem?_getD,List.getElem?_eq_getElem hi]
   simp only [Option.getD_some]
   by_cases hx:x<(negG g).to[i].length
   ·rw [List.getElem?_eq_getElem hx]
    exact .inr (hr.2 _ (List.getElem_mem hx))
   ·rw [List.getElem?_eq_none (by omega)];exact .inl rfl
  ·left
   have e:(negG g).to[i]? = none:=List.getElem?_eq_none (by omega)
   rw [List.getD_eq_getElem?_getD,List.getD_eq_getElem?_getD,e];simp
 refine ⟨by omega,?_,fun r hr=>(hrow r hr).1,fun i x=>?_,fun i x=>?_⟩
 ·rw [hl,negG]
  simp [h.len]
 ·rcases hg i x with h1 | h1 <;> omega
 ·rcases hg i x with h1 | h1 <;> omega
theorem turnS_bt {g:Gr} (h:GrOk g) {s:List Bool} {x j:Nat} (hx:x<g.sy):bt (turnS (auOf g) s (x:Int)) j=true ↔ j<g.acc.length/\¬ gto g j x<0/\bt s (gto g j x).toNat=true:=by
 unfold turnS
 rw [bt_map,Bool.and_eq_true,decide_eq_true_eq,List.any_eq_true]
 have hl:(auOf g).acc.length=g.acc.length:=rfl
 rw [hl]
 refine and_congr_right fun hj=>?_
 constructor
 ·rintro ⟨e,he,h1⟩
  obtain ⟨i,y,hi,hy,h5,rfl⟩:=(mem_auOf h).1 he
  simp only [Bool.and_eq_true,decide_eq_true_eq] at h1
  have e1:y=x:=by omega
  have e2:i=j:=by omega
  subst e1 e2
  exact ⟨h5,h1.1.2⟩
 ·rintro ⟨h1,h2⟩
  exact ⟨_,(mem_auOf h).2 ⟨j,x,hj,hx,h1,rfl⟩,by rw [h2];simp⟩
theorem anyT_iff {g:Gr} (h:GrOk g) {s:List Bool} {x:Nat} (hx:x<g.sy):anyT (auOf g) s (x:Int)=true ↔ ∃ j,bt (turnS (auOf g) s (x:Int)) j=true:=by
 unfold anyT
 rw [List.any_eq_true]
 constructor
 ·rintro ⟨e,he,h1⟩
  obtain ⟨i,y,hi,hy,h5,rfl⟩:=(mem_auOf h).1 he
  simp only [Bool.and_eq_true,decide_eq_true_eq] at h1
  have e1:y=x:=by omega
  subst e1
  exact ⟨i,(turnS_bt h hx).2 ⟨hi,h5,h1.2⟩⟩
 ·rintro ⟨j,hj⟩
  obtain ⟨h1,h2,h3⟩:=(turnS_bt h hx).1 hj
  exact ⟨_,(mem_auOf h).2 ⟨j,x,h1,hx,h2,rfl⟩,by rw [h3];simp⟩
structure SetV (g:Gr) (v:List Nat) (s:List Bool):Prop where
 len:s.length=g.acc.length
 get:∀ j,bt s j=true ↔ lang g v j=true
theorem setV_acc (g:Gr):SetV g [] g.acc:=⟨rfl,fun _=>Iff.rfl⟩
theorem setV_turn {g:Gr} (h:GrOk g) {v:List Nat} {s:List Bool} (hs:SetV g v s) {x:Nat} (hx:x<g.sy):SetV g (x::v) (turnS (auOf g) s (x:Int)):=by
 refine ⟨by simp [turnS];rfl,fun j=>?_⟩
 rw [turnS_bt h hx,lang,hs.get]
 constructor
 ·rintro ⟨_,h1,h2⟩
  rw [if_neg h1];exact h2
 ·intro h1
  by_cases h0:gto g j x<0
  ·rw [if_pos h0] at h1;cases h1
  ·rw [if_neg h0] at h1
   refine ⟨Classical.byContradiction fun hc=>h0 ?_,h0,h1⟩
   have:g.to.length=g.acc.length:=h.len
   have e:g.to[j]? = none:=List.getElem?_eq_none (by omega)
   rw [gto,List.getD_eq_getElem?_getD,List.getD_eq_getElem?_getD,e];simp
theorem turn_klang {g:Gr} (h:GrOk g):∀ (w v:List Nat) (s:List Bool),SetV g v s->klang (nextT (auOf g)) (fun s=>bt s 0) g.sy w s=if ∀ x ∈ w,x<g.sy then lang g (w.reverse++v) 0 else false
 | [],v,s,hs=>by
  rw [klang,if_pos (by simp),List.reverse_nil,List.nil_append,Bool.eq_iff_iff]
  exact hs.get 0
 | x::w,v,s,hs=>by
  rw [klang]
  by_cases hx:x<g.sy
  ·rw [if_pos hx,nextT]
   have hsv:=setV_turn h hs hx
   by_cases ha:anyT (auOf g) s (x:Int)=true
   ·rw [if_pos ha]
    simp only
    rw [turn_klang h w (x::v) _ hsv,List.reverse_cons,List.append_assoc]
    simp only [List.mem_cons,forall_eq_or_imp,hx,true_and]
    rfl
   ·rw [if_neg ha]
    simp only
    have hno:∀ j,lang g (x::v) j=false:=fun j=>by
     cases e:lang g (x::v) j with
     | false=>rfl
     | true=>exact absurd ((anyT_iff h hx).2 ⟨j,(hsv.get j).2 e⟩) ha
    split
    ·rw [List.reverse_cons,List.append_assoc]
     symm
     cases e:lang g (w.reverse++([x]++v)) 0 with
     | false=>rfl
     | true =>
      obtain ⟨j,hj⟩:=lang_app _ _ _ e
      have:lang g (x::v) j=true:=hj
      rw [hno] at this;cases this
    ·rfl
  ·rw [if_neg hx,if_neg (fun hc=>hx (hc x (by simp)))]
theorem turned_ok {g d:Gr} (h:GrOk g) (e:turnedM (auOf g)=some d):GrOk d/\d.acc.length<=256/\d.sy=g.sy/\∀ w,lang d w 0=lang g w.reverse 0:=by
 unfold turnedM at e
 rw [Option.map_eq_some_iff] at e
 obtain ⟨⟨l,rows⟩,h1,rfl⟩:=e
 obtain ⟨b1,b2,b3⟩:=bfs_ok (M:=256) (by omega) h1
 have hl:1<=l.length:=b3.length_le
 have hsy:(auOf g).sy.toNat=g.sy:=Int.toNat_natCast _
 have h0:l[0]=g.acc:=((b3).getElem (i:=0) (by simp)).symm
 refine ⟨grOf_ok b1 b2 hl,by simpa [grOf] using b1.most,hsy,fun w=>?_⟩
 rw [grOf_lang b1 b2 w 0 hl,h0,hsy,turn_klang h w [] _ (setV_acc g),List.append_nil]
 split
 ·rfl
 ·rename_i hc
  simp only [Classical.not_forall] at hc
  obtain ⟨x,hx,hxs⟩:=hc
  exact (lang_sy h w.reverse 0 ⟨x,by simpa using hx,by omega⟩).symm
theorem turn_norm {a:Au} (h:(turnM a).2=0):(fixedM a).2=0/\∃ g,turnM a=(auOf g,0)/\Norm g/\g.sy=a.sy.toNat/\lng g 0=fun w=>acceptsM a (wI w.reverse):=by
 unfold turnM at h ⊢
 by_cases h0:(fixedM a).2=0
 ·rw [if_pos h0] at h ⊢
  refine ⟨h0,?_⟩
  obtain ⟨va,g,d,h1,h2,h3,h4,h5,h6⟩:=fixed_norm h0
  rw [h3] at h ⊢
  simp only at h ⊢
  cases hp:turnedM (auOf g) with
  | none=>rw [hp] at h;simp at h
  | some d =>
   rw [hp] at h
   simp only at h ⊢
   obtain ⟨d1,d2,d3,d4⟩:=turned_ok h4.ok hp
   obtain ⟨k1,k2,k3,k4,_⟩:=least_accepts d1 (by omega) h
   refine ⟨leastR d,k1,k2,by rw [k3,d3,h5],?_⟩
   rw [k4]
   funext w
   show lang d w 0=_
   rw [d4]
   exact congrFun h6 w.reverse
 ·rw [if_neg h0] at h
  exact absurd h h0
end P5
namespace Go.Proofs.Ytjilachpkjlhdaa
open Go.RowKit Dak P5
open Nat (reduceEqDiff reduceLT reduceAdd)
def negT (n:Nat) (t:Int):Int:=if t<0 then (n:Int) else t
theorem negG_eq {g:Gr} (h:GrOk g):negG g=⟨g.sy,(g.acc++[false]).map (fun b=>!b),(g.to++[List.replicate g.sy (g.acc.length:Int)]).map fun r=>r.map (negT g.acc.length)⟩:=by
 rw [negG]
 congr 1
 ·rw [List.map_append];rfl
 ·rw [List.map_append]
  congr 1
  simp only [List.map_cons,List.map_nil,List.map_replicate]
  rw [negT,if_neg (by omega)]
abbrev objsV (a:Au) (gc:AV) (n m:Nat) (M:List AV) (R:List AObj):List AObj:=[oX a,.arr 1 3 34 [nil3],.arr 1 3 97 [gc],.arr m 1 22 M]++R
abbrev gcV (y n:Nat) (A:List Bool):AV:=.agg [vi y,vbools A,.own 3 n 0 n]
abbrev toV4 (y n:Nat):List AV:=rg n fun q=>.own (q+4) y 0 y
theorem objsV_len {a:Au} {gc:AV} {n m y:Nat} {M:List AV} {T:List (List Int)} (h:T.length=n):(objsV a gc n m M (T.map (orow y))).length=n+4:=by rw [objsV,List.length_append,List.length_map,h];simp;omega
theorem objsV_row {a:Au} {gc:AV} {n m y q:Nat} {M:List AV} {T:List (List Int)} (h:T.length=n) (hq:q<n):(objsV a gc n m M (T.map (orow y)))[q+4]? = some (orow y (T[q]'(by omega))):=by
 show (T.map (orow y))[q]? = _
 rw [List.getElem?_map,List.getElem?_eq_getElem (by omega)];rfl
theorem objsV_arr {a:Au} {gc:AV} {n m y:Nat} {M:List AV} {T:List (List Int)} (h:T.length=n) {i:Nat} (hi:i<n+4):isArr (objsV a gc n m M (T.map (orow y))) i=true:=by
 unfold isArr
 match i,hi with
 | 0,_=>rfl
 | 1,_=>rfl
 | 2,_=>rfl
 | 3,_=>rfl
 | q+4,hi=>rw [objsV_row h (by omega)]
theorem objsV_inB {a:Au} {n y:Nat} {A:List Bool} {T:List (List Int)} (B:List AObj) (e3:isArr B 3=true) (e4:((toV4 y n).all (AV.inR B))=true):((objsV a (gcV y n A) n n (toV4 y n) (T.map (orow y))).all fun o=>o.inRO B)=true:=by
 refine Bool.and_eq_true_iff.2 ⟨rfl,Bool.and_eq_true_iff.2 ⟨rfl,Bool.and_eq_true_iff.2 ⟨?_,Bool.and_eq_true_iff.2 ⟨e4,?_⟩⟩⟩⟩
 ·show (((AV.inR1 B (vi y)) && ((AV.inR1 B (vbools A)) && (isArr B 3 && true))) && true)=true
  rw [e3];rfl
 ·refine List.all_eq_true.2 fun o ho=>?_
  obtain ⟨r,_,rfl⟩:=List.mem_map.1 ho
  show ((r.map vi).all (AV.inR B))=true
  rw [List.all_map]
  exact all_tt _
theorem objsV_inR {a:Au} {n y:Nat} {A:List Bool} {T:List (List Int)} (h:T.length=n):((objsV a (gcV y n A) n n (toV4 y n) (T.map (orow y))).all fun o=>o.inRO (objsV a (gcV y n A) n n (toV4 y n) (T.map (orow y))))=true :=
 objsV_inB _ rfl (rg_all fun q hq=>objsV_arr h (by omega))
theorem objsV_ren {a:Au} {n y:Nat} {A:List Bool} {T:List (List Int)} {oc:AObj} (h:T.length=n) :
 Ren (fun k=>if k=2 then n+4 else k) (objsV a (gcV y n A) n n (toV4 y n) (T.map (orow y))) ([oX a,.arr 1 3 34 [nil3],oc,.arr n 1 22 (toV4 y n)]++(T.map (orow y)++[.arr 1 3 97 [gcV y n A]])):=by
 have hlen:∀ i,isArr (objsV a (gcV y n A) n n (toV4 y n) (T.map (orow y))) i=true->i<n+4:=fun i hi=>by
  obtain ⟨_,_,_,_,hh⟩:=isArr_some hi
  have:=(List.getElem?_eq_some_iff.1 hh).1
  rwa [objsV_len h] at this
 refine ⟨fun i j hi hj e=>?_,fun i g' s e xs hh=>?_⟩
 ·have h1:=hlen i hi
  have h2:=hlen j hj
  have e:(if i=2 then n+4 else i)=(if j=2 then n+4 else j):=e
  split at e <;> split at e <;> omega
 ·have h1:=(List.getElem?_eq_some_iff.1 hh).1
  rw [objsV_len h] at h1
  match i,hh,h1 with
  | 0,hh,_ =>
   simp only [objsV,List.cons_append,List.getElem?_cons_zero,Option.some.injEq,AObj.arr.injEq] at hh
   obtain ⟨rfl,rfl,rfl,rfl⟩:=hh
   rfl
  | 1,hh,_ =>
   simp only [objsV,List.cons_append,List.getElem?_cons_succ,List.getElem?_cons_zero,Option.some.injEq,AObj.arr.injEq] at hh
   obtain ⟨rfl,rfl,rfl,rfl⟩:=hh
   rfl
  | 2,hh,_ =>
   simp only [objsV,List.cons_append,List.getElem?_cons_succ,List.getElem?_cons_zero,Option.some.injEq,AObj.arr.injEq] at hh
   obtain ⟨rfl,rfl,rfl,rfl⟩:=hh
   show (T.map (orow y)++[_])[n]? = _
   rw [List.getElem?_append_right (by rw [List.length_map];omega),List.length_map,h,Nat.sub_self]
   rfl
  | 3,hh,_ =>
   simp only [objsV,List.cons_append,List.getElem?_cons_succ,List.getElem?_cons_zero,Option.some.injEq,AObj.arr.injEq] at hh
   obtain ⟨rfl,rfl,rfl,rfl⟩:=hh
   show some (AObj.arr n 1 22 (toV4 y n))=some (AObj.arr n 1 22 ((toV4 y n).map _))
   congr 2
   rw [toV4,rg,List.map_map]
   refine List.map_congr_left fun q _=>?_
   show AV.own (q+4) y 0 y=AV.own (if q+4=2 then n+4 else q+4) y 0 y
   rw [if_neg (by omega)]
  | q+4,hh,h1 =>
   rw [objsV_row h (by omega),Option.some.injEq,orow,AObj.arr.injEq] at hh
   obtain ⟨rfl,rfl,rfl,rfl⟩:=hh
   show ([oX a,.arr 1 3 34 [nil3],oc,.arr n 1 22 (toV4 y n)]++(T.map (orow y)++[.arr 1 3 97 [gcV y n A]]))[if q+4=2 then n+4 else q+4]? = _
   rw [if_neg (by omega)]
   show (T.map (orow y)++[_])[q]? = _
   rw [List.getElem?_append_left (by rw [List.length_map];omega),List.getElem?_map,List.getElem?_eq_getElem (by omega)]
   show some (AObj.arr y 1 3 (T[q].map vi))=some (AObj.arr y 1 3 ((T[q].map vi).map _))
   rw [List.map_map]
   rfl
theorem objsV_drop {a:Au} {gc:AV} {n m w:Nat} {M:List AV} {R X:List AObj} {env env':List (Nat × AV)} (hgc:gc.inn (R.length+4)=true) (hM:(M.all (AV.inn (R.length+4)))=true) (hR:(R.all fun o=>o.innO (R.length+4))=true) (hA:Agree env env') (he:(env'.all fun p=>p.2.inn (R.length+4))=true) :
 WkE w ⟨env,objsV a gc n m M (R++X)⟩ ⟨env',objsV a gc n m M R⟩:=by
 have hl:(objsV a gc n m M R).length=R.length+4:=by rw [objsV,List.length_append];simp;omega
 refine WkE.round hA (by rw [hl];exact he) ?_ ?_
 ·rw [hl,objsV,List.all_append,Bool.and_eq_true]
  refine ⟨?_,hR⟩
  exact Bool.and_eq_true_iff.2 ⟨rfl,Bool.and_eq_true_iff.2 ⟨rfl,Bool.and_eq_true_iff.2 ⟨Bool.and_eq_true_iff.2 ⟨hgc,rfl⟩,Bool.and_eq_true_iff.2 ⟨hM,rfl⟩⟩⟩⟩
 ·rw [hl,objsV,objsV,<-List.append_assoc]
  exact List.take_left' (by rw [List.length_append];simp;omega)
def partN (n y x:Nat) (r:List Int):List Int:=rg y fun j=>if j<x then negT n (r.getD j (-1)) else r.getD j (-1)
theorem partN_zero {n y:Nat} {r:List Int} (h:r.length=y):partN n y 0 r=r:=by
 apply List.ext_getElem?
 intro i
 by_cases hi:i<y
 ·rw [partN,rg_get hi,if_neg (by omega),List.getD_eq_getElem?_getD,List.getElem?_eq_getElem (by omega)];rfl
 ·rw [List.getElem?_eq_none (by rw [partN,rg_len];omega),List.getElem?_eq_none (by omega)]
theorem partN_all {n y:Nat} {r:List Int} (h:r.length=y):partN n y y r=r.map (negT n):=by
 apply List.ext_getElem?
 intro i
 by_cases hi:i<y
 ·rw [partN,rg_get hi,if_pos hi,List.getElem?_map,List.getD_eq_getElem?_getD,List.getElem?_eq_getElem (by omega)];rfl
 ·rw [List.getElem?_eq_none (by rw [partN,rg_len];omega),List.getElem?_eq_none (by rw [List.length_map];omega)]
theorem partN_get {n y x:Nat} {r:List Int} (hx:x<y):((partN n y x r).map vi)[x]? = some (vi (r.getD x (-1))):=by
 rw [List.getElem?_map,partN,rg_get hx,if_neg (by omega)];rfl
theorem partN_t {n y x:Nat} {r:List Int} (h:r.getD x (-1)<0):((partN n y x r).map vi).set x (vi n)=(partN n y (x+1) r).map vi:=by
 rw [<-List.map_set,partN,partN,rg_set]
 congr 1
 refine rg_congr fun p _=>?_
 by_cases hp:p=x
 ·subst hp
  rw [if_pos rfl,if_pos (by omega),negT,if_pos h]
 ·rw [if_neg hp]
  by_cases h2:p<x
  ·rw [if_pos h2,if_pos (by omega)]
  ·rw [if_neg h2,if_neg (by omega)]
theorem partN_f {n y x:Nat} {r:List Int} (h:¬ r.getD x (-1)<0):partN n y x r=partN n y (x+1) r:=by
 rw [partN,partN]
 refine rg_congr fun p _=>?_
 by_cases hp:p=x
 ·subst hp
  rw [if_neg (by omega),if_pos (by omega),negT,if_neg h]
 ·by_cases h2:p<x
  ·rw [if_pos h2,if_pos (by omega)]
  ·rw [if_neg h2,if_neg (by omega)]
def rowsN (n y N:Nat) (T:List (List Int)) (i x:Nat):List AObj:=rg N fun q=>orow y (if q<i then (T.getD q []).map (negT n) else if q=i then partN n y x (T.getD q []) else T.getD q [])
def accN (N:Nat) (A:List Bool) (i:Nat):List AV:=rg N fun q=>vb (if q<i then !bt A q else bt A q)
theorem rowsN_len {n y N:Nat} {T:List (List Int)} {i x:Nat}:(rowsN n y N T i x).length=N:=rg_len _ _
theorem rowsN_get {n y N:Nat} {T:List (List Int)} {i x:Nat} (hi:i<N):(rowsN n y N T i x)[i]? = some (orow y (partN n y x (T.getD i []))):=by
 rw [rowsN,rg_get hi,if_neg (by omega),if_pos rfl]
theorem rowsN_set {n y N:Nat} {T:List (List Int)} {i x x':Nat}:(rowsN n y N T i x).set i (orow y (partN n y x' (T.getD i [])))=rowsN n y N T i x':=by
 rw [rowsN,rowsN,rg_set]
 refine rg_congr fun p _=>?_
 by_cases hp:p=i
 ·subst hp
  rw [if_pos rfl,if_neg (by omega),if_pos rfl]
 ·rw [if_neg hp,if_neg hp,if_neg hp]
theorem rowsN_next {n y N:Nat} {T:List (List Int)} {i:Nat} (hT:T.length=N) (hr:∀ r ∈ T,r.length=y) (hi:i<N):rowsN n y N T i y=rowsN n y N T (i+1) 0:=by
 rw [rowsN,rowsN]
 refine rg_congr fun p hp=>?_
 have hl:(T.getD p []).length=y:=by
  rw [List.getD_eq_getElem?_getD,List.getElem?_eq_getElem (by omega)]
  exact hr _ (List.getElem_mem _)
 by_cases h1:p<i
 ·rw [if_pos h1,if_pos (by omega)]
 ·rw [if_neg h1]
  by_cases h2:p=i
  ·rw [if_pos h2,if_pos (by omega),partN_all hl]
  ·rw [if_neg h2,if_neg (by omega)]
   split
   ·rw [partN_zero hl]
   ·rfl
theorem rowsN_zero {n y N:Nat} {T:List (List Int)} (hT:T.length=N) (hr:∀ r ∈ T,r.length=y):rowsN n y N T 0 0=T.map (orow y):=by
 apply List.ext_getElem?
 intro p
 by_cases hp:p<N
 ·have hl:=hr _ (List.getElem_mem (n:=p) (h:=by omega))
  rw [rowsN,rg_get hp,if_neg (by omega),List.getElem?_map,List.getD_eq_getElem?_getD,List.getElem?_eq_getElem (by omega)]
  simp only [Option.getD_some,Option.map_some,Option.some.injEq]
  split
  ·rw [partN_zero hl]
  ·rfl
 ·rw [List.getElem?_eq_none (by rw [rowsN_len];omega),List.getElem?_eq_none (by rw [List.length_map];omega)]
theorem rowsN_all {n y N:Nat} {T:List (List Int)} (hT:T.length=N):rowsN n y N T N 0=(T.map fun r=>r.map (negT n)).map (orow y):=by
 apply List.ext_getElem?
 intro p
 by_cases hp:p<N
 ·rw [rowsN,rg_get hp,if_pos hp,List.getElem?_map,List.getElem?_map,List.getD_eq_getElem?_getD,List.getElem?_eq_getElem (by omega)]
  rfl
 ·rw [List.getElem?_eq_none (by rw [rowsN_len];omega),List.getElem?_eq_none (by rw [List.length_map,List.length_map];omega)]
theorem accN_len {N:Nat} {A:List Bool} {i:Nat}:(accN N A i).length=N:=rg_len _ _
theorem accN_get {N:Nat} {A:List Bool} {i:Nat} (hi:i<N):(accN N A i)[i]? = some (vb (bt A i)):=by rw [accN,rg_get hi,if_neg (by omega)]
theorem accN_set {N:Nat} {A:List Bool} {i:Nat}:(accN N A i).set i (vb (!bt A i))=accN N A (i+1):=by
 rw [accN,accN,rg_set]
 refine rg_congr fun p _=>?_
 by_cases hp:p=i
 ·subst hp
  rw [if_pos rfl,if_pos (by omega)]
 ·rw [if_neg hp]
  by_cases h2:p<i
  ·rw [if_pos h2,if_pos (by omega)]
  ·rw [if_neg h2,if_neg (by omega)]
theorem accN_zero {N:Nat} {A:List Bool} (h:A.length=N):accN N A 0=A.map vb:=by
 apply List.ext_getElem?
 intro p
 by_cases hp:p<N
 ·rw [accN,rg_get hp,if_neg (by omega),bt_get (by omega)]
 ·rw [List.getElem?_eq_none (by rw [accN_len];omega),List.getElem?_eq_none (by rw [List.length_map];omega)]
theorem accN_all {N:Nat} {A:List Bool} (h:A.length=N):accN N A N=(A.map fun b=>!b).map vb:=by
 apply List.ext_getElem?
 intro p
 by_cases hp:p<N
 ·rw [accN,rg_get hp,if_pos hp,List.getElem?_map,List.getElem?_map,bt,List.getD_eq_getElem?_getD,List.getElem?_eq_getElem (by omega)]
  rfl
 ·rw [List.getElem?_eq_none (by rw [accN_len];omega),List.getElem?_eq_none (by rw [List.length_map,List.length_map];omega)]
theorem freezeRows {w:Nat} {env:List (Nat × AV)} (pre:List AObj) (p3:pre.length=3) (N y:Nat) (G:List (List Int)) (hG:G.length=N) (hr:∀ r ∈ G,r.length=y) (X:List AObj):∀ k,k<=N ->
 WkE w ⟨env,pre++[.arr N 1 22 (toV4 y N)]++(G.map (orow y)++X)⟩ ⟨env,pre++[.arr N 1 22 (rg N fun q=>if q<k then vints (G.getD q []) else .own (q+4) y 0 y)]++((rg N fun q=>if q<k then AObj.dead else orow y (G.getD q []))++X)⟩
 | 0,_=>by
  have e1:(rg N fun q=>if q<0 then vints (G.getD q []) else .own (q+4) y 0 y)=toV4 y N:=rg_congr fun q _=>if_neg (by omega)
  have e2:(rg N fun q=>if q<0 then AObj.dead else orow y (G.getD q []))=G.map (orow y):=by
   apply List.ext_getElem?
   intro p
   by_cases hp:p<N
   ·rw [rg_get hp,if_neg (by omega),List.getElem?_map,List.getD_eq_getElem?_getD,List.getElem?_eq_getElem (by omega)];rfl
   ·rw [List.getElem?_eq_none (by rw [rg_len];omega),List.getElem?_eq_none (by rw [List.length_map];omega)]
  rw [e1,e2]
  exact WkE.refl _ _
 | k+1,hk=>by
  refine (freezeRows pre p3 N y G hG hr X k (by omega)).trans ?_
  have hGk:(G.getD k []).length=y:=by
   rw [List.getD_eq_getElem?_getD,List.getElem?_eq_getElem (by omega)]
   exact hr _ (List.getElem_mem _)
  obtain ⟨M,hM⟩:∃ M:List AV,M=(rg N fun q=>if q<k then vints (G.getD q []) else .own (q+4) y 0 y):=⟨_,rfl⟩
  obtain ⟨R,hR⟩:∃ R:List AObj,R=(rg N fun q=>if q<k then AObj.dead else orow y (G.getD q [])):=⟨_,rfl⟩
  rw [<-hM,<-hR]
  have hRl:R.length=N:=by rw [hR,rg_len]
  have g3:∀ (o:AObj) (l:List AObj),(pre++[o]++l)[3]? = some o:=fun o l=>by
   rw [List.append_assoc,List.getElem?_append_right (by omega),p3];rfl
  have gk:∀ (o:AObj) (l m:List AObj) (j:Nat),j<l.length->(pre++[o]++(l++m))[j+4]? = l[j]?:=fun o l m j hj=>by
   rw [List.getElem?_append_right (by simp;omega),List.getElem?_append_left (by simp;omega)]
   congr 1
   simp;omega
  have s3:∀ (o o':AObj) (l:List AObj),(pre++[o]++l).set 3 o'=pre++[o']++l:=fun o o' l=>by
   rw [List.append_assoc,List.set_append_right _ _ (by omega),p3,List.append_assoc];rfl
  have sk:∀ (o o':AObj) (l m:List AObj) (j:Nat),j<l.length->(pre++[o]++(l++m)).set (j+4) o'=pre++[o]++(l.set j o'++m):=fun o o' l m j hj=>by
   have e:j+4-(pre++[o]).length=j:=by simp;omega
   rw [List.set_append_right _ _ (by simp;omega),e,List.set_append_left _ _ hj]
  have hMk:M[k]? = some (.own (k+4) y 0 y):=by rw [hM,rg_get (by omega),if_neg (by omega)]
  have hRk:R[k]? = some (orow y (G.getD k [])):=by rw [hR,rg_get (by omega),if_neg (by omega)]
  have:=WkE.freezeCell (n:=w) (env:=env) (objs:=pre++[.arr N 1 22 M]++(R++X)) 3 N 1 k 0 (k+4) y 0 y 1 22 3 M ((G.getD k []).map vi) (.own (k+4) y 0 y) (g3 _ _) hMk rfl (by rw [gk _ _ _ _ (by omega),hRk]) (by omega) (by rw [List.length_map];omega) (isT_map (fun _=>rfl) _)
  rw [sk _ _ _ _ _ (by omega),s3,List.drop_zero,List.take_of_length_le (by rw [List.length_map];omega)] at this
  have e1:M.set k (vints (G.getD k []))=(rg N fun q=>if q<k+1 then vints (G.getD q []) else .own (q+4) y 0 y):=by
   rw [hM,rg_set]
   refine rg_congr fun p _=>?_
   by_cases hp:p=k
   ·rw [if_pos hp,if_pos (by omega),hp]
   ·rw [if_neg hp]
    by_cases h2:p<k
    ·rw [if_pos h2,if_pos (by omega)]
    ·rw [if_neg h2,if_neg (by omega)]
  have e2:R.set k .dead=(rg N fun q=>if q<k+1 then AObj.dead else orow y (G.getD q [])):=by
   rw [hR,rg_set]
   refine rg_congr fun p _=>?_
   by_cases hp:p=k
   ·rw [if_pos hp,if_pos (by omega)]
   ·rw [if_neg hp]
    by_cases h2:p<k
    ·rw [if_pos h2,if_pos (by omega)]
    ·rw [if_neg h2,if_neg (by omega)]
  rw [<-e1,<-e2]
  exact this
theorem freezeGr {w:Nat} {env:List (Nat × AV)} (o0 o1:AObj) (N y:Nat) (G:List (List Int)) (A:List Bool) (hG:G.length=N) (hA:A.length=N) (hr:∀ r ∈ G,r.length=y) :
 ∃ X,WkE w ⟨env,[o0,o1,.arr 1 3 97 [.agg [vi y,.own (N+4) N 0 N,.own 3 N 0 N]],.arr N 1 22 (toV4 y N)]++(G.map (orow y)++[.arr N 1 4 (A.map vb)])⟩ ⟨env,[o0,o1,.arr 1 3 97 [vgr ⟨y,A,G⟩]]++X⟩:=by
 refine ⟨.dead::((rg N fun q=>if q<N then AObj.dead else orow y (G.getD q []))++[.dead]),(freezeRows [o0,o1,.arr 1 3 97 [.agg [vi y,.own (N+4) N 0 N,.own 3 N 0 N]]] rfl N y G hG hr _ N (Nat.le_refl _)).trans ?_⟩
 have e1:(rg N fun q=>if q<N then vints (G.getD q []) else .own (q+4) y 0 y)=G.map vints:=by
  apply List.ext_getElem?
  intro p
  by_cases hp:p<N
  ·rw [rg_get hp,if_pos hp,List.getElem?_map,List.getD_eq_getElem?_getD,List.getElem?_eq_getElem (by omega)];rfl
  ·rw [List.getElem?_eq_none (by rw [rg_len];omega),List.getElem?_eq_none (by rw [List.length_map];omega)]
 rw [e1]
 obtain ⟨R,hR⟩:∃ R:List AObj,R=(rg N fun q=>if q<N then AObj.dead else orow y (G.getD q [])):=⟨_,rfl⟩
 rw [<-hR]
 have hRl:R.length=N:=by rw [hR,rg_len]
 have h1:=WkE.freezeCell (n:=w) (env:=env) (objs:=[o0,o1,.arr 1 3 97 [.agg [vi y,.own (N+4) N 0 N,.own 3 N 0 N]]]++[.arr N 1 22 (G.map vints)]++(R++[.arr N 1 4 (A.map vb)])) 2 1 3 0 2 3 N 0 N 1 97 22 _ (G.map vints) _ rfl rfl rfl rfl (by omega) (by rw [List.length_map];omega) (isT_map (f:=vints) (fun _=>rfl) _)
 rw [List.drop_zero,List.take_of_length_le (by rw [List.length_map];omega)] at h1
 refine h1.trans ?_
 have g4:∀ (a b c d o:AObj),([a,b,c,d]++(R++[o]))[N+4]? = some o:=fun a b c d o=>by
  show (R++[o])[N]? = _
  rw [<-hRl,List.getElem?_concat_length]
 have h2:=WkE.freezeCell (n:=w) (env:=env) (objs:=[o0,o1,.arr 1 3 97 [.agg [vi y,.own (N+4) N 0 N,vrows G]],.dead]++(R++[.arr N 1 4 (A.map vb)])) 2 1 3 0 1 (N+4) N 0 N 1 97 4 _ (A.map vb) _ rfl rfl rfl (g4 _ _ _ _ _) (by omega) (by rw [List.length_map];omega) (isT_map (fun _=>rfl) _)
 have s4:∀ (a b c d o o':AObj),([a,b,c,d]++(R++[o])).set (N+4) o'=[a,b,c,d]++(R++[o']):=fun a b c d o o'=>by
  show a::b::c::d::(R++[o]).set N o'=_
  rw [List.set_append_right _ _ (by omega),hRl,Nat.sub_self];rfl
 rw [List.drop_zero,List.take_of_length_le (by rw [List.length_map];omega),s4] at h2
 exact h2
set_option maxHeartbeats 4000000 in
theorem Not_s (a:Au) (ha:SzA a):Ctr Try.prog 35 [vau a] (vae (P5.notM a)):=by
 refine specC f35 (by simp) fun F0 w0=>?_
 have hfa:=Fixed_s a ha
 unfold P5.notM
 obtain ⟨c,e,hc⟩:∃ c e,fixedM a=(c,e):=⟨_,_,rfl⟩
 have hco:=fixed_ok (a:=a)
 have hcn:=fixed_norm (a:=a)
 rw [hc] at hfa hco hcn ⊢
 simp only at hco hcn ⊢
 unfold c35
 refine CwpE.cut (st:=⟨[(1,.ref 0 1 0 0),(2,.ref 1 1 0 0),(3,vi 0)],[oX a,.arr 1 3 34 [nil3]]⟩) ?_ ?_
 ·simp only [go_sem,↓reduceIte,reduceLT,reduceAdd]
  exact ⟨_,WkE.kp,rfl⟩
 refine CwpE.cut (st:=⟨[(1,.ref 0 1 0 0),(2,.ref 1 1 0 0),(3,vi 0),(4,.ref 2 1 0 0),(5,vi e)],[oX a,.arr 1 3 34 [nil3],oX c]⟩) ?_ ?_
 ·simp only [go_sem,↓reduceIte,reduceLT,reduceAdd]
  refine callT hfa rfl ?_
  simp only [go_sem,↓reduceIte,reduceLT,reduceEqDiff,reduceAdd]
  exact ⟨_,WkE.kp,rfl⟩
 by_cases he:e=0
 rotate_left
 ·rw [if_neg he]
  refine CwpE.vc ?_
  simp only [go_sem,↓reduceIte,reduceLT,reduceEqDiff,reduceAdd,he]
  exact snap_tup2 nil_snap (.tree _ rfl)
 subst he
 rw [if_pos rfl]
 obtain ⟨c1,c2,c3,_⟩:=hco rfl
 obtain ⟨va,g,d,h1,h2,h3,h4,h5,_⟩:=hcn rfl
 have htab:tabG c=g:=by rw [(Prod.mk.inj h3).1];exact tab_auOf h4.ok
 have k1:=fixedg_n c c1 c2
 have tl1:(tabM c).length=c.acc.length:=(tabM_ok c1 c2).len
 have tr1:=(tabM_ok c1 c2).row
 obtain ⟨y,hy⟩:∃ y:Nat,c.sy=(y:Int):=⟨c.sy.toNat,by have:=c1.sy;omega⟩
 have hyT:c.sy.toNat=y:=by omega
 have hyb:=c1.sy
 have hnb:=c1.n
 obtain ⟨n,hn⟩:∃ n,c.acc.length=n:=⟨_,rfl⟩
 obtain ⟨T,hT⟩:∃ T,tabM c=T:=⟨_,rfl⟩
 have hg:g=⟨y,c.acc,T⟩:=by rw [<-htab,tabG,hyT,hT]
 rw [hyT,hT,hn,hy] at k1
 rw [hT,hn] at tl1
 rw [hT,hyT] at tr1
 refine CwpE.cut (st:=⟨[(1,.ref 0 1 0 0),(2,.ref 1 1 0 0),(3,vi 0),(4,.ref 2 1 0 0)],[oX a,.arr 1 3 34 [nil3],oX c]⟩) ?_ ?_
 ·simp only [go_sem,↓reduceIte,reduceLT,reduceEqDiff]
  exact ⟨_,WkE.kp,rfl⟩
 have hR1:(T.map (orow y)).length=n:=by rw [List.length_map,tl1]
 refine CwpE.cut (st:=⟨[(1,.ref 0 1 0 0),(2,.ref 1 1 0 0),(3,vi 0),(6,.ref 2 1 0 0)],objsV a (.agg [vi y,vbools c.acc,.own 3 n 0 n]) n n (rg n fun q=>.own (q+4) y 0 y) (T.map (orow y))⟩) ?_ ?_
 ·simp only [go_sem,↓reduceIte,reduceLT,reduceEqDiff,reduceAdd]
  refine callNew (cap:=[]) (args:=[vau c]) k1 (.cons (.tree _ rfl) .nil) ?_
  have hA0:∀ o:AObj,(T.map (orow y)++[o])[n]? = some o:=fun o=>by rw [List.getElem?_append_right (by rw [List.length_map];omega),List.length_map,tl1,Nat.sub_self];rfl
  have hA2:∀ o x:AObj,(T.map (orow y)++[o]).set n x=T.map (orow y)++[x]:=fun o x=>by rw [List.set_append_right _ _ (by rw [List.length_map];omega),List.length_map,tl1,Nat.sub_self];rfl
  simp only [go_sem,↓reduceIte,reduceLT,reduceEqDiff,reduceAdd,AV.shift,AV.shift1,newsG_shift,Nat.zero_add,tl1,hA0,hA2]
  refine ⟨_,WkE.rename (fun k=>if k=2 then n+4 else k) (objsV_ren (oc:=oX c) tl1) (objsV_inR tl1) ?_,rfl⟩
  exact ⟨rfl,rfl,rfl,rfl,rfl,rfl,rfl,rfl,trivial⟩
 refine CwpE.cut (st:=⟨[(1,.ref 0 1 0 0),(2,.ref 1 1 0 0),(3,vi 0),(6,.ref 2 1 0 0),(7,vi n)],objsV a (gcV y n c.acc) n n (toV4 y n) (T.map (orow y))⟩) ?_ ?_
 ·simp only [go_sem,↓reduceIte,reduceLT,reduceEqDiff]
  exact ⟨_,WkE.kp,rfl⟩
 have hrep:=Repeat_s (n:Int) y (by omega) (by omega)
 have hasy:a.sy=(y:Int):=by omega
 obtain ⟨T2,hT2⟩:∃ T2,T2=T++[List.replicate y (n:Int)]:=⟨_,rfl⟩
 have tl2:T2.length=n+1:=by rw [hT2,List.length_append,tl1];rfl
 have hT2m:T.map (orow y)++[orow y (List.replicate y (n:Int))]=T2.map (orow y):=by rw [hT2,List.map_append];rfl
 have hto2:toV4 y n++[.own (n+4) y 0 y]=toV4 y (n+1):=by rw [toV4,toV4,rg_succ]
 have tol:(toV4 y n).length=n:=rg_len _ _
 refine CwpE.cut (st:=⟨[(1,.ref 0 1 0 0),(2,.ref 1 1 0 0),(3,vi 0),(6,.ref 2 1 0 0),(7,vi n)],objsV a (.agg [vi y,vbools c.acc,.own 3 (n+1) 0 (n+1)]) (n+1) (n+1) (toV4 y (n+1)) (T2.map (orow y))⟩) ?_ ?_
 ·generalize toV4 y n=M at hto2 tol ⊢
  generalize hRg:T.map (orow y)=R at hT2m hR1 ⊢
  simp only [go_sem,Nat.reducePow,Nat.reduceLeDiff,↓reduceIte,reduceLT,reduceEqDiff,Nat.reduceMul,hasy]
  refine callNew (cap:=[]) (args:=[.list 1 [vi n],vi y]) hrep (.cons (.tree _ rfl) (.cons (.tree _ rfl) .nil)) ?_
  have hsh:(List.replicate y (vi n)).map (AV.shift (n+4))=(List.replicate y (n:Int)).map vi:=by rw [List.map_replicate,List.map_replicate];rfl
  have hR2l:(T2.map (orow y)).length=n+1:=by rw [List.length_map,tl2]
  have hR2i:(T2.map (orow y))[n]? = some (.arr y 1 3 ((List.replicate y (n:Int)).map vi)):=by rw [<-hT2m,<-hR1,List.getElem?_concat_length]
  have hin4:((T2.map (orow y)).all fun o=>o.innO (n+5))=true:=List.all_eq_true.2 fun o ho=>by
   obtain ⟨r,_,rfl⟩:=List.mem_map.1 ho
   exact inn_map fun _=>rfl
  generalize T2.map (orow y)=R2 at hT2m hR2l hR2i hin4 ⊢
  have hB0:∀ o:AObj,(R2++[o])[n]? = some (.arr y 1 3 ((List.replicate y (n:Int)).map vi)):=fun o=>by rw [List.getElem?_append_left (by omega),hR2i]
  have hB1:∀ o:AObj,(R2++[o])[n+1]? = some o:=fun o=>by rw [<-hR2l,List.getElem?_concat_length]
  have qa:(n+1)*24<=140737488355328:=by omega
  simp only [go_sem,Nat.reducePow,Nat.reduceLeDiff,↓reduceIte,reduceLT,reduceEqDiff,reduceAdd,Nat.reduceMul,AV.shift,AV.shift1,AObj.shiftO,Nat.zero_add,hR1,hsh,hT2m,hR2i,hR2l,beq_self_eq_true,hB1,qa,hto2,tol]
  refine ⟨_,objsV_drop (n:=n+1) (by rw [hR2l];simp [AV.inn,AV.inn1]) (by rw [hR2l];exact rg_all fun q hq=>by simp [AV.inn,AV.inn1];omega) (by rw [hR2l];exact hin4) (by simp only [go_sem,↓reduceIte,reduceEqDiff];try rfl) (by rw [hR2l];simp [AV.inn,AV.inn1]),rfl⟩
 have hR2l:(T2.map (orow y)).length=n+1:=by rw [List.length_map,tl2]
 obtain ⟨A2,hA2⟩:∃ A2,A2=c.acc++[false]:=⟨_,rfl⟩
 have al2:A2.length=n+1:=by rw [hA2,List.length_append,hn];rfl
 have hcl:=Clone67_n c.acc (by omega)
 rw [hn] at hcl
 have hA2m:c.acc.map vb++[vb false]=A2.map vb:=by rw [hA2,List.map_append];rfl
 refine CwpE.cut (st:=⟨[(1,.ref 0 1 0 0),(2,.ref 1 1 0 0),(3,vi 0),(6,.ref 2 1 0 0),(7,vi n)],objsV a (.agg [vi y,.own (n+5) (n+1) 0 (n+1),.own 3 (n+1) 0 (n+1)]) (n+1) (n+1) (toV4 y (n+1)) (T2.map (orow y)++[.arr (n+1) 1 4 (A2.map vb)])⟩) ?_ ?_
 ·generalize T2.map (orow y)=R2 at hR2l ⊢
  have hB1:∀ o:AObj,(R2++[o])[n+1]? = some o:=fun o=>by rw [<-hR2l,List.getElem?_concat_length]
  have hB2:∀ o x:AObj,(R2++[o]).set (n+1) x=R2++[x]:=fun o x=>by rw [<-hR2l];simp
  have qa:(n+1)*1<=140737488355328:=by omega
  have hal:(c.acc.map vb).length=n:=by rw [List.length_map,hn]
  simp only [go_sem,↓reduceIte,reduceLT,reduceEqDiff]
  refine callNew (cap:=[]) (args:=[vbools c.acc]) hcl (.cons (.tree _ rfl) .nil) ?_
  simp only [go_sem,Nat.reducePow,Nat.reduceLeDiff,↓reduceIte,reduceLT,reduceEqDiff,reduceAdd,Nat.reduceMul,AV.shift,AV.shift1,AObj.shiftO,Nat.zero_add,shift_map (f:=vb) (fun _=>rfl),hR2l,hB1,hB2,qa,hal,hA2m]
  exact ⟨_,WkE.kp,rfl⟩
 have hA0:=accN_zero al2
 have hT2r:∀ r ∈ T2,r.length=y:=fun r hr=>by
  rw [hT2] at hr
  rcases List.mem_append.1 hr with h | h
  ·exact tr1 r h
  ·rw [List.mem_singleton.1 h,List.length_replicate]
 have hR0:=rowsN_zero (n:=n) tl2 hT2r
 have hAl:=rowsN_all (n:=n) (y:=y) tl2
 have hAA:=accN_all al2
 obtain ⟨N,hN⟩:∃ N,n+1=N:=⟨_,rfl⟩
 have hn5:n+5=N+4:=by omega
 have hNb:N<=257:=by omega
 have hn0:0<=(n:Int):=by omega
 rw [hN] at hA0 hR0 hAl hAA tl2 al2 hR2l
 rw [<-hA0,<-hR0,hn5,hN]
 have hneg:negG g=⟨y,A2.map fun b=>!b,T2.map fun r=>r.map (negT n)⟩:=by
  have:=negG_eq h4.ok
  rw [hg] at this ⊢
  rw [this,hA2,hT2]
  simp only [hn]
 have hmq:∀ q,q<N->(toV4 y N)[q]? = some (.own (q+4) y 0 y):=fun q hq=>rg_get hq _
 have hml:(toV4 y N).length=N:=rg_len _ _
 have RRl:∀ i x (o:AObj),(rowsN n y N T2 i x++[o])[N]? = some o:=fun i x o=>by
  have:=List.getElem?_concat_length (l:=rowsN n y N T2 i x) (a:=o)
  rwa [rowsN_len] at this
 have RRs:∀ i x (o o':AObj),(rowsN n y N T2 i x++[o]).set N o'=rowsN n y N T2 i x++[o']:=fun i x o o'=>by
  rw [List.set_append_right _ _ (by rw [rowsN_len];omega),rowsN_len,Nat.sub_self];rfl
 refine CwpE.step (fun z=>z=⟨[(2,.ref 1 1 0 0),(6,.ref 2 1 0 0)],objsV a (.agg [vi y,.own (N+4) N 0 N,.own 3 N 0 N]) N N (toV4 y N) (rowsN n y N T2 N 0++[.arr N 1 4 (accN N A2 N)])⟩) ?_ ?_
 rotate_left
 ·rintro _ rfl
  rw [hAl,hAA]
  obtain ⟨X,hX⟩:=freezeGr (w:=79) (env:=[(2,.ref 1 1 0 0),(6,.ref 2 1 0 0)]) (oX a) (.arr 1 3 34 [nil3]) N y (T2.map fun r=>r.map (negT n)) (A2.map fun b=>!b) (by rw [List.length_map];exact tl2) (by rw [List.length_map];exact al2) (fun r hr=>by
   obtain ⟨u,hu,rfl⟩:=List.mem_map.1 hr
   rw [List.length_map];exact hT2r u hu)
  refine CwpE.wk hX ?_
  rw [<-hneg]
  have nok:=neg_ok h4.ok
  have nl:(negG g).acc.length<=257:=by rw [hneg];simp only [List.length_map];omega
  have ns:(negG g).sy=y:=by rw [hneg]
  have hls:=least_s (negG g) nok nl (by omega)
  rw [leastP_R nok nl] at hls
  rw [htab]
  generalize negG g=G at hls
  refine CwpE.vc ?_
  simp only [go_sem,↓reduceIte,reduceLT,reduceEqDiff,reduceAdd]
  refine callT hls rfl ?_
  simp only [go_sem,↓reduceIte,reduceLT,reduceEqDiff,reduceAdd]
  exact snap_tup2 (.tree _ rfl) (.tree _ rfl)
 obtain ⟨M,hM⟩:∃ M,toV4 y N=M:=⟨_,rfl⟩
 rw [hM] at hmq hml ⊢
 simp only [go_sem,↓reduceIte,reduceLT,reduceEqDiff]
 refine loopX 0 (fun m z=>∃ i:Nat,m=N-i/\i<=N/\z=⟨[(1,.ref 0 1 0 0),(2,.ref 1 1 0 0),(6,.ref 2 1 0 0),(7,vi n),(43,.own 3 N 0 N),(44,vi N),(45,vi i)],objsV a (.agg [vi y,.own (N+4) N 0 N,.own 3 N 0 N]) N N M (rowsN n y N T2 i 0++[.arr N 1 4 (accN N A2 i)])⟩)
  (fun z=>z=⟨[(2,.ref 1 1 0 0),(6,.ref 2 1 0 0)],objsV a (.agg [vi y,.own (N+4) N 0 N,.own 3 N 0 N]) N N M (rowsN n y N T2 N 0++[.arr N 1 4 (accN N A2 N)])⟩) N
  ⟨[(1,.ref 0 1 0 0),(2,.ref 1 1 0 0),(6,.ref 2 1 0 0),(7,vi n),(43,.own 3 N 0 N),(44,vi N),(45,vi (0:Nat))],objsV a (.agg [vi y,.own (N+4) N 0 N,.own 3 N 0 N]) N N M (rowsN n y N T2 0 0++[.arr N 1 4 (accN N A2 0)])⟩ (WkE.kp) ⟨0,by omega,by omega,rfl⟩ ?_ ?_
 rotate_left
 ·rintro z rfl
  simp only [go_sem,↓reduceIte]
  exact ⟨_,.refl _ _,rfl⟩
 rintro m z ⟨i,rfl,hi,rfl⟩
 by_cases hlt:i<N
 rotate_left
 ·obtain rfl:i=N:=by omega
  simp only [go_sem,↓reduceIte,reduceLT,reduceEqDiff,Int.lt_irrefl]
  exact ⟨_,WkE.kp,rfl⟩
 have g1:(i:Int)<(N:Int):=by omega
 have g0:(0:Int)<=(i:Int):=by omega
 have wi:=wrap_s i (by omega)
 have hMi:=hmq i hlt
 have hag:=accN_get (A:=A2) hlt
 have has:=accN_set (N:=N) (A:=A2) (i:=i)
 have hrn:=rowsN_next (n:=n) tl2 hT2r hlt
 have accl:=accN_len (N:=N) (A:=A2) (i:=i)
 have hrl:(T2.getD i []).length=y:=by
  rw [List.getD_eq_getElem?_getD,List.getElem?_eq_getElem (by omega)]
  exact hT2r _ (List.getElem_mem _)
 have RRi:∀ x (o:AObj),(rowsN n y N T2 i x++[o])[i]? = some (orow y (partN n y x (T2.getD i []))):=fun x o=>by
  rw [List.getElem?_append_left (by rw [rowsN_len];exact hlt),rowsN_get hlt]
 have RRt:∀ x x' (o:AObj),(rowsN n y N T2 i x++[o]).set i (orow y (partN n y x' (T2.getD i [])))=rowsN n y N T2 i x'++[o]:=fun x x' o=>by
  rw [List.set_append_left _ _ (by rw [rowsN_len];exact hlt),rowsN_set]
 have Rl:=RRl i 0 (.arr N 1 4 (accN N A2 i))
 have Rs:=RRs i 0 (.arr N 1 4 (accN N A2 i))
 obtain ⟨r,hr⟩:∃ r,T2.getD i []=r:=⟨_,rfl⟩
 rw [hr] at hrl RRi RRt
 have Ri0:=RRi 0 (.arr N 1 4 (accN N A2 (i+1)))
 simp only [go_sem,↓reduceIte,reduceLT,reduceEqDiff,g1,g0,hMi,Rl,hag,has,Rs,Ri0,Int.toNat_natCast]
 refine loopX 2 (fun m z=>∃ x:Nat,m=y-x/\x<=y/\z=⟨[(1,.ref 0 1 0 0),(2,.ref 1 1 0 0),(6,.ref 2 1 0 0),(7,vi n),(43,.own 3 N 0 N),(44,vi N),(45,vi i),(9,.own (i+4) y 0 y),(60,.own (i+4) y 0 y),(61,vi y),(62,vi x)],objsV a (.agg [vi y,.own (N+4) N 0 N,.own 3 N 0 N]) N N M (rowsN n y N T2 i x++[.arr N 1 4 (accN N A2 (i+1))])⟩)
  (fun z=>z=⟨[(1,.ref 0 1 0 0),(2,.ref 1 1 0 0),(6,.ref 2 1 0 0),(7,vi n),(43,.own 3 N 0 N),(44,vi N),(45,vi i)],objsV a (.agg [vi y,.own (N+4) N 0 N,.own 3 N 0 N]) N N M (rowsN n y N T2 i y++[.arr N 1 4 (accN N A2 (i+1))])⟩) y
  ⟨[(1,.ref 0 1 0 0),(2,.ref 1 1 0 0),(6,.ref 2 1 0 0),(7,vi n),(43,.own 3 N 0 N),(44,vi N),(45,vi i),(9,.own (i+4) y 0 y),(60,.own (i+4) y 0 y),(61,vi y),(62,vi (0:Nat))],objsV a (.agg [vi y,.own (N+4) N 0 N,.own 3 N 0 N]) N N M (rowsN n y N T2 i 0++[.arr N 1 4 (accN N A2 (i+1))])⟩ ?_ ⟨0,by omega,by omega,rfl⟩ ?_ ?_
 ·exact WkE.kp
 rotate_left
 ·rintro z rfl
  simp only [go_sem,↓reduceIte,reduceLT,reduceEqDiff,wi]
  exact ⟨N-(i+1),⟨[(1,.ref 0 1 0 0),(2,.ref 1 1 0 0),(6,.ref 2 1 0 0),(7,vi n),(43,.own 3 N 0 N),(44,vi N),(45,vi (i+1:Nat))],objsV a (.agg [vi y,.own (N+4) N 0 N,.own 3 N 0 N]) N N M (rowsN n y N T2 i y++[.arr N 1 4 (accN N A2 (i+1))])⟩,by omega,WkE.kp,i+1,rfl,by omega,by rw [hrn];rfl⟩
 rintro m z ⟨x,rfl,hx,rfl⟩
 by_cases hxy:x<y
 rotate_left
 ·obtain rfl:x=y:=by omega
  simp only [go_sem,↓reduceIte,reduceLT,reduceEqDiff,Int.lt_irrefl]
  exact ⟨_,WkE.kp,rfl⟩
 have x1:(x:Int)<(y:Int):=by omega
 have x0:(0:Int)<=(x:Int):=by omega
 have wx:=wrap_s x (by omega)
 have hpg:=partN_get (n:=n) (r:=r) hxy
 have Ri:=RRi x (.arr N 1 4 (accN N A2 (i+1)))
 by_cases h0:r.getD x (-1)<0
 ·have hps:=partN_t (n:=n) (y:=y) h0
  have Rt:=RRt x (x+1) (.arr N 1 4 (accN N A2 (i+1)))
  generalize r.getD x (-1)=t at hpg h0
  simp only [go_sem,↓reduceIte,reduceLT,reduceEqDiff,x1,x0,Ri,hpg,h0,hps,Rt,wx,Int.toNat_natCast]
  exact ⟨y-(x+1),⟨[(1,.ref 0 1 0 0),(2,.ref 1 1 0 0),(6,.ref 2 1 0 0),(7,vi n),(43,.own 3 N 0 N),(44,vi N),(45,vi i),(9,.own (i+4) y 0 y),(60,.own (i+4) y 0 y),(61,vi y),(62,vi (x+1:Nat))],_⟩,by omega,WkE.kp,x+1,rfl,by omega,rfl⟩
 ·have hpf:=partN_f (n:=n) (y:=y) h0
  have e:rowsN n y N T2 i x=rowsN n y N T2 i (x+1):=by
   rw [rowsN,rowsN]
   refine rg_congr fun q _=>?_
   by_cases hq:q=i
   ·rw [hq,hr,hpf]
   ·rw [if_neg hq,if_neg hq]
  generalize r.getD x (-1)=t at hpg h0
  simp only [go_sem,↓reduceIte,reduceLT,reduceEqDiff,x1,x0,Ri,hpg,h0,wx,Int.toNat_natCast]
  exact ⟨y-(x+1),⟨[(1,.ref 0 1 0 0),(2,.ref 1 1 0 0),(6,.ref 2 1 0 0),(7,vi n),(43,.own 3 N 0 N),(44,vi N),(45,vi i),(9,.own (i+4) y 0 y),(60,.own (i+4) y 0 y),(61,vi y),(62,vi (x+1:Nat))],_⟩,by omega,WkE.kp,x+1,rfl,by omega,by rw [e]⟩
end Go.Proofs.Ytjilachpkjlhdaa
namespace Go.Proofs.Ytjilachpkjlhdaa
open Go.RowKit Dak P5
open Nat (reduceEqDiff reduceLT reduceAdd)
abbrev pau (a:Au):AV:=.ptr [vi a.sy,vbools a.acc,vedges a.ed]
theorem turn1_s (s:List Bool):Ctr Try.prog 61 [vset s] (vb (bt s 0)):=by
 refine specC f61 (by simp) fun F0 w0=>?_
 have h:Ctr Try.prog 62 [vset s,vi 0] (vb (bt s 0)):=has_s s 0 (by omega)
 unfold c61
 refine CwpE.cut (st:=⟨[(1,.ref 0 1 0 0)],[.arr 1 4 79 [vset s]]⟩) ?_ ?_
 ·simp only [go_sem,↓reduceIte,reduceLT,reduceAdd]
  exact ⟨_,WkE.kp,rfl⟩
 refine CwpE.vc ?_
 simp only [go_sem,↓reduceIte,reduceLT,reduceAdd]
 refine callT h rfl ?_
 simp only [go_sem,↓reduceIte]
 exact .tree _ rfl
theorem turnS_of {a:Au} {s t:List Bool} {x:Int} (htl:t.length=a.acc.length) (h:∀ j,bt t j=true ↔ ∃ e ∈ a.ed,e.2.1=x/\bt s e.2.2.toNat=true/\e.1=(j:Int)):t=turnS a s x:=bt_ext (by rw [htl];simp [turnS]) fun j hj=>by
 rw [h,turnS,bt_map,Bool.and_eq_true,decide_eq_true_eq,List.any_eq_true]
 constructor
 ·rintro ⟨e,he,h1,h2,h3⟩
  exact ⟨by omega,e,he,by simp only [h1,h2,h3,decide_true,Bool.and_true]⟩
 ·rintro ⟨_,e,he,h1⟩
  simp only [Bool.and_eq_true,decide_eq_true_eq] at h1
  exact ⟨e,he,h1.1.1,h1.1.2,h1.2⟩
theorem turnS_len (a:Au) (s:List Bool) (x:Int):(turnS a s x).length=a.acc.length:=by simp [turnS]
theorem anyT_of {a:Au} (hv:VA a) (s:List Bool) (x:Int):anyT a s x=true ↔ ∃ j,bt (turnS a s x) j=true:=by
 unfold anyT turnS
 rw [List.any_eq_true]
 constructor
 ·rintro ⟨e,he,h⟩
  have:=(hv.ed e he).1
  refine ⟨e.1.toNat,?_⟩
  rw [bt_map,Bool.and_eq_true,decide_eq_true_eq,List.any_eq_true]
  exact ⟨by omega,e,he,by rw [h,Bool.true_and,decide_eq_true_eq];omega⟩
 ·rintro ⟨j,hj⟩
  rw [bt_map,Bool.and_eq_true,decide_eq_true_eq,List.any_eq_true] at hj
  obtain ⟨_,e,he,h⟩:=hj
  rw [Bool.and_eq_true] at h
  exact ⟨e,he,h.1⟩
set_option maxHeartbeats 4000000 in
theorem turn2_s (a:Au) (hv:VA a) (s:List Bool) (hs:s.length=a.acc.length) (x:Nat):Ctr Try.prog 63 [vset s,vi x,pau a] (.tup [vset (turnS a s (x:Int)),vb (anyT a s (x:Int))]):=by
 obtain ⟨⟨hsy1,hsy2⟩,⟨hn1,hn2⟩,hm,hed⟩:=id hv
 refine specC f63 (by simp) fun F0 w0=>?_
 obtain ⟨n,hn⟩:∃ n,a.acc.length=n:=⟨_,rfl⟩
 obtain ⟨zs,hzs⟩:∃ zs,zs=AV.agg [vw 0,vw 0,vw 0,vw 0]:=⟨_,rfl⟩
 have hz0:AV.agg [vw 0,vw 0,vw 0,vw 0]=vset (noneS n):=by rw [vset,wdi_none,wdi_none,wdi_none,wdi_none]
 unfold c63
 refine CwpE.cut (st:=⟨[(1,vi x),(2,pau a),(3,.ref 0 1 0 0),(5,.ref 1 1 0 0)],[.arr 1 4 79 [vset s],.arr 1 4 79 [.agg [vw 0,vw 0,vw 0,vw 0]]]⟩) ?_ ?_
 ·simp only [go_sem,↓reduceIte,reduceLT,reduceAdd]
  exact ⟨_,WkE.kq,rfl⟩
 refine CwpE.cut (st:=⟨[(1,vi x),(2,pau a),(3,.ref 0 1 0 0),(5,.ref 1 1 0 0),(7,.ref 2 1 0 0)],[.arr 1 4 79 [vset s],.arr 1 4 79 [vset (noneS n)],.arr 1 4 79 [vset (noneS n)]]⟩) ?_ ?_
 ·rw [<-hz0]
  simp only [go_sem,↓reduceIte,reduceLT,reduceAdd]
  exact ⟨_,WkE.kp,rfl⟩
 refine CwpE.step (fun z=>z=⟨[(5,.ref 1 1 0 0),(7,.ref 2 1 0 0)],[.arr 1 4 79 [vset s],.arr 1 4 79 [vset (noneS n)],.arr 1 4 79 [vset (turnS a s (x:Int))]]⟩) ?_ ?_
 rotate_left
 ·rintro _ rfl
  have hz:=wdi_zero (s:=turnS a s (x:Int)) (by rw [turnS_len];omega)
  rw [<-anyT_of hv] at hz
  generalize turnS a s (x:Int)=t at hz ⊢
  have hd:decide ([wdi t 0,wdi t 1,wdi t 2,wdi t 3]=[(0:Int),0,0,0]) = !anyT a s (x:Int):=by
   cases h:anyT a s (x:Int) with
   | false=>exact decide_eq_true (hz.2 (by rw [h];simp))
   | true=>exact decide_eq_false (fun e=>hz.1 e h)
  refine CwpE.vc ?_
  simp only [go_sem,↓reduceIte,reduceLT,reduceEqDiff,reduceAdd,hd]
  rw [Bool.not_not]
  exact snap_tup2 (.tree _ rfl) (.tree _ rfl)
 simp only [go_sem,↓reduceIte,reduceLT,reduceEqDiff,List.length_map]
 refine loopX 0 (fun m z=>∃ (k:Nat) (t:List Bool),m=a.ed.length-k/\k<=a.ed.length/\t.length=n/\(∀ j,bt t j=true ↔ ∃ e ∈ a.ed.take k,e.2.1=(x:Int)/\bt s e.2.2.toNat=true/\e.1=(j:Int)) /\
  z=⟨[(1,vi x),(2,pau a),(3,.ref 0 1 0 0),(5,.ref 1 1 0 0),(7,.ref 2 1 0 0),(11,vedges a.ed),(12,vi a.ed.length),(13,vi k)],[.arr 1 4 79 [vset s],.arr 1 4 79 [vset (noneS n)],.arr 1 4 79 [vset t]]⟩)
  (fun z=>z=⟨[(5,.ref 1 1 0 0),(7,.ref 2 1 0 0)],[.arr 1 4 79 [vset s],.arr 1 4 79 [vset (noneS n)],.arr 1 4 79 [vset (turnS a s (x:Int))]]⟩) a.ed.length
  ⟨[(1,vi x),(2,pau a),(3,.ref 0 1 0 0),(5,.ref 1 1 0 0),(7,.ref 2 1 0 0),(11,vedges a.ed),(12,vi a.ed.length),(13,vi (0:Nat))],[.arr 1 4 79 [vset s],.arr 1 4 79 [vset (noneS n)],.arr 1 4 79 [vset (noneS n)]]⟩ (WkE.kp)
  ⟨0,noneS n,by omega,by omega,by simp [noneS],fun j=>by rw [noneS_bt];simp,rfl⟩ ?_ ?_
 rotate_left
 ·rintro z rfl
  simp only [go_sem,↓reduceIte]
  exact ⟨_,.refl _ _,rfl⟩
 rintro m z ⟨k,t,rfl,hk,htl,ht,rfl⟩
 by_cases hlt:k<a.ed.length
 rotate_left
 ·have gk:¬ (k:Int)<(a.ed.length:Int):=by omega
  rw [List.take_of_length_le (by omega)] at ht
  have e1:t=turnS a s (x:Int):=turnS_of (by omega) ht
  simp only [go_sem,↓reduceIte,reduceLT,reduceEqDiff,gk]
  rw [<-e1]
  exact ⟨_,WkE.kp,rfl⟩
 have g1:(k:Int)<(a.ed.length:Int):=by omega
 have g0:(0:Int)<=(k:Int):=by omega
 have w1:=wrap_s k (by omega)
 have hee:=hed _ (List.getElem_mem hlt)
 have heg:=edge_get hlt
 have htk:=List.take_succ_eq_append_getElem hlt
 generalize a.ed[k]=e at hee heg htk
 obtain ⟨e1,e2,e3⟩:=e
 simp only at hee
 obtain ⟨p,rfl⟩:∃ p:Nat,e1=(p:Int):=⟨e1.toNat,by omega⟩
 obtain ⟨r,rfl⟩:∃ r:Nat,e3=(r:Int):=⟨e3.toNat,by omega⟩
 have hhas:=has_s s r (by omega)
 have same:(decide (e2=(x:Int)) && bt s r)=false->∀ st,WkE 35 st ⟨[(1,vi x),(2,pau a),(3,.ref 0 1 0 0),(5,.ref 1 1 0 0),(7,.ref 2 1 0 0),(11,vedges a.ed),(12,vi a.ed.length),(13,vi (k+1:Nat))],[.arr 1 4 79 [vset s],.arr 1 4 79 [vset (noneS n)],.arr 1 4 79 [vset t]]⟩ ->
  ∃ m z,m<a.ed.length-k/\WkE 35 st z/\∃ (k:Nat) (t:List Bool),m=a.ed.length-k/\k<=a.ed.length/\t.length=n/\(∀ j,bt t j=true ↔ ∃ e ∈ a.ed.take k,e.2.1=(x:Int)/\bt s e.2.2.toNat=true/\e.1=(j:Int)) /\
  z=⟨[(1,vi x),(2,pau a),(3,.ref 0 1 0 0),(5,.ref 1 1 0 0),(7,.ref 2 1 0 0),(11,vedges a.ed),(12,vi a.ed.length),(13,vi k)],[.arr 1 4 79 [vset s],.arr 1 4 79 [vset (noneS n)],.arr 1 4 79 [vset t]]⟩:=by
  intro hno st hst
  refine ⟨a.ed.length-(k+1),_,by omega,hst,k+1,t,rfl,by omega,htl,fun j=>?_,rfl⟩
  rw [ht,htk]
  constructor
  ·rintro ⟨e,he,h⟩;exact ⟨e,by simp [he],h⟩
  ·rintro ⟨e,he,h⟩
   rcases List.mem_append.1 he with he | he
   ·exact ⟨e,he,h⟩
   ·rw [List.mem_singleton] at he
    subst he
    simp only [Int.toNat_natCast] at h
    rw [h.1,h.2.1] at hno
    simp at hno
 have inn:∀ t u v:List Bool,([AObj.arr 1 4 79 [vset t],.arr 1 4 79 [vset u],.arr 1 4 79 [vset v]].all fun o=>o.innO 3)=true:=fun t u v=>rfl
 by_cases b1:e2=(x:Int)
 rotate_left
 ·have hs1:=same (by simp [b1])
  simp only [go_sem,↓reduceIte,reduceLT,reduceEqDiff,reduceAdd,g1,g0,heg,b1,w1,Int.toNat_natCast]
  exact hs1 _ (WkE.round (by simp only [go_sem,↓reduceIte,reduceEqDiff];try rfl) rfl (inn _ _ _) rfl)
 cases b2:bt s r with
 | false =>
  rw [b2] at hhas
  have hs1:=same (by rw [b2,Bool.and_false])
  simp only [go_sem,↓reduceIte,reduceLT,reduceEqDiff,reduceAdd,g1,g0,heg,b1,Int.toNat_natCast]
  refine callT hhas rfl ?_
  simp only [go_sem,↓reduceIte,reduceLT,reduceEqDiff,w1]
  exact hs1 _ (WkE.round (by simp only [go_sem,↓reduceIte,reduceEqDiff];try rfl) rfl (inn _ _ _) rfl)
 | true =>
  rw [b2] at hhas
  have hpb:∀ j,bt (putS t p) j=(decide (j=p) || bt t j):=fun j=>putS_bt (by omega)
  simp only [go_sem,↓reduceIte,reduceLT,reduceEqDiff,reduceAdd,g1,g0,heg,b1,Int.toNat_natCast]
  refine callT hhas rfl ?_
  simp only [go_sem,↓reduceIte,reduceLT,reduceEqDiff]
  have hput:=put1_m [.arr 1 4 79 [vset s],.arr 1 4 79 [vset (noneS n)],.arr 1 4 79 [vset t]] 2 1 0 4 79 [vset t] t p rfl rfl (by decide) rfl (by omega) (by omega)
  refine callM [.arr 1 4 79 [vset s],.arr 1 4 79 [vset (noneS n)],.arr 1 4 79 [vset t]] [_] _ hput rfl rfl rfl ?_
  simp only [go_sem,↓reduceIte,reduceLT,reduceEqDiff,w1]
  refine ⟨a.ed.length-(k+1),⟨[(1,vi x),(2,pau a),(3,.ref 0 1 0 0),(5,.ref 1 1 0 0),(7,.ref 2 1 0 0),(11,vedges a.ed),(12,vi a.ed.length),(13,vi (k+1:Nat))],[.arr 1 4 79 [vset s],.arr 1 4 79 [vset (noneS n)],.arr 1 4 79 [vset (putS t p)]]⟩,by omega,WkE.round (by simp only [go_sem,↓reduceIte,reduceEqDiff];try rfl) rfl (inn _ _ _) rfl,k+1,putS t p,rfl,by omega,by rw [putS_len,htl],fun j=>?_,rfl⟩
  rw [hpb,Bool.or_eq_true,decide_eq_true_eq,ht,htk]
  constructor
  ·rintro (rfl | ⟨e,he,h⟩)
   ·exact ⟨_,List.mem_append.2 (.inr (List.mem_singleton.2 rfl)),b1,by simpa using b2,rfl⟩
   ·exact ⟨e,by simp [he],h⟩
  ·rintro ⟨e,he,h⟩
   rcases List.mem_append.1 he with he | he
   ·exact .inr ⟨e,he,h⟩
   ·rw [List.mem_singleton] at he
    subst he
    exact .inl (by have:=h.2.2;simp only at this;omega)
set_option maxHeartbeats 4000000 in
theorem Turn_s (a:Au) (ha:SzA a):Ctr Try.prog 28 [vau a] (vae (turnM a)):=by
 refine specC f28 (by simp) fun F0 w0=>?_
 have hfa:=Fixed_s a ha
 unfold turnM
 obtain ⟨c,e,hc⟩:∃ c e,fixedM a=(c,e):=⟨_,_,rfl⟩
 have hco:=fixed_ok (a:=a)
 have hcn:=fixed_norm (a:=a)
 rw [hc] at hfa hco hcn ⊢
 simp only at hco hcn ⊢
 unfold c28
 refine CwpE.cut (st:=⟨[(1,.ref 0 1 0 0),(2,.ref 1 1 0 0),(3,vi 0)],[oX a,.arr 1 3 34 [nil3]]⟩) ?_ ?_
 ·simp only [go_sem,↓reduceIte,reduceLT,reduceAdd]
  exact ⟨_,WkE.kp,rfl⟩
 refine CwpE.cut (st:=⟨[(1,.ref 0 1 0 0),(2,.ref 1 1 0 0),(3,vi 0),(4,.ref 2 1 0 0),(5,vi e)],[oX a,.arr 1 3 34 [nil3],oX c]⟩) ?_ ?_
 ·simp only [go_sem,↓reduceIte,reduceLT,reduceAdd]
  refine callT hfa rfl ?_
  simp only [go_sem,↓reduceIte,reduceLT,reduceEqDiff,reduceAdd]
  exact ⟨_,WkE.kp,rfl⟩
 by_cases he:e=0
 rotate_left
 ·rw [if_neg he]
  refine CwpE.vc ?_
  simp only [go_sem,↓reduceIte,reduceLT,reduceEqDiff,reduceAdd,he]
  exact snap_tup2 nil_snap (.tree _ rfl)
 subst he
 rw [if_pos rfl]
 obtain ⟨va,g,d,h1,h2,h3,h4,h5,_⟩:=hcn rfl
 obtain ⟨cv,hne,hcsy,_⟩:=hco rfl
 have hcg:c=auOf g:=(Prod.mk.inj h3).1
 obtain ⟨⟨hsy1,hsy2⟩,⟨hn1,hn2⟩,hm,hed⟩:=id cv
 obtain ⟨y,hy⟩:∃ y:Nat,c.sy=(y:Int):=⟨c.sy.toNat,by omega⟩
 have hyT:c.sy.toNat=y:=by omega
 have hay:a.sy=(y:Int):=by omega
 obtain ⟨n,hn⟩:∃ n,c.acc.length=n:=⟨_,rfl⟩
 refine CwpE.cut (st:=⟨[(1,.ref 0 1 0 0),(2,.ref 1 1 0 0),(3,vi 0),(4,.ref 2 1 0 0)],[oX a,.arr 1 3 34 [nil3],oX c]⟩) ?_ ?_
 ·simp only [go_sem,↓reduceIte,reduceLT,reduceEqDiff]
  exact ⟨_,WkE.kp,rfl⟩
 have hz0:AV.agg [vw 0,vw 0,vw 0,vw 0]=vset (accS c 0):=by
  have:accS c 0=noneS n:=by rw [<-hn];exact accS_zero c
  rw [this,vset,wdi_none,wdi_none,wdi_none,wdi_none]
 refine CwpE.cut (st:=⟨[(1,.ref 0 1 0 0),(2,.ref 1 1 0 0),(3,vi 0),(4,.ref 2 1 0 0),(6,.ref 3 1 0 0)],[oX a,.arr 1 3 34 [nil3],oX c,.arr 1 4 79 [vset (accS c 0)]]⟩) ?_ ?_
 ·rw [<-hz0]
  simp only [go_sem,↓reduceIte,reduceLT,reduceAdd]
  exact ⟨_,WkE.kp,rfl⟩
 refine CwpE.step (fun z=>z=⟨[(1,.ref 0 1 0 0),(2,.ref 1 1 0 0),(3,vi 0),(4,.ref 2 1 0 0),(6,.ref 3 1 0 0)],[oX a,.arr 1 3 34 [nil3],oX c,.arr 1 4 79 [vset c.acc]]⟩) ?_ ?_
 ·simp only [go_sem,↓reduceIte,reduceLT,reduceEqDiff,List.length_map,hn]
  refine loopX 0 (fun m z=>∃ k:Nat,m=n-k/\k<=n/\z=⟨[(1,.ref 0 1 0 0),(2,.ref 1 1 0 0),(3,vi 0),(4,.ref 2 1 0 0),(6,.ref 3 1 0 0),(20,vbools c.acc),(21,vi n),(22,vi k)],[oX a,.arr 1 3 34 [nil3],oX c,.arr 1 4 79 [vset (accS c k)]]⟩)
   (fun z=>z=⟨[(1,.ref 0 1 0 0),(2,.ref 1 1 0 0),(3,vi 0),(4,.ref 2 1 0 0),(6,.ref 3 1 0 0)],[oX a,.arr 1 3 34 [nil3],oX c,.arr 1 4 79 [vset c.acc]]⟩) n
   ⟨[(1,.ref 0 1 0 0),(2,.ref 1 1 0 0),(3,vi 0),(4,.ref 2 1 0 0),(6,.ref 3 1 0 0),(20,vbools c.acc),(21,vi n),(22,vi (0:Nat))],[oX a,.arr 1 3 34 [nil3],oX c,.arr 1 4 79 [vset (accS c 0)]]⟩ (WkE.kp) ⟨0,by omega,by omega,rfl⟩ ?_ ?_
  rotate_left
  ·rintro z rfl
   simp only [go_sem,↓reduceIte]
   exact ⟨_,.refl _ _,rfl⟩
  rintro m z ⟨k,rfl,hk,rfl⟩
  by_cases hlt:k<n
  rotate_left
  ·obtain rfl:k=n:=by omega
   have hal:accS c k=c.acc:=by rw [<-hn];exact accS_all c
   rw [hal]
   simp only [go_sem,↓reduceIte,reduceLT,reduceEqDiff,Int.lt_irrefl]
   exact ⟨_,WkE.kp,rfl⟩
  have g1:(k:Int)<(n:Int):=by omega
  have g0:(0:Int)<=(k:Int):=by omega
  have w1:=wrap_s k (by omega)
  have hag:=bt_get (s:=c.acc) (k:=k) (by omega)
  cases hb:bt c.acc k with
  | false =>
   rw [hb] at hag
   have hac:=accS_f c k hb
   simp only [go_sem,↓reduceIte,reduceLT,reduceEqDiff,g1,g0,hag,w1,Int.toNat_natCast]
   refine ⟨n-(k+1),⟨[(1,.ref 0 1 0 0),(2,.ref 1 1 0 0),(3,vi 0),(4,.ref 2 1 0 0),(6,.ref 3 1 0 0),(20,vbools c.acc),(21,vi n),(22,vi (k+1:Nat))],[oX a,.arr 1 3 34 [nil3],oX c,.arr 1 4 79 [vset (accS c k)]]⟩,by omega,WkE.kp,k+1,rfl,by omega,by rw [hac]⟩
  | true =>
   rw [hb] at hag
   have hac:=accS_t c k (by omega) hb
   simp only [go_sem,↓reduceIte,reduceLT,reduceEqDiff,g1,g0,hag,Int.toNat_natCast]
   have hput:=put1_m [oX a,.arr 1 3 34 [nil3],oX c,.arr 1 4 79 [vset (accS c k)]] 3 1 0 4 79 [vset (accS c k)] (accS c k) k rfl rfl (by decide) rfl (by rw [accS_len];omega) (by rw [accS_len];omega)
   refine callM [oX a,.arr 1 3 34 [nil3],oX c,.arr 1 4 79 [vset (accS c k)]] [] _ hput rfl rfl rfl ?_
   simp only [go_sem,↓reduceIte,reduceLT,reduceEqDiff,w1]
   refine ⟨n-(k+1),⟨[(1,.ref 0 1 0 0),(2,.ref 1 1 0 0),(3,vi 0),(4,.ref 2 1 0 0),(6,.ref 3 1 0 0),(20,vbools c.acc),(21,vi n),(22,vi (k+1:Nat))],[oX a,.arr 1 3 34 [nil3],oX c,.arr 1 4 79 [vset (putS (accS c k) k)]]⟩,by omega,WkE.kp,k+1,rfl,by omega,by rw [hac]⟩
 rintro _ rfl
 have hex:=explA_s (fun s=>s.length=c.acc.length) (fun s t hs ht=>keyS_inj (by rw [hs,ht]) (by omega)) (.clo (.func 61) []) (.clo (.func 63) [pau c]) c.acc y (by omega) (fun s=>bt s 0) (fun s x=>(turnS c s (x:Int),anyT c s (x:Int))) rfl (fun s x _ _ _=>turnS_len c s x)
  (fun s hs objs=>.data 61 _ _ _ _ (.cons (.tree _ rfl) .nil) (turn1_s s)) (fun s x hs hx objs=>.data 63 _ _ _ _ (.cons (.tree _ rfl) (.cons (.tree _ rfl) (.cons (.tree _ rfl) .nil))) (turn2_s c cv s hs x)) (fun k=>⟨rfl,rfl⟩)
 have hB:bfs 256 (nextE fun s (x:Nat)=>(turnS c s (x:Int),anyT c s (x:Int))) y c.acc=bfs 256 (nextT c) c.sy.toNat c.acc:=by rw [hyT];rfl
 rw [hB] at hex
 have htu:turnedM c=(bfs 256 (nextT c) c.sy.toNat c.acc).map fun r=>grOf y (fun s=>bt s 0) r.1 r.2:=by rw [turnedM,hyT]
 rw [htu]
 refine CwpE.wk (s':=⟨[(4,pau c),(1,.ref 0 1 0 0),(2,.ref 1 1 0 0),(3,vi 0),(6,.ref 3 1 0 0)],[oX a,.arr 1 3 34 [nil3],.dead,.arr 1 4 79 [vset c.acc]]⟩) ?_ ?_
 ·refine (WkE.freezeS (n:=47) (objs:=[oX a,.arr 1 3 34 [nil3],oX c,.arr 1 4 79 [vset c.acc]]) 4 2 1 3 34 [vau c] (.ref 2 1 0 0) (pau c) (by omega) rfl rfl ?_).trans (WkE.kp)
  refine .ref 2 1 0 0 _ _ rfl rfl fun i h1 h2=>?_
  match i,h1,h2 with
  | 0,_,_=>exact .tree _ rfl
  | 1,_,_=>exact .tree _ rfl
  | 2,_,_=>exact .tree _ rfl
 cases hb:bfs 256 (nextT c) c.sy.toNat c.acc with
 | none =>
  rw [hb] at hex
  refine CwpE.vc ?_
  simp only [go_sem,↓reduceIte,reduceLT,reduceEqDiff,reduceAdd,hay]
  refine callN hex (.cons (.tree _ rfl) (.cons (.tree _ rfl) (.cons (.tree _ rfl) (.cons (.tree _ rfl) .nil)))) ?_
  simp only [resE,go_sem,↓reduceIte,reduceLT,reduceEqDiff,reduceAdd,Int.reduceEq]
  exact snap_tup2 nil_snap (.tree _ rfl)
 | some r =>
  rw [hb,resE] at hex
  obtain ⟨l,rows⟩:=r
  rw [hyT] at hb
  obtain ⟨o1,o2,o3⟩:=bfs_ok (by omega) hb
  have hl1:1<=l.length:=by have:=o3.length_le;simpa using this
  have hgo:=grOf_ok (acc:=fun s:List Bool=>bt s 0) o1 o2 hl1
  have hlen:(grOf y (fun s:List Bool=>bt s 0) l rows).acc.length<=256:=by show (l.map _).length<=256;rw [List.length_map];exact o1.most
  have hGs:(grOf y (fun s:List Bool=>bt s 0) l rows).sy=y:=rfl
  simp only [Option.map_some]
  generalize grOf y (fun s:List Bool=>bt s 0) l rows=G at hex hgo hlen hGs ⊢
  have hls:=least_s G hgo (by omega) (by omega)
  rw [leastP_R hgo (by omega)] at hls
  refine CwpE.vc ?_
  simp only [go_sem,↓reduceIte,reduceLT,reduceEqDiff,reduceAdd,hay]
  refine callN hex (.cons (.tree _ rfl) (.cons (.tree _ rfl) (.cons (.tree _ rfl) (.cons (.tree _ rfl) .nil)))) ?_
  simp only [go_sem,↓reduceIte,reduceLT,reduceEqDiff,reduceAdd]
  refine callT hls rfl ?_
  simp only [go_sem,↓reduceIte,reduceLT,reduceEqDiff,reduceAdd]
  exact snap_tup2 (.tree _ rfl) (.tree _ rfl)
end Go.Proofs.Ytjilachpkjlhdaa
namespace P5
abbrev RE:=PI × List Int
theorem apartRow_t {g h:Gr} {p:PI} {w:List Int} {y:Nat} {xs:List Nat} {z:List PI} (hy:stepP g h p y ∈ z):apartRow g h p w (y::xs) z=apartRow g h p w xs z:=by rw [apartRow];exact if_pos hy
theorem apartRow_f {g h:Gr} {p:PI} {w:List Int} {y:Nat} {xs:List Nat} {z:List PI} (hy:stepP g h p y ∉ z):apartRow g h p w (y::xs) z=((stepP g h p y,w++[(y:Int)])::(apartRow g h p w xs (z++[stepP g h p y])).1,(apartRow g h p w xs (z++[stepP g h p y])).2):=by rw [apartRow];exact if_neg hy
theorem apartRow_in (g h:Gr) (p:PI) (w:List Int) (x:Nat):∀ (xs:List Nat) (z:List PI),stepP g h p x ∈ (apartRow g h p w xs z).2->apartRow g h p w (xs++[x]) z=apartRow g h p w xs z
 | [],z,hm=>apartRow_t hm
 | y::xs,z,hm=>by
  rw [List.cons_append]
  by_cases hy:stepP g h p y ∈ z
  ·rw [apartRow_t hy] at hm
   rw [apartRow_t hy,apartRow_t hy,apartRow_in g h p w x xs z hm]
  ·rw [apartRow_f hy] at hm
   rw [apartRow_f hy,apartRow_f hy,apartRow_in g h p w x xs _ hm]
theorem apartRow_out (g h:Gr) (p:PI) (w:List Int) (x:Nat):∀ (xs:List Nat) (z:List PI),stepP g h p x ∉ (apartRow g h p w xs z).2->apartRow g h p w (xs++[x]) z=((apartRow g h p w xs z).1++[(stepP g h p x,w++[(x:Int)])],(apartRow g h p w xs z).2++[stepP g h p x])
 | [],z,hm=>apartRow_f hm
 | y::xs,z,hm=>by
  rw [List.cons_append]
  by_cases hy:stepP g h p y ∈ z
  ·rw [apartRow_t hy] at hm
   rw [apartRow_t hy,apartRow_t hy,apartRow_out g h p w x xs z hm]
  ·rw [apartRow_f hy] at hm
   rw [apartRow_f hy,apartRow_f hy,apartRow_out g h p w x xs _ hm]
   rfl
theorem apartRow_fst (g h:Gr) (p:PI) (w:List Int):∀ (xs:List Nat) (z:List PI),(apartRow g h p w xs z).2=z++(apartRow g h p w xs z).1.map Prod.fst
 | [],z=>by simp [apartRow]
 | y::xs,z=>by
  by_cases hy:stepP g h p y ∈ z
  ·rw [apartRow_t hy]
   exact apartRow_fst g h p w xs z
  ·rw [apartRow_f hy]
   simp only [List.map_cons]
   rw [apartRow_fst g h p w xs]
   simp
def apL (g h:Gr) (L:List RE) (p:PI) (w:List Int) (x:Nat):List RE:=L++(apartRow g h p w (List.range x) (L.map Prod.fst)).1
theorem apL_zero (g h:Gr) (L:List RE) (p:PI) (w:List Int):apL g h L p w 0=L:=by simp [apL,apartRow]
theorem apL_fst (g h:Gr) (L:List RE) (p:PI) (w:List Int) (x:Nat):(apL g h L p w x).map Prod.fst=(apartRow g h p w (List.range x) (L.map Prod.fst)).2:=by
 rw [apL,List.map_append,apartRow_fst]
theorem apL_succ (g h:Gr) (L:List RE) (p:PI) (w:List Int) (x:Nat):apL g h L p w (x+1)=if stepP g h p x ∈ (apL g h L p w x).map Prod.fst then apL g h L p w x else apL g h L p w x++[(stepP g h p x,w++[(x:Int)])]:=by
 rw [apL_fst]
 unfold apL
 rw [List.range_succ]
 by_cases hm:stepP g h p x ∈ (apartRow g h p w (List.range x) (L.map Prod.fst)).2
 ·rw [if_pos hm,apartRow_in _ _ _ _ _ _ _ hm]
 ·rw [if_neg hm,apartRow_out _ _ _ _ _ _ _ hm,List.append_assoc]
theorem apL_pre (g h:Gr) (L:List RE) (p:PI) (w:List Int) (x:Nat):L <+: apL g h L p w x:=⟨_,rfl⟩
def apG (g h:Gr) (f:Nat) (L:List RE) (i:Nat):Option (List Int):=apartGo g h f (L.drop i) (L.map Prod.fst)
theorem apG_end {g h:Gr} {f:Nat} {L:List RE} {i:Nat} (hi:L.length<=i):apG g h f L i=none:=by
 rw [apG,List.drop_eq_nil_of_le hi]
 cases f <;> rfl
theorem apG_tell {g h:Gr} {f:Nat} {L:List RE} {i:Nat} (hi:i<L.length) (ht:tellsI g h L[i].1=true):apG g h (f+1) L i=some L[i].2:=by
 rw [apG,List.drop_eq_getElem_cons hi]
 rw [apartGo,if_pos ht]
theorem apG_step {g h:Gr} {f:Nat} {L:List RE} {i:Nat} (hi:i<L.length) (ht:tellsI g h L[i].1=false):apG g h (f+1) L i=apG g h f (apL g h L L[i].1 L[i].2 g.sy) (i+1):=by
 rw [apG,List.drop_eq_getElem_cons hi]
 rw [apartGo,if_neg (by rw [ht];simp)]
 simp only
 rw [apG,apL_fst,apL,List.drop_append_of_le_length (by omega)]
theorem apartM_G (g h:Gr):apartM g h=apG g h 66051 [((0,0),[])] 0:=rfl
structure ApOk (g h:Gr) (L:List RE) (n:Nat):Prop where
 nodup:(L.map Prod.fst).Nodup
 inn:∀ e ∈ L,InD g h e.1
 len:∀ e ∈ L,e.2.length<=n
theorem ApOk.le {g h:Gr} (gn:g.acc.length<=256) (hn:h.acc.length<=256) {L:List RE} {n:Nat} (k:ApOk g h L n):L.length<=66049:=by
 have:=sub_len (S:=allP g.acc.length h.acc.length) k.nodup (fun p hp=>by
  obtain ⟨e,he,rfl⟩:=List.mem_map.1 hp
  exact allP_mem (k.inn e he))
 rw [allP_len,List.length_map] at this
 exact Nat.le_trans this (Nat.le_trans (Nat.mul_le_mul (Nat.succ_le_succ gn) (Nat.succ_le_succ hn)) (by omega))
theorem ApOk.row {g h:Gr} (hg:GrOk g) (hh:GrOk h) {L:List RE} {n:Nat} (k:ApOk g h L n) {p:PI} {w:List Int} (hw:w.length<=n):∀ x,ApOk g h (apL g h L p w x) (n+1)
 | 0=>by rw [apL_zero];exact ⟨k.nodup,k.inn,fun e he=>Nat.le_succ_of_le (k.len e he)⟩
 | x+1=>by
  have ih:=ApOk.row hg hh k (p:=p) hw x
  rw [apL_succ]
  split
  ·exact ih
  ·rename_i hm
   refine ⟨?_,fun e he=>?_,fun e he=>?_⟩
   ·rw [List.map_append,List.nodup_append]
    refine ⟨ih.nodup,by simp,fun a ha b hb=>?_⟩
    have:b=stepP g h p x:=by simpa using hb
    rw [this]
    exact fun e=>hm (e ▸ ha)
   ·rcases List.mem_append.1 he with he | he
    ·exact ih.inn e he
    ·rw [List.mem_singleton.1 he]
     exact ⟨(stepI_in hg _ _).1,(stepI_in hg _ _).2,(stepI_in hh _ _).1,(stepI_in hh _ _).2⟩
   ·rcases List.mem_append.1 he with he | he
    ·exact ih.len e he
    ·rw [List.mem_singleton.1 he]
     simp only [List.length_append,List.length_singleton]
     omega
theorem apOk_one {g h:Gr} (hg:GrOk g) (hh:GrOk h):ApOk g h [((0,0),[])] 0:=by
 have h1:=hg.n
 have h2:=hh.n
 refine ⟨by simp,fun e he=>?_,fun e he=>?_⟩
 ·rw [List.mem_singleton.1 he];exact ⟨by simp only;omega,by simp only;omega,by simp only;omega,by simp only;omega⟩
 ·rw [List.mem_singleton.1 he];exact Nat.le_refl _
abbrev RS:=List Bool × List Int
theorem shortRow_t {a:Au} {s:List Bool} {w:List Int} {y:Nat} {xs:List Nat} {z:List Bool} (hy:freshB (afterA a s (y:Int)) z=true):shortRow a s w (y::xs) z=((afterA a s (y:Int),w++[(y:Int)])::(shortRow a s w xs (orS z (afterA a s (y:Int)))).1,(shortRow a s w xs (orS z (afterA a s (y:Int)))).2):=by rw [shortRow];exact if_pos hy
theorem shortRow_f {a:Au} {s:List Bool} {w:List Int} {y:Nat} {xs:List Nat} {z:List Bool} (hy:¬ freshB (afterA a s (y:Int)) z=true):shortRow a s w (y::xs) z=shortRow a s w xs (orS z (afterA a s (y:Int))):=by rw [shortRow];exact if_neg hy
theorem shortRow_in (a:Au) (s:List Bool) (w:List Int) (x:Nat):∀ (xs:List Nat) (z:List Bool),freshB (afterA a s (x:Int)) (shortRow a s w xs z).2=true->shortRow a s w (xs++[x]) z=((shortRow a s w xs z).1++[(afterA a s x,w++[(x:Int)])],orS (shortRow a s w xs z).2 (afterA a s x))
 | [],z,h=>shortRow_t (z:=z) h
 | y::xs,z,h=>by
  rw [List.cons_append]
  by_cases hy:freshB (afterA a s (y:Int)) z=true
  ·rw [shortRow_t hy] at h
   rw [shortRow_t hy,shortRow_t hy,shortRow_in a s w x xs _ h];rfl
  ·rw [shortRow_f hy] at h
   rw [shortRow_f hy,shortRow_f hy,shortRow_in a s w x xs _ h]
theorem shortRow_out (a:Au) (s:List Bool) (w:List Int) (x:Nat):∀ (xs:List Nat) (z:List Bool),¬ freshB (afterA a s (x:Int)) (shortRow a s w xs z).2=true->shortRow a s w (xs++[x]) z=((shortRow a s w xs z).1,orS (shortRow a s w xs z).2 (afterA a s x))
 | [],z,h=>shortRow_f (z:=z) h
 | y::xs,z,h=>by
  rw [List.cons_append]
  by_cases hy:freshB (afterA a s (y:Int)) z=true
  ·rw [shortRow_t hy] at h
   rw [shortRow_t hy,shortRow_t hy,shortRow_out a s w x xs _ h]
  ·rw [shortRow_f hy] at h
   rw [shortRow_f hy,shortRow_f hy,shortRow_out a s w x xs _ h]
def shL (a:Au) (L:List RS) (z:List Bool) (s:List Bool) (w:List Int) (x:Nat):List RS:=L++(shortRow a s w (List.range x) z).1
def shZ (a:Au) (z:List Bool) (s:List Bool) (w:List Int) (x:Nat):List Bool:=(shortRow a s w (List.range x) z).2
theorem shL_zero (a:Au) (L:List RS) (z s:List Bool) (w:List Int):shL a L z s w 0=L:=by simp [shL,shortRow]
theorem shZ_zero (a:Au) (z s:List Bool) (w:List Int):shZ a z s w 0=z:=by simp [shZ,shortRow]
theorem shL_succ (a:Au) (L:List RS) (z s:List Bool) (w:List Int) (x:Nat):shL a L z s w (x+1)=if freshB (afterA a s x) (shZ a z s w x) then shL a L z s w x++[(afterA a s x,w++[(x:Int)])] else shL a L z s w x:=by
 unfold shL shZ
 rw [List.range_succ]
 by_cases hm:freshB (afterA a s (x:Int)) (shortRow a s w (List.range x) z).2=true
 ·rw [if_pos hm,shortRow_in _ _ _ _ _ _ hm,List.append_assoc]
 ·rw [if_neg hm,shortRow_out _ _ _ _ _ _ hm]
theorem shZ_succ (a:Au) (z s:List Bool) (w:List Int) (x:Nat):shZ a z s w (x+1)=orS (shZ a z s w x) (afterA a s x):=by
 unfold shZ
 rw [List.range_succ]
 by_cases hm:freshB (afterA a s (x:Int)) (shortRow a s w (List.range x) z).2=true
 ·rw [shortRow_in _ _ _ _ _ _ hm]
 ·rw [shortRow_out _ _ _ _ _ _ hm]
theorem shL_pre (a:Au) (L:List RS) (z s:List Bool) (w:List Int) (x:Nat):L <+: shL a L z s w x:=⟨_,rfl⟩
def shG (a:Au) (f:Nat) (L:List RS) (i:Nat) (z:List Bool):Option (List Int):=shortGo a f (L.drop i) z
theorem shG_end {a:Au} {f:Nat} {L:List RS} {i:Nat} {z:List Bool} (hi:L.length<=i):shG a f L i z=none:=by
 rw [shG,List.drop_eq_nil_of_le hi]
 cases f <;> rfl
theorem shG_tell {a:Au} {f:Nat} {L:List RS} {i:Nat} {z:List Bool} (hi:i<L.length) (ht:meets L[i].1 a.acc=true):shG a (f+1) L i z=some L[i].2:=by
 rw [shG,List.drop_eq_getElem_cons hi]
 rw [shortGo,if_pos ht]
theorem shG_step {a:Au} {f:Nat} {L:List RS} {i:Nat} {z:List Bool} (hi:i<L.length) (ht:meets L[i].1 a.acc=false):shG a (f+1) L i z=shG a f (shL a L z L[i].1 L[i].2 a.sy.toNat) (i+1) (shZ a z L[i].1 L[i].2 a.sy.toNat):=by
 rw [shG,List.drop_eq_getElem_cons hi]
 rw [shortGo,if_neg (by rw [ht];simp)]
 simp only
 rw [shG,shL,List.drop_append_of_le_length (by omega)]
 rfl
theorem shortestM_G {a:Au} (h:validM a=0):shortestM a=shG a (a.acc.length+2) [(firstA a,[])] 0 (firstA a):=by rw [shortestM,if_pos h];rfl
structure ShOk (a:Au) (L:List RS) (z:List Bool) (n:Nat):Prop where
 zl:z.length=a.acc.length
 sl:∀ e ∈ L,e.1.length=a.acc.length
 len:∀ e ∈ L,e.2.length<=n
 cnt:L.length<=1+cnt z
theorem ShOk.le {a:Au} {L:List RS} {z:List Bool} {n:Nat} (k:ShOk a L z n):L.length<=a.acc.length+1:=by
 have h1:=cnt_le z
 have h2:=k.zl
 have h3:=k.cnt
 omega
theorem ShOk.row {a:Au} {L:List RS} {z:List Bool} {n:Nat} (k:ShOk a L z n) {s:List Bool} {w:List Int} (hw:w.length<=n):∀ x,ShOk a (shL a L z s w x) (shZ a z s w x) (n+1)
 | 0=>by rw [shL_zero,shZ_zero];exact ⟨k.zl,k.sl,fun e he=>Nat.le_succ_of_le (k.len e he),k.cnt⟩
 | x+1=>by
  have ih:=ShOk.row k (s:=s) hw x
  have hl:(orS (shZ a z s w x) (afterA a s x)).length=a.acc.length:=by rw [orS_len,ih.zl,afterA_len,Nat.max_self]
  have hm:=cnt_mono (shZ a z s w x) (orS (shZ a z s w x) (afterA a s x)) (by rw [ih.zl,hl]) (fun i hi=>orS_bt.2 (.inl hi))
  rw [shL_succ,shZ_succ]
  split
  ·rename_i hf
   obtain ⟨i,h1,h2⟩:=freshB_iff.1 hf
   have hne:P5.cnt (shZ a z s w x) ≠ P5.cnt (orS (shZ a z s w x) (afterA a s x)):=fun e=>by
    refine h2 ?_
    rw [hm.2 e]
    exact orS_bt.2 (.inr h1)
   refine ⟨hl,fun e he=>?_,fun e he=>?_,?_⟩
   ·rcases List.mem_append.1 he with he | he
    ·exact ih.sl e he
    ·rw [List.mem_singleton.1 he];exact afterA_len _ _ _
   ·rcases List.mem_append.1 he with he | he
    ·exact ih.len e he
    ·rw [List.mem_singleton.1 he]
     simp only [List.length_append,List.length_singleton]
     omega
   ·have:=ih.cnt
    have:=hm.1
    rw [List.length_append,List.length_singleton]
    omega
  ·exact ⟨hl,ih.sl,ih.len,by have:=ih.cnt;have:=hm.1;omega⟩
theorem shOk_one (a:Au):ShOk a [(firstA a,[])] (firstA a) 0 :=
 ⟨firstA_len a,fun e he=>by rw [List.mem_singleton.1 he];exact firstA_len a,fun e he=>by rw [List.mem_singleton.1 he];exact Nat.le_refl _,by simp⟩
end P5
namespace Go.Proofs.Ytjilachpkjlhdaa
open Go.RowKit Dak P5
open Nat (reduceEqDiff reduceLT reduceAdd)
abbrev vwb (o:Option (List Int)):AV:=.tup [vints (o.getD []),vb o.isSome]
theorem freezeLast {n:Nat} {env:List (Nat × AV)} (pre mid tl:List AObj) (k:Nat) (hk:pre.length=k) (N sz:Nat) (et:TypeId) (X:List AV) (y:AV) (c id2:Nat) (ys:List AV) (m:Nat) (hm:ys.length=m) (hid:k+1+mid.length=id2) (hc:y.cells[c]? = some (.own id2 m 0 m)) (hT:(ys.all AV.isT)=true) :
 WkE n ⟨env,pre++[.arr N sz et (X++[y])]++(mid++.arr m 1 3 ys::tl)⟩ ⟨env,pre++[.arr N sz et (X++[recell y (y.cells.set c (.list 1 ys))])]++(mid++.dead::tl)⟩:=by
 subst hm hid
 have g1:(pre++[AObj.arr N sz et (X++[y])]++(mid++AObj.arr ys.length 1 3 ys::tl))[k]? = some (.arr N sz et (X++[y])):=by
  rw [List.append_assoc,List.getElem?_append_right (by omega),hk,Nat.sub_self];rfl
 have e0:k+1+mid.length-(pre++[AObj.arr N sz et (X++[y])]).length=mid.length:=by simp;omega
 have g2:(pre++[AObj.arr N sz et (X++[y])]++(mid++AObj.arr ys.length 1 3 ys::tl))[k+1+mid.length]? = some (.arr ys.length 1 3 ys):=by
  rw [List.getElem?_append_right (by simp;omega),e0,List.getElem?_append_right (Nat.le_refl _),Nat.sub_self];rfl
 have h:=WkE.freezeCell (n:=n) (env:=env) k N sz X.length c (k+1+mid.length) ys.length 0 ys.length 1 et 3 (X++[y]) ys y g1 List.getElem?_concat_length hc g2 (by omega) (by omega) hT
 have s1:(pre++[AObj.arr N sz et (X++[y])]++(mid++AObj.arr ys.length 1 3 ys::tl)).set (k+1+mid.length) AObj.dead=pre++[AObj.arr N sz et (X++[y])]++(mid++AObj.dead::tl):=by
  rw [List.set_append_right _ _ (by simp;omega),e0,List.set_append_right _ _ (Nat.le_refl _),Nat.sub_self];rfl
 have s2:∀ o,(pre++[AObj.arr N sz et (X++[y])]++(mid++AObj.dead::tl)).set k o=pre++[o]++(mid++AObj.dead::tl):=fun o=>by
  rw [List.append_assoc,List.set_append_right _ _ (by omega),hk,Nat.sub_self,List.append_assoc];rfl
 have s3:∀ v:AV,(X++[y]).set X.length v=X++[v]:=fun v=>by
  rw [List.set_append_right _ _ (Nat.le_refl _),Nat.sub_self];rfl
 rw [s1,s2,s3,List.drop_zero,List.take_length] at h
 exact h
end Go.Proofs.Ytjilachpkjlhdaa
namespace Go.Proofs.Ytjilachpkjlhdaa
open Go.RowKit Dak P5
open Nat (reduceEqDiff reduceLT reduceAdd)
theorem differ1_s (g:Gr) (i:Int) (hi:i<g.acc.length):Ctr Try.prog 56 [vgr g,vi i] (vb (decide (0<=i) && bt g.acc i.toNat)):=by
 refine specE f56 (by simp) fun F0 w0=>?_
 by_cases h0:0<=i
 ·have b1:=bt_get (s:=g.acc) (k:=i.toNat) (by omega)
  simp only [c56,go_sem,↓reduceIte,reduceCtorEq,reduceLT,reduceEqDiff,reduceAdd,h0,b1,decide_true,Bool.true_and]
  exact .tree _ rfl
 ·simp only [c56,go_sem,↓reduceIte,reduceCtorEq,reduceLT,reduceEqDiff,reduceAdd,h0,decide_false,Bool.false_and]
  exact .tree _ rfl
theorem differ2_s (g:Gr) (h:GrOk g) (i:Int) (x:Nat) (hi:i<g.acc.length) (hx:x<g.sy):Ctr Try.prog 57 [vgr g,vi i,vi x] (vi (stepI g i x)):=by
 refine specE f57 (by simp) fun F0 w0=>?_
 unfold stepI
 by_cases h0:i<0
 ·rw [if_pos h0]
  simp only [c57,go_sem,↓reduceIte,reduceCtorEq,reduceLT,reduceEqDiff,reduceAdd,Int.reduceNeg,h0]
  exact .tree _ rfl
 ·rw [if_neg h0]
  have a0:0<=i:=by omega
  have r1:=row_get h (i:=i.toNat) (by omega)
  have t1:=gto_get h (i:=i.toNat) (x:=x) (by omega) hx
  have x0:(0:Int)<=(x:Int):=by omega
  simp only [c57,go_sem,↓reduceIte,reduceCtorEq,reduceLT,reduceEqDiff,reduceAdd,Int.reduceNeg,h0,a0,r1,t1,x0,Int.toNat_natCast]
  exact .tree _ rfl
abbrev vre (e:RE):AV:=.agg [vi e.1.1,vi e.1.2,vints e.2]
abbrev oG2 (g:Gr):AObj:=.arr 1 3 97 [vgr g]
def objsD (a b:Au) (g h:Gr) (ks:List (MK × Value)) (G:Nat) (X:List RE):List AObj:=[oX a,oX b,oG2 g,oG2 h,.arr 1 1 (mapT+6) [.val (mapV ks)],.arr G 3 112 (X.map vre)]
theorem objsD_eq (a b:Au) (g h:Gr) (ks:List (MK × Value)) (G:Nat) (X:List RE):objsD a b g h ks G X=[oX a,oX b,oG2 g,oG2 h,.arr 1 1 (mapT+6) [.val (mapV ks)],.arr G 3 112 (X.map vre)]:=rfl
theorem vre_drop {X L:List RE} {o i:Nat} (h:X.drop o=L.drop i) (hi:i<L.length):(X.map vre)[o]? = some (vre L[i]):=by
 have:X[o]? = some L[i]:=by
  have h2:=congrArg (fun l:List RE=>l[0]?) h
  simp only [List.getElem?_drop,Nat.add_zero] at h2
  rw [h2,List.getElem?_eq_getElem hi]
 rw [List.getElem?_map,this];rfl
theorem objsD_inn (a b:Au) (g h:Gr) (ks:List (MK × Value)) (G:Nat) (X:List RE) (n:Nat):((objsD a b g h ks G X).all fun o=>o.innO n)=true:=by
 rw [objsD_eq]
 exact Bool.and_eq_true_iff.2 ⟨rfl,Bool.and_eq_true_iff.2 ⟨rfl,Bool.and_eq_true_iff.2 ⟨rfl,Bool.and_eq_true_iff.2 ⟨rfl,Bool.and_eq_true_iff.2 ⟨rfl,Bool.and_eq_true_iff.2 ⟨inn_map fun _=>rfl,rfl⟩⟩⟩⟩⟩⟩
def KnowP (ks:List (MK × Value)) (Z:List PI):Prop:=∀ t,kget ks (keyP t)=if t ∈ Z then some (.bool true) else none
theorem knowP_one:KnowP [(keyP (0,0),.bool true)] [(0,0)]:=by
 intro t
 rw [kget_cons,kget_nil]
 by_cases h:t=(0,0)
 ·subst h;rw [if_pos rfl,if_pos (by simp)]
 ·rw [if_neg (fun e=>h (keyP_inj e)),if_neg (by simpa using h)]
theorem KnowP.add {ks:List (MK × Value)} {Z:List PI} (h:KnowP ks Z) (k:PI):KnowP (kset ks (keyP k) (.bool true)) (Z++[k]):=by
 intro t
 rw [kget_kset]
 by_cases e:t=k
 ·subst e;rw [if_pos rfl,if_pos (by simp)]
 ·rw [if_neg (fun e2=>e (keyP_inj e2)),h t]
  have:t ∈ Z++[k] ↔ t ∈ Z:=by simp [e]
  simp only [this]
set_option maxHeartbeats 8000000 in
theorem Differ_s (a b:Au) (ha:SzA a) (hb:SzA b):Ctr Try.prog 26 [vau a,vau b] (.tup [vints ((differM a b).1.getD []),vb (differM a b).1.isSome,vi (differM a b).2]):=by
 refine specC f26 (by simp) fun F0 w0=>?_
 have htw:=two_s a b ha hb
 unfold differM
 simp only
 unfold c26
 refine CwpE.cut (st:=⟨[(2,.ref 0 1 0 0),(3,.ref 1 1 0 0)],[oX a,oX b]⟩) ?_ ?_
 ·simp only [go_sem,↓reduceIte,reduceCtorEq,reduceLT,reduceEqDiff,reduceAdd]
  exact ⟨_,WkE.kp,rfl⟩
 refine CwpE.cut (st:=⟨[(2,.ref 0 1 0 0),(7,.ref 2 1 0 0),(8,.ref 3 1 0 0),(9,vi (twoM a b).1)],[oX a,oX b,oG2 (twoM a b).2.1,oG2 (twoM a b).2.2]⟩) ?_ ?_
 ·generalize twoM a b=t at htw ⊢
  simp only [go_sem,↓reduceIte,reduceLT,reduceEqDiff,reduceAdd]
  refine callT htw rfl ?_
  simp only [go_sem,↓reduceIte,reduceLT,reduceEqDiff,reduceAdd]
  exact ⟨_,WkE.kp,rfl⟩
 by_cases h0:(twoM a b).1=0
 rotate_left
 ·rw [if_neg h0]
  generalize twoM a b=t at h0 ⊢
  refine CwpE.vc ?_
  simp only [go_sem,↓reduceIte,reduceLT,reduceEqDiff,h0]
  refine .tup _ _ rfl fun i h1 h2=>?_
  match i,h1,h2 with
  | 0,_,_=>exact .nil 1
  | 1,_,_=>exact .tree _ rfl
  | 2,_,_=>exact .tree _ rfl
 rw [if_pos h0]
 obtain ⟨va,vb',hs,fa,fb,g,h,e,ea,eb,ng,nk,sg,sk,lg,lk⟩:=two_norm h0
 rw [e]
 simp only
 have hsy:=va.sy
 have gok:=ng.ok
 have hok:=nk.ok
 have gn:g.acc.length<=256:=ng.va.n.2
 have hn:h.acc.length<=256:=nk.va.n.2
 obtain ⟨y,hy⟩:∃ y,g.sy=y:=⟨_,rfl⟩
 have hasy:a.sy=(y:Int):=by omega
 have hhy:h.sy=y:=by omega
 obtain ⟨B,hB⟩:∃ B,apartM g h=B:=⟨_,rfl⟩
 rw [hB]
 rw [apartM_G] at hB
 refine CwpE.cut (st:=⟨[(2,.ref 0 1 0 0),(7,.ref 2 1 0 0),(8,.ref 3 1 0 0)],[oX a,oX b,oG2 g,oG2 h]⟩) ?_ ?_
 ·simp only [go_sem,↓reduceIte,reduceLT,reduceEqDiff]
  exact ⟨_,WkE.kp,rfl⟩
 refine CwpE.cut (st:=⟨[(2,.ref 0 1 0 0),(7,.ref 2 1 0 0),(8,.ref 3 1 0 0),(10,.clo (.func 56) [])],[oX a,oX b,oG2 g,oG2 h]⟩) ?_ ?_
 ·simp only [go_sem,↓reduceIte,reduceLT]
  exact ⟨_,WkE.kp,rfl⟩
 refine CwpE.cut (st:=⟨[(2,.ref 0 1 0 0),(7,.ref 2 1 0 0),(8,.ref 3 1 0 0),(10,.clo (.func 56) []),(11,.clo (.func 57) [])],[oX a,oX b,oG2 g,oG2 h]⟩) ?_ ?_
 ·simp only [go_sem,↓reduceIte,reduceLT]
  exact ⟨_,WkE.kp,rfl⟩
 refine CwpE.cut (st:=⟨[(2,.ref 0 1 0 0),(7,.ref 2 1 0 0),(8,.ref 3 1 0 0),(10,.clo (.func 56) []),(11,.clo (.func 57) []),(12,.mref 4 1)],[oX a,oX b,oG2 g,oG2 h,.arr 1 1 (mapT+6) [.val (mapV [(keyP (0,0),.bool true)])]]⟩) ?_ ?_
 ·simp only [go_sem,↓reduceIte,reduceLT,reduceEqDiff,reduceAdd]
  exact ⟨_,WkE.kp,rfl⟩
 refine CwpE.seqJ (fun z=>B=none) ?_ ?_
 rotate_left
 ·rintro z hBn
  rw [hBn]
  obtain ⟨env,objs⟩:=z
  refine CwpE.wk (s':=⟨[],objs⟩) (WkE.keep (by simp only [go_sem])) ?_
  refine CwpE.vc ?_
  simp only [go_sem,↓reduceIte,reduceLT,reduceEqDiff]
  refine .tup _ _ rfl fun i h1 h2=>?_
  match i,h1,h2 with
  | 0,_,_=>exact .nil 1
  | 1,_,_=>exact .tree _ rfl
  | 2,_,_=>exact .tree _ rfl
 refine CwpE.seqJ (fun st=>st=⟨[(2,.ref 0 1 0 0),(7,.ref 2 1 0 0),(8,.ref 3 1 0 0),(10,.clo (.func 56) []),(11,.clo (.func 57) []),(12,.mref 4 1),(13,.own 5 1 0 1)],objsD a b g h [(keyP (0,0),.bool true)] 1 [((0,0),[])]⟩) ?_ ?_
 ·refine CwpE.regionC (csa:=[⟨some 30,none,.build [(.val (.int .i64 0)),(.val (.int .i64 0)),(.val (.slice none 0 0))] []⟩]) (csb:=[⟨some 13,none,.mov (T 31)⟩]) (by omega) (by decide) ?_
  simp only [go_sem,↓reduceIte,reduceLT,reduceAdd]
  refine ⟨_,WkE.keep (env':=[(2,.ref 0 1 0 0),(7,.ref 2 1 0 0),(8,.ref 3 1 0 0),(10,.clo (.func 56) []),(11,.clo (.func 57) []),(12,.mref 4 1),(31,.own 5 1 0 1)]) (by simp only [go_sem,↓reduceIte,reduceEqDiff];try rfl),?_⟩
  simp only [go_sem,↓reduceIte,reduceEqDiff]
  refine ⟨_,(WkE.nilCell 5 1 3 0 2 1 3 112 [.agg [vi 0,vi 0,nilV]] (.agg [vi 0,vi 0,nilV]) rfl rfl rfl).trans ((WkE.freezeCell 5 1 3 0 2 6 0 0 0 1 112 3 [.agg [vi 0,vi 0,.own 6 0 0 0]] [] (.agg [vi 0,vi 0,.own 6 0 0 0]) rfl rfl rfl rfl (by omega) (by simp) rfl).trans (WkE.round (by simp only [go_sem,↓reduceIte,reduceEqDiff];try rfl) rfl (objsD_inn a b g h [(keyP (0,0),.bool true)] 1 [((0,0),[])] _) rfl)),rfl⟩
 rintro _ rfl
 refine CwpE.block ?_
 refine loopXC 0 (fun m z=>∃ (i k:Nat) (L:List RE) (ks:List (MK × Value)) (G o:Nat) (X:List RE),m=66051-i/\i+k=L.length/\X.drop o=L.drop i/\ApOk g h L i/\KnowP ks (L.map Prod.fst)/\apG g h (66051-i) L i=B /\
  z=⟨[(2,.ref 0 1 0 0),(7,.ref 2 1 0 0),(8,.ref 3 1 0 0),(10,.clo (.func 56) []),(11,.clo (.func 57) []),(12,.mref 4 1),(13,.own 5 G o k)],objsD a b g h ks G X⟩)
  (fun z=>B=none) 66051 _ (.refl _ _) ⟨0,1,[((0,0),[])],_,1,0,_,rfl,by simp,rfl,apOk_one gok hok,knowP_one,hB,rfl⟩ ?_ ?_
 rotate_left
 ·rintro z h
  simp only [inBlockE,if_true]
  exact ⟨z,.refl _ _,h⟩
 rintro m z ⟨i,k,L,ks,G,o,X,rfl,hik,hXd,hL,hks,hG,rfl⟩
 have hLb:=hL.le gn hn
 by_cases hlt:i<L.length
 rotate_left
 ·have gk:¬ (0:Int)<(k:Int):=by omega
  rw [apG_end (by omega)] at hG
  refine CwpE.vc ?_
  rw [objsD_eq]
  simp only [go_sem,↓reduceIte,reduceLT,reduceEqDiff,reduceAdd,gk]
  exact ⟨_,.refl _ _,hG.symm⟩
 have gk:(0:Int)<(k:Int):=by omega
 have gk':((0:Int)<=0/\(0:Int)<(k:Int)) ↔ True:=⟨fun _=>trivial,fun _=>⟨Int.le_refl _,gk⟩⟩
 have hLi:=vre_drop hXd hlt
 have hIn:=hL.inn _ (List.getElem_mem hlt)
 have hwl:=hL.len _ (List.getElem_mem hlt)
 have hf:66051-i=(66051-(i+1))+1:=by omega
 have htell:=@apG_tell g h (66051-(i+1)) L i hlt
 have hstep:=@apG_step g h (66051-(i+1)) L i hlt
 rw [<-hf,hG] at htell hstep
 have hrow:=fun x=>hL.row gok hok (p:=L[i].1) hwl x
 have hkeep:∀ x (hx:i<(apL g h L L[i].1 L[i].2 x).length),(apL g h L L[i].1 L[i].2 x)[i]=L[i]:=fun x hx=>((apL_pre g h L _ _ x).getElem hlt).symm
 obtain ⟨re,hre⟩:∃ re,L[i]=re:=⟨_,rfl⟩
 rw [hre] at hLi hIn hwl htell hstep
 simp only [hre] at hrow hkeep
 obtain ⟨⟨p,q⟩,w⟩:=re
 obtain ⟨a0,a1,b0,b1⟩:=hIn
 simp only at a0 a1 b0 b1 hwl htell hstep hrow hkeep hLi
 have ht1:=differ1_s g p a1
 have ht2:=differ1_s h q b1
 have hte:tellsI g h (p,q)=((decide (0<=p) && bt g.acc p.toNat) != (decide (0<=q) && bt h.acc q.toNat)):=rfl
 generalize (decide (0<=p) && bt g.acc p.toNat)=tb1 at ht1 hte
 generalize (decide (0<=q) && bt h.acc q.toNat)=tb2 at ht2 hte
 refine CwpE.cut (st:=⟨[(2,.ref 0 1 0 0),(7,.ref 2 1 0 0),(8,.ref 3 1 0 0),(10,.clo (.func 56) []),(11,.clo (.func 57) []),(12,.mref 4 1),(13,.own 5 G o k)],objsD a b g h ks G X⟩) ?_ ?_
 ·rw [objsD_eq]
  simp only [go_sem,↓reduceIte,reduceLT,reduceEqDiff,reduceAdd,gk]
  exact ⟨_,WkE.kp,rfl⟩
 refine CwpE.seqJ (fun z=>tellsI g h (p,q)=false/\∃ (ks2:List (MK × Value)) (G o:Nat) (X:List RE),KnowP ks2 ((apL g h L (p,q) w y).map Prod.fst)/\X.drop o=(apL g h L (p,q) w y).drop i/\z=⟨[(2,.ref 0 1 0 0),(7,.ref 2 1 0 0),(8,.ref 3 1 0 0),(10,.clo (.func 56) []),(11,.clo (.func 57) []),(12,.mref 4 1),(13,.own 5 G o ((apL g h L (p,q) w y).length-i))],objsD a b g h ks2 G X⟩) (CwpE.block ?_) ?_
 rotate_left
 ·rintro z ⟨htf,ks2,G2,o2,X2,hks2,hX2,rfl⟩
  have hs1:=hstep htf
  rw [hy] at hs1
  have hle:=(apL_pre g h L (p,q) w y).length_le
  have hrw:=hrow y
  obtain ⟨L2,hL2⟩:∃ L2,apL g h L (p,q) w y=L2:=⟨_,rfl⟩
  rw [hL2] at hs1 hle hrw hks2 hX2 ⊢
  obtain ⟨k2,hk2⟩:∃ k2,L2.length-i=k2+1:=⟨L2.length-i-1,by omega⟩
  rw [hk2]
  refine CwpE.vc ?_
  rw [objsD_eq]
  have k01:(0:Int)<=1:=by omega
  have k1:(1:Int)<=((k2+1:Nat):Int):=by omega
  simp only [go_sem,↓reduceIte,reduceLT,reduceEqDiff,reduceAdd,Int.reduceToNat,Int.reduceToNat,k01,k1,Option.bind_some,Option.map_some,Nat.add_sub_cancel]
  exact ⟨66051-(i+1),⟨[(2,.ref 0 1 0 0),(7,.ref 2 1 0 0),(8,.ref 3 1 0 0),(10,.clo (.func 56) []),(11,.clo (.func 57) []),(12,.mref 4 1),(13,.own 5 G2 (o2+1) k2)],objsD a b g h ks2 G2 X2⟩,by omega,WkE.kp,i+1,k2,L2,ks2,G2,o2+1,X2,rfl,by omega,by rw [<-List.drop_drop,<-List.drop_drop,hX2],hrw,hks2,hs1.symm,rfl⟩
 refine CwpE.cut (st:=⟨[(2,.ref 0 1 0 0),(7,.ref 2 1 0 0),(8,.ref 3 1 0 0),(10,.clo (.func 56) []),(11,.clo (.func 57) []),(12,.mref 4 1),(13,.own 5 G o k),(14,.ref 6 1 0 0)],objsD a b g h ks G X++[.arr 1 2 109 [vpair (p,q)]]⟩) ?_ ?_
 ·rw [objsD_eq]
  simp only [go_sem,Nat.reduceLeDiff,↓reduceIte,reduceLT,reduceEqDiff,reduceAdd,Int.reduceToNat,Int.reduceToNat,Int.le_refl,gk,hLi,Nat.add_zero]
  exact ⟨_,WkE.kp,rfl⟩
 refine CwpE.step (fun z=>tellsI g h (p,q)=false/\z=⟨[(2,.ref 0 1 0 0),(7,.ref 2 1 0 0),(8,.ref 3 1 0 0),(10,.clo (.func 56) []),(11,.clo (.func 57) []),(12,.mref 4 1),(13,.own 5 G o k),(14,.ref 6 1 0 0)],objsD a b g h ks G X++[.arr 1 2 109 [vpair (p,q)]]⟩) ?_ ?_
 ·have htt:(tb1 != tb2) = !(tb1 == tb2):=rfl
  cases ht:tellsI g h (p,q) with
  | true =>
   have hB1:=htell ht
   rw [hB1]
   rw [ht] at hte
   have hq:(tb1 == tb2)=false:=by rw [bne] at hte;cases h:(tb1 == tb2) with
    | false=>rfl
    | true=>rw [h] at hte;cases hte
   rw [objsD_eq]
   simp only [go_sem,↓reduceIte,reduceCtorEq,reduceLT,reduceEqDiff,reduceAdd,Nat.reduceMul,Int.reduceToNat,Int.reduceLE,Int.reduceToNat,Int.le_refl,w02,w12]
   refine callT ht1 rfl ?_
   simp only [go_sem,↓reduceIte,reduceLT,reduceEqDiff,reduceAdd,Nat.reduceMul,Int.reduceToNat,Int.reduceLE,Int.reduceToNat,w12]
   refine callT ht2 rfl ?_
   simp only [go_sem,↓reduceIte,reduceLT,reduceEqDiff,Int.reduceToNat,Int.reduceToNat,Int.le_refl,hq,Bool.not_false,gk,hLi,Nat.add_zero]
   refine .tup _ _ rfl fun i h1 h2=>?_
   match i,h1,h2 with
   | 0,_,_=>exact .tree _ rfl
   | 1,_,_=>exact .tree _ rfl
   | 2,_,_=>exact .tree _ rfl
  | false =>
   rw [ht] at hte
   have hq:(tb1 == tb2)=true:=by rw [bne] at hte;cases h:(tb1 == tb2) with
    | true=>rfl
    | false=>rw [h] at hte;cases hte
   rw [objsD_eq]
   simp only [go_sem,↓reduceIte,reduceLT,reduceEqDiff,reduceAdd,Nat.reduceMul,Int.reduceToNat,Int.reduceLE,Int.reduceToNat,Int.le_refl,w02,w12]
   refine callT ht1 rfl ?_
   simp only [go_sem,↓reduceIte,reduceLT,reduceEqDiff,reduceAdd,Nat.reduceMul,Int.reduceToNat,Int.reduceLE,Int.reduceToNat,w12]
   refine callT ht2 rfl ?_
   simp only [go_sem,↓reduceIte,reduceLT,reduceEqDiff,hq,Bool.not_true]
   exact ⟨_,WkE.kp,rfl⟩
 rintro _ ⟨htf,rfl⟩
 refine CwpE.cut (st:=⟨[(2,.ref 0 1 0 0),(7,.ref 2 1 0 0),(8,.ref 3 1 0 0),(10,.clo (.func 56) []),(11,.clo (.func 57) []),(12,.mref 4 1),(13,.own 5 G o k),(14,.ref 6 1 0 0),(57,vi y),(58,vi (0:Nat))],objsD a b g h ks G X++[.arr 1 2 109 [vpair (p,q)]]⟩) ?_ ?_
 ·rw [objsD_eq]
  simp only [go_sem,↓reduceIte,reduceLT,reduceAdd,hasy]
  exact ⟨_,WkE.kp,rfl⟩
 refine CwpE.block ?_
 refine loopXC 2 (fun m z=>∃ (x:Nat) (ks:List (MK × Value)) (G o:Nat) (X:List RE),m=y-x/\x<=y/\KnowP ks ((apL g h L (p,q) w x).map Prod.fst)/\X.drop o=(apL g h L (p,q) w x).drop i/\z=⟨[(2,.ref 0 1 0 0),(7,.ref 2 1 0 0),(8,.ref 3 1 0 0),(10,.clo (.func 56) []),(11,.clo (.func 57) []),(12,.mref 4 1),(13,.own 5 G o ((apL g h L (p,q) w x).length-i)),(14,.ref 6 1 0 0),(57,vi y),(58,vi x)],objsD a b g h ks G X++[.arr 1 2 109 [vpair (p,q)]]⟩)
  (fun z=>∃ (ks:List (MK × Value)) (G o:Nat) (X:List RE),KnowP ks ((apL g h L (p,q) w y).map Prod.fst)/\X.drop o=(apL g h L (p,q) w y).drop i/\z=⟨[(2,.ref 0 1 0 0),(7,.ref 2 1 0 0),(8,.ref 3 1 0 0),(10,.clo (.func 56) []),(11,.clo (.func 57) []),(12,.mref 4 1),(13,.own 5 G o ((apL g h L (p,q) w y).length-i))],objsD a b g h ks G X⟩) y
  _ (.refl _ _) ⟨0,ks,G,o,X,by omega,by omega,by rw [apL_zero];exact hks,by rw [apL_zero];exact hXd,by rw [apL_zero,show L.length-i=k by omega]⟩ ?_ ?_
 rotate_left
 ·rintro z ⟨ks2,G2,o2,X2,h2,h3,rfl⟩
  simp only [go_sem,↓reduceIte]
  exact ⟨_,.refl _ _,htf,ks2,G2,o2,X2,h2,h3,rfl⟩
 clear hXd hLi
 rintro m z ⟨x,ks,G,o,X,rfl,hx,hks,hXd,rfl⟩
 by_cases hxy:x<y
 rotate_left
 ·obtain rfl:y=x:=by omega
  refine CwpE.vc ?_
  rw [objsD_eq]
  simp only [go_sem,↓reduceIte,reduceLT,reduceEqDiff,reduceAdd,Int.lt_irrefl]
  exact ⟨_,WkE.round (by simp only [go_sem,↓reduceIte,reduceEqDiff];try rfl) rfl (objsD_inn _ _ _ _ _ _ _ _) rfl,ks,G,o,X,hks,hXd,rfl⟩
 have gx:(x:Int)<(y:Int):=by omega
 have wx:=wrap_s x (by omega)
 have hr1:=(hrow x).le gn hn
 have hsu:=apL_succ g h L (p,q) w x
 have hLl:=(apL_pre g h L (p,q) w x).length_le
 have hkx:=hkeep x (by omega)
 obtain ⟨Lx,hLx⟩:∃ Lx,apL g h L (p,q) w x=Lx:=⟨_,rfl⟩
 simp only [hLx] at hr1 hsu hLl hkx hks hXd ⊢
 have hLxi:(X.map vre)[o]? = some (vre ((p,q),w)):=by rw [vre_drop hXd (by omega),hkx]
 obtain ⟨kx,hkxl⟩:∃ kx,Lx.length-i=kx:=⟨_,rfl⟩
 rw [hkxl]
 have hikx:i+kx=Lx.length:=by omega
 have gkx:(0:Int)<(kx:Int):=by omega
 have hs1:=differ2_s g gok p x a1 (by omega)
 have hs2:=differ2_s h hok q x b1 (by omega)
 rw [stepP] at hsu
 simp only at hsu
 generalize stepI g p x=u at hs1 hsu
 generalize stepI h q x=v at hs2 hsu
 obtain ⟨L2,hL2⟩:∃ L2,apL g h L (p,q) w (x+1)=L2:=⟨_,rfl⟩
 rw [hL2] at hsu
 refine CwpE.cut (st:=⟨[(2,.ref 0 1 0 0),(7,.ref 2 1 0 0),(8,.ref 3 1 0 0),(10,.clo (.func 56) []),(11,.clo (.func 57) []),(12,.mref 4 1),(13,.own 5 G o kx),(14,.ref 6 1 0 0),(57,vi y),(58,vi x),(59,vb true)],objsD a b g h ks G X++[.arr 1 2 109 [vpair (p,q)]]⟩) ?_ ?_
 ·simp only [go_sem,↓reduceIte,reduceLT,reduceEqDiff,gx]
  exact ⟨_,WkE.kp,rfl⟩
 refine CwpE.cut (st:=⟨[(2,.ref 0 1 0 0),(7,.ref 2 1 0 0),(8,.ref 3 1 0 0),(10,.clo (.func 56) []),(11,.clo (.func 57) []),(12,.mref 4 1),(13,.own 5 G o kx),(14,.ref 6 1 0 0),(57,vi y),(58,vi x)],objsD a b g h ks G X++[.arr 1 2 109 [vpair (p,q)]]⟩) ?_ ?_
 ·simp only [go_sem,↓reduceIte,reduceEqDiff]
  exact ⟨_,WkE.kp,rfl⟩
 refine CwpE.seqJ (fun z=>∃ (ks2:List (MK × Value)) (G o:Nat) (X:List RE),KnowP ks2 (L2.map Prod.fst)/\X.drop o=L2.drop i/\z=⟨[(2,.ref 0 1 0 0),(7,.ref 2 1 0 0),(8,.ref 3 1 0 0),(10,.clo (.func 56) []),(11,.clo (.func 57) []),(12,.mref 4 1),(13,.own 5 G o (L2.length-i)),(14,.ref 6 1 0 0),(57,vi y),(58,vi x)],objsD a b g h ks2 G X++[.arr 1 2 109 [vpair (p,q)]]⟩) (CwpE.block ?_) ?_
 rotate_left
 ·rintro _ ⟨ks2,G2,o2,X2,hk2,hX2,rfl⟩
  refine CwpE.vc ?_
  simp only [go_sem,↓reduceIte,reduceLT,reduceEqDiff,wx]
  exact ⟨y-(x+1),⟨[(2,.ref 0 1 0 0),(7,.ref 2 1 0 0),(8,.ref 3 1 0 0),(10,.clo (.func 56) []),(11,.clo (.func 57) []),(12,.mref 4 1),(13,.own 5 G2 o2 (L2.length-i)),(14,.ref 6 1 0 0),(57,vi y),(58,vi (x+1:Nat))],objsD a b g h ks2 G2 X2++[.arr 1 2 109 [vpair (p,q)]]⟩,by omega,WkE.kp,x+1,ks2,G2,o2,X2,rfl,by omega,by rw [hL2];exact hk2,by rw [hL2];exact hX2,by rw [hL2]⟩
 refine CwpE.cut (st:=⟨[(2,.ref 0 1 0 0),(7,.ref 2 1 0 0),(8,.ref 3 1 0 0),(10,.clo (.func 56) []),(11,.clo (.func 57) []),(12,.mref 4 1),(13,.own 5 G o kx),(14,.ref 6 1 0 0),(57,vi y),(58,vi x),(15,vi x)],objsD a b g h ks G X++[.arr 1 2 109 [vpair (p,q)]]⟩) ?_ ?_
 ·simp only [go_sem,↓reduceIte,reduceLT,reduceEqDiff]
  exact ⟨_,WkE.kp,rfl⟩
 refine CwpE.cut (st:=⟨[(2,.ref 0 1 0 0),(7,.ref 2 1 0 0),(8,.ref 3 1 0 0),(10,.clo (.func 56) []),(11,.clo (.func 57) []),(12,.mref 4 1),(13,.own 5 G o kx),(14,.ref 6 1 0 0),(57,vi y),(58,vi x),(15,vi x),(16,.ref 7 1 0 0)],objsD a b g h ks G X++[.arr 1 2 109 [vpair (p,q)],.arr 1 2 109 [vpair (u,v)]]⟩) ?_ ?_
 ·rw [objsD_eq]
  simp only [go_sem,↓reduceIte,reduceLT,reduceEqDiff,reduceAdd,Nat.reduceMul,Int.reduceToNat,Int.reduceToNat,Int.le_refl,w02]
  refine callT hs1 rfl ?_
  simp only [go_sem,↓reduceIte,reduceLT,reduceEqDiff,reduceAdd,Nat.reduceMul,Int.reduceToNat,Int.reduceLE,Int.reduceToNat,w12]
  refine callT hs2 rfl ?_
  simp only [go_sem,Nat.reduceLeDiff,↓reduceIte,reduceLT,reduceEqDiff,reduceAdd]
  exact ⟨_,WkE.kp,rfl⟩
 have hkt:=hks (u,v)
 rw [keyP] at hkt
 simp only at hkt
 by_cases hm:(u,v) ∈ Lx.map Prod.fst
 ·rw [if_pos hm] at hsu hkt
  refine CwpE.vc ?_
  rw [objsD_eq]
  simp only [go_sem,↓reduceIte,reduceLT,reduceEqDiff,reduceAdd,hkt,Option.getD_some,Bool.not_true]
  rw [hsu,hkxl]
  refine ⟨⟨[(2,.ref 0 1 0 0),(7,.ref 2 1 0 0),(8,.ref 3 1 0 0),(10,.clo (.func 56) []),(11,.clo (.func 57) []),(12,.mref 4 1),(13,.own 5 G o kx),(14,.ref 6 1 0 0),(57,vi y),(58,vi x)],objsD a b g h ks G X++[.arr 1 2 109 [vpair (p,q)]]⟩,?_,ks,G,o,X,hks,hXd,rfl⟩
  refine WkE.round (by simp only [go_sem,↓reduceIte,reduceEqDiff];try rfl) rfl ?_ rfl
  rw [List.all_append,objsD_inn];rfl
 rw [if_neg hm] at hsu hkt
 refine CwpE.cut (st:=⟨[(2,.ref 0 1 0 0),(7,.ref 2 1 0 0),(8,.ref 3 1 0 0),(10,.clo (.func 56) []),(11,.clo (.func 57) []),(12,.mref 4 1),(13,.own 5 G o kx),(14,.ref 6 1 0 0),(57,vi y),(58,vi x),(15,vi x),(16,.ref 7 1 0 0),(77,vb true)],objsD a b g h ks G X++[.arr 1 2 109 [vpair (p,q)],.arr 1 2 109 [vpair (u,v)]]⟩) ?_ ?_
 ·rw [objsD_eq]
  simp only [go_sem,↓reduceIte,reduceLT,reduceEqDiff,reduceAdd,hkt,Option.getD_none,Bool.not_false]
  exact ⟨_,WkE.kp,rfl⟩
 refine CwpE.cond_t rfl ?_
 have hks2:=hks.add (u,v)
 refine CwpE.cut (st:=⟨[(2,.ref 0 1 0 0),(7,.ref 2 1 0 0),(8,.ref 3 1 0 0),(10,.clo (.func 56) []),(11,.clo (.func 57) []),(12,.mref 4 1),(13,.own 5 G o kx),(14,.ref 6 1 0 0),(57,vi y),(58,vi x),(15,vi x),(16,.ref 7 1 0 0)],objsD a b g h (kset ks (keyP (u,v)) (.bool true)) G X++[.arr 1 2 109 [vpair (p,q)],.arr 1 2 109 [vpair (u,v)]]⟩) ?_ ?_
 ·rw [objsD_eq a b g h ks G X]
  simp only [go_sem,↓reduceIte,reduceLT,reduceEqDiff,reduceAdd]
  exact ⟨_,WkE.kp,rfl⟩
 generalize kset ks (keyP (u,v)) (.bool true)=ks2 at hks2 ⊢
 have hcl:=Clone47_n w (by omega)
 have hoX:o+kx<=X.length:=by
  have:=congrArg List.length hXd
  rw [List.length_drop,List.length_drop] at this
  omega
 have htk:List.take kx (List.drop o (X.map vre))=(Lx.drop i).map vre:=by
  rw [<-List.map_drop,hXd,List.take_of_length_le (by rw [List.length_map,List.length_drop];omega)]
 have qw1:(w.length+1)*8<=140737488355328:=by omega
 have qW:(kx+1)*40<=140737488355328:=by omega
 refine CwpE.vc ?_
 rw [objsD_eq]
 simp only [go_sem,↓reduceIte,reduceLT,reduceEqDiff,reduceAdd,Int.reduceToNat,Int.reduceToNat,Int.le_refl,gkx,hLxi,Nat.add_zero]
 refine callN1 (cap:=[]) (args:=[vints w]) hcl (.cons (.tree _ rfl) .nil) ?_ rfl ?_
 ·refine Bool.and_eq_true_iff.2 ⟨?_,rfl⟩
  show ((w.map vi).all (AV.inR _))=true
  rw [List.all_map]
  exact all_tt _
 have hren:∀ σ : Nat->Nat,(w.map vi).map (AV.ren σ)=w.map vi:=fun σ=>by rw [List.map_map];rfl
 simp only [go_sem,Nat.reducePow,Nat.reduceLeDiff,↓reduceIte,reduceLT,reduceEqDiff,reduceAdd,Nat.reduceMul,AV.ren,AV.ren1,AObj.renO,hren,qw1,qW,hoX,htk,List.length_map]
 have hl2:L2.length-i=kx+1:=by rw [hsu,List.length_append,List.length_singleton];omega
 have hX2:(Lx.drop i++[((u,v),w++[(x:Int)])])=L2.drop i:=by rw [hsu,List.drop_append_of_le_length (by omega)]
 rw [hl2]
 refine ⟨⟨[(2,.ref 0 1 0 0),(7,.ref 2 1 0 0),(8,.ref 3 1 0 0),(10,.clo (.func 56) []),(11,.clo (.func 57) []),(12,.mref 4 1),(13,.own 5 (G+1) 0 (kx+1)),(14,.ref 6 1 0 0),(57,vi y),(58,vi x)],objsD a b g h ks2 (G+1) (L2.drop i)++[.arr 1 2 109 [vpair (p,q)]]⟩,?_,ks2,G+1,0,L2.drop i,by rw [hsu,List.map_append];exact hks2,rfl,rfl⟩
 have hfr:=freezeLast (n:=94) (env:=[(2,.ref 0 1 0 0),(7,.ref 2 1 0 0),(8,.ref 3 1 0 0),(10,.clo (.func 56) []),(11,.clo (.func 57) []),(12,.mref 4 1),(13,.own 5 (G+1) 0 (kx+1)),(14,.ref 6 1 0 0),(57,vi y),(58,vi x)]) [oX a,oX b,oG2 g,oG2 h,.arr 1 1 (mapT+6) [.val (mapV ks2)]] [.arr 1 2 109 [vpair (p,q)],.arr 1 2 109 [vpair (u,v)]] [.arr 1 3 112 [.agg [vi u,vi v,.own 8 (w.length+1) 0 (w.length+1)]]] 5 rfl (G+1) 3 112 ((Lx.drop i).map vre) (.agg [vi u,vi v,.own 8 (w.length+1) 0 (w.length+1)]) 2 8 (w.map vi++[vi x]) (w.length+1) (by simp) rfl rfl (by rw [List.all_append,Bool.and_eq_true];exact ⟨isT_map (fun _=>rfl) _,rfl⟩)
 have he2 : [oX a,oX b,oG2 g,oG2 h,AObj.arr 1 1 (mapT+6) [.val (mapV ks2)],.arr (G+1) 3 112 ((Lx.drop i).map vre++[.agg [vi u,vi v,.list 1 (w.map vi++[vi x])]]),.arr 1 2 109 [vpair (p,q)]]=objsD a b g h ks2 (G+1) (L2.drop i)++[.arr 1 2 109 [vpair (p,q)]]:=by
  rw [objsD_eq,<-hX2]
  simp only [List.map_append,List.map_cons,List.map_nil,vre,vints,List.cons_append,List.nil_append]
 have hin:((objsD a b g h ks2 (G+1) (L2.drop i)++[AObj.arr 1 2 109 [vpair (p,q)]]).all fun o=>o.innO 7)=true:=by rw [List.all_append,objsD_inn];rfl
 rw [<-he2] at hin ⊢
 refine (WkE.keep ?_).trans (hfr.trans (WkE.round ?_ rfl hin rfl))
 ·simp only [go_sem,↓reduceIte,reduceEqDiff];try rfl
 ·simp only [go_sem,↓reduceIte,reduceEqDiff];try rfl
end Go.Proofs.Ytjilachpkjlhdaa
namespace Go.Proofs.Ytjilachpkjlhdaa
open Go.RowKit Dak P5
open Nat (reduceEqDiff reduceLT reduceAdd)
def frK (t z:List Bool):Nat->Bool
 | 0=>false
 | k+1=>frK t z k || decide (wdv t k &&& ~~~ wdv z k ≠ 0#64)
theorem frK_all {t z:List Bool} (h:t.length<=256):frK t z 4=freshB t z:=by
 rw [Bool.eq_iff_iff,fresh_words h]
 simp only [frK,Bool.or_eq_true,decide_eq_true_eq,Bool.false_or]
 constructor
 ·rintro (((h | h) | h) | h)
  ·exact ⟨0,by omega,h⟩
  ·exact ⟨1,by omega,h⟩
  ·exact ⟨2,by omega,h⟩
  ·exact ⟨3,by omega,h⟩
 ·rintro ⟨k,hk,h⟩
  have h4:k=0 \/ k=1 \/ k=2 \/ k=3:=by omega
  rcases h4 with rfl | rfl | rfl | rfl
  ·exact .inl (.inl (.inl h))
  ·exact .inl (.inl (.inr h))
  ·exact .inl (.inr h)
  ·exact .inr h
theorem fresh_word (t z:List Bool) (k:Nat):(IntKind.u64.wrap (((BitVec.ofInt 64 (wdi t k) &&& ~~~ BitVec.ofInt 64 (wdi z k)).toNat:Nat):Int)=0) ↔ wdv t k &&& ~~~ wdv z k=0#64:=by
 rw [wdi,wdi,ofInt_word,ofInt_word]
 have hlt:=(wdv t k &&& ~~~ wdv z k).isLt
 rw [wrap_u (by omega) (by omega)]
 exact word_int
abbrev vrs (e:RS):AV:=.agg [vw (wdi e.1 0),vw (wdi e.1 1),vw (wdi e.1 2),vw (wdi e.1 3),vints e.2]
def objsH (a:Au) (z:List Bool) (G:Nat) (X:List RS):List AObj:=[oX a,.arr 1 4 79 [vset z],.arr G 5 90 (X.map vrs)]
theorem objsH_eq (a:Au) (z:List Bool) (G:Nat) (X:List RS):objsH a z G X=[oX a,.arr 1 4 79 [vset z],.arr G 5 90 (X.map vrs)]:=rfl
theorem vrs_drop {X L:List RS} {o i:Nat} (h:X.drop o=L.drop i) (hi:i<L.length):(X.map vrs)[o]? = some (vrs L[i]):=by
 have:X[o]? = some L[i]:=by
  have h2:=congrArg (fun l:List RS=>l[0]?) h
  simp only [List.getElem?_drop,Nat.add_zero] at h2
  rw [h2,List.getElem?_eq_getElem hi]
 rw [List.getElem?_map,this];rfl
theorem objsH_inn (a:Au) (z:List Bool) (G:Nat) (X:List RS) (n:Nat):((objsH a z G X).all fun o=>o.innO n)=true:=by
 rw [objsH_eq]
 exact Bool.and_eq_true_iff.2 ⟨rfl,Bool.and_eq_true_iff.2 ⟨rfl,Bool.and_eq_true_iff.2 ⟨inn_map fun _=>rfl,rfl⟩⟩⟩
set_option maxHeartbeats 8000000 in
theorem Shortest_s (a:Au) (ha:SzA a):Ctr Try.prog 18 [vau a] (vwb (shortestM a)):=by
 refine specC f18 (by simp) fun F0 w0=>?_
 have hval:=Valid_s a ha
 unfold c18
 refine CwpE.cut (st:=⟨[(1,.ref 0 1 0 0)],[oX a]⟩) ?_ ?_
 ·simp only [go_sem,↓reduceIte,reduceLT,reduceAdd]
  exact ⟨_,WkE.kp,rfl⟩
 by_cases h0:validM a=0
 rotate_left
 ·refine CwpE.step (fun _=>False) ?_ (fun _ h=>h.elim)
  have:shortestM a=none:=by rw [shortestM,if_neg h0]
  rw [this]
  simp only [go_sem,↓reduceIte,reduceLT,reduceAdd]
  refine callT hval rfl ?_
  simp only [go_sem,↓reduceIte,reduceLT,reduceEqDiff,h0]
  exact snap_tup2 (.nil 1) (.tree _ rfl)
 rw [h0] at hval
 have hV:=valid_VA.1 h0
 obtain ⟨⟨hsy1,hsy2⟩,⟨hn1,hn2⟩,hm,hed⟩:=id hV
 obtain ⟨y,hy⟩:∃ y:Nat,a.sy=(y:Int):=⟨a.sy.toNat,by omega⟩
 have hyT:a.sy.toNat=y:=by omega
 obtain ⟨n,hn⟩:∃ n,a.acc.length=n:=⟨_,rfl⟩
 have hnm:=newMachine_s a hV
 have haf:=fun (s:List Bool) (x:Nat) (hx:(x:Int)<a.sy)=>after_s a hV s x hx
 obtain ⟨MV,hMV⟩:∃ MV,MV=rg a.acc.length fun i=>AV.list 4 (rg a.sy.toNat fun x=>vset (moveP a i (x:Int))):=⟨_,rfl⟩
 have hvm:vmach a=(.ptr [vi a.sy,vw (wdi a.acc 0),vw (wdi a.acc 1),vw (wdi a.acc 2),vw (wdi a.acc 3),.list 1 MV,vw (wdi (firstA a) 0),vw (wdi (firstA a) 1),vw (wdi (firstA a) 2),vw (wdi (firstA a) 3)]):=by rw [vmach,hMV]
 rw [hvm] at hnm haf
 obtain ⟨B,hB⟩:∃ B,shortestM a=B:=⟨_,rfl⟩
 rw [hB]
 rw [shortestM_G h0,hn] at hB
 refine CwpE.cut (st:=⟨[(1,.ref 0 1 0 0)],[oX a]⟩) ?_ ?_
 ·simp only [go_sem,↓reduceIte,reduceLT,reduceAdd]
  refine callT hval rfl ?_
  simp only [go_sem,↓reduceIte,reduceLT]
  exact ⟨_,WkE.kp,rfl⟩
 refine CwpE.cut (st:=⟨[(1,.ref 0 1 0 0),(4,(.ptr [vi a.sy,vw (wdi a.acc 0),vw (wdi a.acc 1),vw (wdi a.acc 2),vw (wdi a.acc 3),.list 1 MV,vw (wdi (firstA a) 0),vw (wdi (firstA a) 1),vw (wdi (firstA a) 2),vw (wdi (firstA a) 3)]))],[oX a]⟩) ?_ ?_
 ·simp only [go_sem,↓reduceIte,reduceLT,reduceAdd]
  refine callT hnm rfl ?_
  simp only [go_sem,↓reduceIte,reduceLT]
  exact ⟨_,WkE.kp,rfl⟩
 refine CwpE.cut (st:=⟨[(1,.ref 0 1 0 0),(4,(.ptr [vi a.sy,vw (wdi a.acc 0),vw (wdi a.acc 1),vw (wdi a.acc 2),vw (wdi a.acc 3),.list 1 MV,vw (wdi (firstA a) 0),vw (wdi (firstA a) 1),vw (wdi (firstA a) 2),vw (wdi (firstA a) 3)])),(5,.ref 1 1 0 0)],[oX a,.arr 1 4 79 [vset (firstA a)]]⟩) ?_ ?_
 ·simp only [go_sem,↓reduceIte,reduceLT,reduceEqDiff,reduceAdd]
  exact ⟨_,WkE.kp,rfl⟩
 refine CwpE.seqJ (fun z=>B=none) ?_ ?_
 rotate_left
 ·rintro z hBn
  rw [hBn]
  obtain ⟨env,objs⟩:=z
  refine CwpE.wk (s':=⟨[],objs⟩) (WkE.keep (by simp only [go_sem])) ?_
  refine CwpE.vc ?_
  simp only [go_sem,↓reduceIte,reduceLT,reduceEqDiff]
  exact snap_tup2 (.nil 1) (.tree _ rfl)
 refine CwpE.seqJ (fun st=>st=⟨[(1,.ref 0 1 0 0),(4,(.ptr [vi a.sy,vw (wdi a.acc 0),vw (wdi a.acc 1),vw (wdi a.acc 2),vw (wdi a.acc 3),.list 1 MV,vw (wdi (firstA a) 0),vw (wdi (firstA a) 1),vw (wdi (firstA a) 2),vw (wdi (firstA a) 3)])),(5,.ref 1 1 0 0),(6,.own 2 1 0 1)],objsH a (firstA a) 1 [(firstA a,[])]⟩) ?_ ?_
 ·refine CwpE.regionC (csa:=[⟨some 21,none,.mov (T 4)⟩,⟨some 22,none,.nilCheck (T 21)⟩,⟨some 23,none,.fieldAddr 6 (T 22)⟩,⟨some 24,none,.load true 4 (T 23)⟩,⟨some 25,none,.build [(.val (.int .u64 0)),(.val (.int .u64 0)),(.val (.int .u64 0)),(.val (.int .u64 0)),(.val (.slice none 0 0))] [(0,(4,(T 24)))]⟩]) (csb:=[⟨some 6,none,.mov (T 26)⟩]) (by omega) (by decide) ?_
  simp only [go_sem,Nat.reduceLeDiff,↓reduceIte,reduceLT,reduceEqDiff,reduceAdd]
  refine ⟨_,WkE.keep (env':=[(1,.ref 0 1 0 0),(4,(.ptr [vi a.sy,vw (wdi a.acc 0),vw (wdi a.acc 1),vw (wdi a.acc 2),vw (wdi a.acc 3),.list 1 MV,vw (wdi (firstA a) 0),vw (wdi (firstA a) 1),vw (wdi (firstA a) 2),vw (wdi (firstA a) 3)])),(5,.ref 1 1 0 0),(26,.own 2 1 0 1)]) (by simp only [go_sem,↓reduceIte,reduceEqDiff];try rfl),?_⟩
  simp only [go_sem,↓reduceIte,reduceEqDiff]
  refine ⟨_,(WkE.nilCell 2 1 5 0 4 1 3 90 [.agg [vw (wdi (firstA a) 0),vw (wdi (firstA a) 1),vw (wdi (firstA a) 2),vw (wdi (firstA a) 3),nilV]] (.agg [vw (wdi (firstA a) 0),vw (wdi (firstA a) 1),vw (wdi (firstA a) 2),vw (wdi (firstA a) 3),nilV]) rfl rfl rfl).trans ((WkE.freezeCell 2 1 5 0 4 3 0 0 0 1 90 3 [.agg [vw (wdi (firstA a) 0),vw (wdi (firstA a) 1),vw (wdi (firstA a) 2),vw (wdi (firstA a) 3),.own 3 0 0 0]] [] (.agg [vw (wdi (firstA a) 0),vw (wdi (firstA a) 1),vw (wdi (firstA a) 2),vw (wdi (firstA a) 3),.own 3 0 0 0]) rfl rfl rfl rfl (by omega) (by simp) rfl).trans (WkE.round (by simp only [go_sem,↓reduceIte,reduceEqDiff];try rfl) rfl (objsH_inn a (firstA a) 1 [(firstA a,[])] _) rfl)),rfl⟩
 rintro _ rfl
 refine CwpE.block ?_
 refine loopXC 0 (fun m st=>∃ (i k:Nat) (L:List RS) (z:List Bool) (G o:Nat) (X:List RS),m=n+2-i/\i+k=L.length/\X.drop o=L.drop i/\ShOk a L z i/\shG a (n+2-i) L i z=B /\
  st=⟨[(1,.ref 0 1 0 0),(4,(.ptr [vi a.sy,vw (wdi a.acc 0),vw (wdi a.acc 1),vw (wdi a.acc 2),vw (wdi a.acc 3),.list 1 MV,vw (wdi (firstA a) 0),vw (wdi (firstA a) 1),vw (wdi (firstA a) 2),vw (wdi (firstA a) 3)])),(5,.ref 1 1 0 0),(6,.own 2 G o k)],objsH a z G X⟩)
  (fun st=>B=none) (n+2) _ (.refl _ _) ⟨0,1,[(firstA a,[])],firstA a,1,0,_,rfl,by simp,rfl,shOk_one a,hB,rfl⟩ ?_ ?_
 rotate_left
 ·rintro z h
  simp only [inBlockE,if_true]
  exact ⟨z,.refl _ _,h⟩
 rintro m st ⟨i,k,L,z,G,o,X,rfl,hik,hXd,hL,hG,rfl⟩
 have hLb:=hL.le
 rw [hn] at hLb
 by_cases hlt:i<L.length
 rotate_left
 ·have gk:¬ (0:Int)<(k:Int):=by omega
  rw [shG_end (by omega)] at hG
  refine CwpE.vc ?_
  rw [objsH_eq]
  simp only [go_sem,↓reduceIte,reduceLT,reduceEqDiff,gk]
  exact ⟨_,.refl _ _,hG.symm⟩
 have gk:(0:Int)<(k:Int):=by omega
 have hLi:=vrs_drop hXd hlt
 have hsl:=hL.sl _ (List.getElem_mem hlt)
 have hwl:=hL.len _ (List.getElem_mem hlt)
 have hf:n+2-i=(n+2-(i+1))+1:=by omega
 have htell:=@shG_tell a (n+2-(i+1)) L i z hlt
 have hstep:=@shG_step a (n+2-(i+1)) L i z hlt
 rw [<-hf,hG] at htell hstep
 rw [hyT] at hstep
 have hrow:=fun x=>hL.row (s:=L[i].1) hwl x
 have hkeep:∀ x (hx:i<(shL a L z L[i].1 L[i].2 x).length),(shL a L z L[i].1 L[i].2 x)[i]=L[i]:=fun x hx=>((shL_pre a L z _ _ x).getElem hlt).symm
 obtain ⟨re,hre⟩:∃ re,L[i]=re:=⟨_,rfl⟩
 rw [hre] at hLi hsl hwl htell hstep
 simp only [hre] at hrow hkeep
 obtain ⟨s,w⟩:=re
 simp only at hsl hwl htell hstep hrow hkeep hLi
 have hme:=meets_s s a.acc (by omega)
 refine CwpE.cut (st:=⟨[(1,.ref 0 1 0 0),(4,(.ptr [vi a.sy,vw (wdi a.acc 0),vw (wdi a.acc 1),vw (wdi a.acc 2),vw (wdi a.acc 3),.list 1 MV,vw (wdi (firstA a) 0),vw (wdi (firstA a) 1),vw (wdi (firstA a) 2),vw (wdi (firstA a) 3)])),(5,.ref 1 1 0 0),(6,.own 2 G o k)],objsH a z G X⟩) ?_ ?_
 ·rw [objsH_eq]
  simp only [go_sem,↓reduceIte,reduceLT,reduceEqDiff,gk]
  exact ⟨_,WkE.kp,rfl⟩
 refine CwpE.seqJ (fun st=>meets s a.acc=false/\∃ (G o:Nat) (X:List RS),X.drop o=(shL a L z s w y).drop i/\st=⟨[(1,.ref 0 1 0 0),(4,(.ptr [vi a.sy,vw (wdi a.acc 0),vw (wdi a.acc 1),vw (wdi a.acc 2),vw (wdi a.acc 3),.list 1 MV,vw (wdi (firstA a) 0),vw (wdi (firstA a) 1),vw (wdi (firstA a) 2),vw (wdi (firstA a) 3)])),(5,.ref 1 1 0 0),(6,.own 2 G o ((shL a L z s w y).length-i))],objsH a (shZ a z s w y) G X⟩) (CwpE.block ?_) ?_
 rotate_left
 ·rintro st ⟨htf,G2,o2,X2,hX2,rfl⟩
  have hs1:=hstep htf
  have hle:=(shL_pre a L z s w y).length_le
  have hrw:=hrow y
  obtain ⟨L2,hL2⟩:∃ L2,shL a L z s w y=L2:=⟨_,rfl⟩
  obtain ⟨z2,hz2⟩:∃ z2,shZ a z s w y=z2:=⟨_,rfl⟩
  rw [hL2,hz2] at hs1 hrw
  rw [hL2] at hle hX2 ⊢
  rw [hz2]
  obtain ⟨k2,hk2⟩:∃ k2,L2.length-i=k2+1:=⟨L2.length-i-1,by omega⟩
  rw [hk2]
  refine CwpE.vc ?_
  rw [objsH_eq]
  have k01:(0:Int)<=1:=by omega
  have k1:(1:Int)<=((k2+1:Nat):Int):=by omega
  simp only [go_sem,↓reduceIte,reduceLT,reduceEqDiff,Int.reduceToNat,Int.reduceToNat,k01,k1,Option.bind_some,Option.map_some,Nat.add_sub_cancel]
  exact ⟨n+2-(i+1),⟨[(1,.ref 0 1 0 0),(4,(.ptr [vi a.sy,vw (wdi a.acc 0),vw (wdi a.acc 1),vw (wdi a.acc 2),vw (wdi a.acc 3),.list 1 MV,vw (wdi (firstA a) 0),vw (wdi (firstA a) 1),vw (wdi (firstA a) 2),vw (wdi (firstA a) 3)])),(5,.ref 1 1 0 0),(6,.own 2 G2 (o2+1) k2)],objsH a z2 G2 X2⟩,by omega,WkE.kp,i+1,k2,L2,z2,G2,o2+1,X2,rfl,by omega,by rw [<-List.drop_drop,<-List.drop_drop,hX2],hrw,hs1.symm,rfl⟩
 refine CwpE.step (fun st=>meets s a.acc=false/\st=⟨[(1,.ref 0 1 0 0),(4,(.ptr [vi a.sy,vw (wdi a.acc 0),vw (wdi a.acc 1),vw (wdi a.acc 2),vw (wdi a.acc 3),.list 1 MV,vw (wdi (firstA a) 0),vw (wdi (firstA a) 1),vw (wdi (firstA a) 2),vw (wdi (firstA a) 3)])),(5,.ref 1 1 0 0),(6,.own 2 G o k)],objsH a z G X⟩) ?_ ?_
 ·cases ht:meets s a.acc with
  | true =>
   rw [ht] at hme
   have hB1:=htell ht
   rw [hB1]
   rw [objsH_eq]
   simp only [go_sem,Nat.reduceLeDiff,↓reduceIte,reduceCtorEq,reduceLT,reduceEqDiff,reduceAdd,Int.reduceToNat,Int.reduceToNat,Int.le_refl,gk,hLi,Nat.add_zero]
   refine callT hme rfl ?_
   simp only [go_sem,↓reduceIte,reduceLT,reduceEqDiff,Int.reduceToNat,Int.reduceToNat,Int.le_refl,gk,hLi,Nat.add_zero]
   exact snap_tup2 (.tree _ rfl) (.tree _ rfl)
  | false =>
   rw [ht] at hme
   rw [objsH_eq]
   simp only [go_sem,Nat.reduceLeDiff,↓reduceIte,reduceLT,reduceEqDiff,reduceAdd,Int.reduceToNat,Int.reduceToNat,Int.le_refl,gk,hLi,Nat.add_zero]
   refine callT hme rfl ?_
   simp only [go_sem,↓reduceIte]
   exact ⟨_,WkE.kp,rfl⟩
 rintro _ ⟨htf,rfl⟩
 refine CwpE.cut (st:=⟨[(1,.ref 0 1 0 0),(4,(.ptr [vi a.sy,vw (wdi a.acc 0),vw (wdi a.acc 1),vw (wdi a.acc 2),vw (wdi a.acc 3),.list 1 MV,vw (wdi (firstA a) 0),vw (wdi (firstA a) 1),vw (wdi (firstA a) 2),vw (wdi (firstA a) 3)])),(5,.ref 1 1 0 0),(6,.own 2 G o k),(46,vi y),(47,vi (0:Nat))],objsH a z G X⟩) ?_ ?_
 ·rw [objsH_eq]
  simp only [go_sem,↓reduceIte,reduceLT,hy]
  exact ⟨_,WkE.kp,rfl⟩
 refine CwpE.block ?_
 refine loopXC 2 (fun m st=>∃ (x G o:Nat) (X:List RS),m=y-x/\x<=y/\X.drop o=(shL a L z s w x).drop i/\st=⟨[(1,.ref 0 1 0 0),(4,(.ptr [vi a.sy,vw (wdi a.acc 0),vw (wdi a.acc 1),vw (wdi a.acc 2),vw (wdi a.acc 3),.list 1 MV,vw (wdi (firstA a) 0),vw (wdi (firstA a) 1),vw (wdi (firstA a) 2),vw (wdi (firstA a) 3)])),(5,.ref 1 1 0 0),(6,.own 2 G o ((shL a L z s w x).length-i)),(46,vi y),(47,vi x)],objsH a (shZ a z s w x) G X⟩)
  (fun st=>∃ (G o:Nat) (X:List RS),X.drop o=(shL a L z s w y).drop i/\st=⟨[(1,.ref 0 1 0 0),(4,(.ptr [vi a.sy,vw (wdi a.acc 0),vw (wdi a.acc 1),vw (wdi a.acc 2),vw (wdi a.acc 3),.list 1 MV,vw (wdi (firstA a) 0),vw (wdi (firstA a) 1),vw (wdi (firstA a) 2),vw (wdi (firstA a) 3)])),(5,.ref 1 1 0 0),(6,.own 2 G o ((shL a L z s w y).length-i))],objsH a (shZ a z s w y) G X⟩) y
  _ (.refl _ _) ⟨0,G,o,X,by omega,by omega,by rw [shL_zero];exact hXd,by rw [shL_zero,shZ_zero,show L.length-i=k by omega]⟩ ?_ ?_
 rotate_left
 ·rintro st ⟨G2,o2,X2,h3,rfl⟩
  simp only [go_sem,↓reduceIte]
  exact ⟨_,.refl _ _,htf,G2,o2,X2,h3,rfl⟩
 clear hXd hLi
 rintro m st ⟨x,G,o,X,rfl,hx,hXd,rfl⟩
 by_cases hxy:x<y
 rotate_left
 ·obtain rfl:y=x:=by omega
  refine CwpE.vc ?_
  simp only [go_sem,↓reduceIte,reduceLT,reduceEqDiff,Int.lt_irrefl]
  exact ⟨_,WkE.kp,G,o,X,hXd,rfl⟩
 have gx:(x:Int)<(y:Int):=by omega
 have wx:=wrap_s x (by omega)
 have hr1:=hrow x
 have hsu:=shL_succ a L z s w x
 have hzu:=shZ_succ a z s w x
 have hLl:=(shL_pre a L z s w x).length_le
 have hkx:=hkeep x (by omega)
 have hafx:=haf s x (by omega)
 have htl:=afterA_len a s (x:Int)
 obtain ⟨t,ht⟩:∃ t,afterA a s (x:Int)=t:=⟨_,rfl⟩
 rw [ht] at hsu hzu hafx htl
 obtain ⟨Lx,hLx⟩:∃ Lx,shL a L z s w x=Lx:=⟨_,rfl⟩
 obtain ⟨zx,hzx⟩:∃ zx,shZ a z s w x=zx:=⟨_,rfl⟩
 simp only [hLx] at hsu hLl hkx hXd ⊢
 simp only [hzx] at hsu hzu ⊢
 have hr2:=hr1.le
 rw [hLx,hn] at hr2
 have hLxi:(X.map vrs)[o]? = some (vrs (s,w)):=by rw [vrs_drop hXd (by omega),hkx]
 obtain ⟨kx,hkxl⟩:∃ kx,Lx.length-i=kx:=⟨_,rfl⟩
 rw [hkxl]
 have hikx:i+kx=Lx.length:=by omega
 have gkx:(0:Int)<(kx:Int):=by omega
 obtain ⟨L2,hL2⟩:∃ L2,shL a L z s w (x+1)=L2:=⟨_,rfl⟩
 obtain ⟨z2,hz2⟩:∃ z2,shZ a z s w (x+1)=z2:=⟨_,rfl⟩
 rw [hL2] at hsu
 rw [hz2] at hzu
 have hfa:=frK_all (t:=t) (z:=zx) (by omega)
 refine CwpE.cut (st:=⟨[(1,.ref 0 1 0 0),(4,(.ptr [vi a.sy,vw (wdi a.acc 0),vw (wdi a.acc 1),vw (wdi a.acc 2),vw (wdi a.acc 3),.list 1 MV,vw (wdi (firstA a) 0),vw (wdi (firstA a) 1),vw (wdi (firstA a) 2),vw (wdi (firstA a) 3)])),(5,.ref 1 1 0 0),(6,.own 2 G o kx),(46,vi y),(47,vi x),(48,vb true)],objsH a zx G X⟩) ?_ ?_
 ·simp only [go_sem,↓reduceIte,reduceLT,reduceEqDiff,gx]
  exact ⟨_,WkE.kp,rfl⟩
 refine CwpE.cut (st:=⟨[(1,.ref 0 1 0 0),(4,(.ptr [vi a.sy,vw (wdi a.acc 0),vw (wdi a.acc 1),vw (wdi a.acc 2),vw (wdi a.acc 3),.list 1 MV,vw (wdi (firstA a) 0),vw (wdi (firstA a) 1),vw (wdi (firstA a) 2),vw (wdi (firstA a) 3)])),(5,.ref 1 1 0 0),(6,.own 2 G o kx),(46,vi y),(47,vi x)],objsH a zx G X⟩) ?_ ?_
 ·simp only [go_sem,↓reduceIte,reduceEqDiff]
  exact ⟨_,WkE.kp,rfl⟩
 refine CwpE.seqJ (fun st=>∃ (G o:Nat) (X:List RS),X.drop o=L2.drop i/\st=⟨[(1,.ref 0 1 0 0),(4,(.ptr [vi a.sy,vw (wdi a.acc 0),vw (wdi a.acc 1),vw (wdi a.acc 2),vw (wdi a.acc 3),.list 1 MV,vw (wdi (firstA a) 0),vw (wdi (firstA a) 1),vw (wdi (firstA a) 2),vw (wdi (firstA a) 3)])),(5,.ref 1 1 0 0),(6,.own 2 G o (L2.length-i)),(46,vi y),(47,vi x)],objsH a z2 G X⟩) (CwpE.block ?_) ?_
 rotate_left
 ·rintro _ ⟨G2,o2,X2,hX2,rfl⟩
  refine CwpE.vc ?_
  simp only [go_sem,↓reduceIte,reduceLT,reduceEqDiff,wx]
  exact ⟨y-(x+1),⟨[(1,.ref 0 1 0 0),(4,(.ptr [vi a.sy,vw (wdi a.acc 0),vw (wdi a.acc 1),vw (wdi a.acc 2),vw (wdi a.acc 3),.list 1 MV,vw (wdi (firstA a) 0),vw (wdi (firstA a) 1),vw (wdi (firstA a) 2),vw (wdi (firstA a) 3)])),(5,.ref 1 1 0 0),(6,.own 2 G2 o2 (L2.length-i)),(46,vi y),(47,vi (x+1:Nat))],objsH a z2 G2 X2⟩,by omega,WkE.kp,x+1,G2,o2,X2,rfl,by omega,by rw [hL2];exact hX2,by rw [hL2,hz2]⟩
 refine CwpE.cut (st:=⟨[(1,.ref 0 1 0 0),(4,(.ptr [vi a.sy,vw (wdi a.acc 0),vw (wdi a.acc 1),vw (wdi a.acc 2),vw (wdi a.acc 3),.list 1 MV,vw (wdi (firstA a) 0),vw (wdi (firstA a) 1),vw (wdi (firstA a) 2),vw (wdi (firstA a) 3)])),(5,.ref 1 1 0 0),(6,.own 2 G o kx),(46,vi y),(47,vi x),(7,vi x)],objsH a zx G X⟩) ?_ ?_
 ·simp only [go_sem,↓reduceIte,reduceLT,reduceEqDiff]
  exact ⟨_,WkE.kp,rfl⟩
 refine CwpE.cut (st:=⟨[(1,.ref 0 1 0 0),(4,(.ptr [vi a.sy,vw (wdi a.acc 0),vw (wdi a.acc 1),vw (wdi a.acc 2),vw (wdi a.acc 3),.list 1 MV,vw (wdi (firstA a) 0),vw (wdi (firstA a) 1),vw (wdi (firstA a) 2),vw (wdi (firstA a) 3)])),(5,.ref 1 1 0 0),(6,.own 2 G o kx),(46,vi y),(47,vi x),(7,vi x),(8,.ref 3 1 0 0)],objsH a zx G X++[.arr 1 4 79 [vset t]]⟩) ?_ ?_
 ·rw [objsH_eq]
  simp only [go_sem,Nat.reduceLeDiff,↓reduceIte,reduceLT,reduceEqDiff,reduceAdd,Int.reduceToNat,Int.reduceToNat,Int.le_refl,gkx,hLxi,Nat.add_zero]
  refine callT hafx rfl ?_
  simp only [go_sem,↓reduceIte,reduceLT,reduceEqDiff,reduceAdd]
  exact ⟨_,WkE.kp,rfl⟩
 refine CwpE.cut (st:=⟨[(1,.ref 0 1 0 0),(4,(.ptr [vi a.sy,vw (wdi a.acc 0),vw (wdi a.acc 1),vw (wdi a.acc 2),vw (wdi a.acc 3),.list 1 MV,vw (wdi (firstA a) 0),vw (wdi (firstA a) 1),vw (wdi (firstA a) 2),vw (wdi (firstA a) 3)])),(5,.ref 1 1 0 0),(6,.own 2 G o kx),(46,vi y),(47,vi x),(7,vi x),(8,.ref 3 1 0 0),(9,vb false)],objsH a zx G X++[.arr 1 4 79 [vset t]]⟩) ?_ ?_
 ·simp only [go_sem,↓reduceIte,reduceLT]
  exact ⟨_,WkE.kp,rfl⟩
 have k4:((4:Nat):Int)=4:=rfl
 have v1:IntKind.i64.wrap (0+1)=1:=by decide
 have v2:IntKind.i64.wrap (1+1)=2:=by decide
 have v3:IntKind.i64.wrap (2+1)=3:=by decide
 have v4:IntKind.i64.wrap (3+1)=4:=by decide
 refine CwpE.step (fun st=>st=⟨[(1,.ref 0 1 0 0),(4,(.ptr [vi a.sy,vw (wdi a.acc 0),vw (wdi a.acc 1),vw (wdi a.acc 2),vw (wdi a.acc 3),.list 1 MV,vw (wdi (firstA a) 0),vw (wdi (firstA a) 1),vw (wdi (firstA a) 2),vw (wdi (firstA a) 3)])),(5,.ref 1 1 0 0),(6,.own 2 G o kx),(46,vi y),(47,vi x),(7,vi x),(8,.ref 3 1 0 0),(9,vb (freshB t zx))],objsH a z2 G X++[.arr 1 4 79 [vset t]]⟩) ?_ ?_
 ·rw [objsH_eq a zx G X,hzu]
  clear hzx hz2 hzu hsu hr1
  obtain ⟨z,hzz⟩:∃ z,zx=z:=⟨_,rfl⟩
  rw [hzz] at hfa ⊢
  simp only [go_sem,↓reduceIte,reduceLT,reduceEqDiff,reduceAdd]
  refine loopX 4 (fun m st=>(m=4/\st=⟨[(1,.ref 0 1 0 0),(4,(.ptr [vi a.sy,vw (wdi a.acc 0),vw (wdi a.acc 1),vw (wdi a.acc 2),vw (wdi a.acc 3),.list 1 MV,vw (wdi (firstA a) 0),vw (wdi (firstA a) 1),vw (wdi (firstA a) 2),vw (wdi (firstA a) 3)])),(5,.ref 1 1 0 0),(6,.own 2 G o kx),(46,vi y),(47,vi x),(7,vi x),(8,.ref 3 1 0 0),(9,vb (frK t z 0)),(57,vset t),(58,vi 0)],[oX a,.arr 1 4 79 [.agg [vw (wdi z 0),vw (wdi z 1),vw (wdi z 2),vw (wdi z 3)]],.arr G 5 90 (X.map vrs),.arr 1 4 79 [vset t]]⟩) \/ (m=3/\st=⟨[(1,.ref 0 1 0 0),(4,(.ptr [vi a.sy,vw (wdi a.acc 0),vw (wdi a.acc 1),vw (wdi a.acc 2),vw (wdi a.acc 3),.list 1 MV,vw (wdi (firstA a) 0),vw (wdi (firstA a) 1),vw (wdi (firstA a) 2),vw (wdi (firstA a) 3)])),(5,.ref 1 1 0 0),(6,.own 2 G o kx),(46,vi y),(47,vi x),(7,vi x),(8,.ref 3 1 0 0),(9,vb (frK t z 1)),(57,vset t),(58,vi 1)],[oX a,.arr 1 4 79 [.agg [vw (orw z t 0),vw (wdi z 1),vw (wdi z 2),vw (wdi z 3)]],.arr G 5 90 (X.map vrs),.arr 1 4 79 [vset t]]⟩) \/ (m=2/\st=⟨[(1,.ref 0 1 0 0),(4,(.ptr [vi a.sy,vw (wdi a.acc 0),vw (wdi a.acc 1),vw (wdi a.acc 2),vw (wdi a.acc 3),.list 1 MV,vw (wdi (firstA a) 0),vw (wdi (firstA a) 1),vw (wdi (firstA a) 2),vw (wdi (firstA a) 3)])),(5,.ref 1 1 0 0),(6,.own 2 G o kx),(46,vi y),(47,vi x),(7,vi x),(8,.ref 3 1 0 0),(9,vb (frK t z 2)),(57,vset t),(58,vi 2)],[oX a,.arr 1 4 79 [.agg [vw (orw z t 0),vw (orw z t 1),vw (wdi z 2),vw (wdi z 3)]],.arr G 5 90 (X.map vrs),.arr 1 4 79 [vset t]]⟩) \/ (m=1/\st=⟨[(1,.ref 0 1 0 0),(4,(.ptr [vi a.sy,vw (wdi a.acc 0),vw (wdi a.acc 1),vw (wdi a.acc 2),vw (wdi a.acc 3),.list 1 MV,vw (wdi (firstA a) 0),vw (wdi (firstA a) 1),vw (wdi (firstA a) 2),vw (wdi (firstA a) 3)])),(5,.ref 1 1 0 0),(6,.own 2 G o kx),(46,vi y),(47,vi x),(7,vi x),(8,.ref 3 1 0 0),(9,vb (frK t z 3)),(57,vset t),(58,vi 3)],[oX a,.arr 1 4 79 [.agg [vw (orw z t 0),vw (orw z t 1),vw (orw z t 2),vw (wdi z 3)]],.arr G 5 90 (X.map vrs),.arr 1 4 79 [vset t]]⟩) \/ (m=0/\st=⟨[(1,.ref 0 1 0 0),(4,(.ptr [vi a.sy,vw (wdi a.acc 0),vw (wdi a.acc 1),vw (wdi a.acc 2),vw (wdi a.acc 3),.list 1 MV,vw (wdi (firstA a) 0),vw (wdi (firstA a) 1),vw (wdi (firstA a) 2),vw (wdi (firstA a) 3)])),(5,.ref 1 1 0 0),(6,.own 2 G o kx),(46,vi y),(47,vi x),(7,vi x),(8,.ref 3 1 0 0),(9,vb (frK t z 4)),(57,vset t),(58,vi 4)],[oX a,.arr 1 4 79 [.agg [vw (orw z t 0),vw (orw z t 1),vw (orw z t 2),vw (orw z t 3)]],.arr G 5 90 (X.map vrs),.arr 1 4 79 [vset t]]⟩))
   (fun st=>st=⟨[(1,.ref 0 1 0 0),(4,(.ptr [vi a.sy,vw (wdi a.acc 0),vw (wdi a.acc 1),vw (wdi a.acc 2),vw (wdi a.acc 3),.list 1 MV,vw (wdi (firstA a) 0),vw (wdi (firstA a) 1),vw (wdi (firstA a) 2),vw (wdi (firstA a) 3)])),(5,.ref 1 1 0 0),(6,.own 2 G o kx),(46,vi y),(47,vi x),(7,vi x),(8,.ref 3 1 0 0),(9,vb (freshB t z))],objsH a (orS z t) G X++[.arr 1 4 79 [vset t]]⟩) 4 ⟨[(1,.ref 0 1 0 0),(4,(.ptr [vi a.sy,vw (wdi a.acc 0),vw (wdi a.acc 1),vw (wdi a.acc 2),vw (wdi a.acc 3),.list 1 MV,vw (wdi (firstA a) 0),vw (wdi (firstA a) 1),vw (wdi (firstA a) 2),vw (wdi (firstA a) 3)])),(5,.ref 1 1 0 0),(6,.own 2 G o kx),(46,vi y),(47,vi x),(7,vi x),(8,.ref 3 1 0 0),(9,vb (frK t z 0)),(57,vset t),(58,vi 0)],[oX a,.arr 1 4 79 [.agg [vw (wdi z 0),vw (wdi z 1),vw (wdi z 2),vw (wdi z 3)]],.arr G 5 90 (X.map vrs),.arr 1 4 79 [vset t]]⟩ (WkE.kp) (.inl ⟨rfl,rfl⟩) ?_ ?_
  rotate_left
  ·rintro st rfl
   simp only [go_sem,↓reduceIte]
   exact ⟨_,.refl _ _,rfl⟩
  rintro m st (⟨rfl,rfl⟩ | ⟨rfl,rfl⟩ | ⟨rfl,rfl⟩ | ⟨rfl,rfl⟩ | ⟨rfl,rfl⟩)
  ·have hfk:frK t z 1=(frK t z 0 || decide (wdv t 0 &&& ~~~ wdv z 0 ≠ 0#64)):=rfl
   cases hb:frK t z 0 with
   | true =>
    rw [hb,Bool.true_or] at hfk
    simp only [go_sem,Nat.reduceLeDiff,↓reduceIte,reduceLT,reduceEqDiff,reduceAdd,Nat.reduceMul,Int.reduceToNat,Int.reduceLT,Int.reduceToNat,Int.le_refl,k4,v1]
    exact ⟨3,⟨[(1,.ref 0 1 0 0),(4,(.ptr [vi a.sy,vw (wdi a.acc 0),vw (wdi a.acc 1),vw (wdi a.acc 2),vw (wdi a.acc 3),.list 1 MV,vw (wdi (firstA a) 0),vw (wdi (firstA a) 1),vw (wdi (firstA a) 2),vw (wdi (firstA a) 3)])),(5,.ref 1 1 0 0),(6,.own 2 G o kx),(46,vi y),(47,vi x),(7,vi x),(8,.ref 3 1 0 0),(9,vb (frK t z 1)),(57,vset t),(58,vi 1)],[oX a,.arr 1 4 79 [.agg [vw (orw z t 0),vw (wdi z 1),vw (wdi z 2),vw (wdi z 3)]],.arr G 5 90 (X.map vrs),.arr 1 4 79 [vset t]]⟩,by omega,by rw [hfk];exact WkE.kp,.inr (.inl ⟨rfl,rfl⟩)⟩
   | false =>
    rw [hb,Bool.false_or] at hfk
    have hw:=fresh_word t z 0
    by_cases hz:wdv t 0 &&& ~~~ wdv z 0=0#64
    ·have hzz:=hw.2 hz
     rw [decide_eq_false (not_not_intro hz)] at hfk
     simp only [go_sem,Nat.reduceLeDiff,↓reduceIte,reduceLT,reduceEqDiff,reduceAdd,Nat.reduceMul,Int.reduceToNat,Int.reduceLT,Int.reduceToNat,Int.le_refl,k4,v1]
     exact ⟨3,⟨[(1,.ref 0 1 0 0),(4,(.ptr [vi a.sy,vw (wdi a.acc 0),vw (wdi a.acc 1),vw (wdi a.acc 2),vw (wdi a.acc 3),.list 1 MV,vw (wdi (firstA a) 0),vw (wdi (firstA a) 1),vw (wdi (firstA a) 2),vw (wdi (firstA a) 3)])),(5,.ref 1 1 0 0),(6,.own 2 G o kx),(46,vi y),(47,vi x),(7,vi x),(8,.ref 3 1 0 0),(9,vb (frK t z 1)),(57,vset t),(58,vi 1)],[oX a,.arr 1 4 79 [.agg [vw (orw z t 0),vw (wdi z 1),vw (wdi z 2),vw (wdi z 3)]],.arr G 5 90 (X.map vrs),.arr 1 4 79 [vset t]]⟩,by omega,by rw [hfk];exact WkE.keep (by simp only [go_sem,↓reduceIte,reduceEqDiff];exact congrArg not (decide_eq_true hzz)),.inr (.inl ⟨rfl,rfl⟩)⟩
    ·have hzz:=mt hw.1 hz
     rw [decide_eq_true hz] at hfk
     simp only [go_sem,Nat.reduceLeDiff,↓reduceIte,reduceLT,reduceEqDiff,reduceAdd,Nat.reduceMul,Int.reduceToNat,Int.reduceLT,Int.reduceToNat,Int.le_refl,k4,v1]
     exact ⟨3,⟨[(1,.ref 0 1 0 0),(4,(.ptr [vi a.sy,vw (wdi a.acc 0),vw (wdi a.acc 1),vw (wdi a.acc 2),vw (wdi a.acc 3),.list 1 MV,vw (wdi (firstA a) 0),vw (wdi (firstA a) 1),vw (wdi (firstA a) 2),vw (wdi (firstA a) 3)])),(5,.ref 1 1 0 0),(6,.own 2 G o kx),(46,vi y),(47,vi x),(7,vi x),(8,.ref 3 1 0 0),(9,vb (frK t z 1)),(57,vset t),(58,vi 1)],[oX a,.arr 1 4 79 [.agg [vw (orw z t 0),vw (wdi z 1),vw (wdi z 2),vw (wdi z 3)]],.arr G 5 90 (X.map vrs),.arr 1 4 79 [vset t]]⟩,by omega,by rw [hfk];exact WkE.keep (by simp only [go_sem,↓reduceIte,reduceEqDiff];exact congrArg not (decide_eq_false hzz)),.inr (.inl ⟨rfl,rfl⟩)⟩
  ·have hfk:frK t z 2=(frK t z 1 || decide (wdv t 1 &&& ~~~ wdv z 1 ≠ 0#64)):=rfl
   cases hb:frK t z 1 with
   | true =>
    rw [hb,Bool.true_or] at hfk
    simp only [go_sem,Nat.reduceLeDiff,↓reduceIte,reduceLT,reduceEqDiff,reduceAdd,Nat.reduceMul,Int.reduceToNat,Int.reduceLT,Int.reduceLE,Int.reduceToNat,k4,v2]
    exact ⟨2,⟨[(1,.ref 0 1 0 0),(4,(.ptr [vi a.sy,vw (wdi a.acc 0),vw (wdi a.acc 1),vw (wdi a.acc 2),vw (wdi a.acc 3),.list 1 MV,vw (wdi (firstA a) 0),vw (wdi (firstA a) 1),vw (wdi (firstA a) 2),vw (wdi (firstA a) 3)])),(5,.ref 1 1 0 0),(6,.own 2 G o kx),(46,vi y),(47,vi x),(7,vi x),(8,.ref 3 1 0 0),(9,vb (frK t z 2)),(57,vset t),(58,vi 2)],[oX a,.arr 1 4 79 [.agg [vw (orw z t 0),vw (orw z t 1),vw (wdi z 2),vw (wdi z 3)]],.arr G 5 90 (X.map vrs),.arr 1 4 79 [vset t]]⟩,by omega,by rw [hfk];exact WkE.kp,.inr (.inr (.inl ⟨rfl,rfl⟩))⟩
   | false =>
    rw [hb,Bool.false_or] at hfk
    have hw:=fresh_word t z 1
    by_cases hz:wdv t 1 &&& ~~~ wdv z 1=0#64
    ·have hzz:=hw.2 hz
     rw [decide_eq_false (not_not_intro hz)] at hfk
     simp only [go_sem,Nat.reduceLeDiff,↓reduceIte,reduceLT,reduceEqDiff,reduceAdd,Nat.reduceMul,Int.reduceToNat,Int.reduceLT,Int.reduceLE,Int.reduceToNat,k4,v2]
     exact ⟨2,⟨[(1,.ref 0 1 0 0),(4,(.ptr [vi a.sy,vw (wdi a.acc 0),vw (wdi a.acc 1),vw (wdi a.acc 2),vw (wdi a.acc 3),.list 1 MV,vw (wdi (firstA a) 0),vw (wdi (firstA a) 1),vw (wdi (firstA a) 2),vw (wdi (firstA a) 3)])),(5,.ref 1 1 0 0),(6,.own 2 G o kx),(46,vi y),(47,vi x),(7,vi x),(8,.ref 3 1 0 0),(9,vb (frK t z 2)),(57,vset t),(58,vi 2)],[oX a,.arr 1 4 79 [.agg [vw (orw z t 0),vw (orw z t 1),vw (wdi z 2),vw (wdi z 3)]],.arr G 5 90 (X.map vrs),.arr 1 4 79 [vset t]]⟩,by omega,by rw [hfk];exact WkE.keep (by simp only [go_sem,↓reduceIte,reduceEqDiff];exact congrArg not (decide_eq_true hzz)),.inr (.inr (.inl ⟨rfl,rfl⟩))⟩
    ·have hzz:=mt hw.1 hz
     rw [decide_eq_true hz] at hfk
     simp only [go_sem,Nat.reduceLeDiff,↓reduceIte,reduceLT,reduceEqDiff,reduceAdd,Nat.reduceMul,Int.reduceToNat,Int.reduceLT,Int.reduceLE,Int.reduceToNat,k4,v2]
     exact ⟨2,⟨[(1,.ref 0 1 0 0),(4,(.ptr [vi a.sy,vw (wdi a.acc 0),vw (wdi a.acc 1),vw (wdi a.acc 2),vw (wdi a.acc 3),.list 1 MV,vw (wdi (firstA a) 0),vw (wdi (firstA a) 1),vw (wdi (firstA a) 2),vw (wdi (firstA a) 3)])),(5,.ref 1 1 0 0),(6,.own 2 G o kx),(46,vi y),(47,vi x),(7,vi x),(8,.ref 3 1 0 0),(9,vb (frK t z 2)),(57,vset t),(58,vi 2)],[oX a,.arr 1 4 79 [.agg [vw (orw z t 0),vw (orw z t 1),vw (wdi z 2),vw (wdi z 3)]],.arr G 5 90 (X.map vrs),.arr 1 4 79 [vset t]]⟩,by omega,by rw [hfk];exact WkE.keep (by simp only [go_sem,↓reduceIte,reduceEqDiff];exact congrArg not (decide_eq_false hzz)),.inr (.inr (.inl ⟨rfl,rfl⟩))⟩
  ·have hfk:frK t z 3=(frK t z 2 || decide (wdv t 2 &&& ~~~ wdv z 2 ≠ 0#64)):=rfl
   cases hb:frK t z 2 with
   | true =>
    rw [hb,Bool.true_or] at hfk
    simp only [go_sem,Nat.reduceLeDiff,↓reduceIte,reduceLT,reduceEqDiff,reduceAdd,Nat.reduceMul,Int.reduceToNat,Int.reduceLT,Int.reduceLE,Int.reduceToNat,k4,v3]
    exact ⟨1,⟨[(1,.ref 0 1 0 0),(4,(.ptr [vi a.sy,vw (wdi a.acc 0),vw (wdi a.acc 1),vw (wdi a.acc 2),vw (wdi a.acc 3),.list 1 MV,vw (wdi (firstA a) 0),vw (wdi (firstA a) 1),vw (wdi (firstA a) 2),vw (wdi (firstA a) 3)])),(5,.ref 1 1 0 0),(6,.own 2 G o kx),(46,vi y),(47,vi x),(7,vi x),(8,.ref 3 1 0 0),(9,vb (frK t z 3)),(57,vset t),(58,vi 3)],[oX a,.arr 1 4 79 [.agg [vw (orw z t 0),vw (orw z t 1),vw (orw z t 2),vw (wdi z 3)]],.arr G 5 90 (X.map vrs),.arr 1 4 79 [vset t]]⟩,by omega,by rw [hfk];exact WkE.kp,.inr (.inr (.inr (.inl ⟨rfl,rfl⟩)))⟩
   | false =>
    rw [hb,Bool.false_or] at hfk
    have hw:=fresh_word t z 2
    by_cases hz:wdv t 2 &&& ~~~ wdv z 2=0#64
    ·have hzz:=hw.2 hz
     rw [decide_eq_false (not_not_intro hz)] at hfk
     simp only [go_sem,Nat.reduceLeDiff,↓reduceIte,reduceLT,reduceEqDiff,reduceAdd,Nat.reduceMul,Int.reduceToNat,Int.reduceLT,Int.reduceLE,Int.reduceToNat,k4,v3]
     exact ⟨1,⟨[(1,.ref 0 1 0 0),(4,(.ptr [vi a.sy,vw (wdi a.acc 0),vw (wdi a.acc 1),vw (wdi a.acc 2),vw (wdi a.acc 3),.list 1 MV,vw (wdi (firstA a) 0),vw (wdi (firstA a) 1),vw (wdi (firstA a) 2),vw (wdi (firstA a) 3)])),(5,.ref 1 1 0 0),(6,.own 2 G o kx),(46,vi y),(47,vi x),(7,vi x),(8,.ref 3 1 0 0),(9,vb (frK t z 3)),(57,vset t),(58,vi 3)],[oX a,.arr 1 4 79 [.agg [vw (orw z t 0),vw (orw z t 1),vw (orw z t 2),vw (wdi z 3)]],.arr G 5 90 (X.map vrs),.arr 1 4 79 [vset t]]⟩,by omega,by rw [hfk];exact WkE.keep (by simp only [go_sem,↓reduceIte,reduceEqDiff];exact congrArg not (decide_eq_true hzz)),.inr (.inr (.inr (.inl ⟨rfl,rfl⟩)))⟩
    ·have hzz:=mt hw.1 hz
     rw [decide_eq_true hz] at hfk
     simp only [go_sem,Nat.reduceLeDiff,↓reduceIte,reduceLT,reduceEqDiff,reduceAdd,Nat.reduceMul,Int.reduceToNat,Int.reduceLT,Int.reduceLE,Int.reduceToNat,k4,v3]
     exact ⟨1,⟨[(1,.ref 0 1 0 0),(4,(.ptr [vi a.sy,vw (wdi a.acc 0),vw (wdi a.acc 1),vw (wdi a.acc 2),vw (wdi a.acc 3),.list 1 MV,vw (wdi (firstA a) 0),vw (wdi (firstA a) 1),vw (wdi (firstA a) 2),vw (wdi (firstA a) 3)])),(5,.ref 1 1 0 0),(6,.own 2 G o kx),(46,vi y),(47,vi x),(7,vi x),(8,.ref 3 1 0 0),(9,vb (frK t z 3)),(57,vset t),(58,vi 3)],[oX a,.arr 1 4 79 [.agg [vw (orw z t 0),vw (orw z t 1),vw (orw z t 2),vw (wdi z 3)]],.arr G 5 90 (X.map vrs),.arr 1 4 79 [vset t]]⟩,by omega,by rw [hfk];exact WkE.keep (by simp only [go_sem,↓reduceIte,reduceEqDiff];exact congrArg not (decide_eq_false hzz)),.inr (.inr (.inr (.inl ⟨rfl,rfl⟩)))⟩
  ·have hfk:frK t z 4=(frK t z 3 || decide (wdv t 3 &&& ~~~ wdv z 3 ≠ 0#64)):=rfl
   cases hb:frK t z 3 with
   | true =>
    rw [hb,Bool.true_or] at hfk
    simp only [go_sem,↓reduceIte,reduceLT,reduceEqDiff,reduceAdd,Nat.reduceMul,Int.reduceToNat,Int.reduceLT,Int.reduceLE,Int.reduceToNat,k4,v4]
    exact ⟨0,⟨[(1,.ref 0 1 0 0),(4,(.ptr [vi a.sy,vw (wdi a.acc 0),vw (wdi a.acc 1),vw (wdi a.acc 2),vw (wdi a.acc 3),.list 1 MV,vw (wdi (firstA a) 0),vw (wdi (firstA a) 1),vw (wdi (firstA a) 2),vw (wdi (firstA a) 3)])),(5,.ref 1 1 0 0),(6,.own 2 G o kx),(46,vi y),(47,vi x),(7,vi x),(8,.ref 3 1 0 0),(9,vb (frK t z 4)),(57,vset t),(58,vi 4)],[oX a,.arr 1 4 79 [.agg [vw (orw z t 0),vw (orw z t 1),vw (orw z t 2),vw (orw z t 3)]],.arr G 5 90 (X.map vrs),.arr 1 4 79 [vset t]]⟩,by omega,by rw [hfk];exact WkE.kp,.inr (.inr (.inr (.inr (⟨rfl,rfl⟩))))⟩
   | false =>
    rw [hb,Bool.false_or] at hfk
    have hw:=fresh_word t z 3
    by_cases hz:wdv t 3 &&& ~~~ wdv z 3=0#64
    ·have hzz:=hw.2 hz
     rw [decide_eq_false (not_not_intro hz)] at hfk
     simp only [go_sem,↓reduceIte,reduceLT,reduceEqDiff,reduceAdd,Nat.reduceMul,Int.reduceToNat,Int.reduceLT,Int.reduceLE,Int.reduceToNat,k4,v4]
     exact ⟨0,⟨[(1,.ref 0 1 0 0),(4,(.ptr [vi a.sy,vw (wdi a.acc 0),vw (wdi a.acc 1),vw (wdi a.acc 2),vw (wdi a.acc 3),.list 1 MV,vw (wdi (firstA a) 0),vw (wdi (firstA a) 1),vw (wdi (firstA a) 2),vw (wdi (firstA a) 3)])),(5,.ref 1 1 0 0),(6,.own 2 G o kx),(46,vi y),(47,vi x),(7,vi x),(8,.ref 3 1 0 0),(9,vb (frK t z 4)),(57,vset t),(58,vi 4)],[oX a,.arr 1 4 79 [.agg [vw (orw z t 0),vw (orw z t 1),vw (orw z t 2),vw (orw z t 3)]],.arr G 5 90 (X.map vrs),.arr 1 4 79 [vset t]]⟩,by omega,by rw [hfk];exact WkE.keep (by simp only [go_sem,↓reduceIte,reduceEqDiff];exact congrArg not (decide_eq_true hzz)),.inr (.inr (.inr (.inr (⟨rfl,rfl⟩))))⟩
    ·have hzz:=mt hw.1 hz
     rw [decide_eq_true hz] at hfk
     simp only [go_sem,↓reduceIte,reduceLT,reduceEqDiff,reduceAdd,Nat.reduceMul,Int.reduceToNat,Int.reduceLT,Int.reduceLE,Int.reduceToNat,k4,v4]
     exact ⟨0,⟨[(1,.ref 0 1 0 0),(4,(.ptr [vi a.sy,vw (wdi a.acc 0),vw (wdi a.acc 1),vw (wdi a.acc 2),vw (wdi a.acc 3),.list 1 MV,vw (wdi (firstA a) 0),vw (wdi (firstA a) 1),vw (wdi (firstA a) 2),vw (wdi (firstA a) 3)])),(5,.ref 1 1 0 0),(6,.own 2 G o kx),(46,vi y),(47,vi x),(7,vi x),(8,.ref 3 1 0 0),(9,vb (frK t z 4)),(57,vset t),(58,vi 4)],[oX a,.arr 1 4 79 [.agg [vw (orw z t 0),vw (orw z t 1),vw (orw z t 2),vw (orw z t 3)]],.arr G 5 90 (X.map vrs),.arr 1 4 79 [vset t]]⟩,by omega,by rw [hfk];exact WkE.keep (by simp only [go_sem,↓reduceIte,reduceEqDiff];exact congrArg not (decide_eq_false hzz)),.inr (.inr (.inr (.inr (⟨rfl,rfl⟩))))⟩
  ·simp only [go_sem,↓reduceIte,reduceLT,reduceEqDiff,Int.lt_irrefl]
   refine ⟨⟨[(1,.ref 0 1 0 0),(4,(.ptr [vi a.sy,vw (wdi a.acc 0),vw (wdi a.acc 1),vw (wdi a.acc 2),vw (wdi a.acc 3),.list 1 MV,vw (wdi (firstA a) 0),vw (wdi (firstA a) 1),vw (wdi (firstA a) 2),vw (wdi (firstA a) 3)])),(5,.ref 1 1 0 0),(6,.own 2 G o kx),(46,vi y),(47,vi x),(7,vi x),(8,.ref 3 1 0 0),(9,vb (freshB t z))],objsH a (orS z t) G X++[.arr 1 4 79 [vset t]]⟩,?_,rfl⟩
   rw [objsH_eq,hfa]
   simp only [vset,wdi_or]
   exact WkE.kp
 rintro _ rfl
 cases hfr:freshB t zx with
 | false =>
  rw [hfr,if_neg (by simp)] at hsu
  refine CwpE.vc ?_
  simp only [go_sem,↓reduceIte,reduceLT,reduceEqDiff]
  rw [hsu,hkxl]
  exact ⟨⟨[(1,.ref 0 1 0 0),(4,(.ptr [vi a.sy,vw (wdi a.acc 0),vw (wdi a.acc 1),vw (wdi a.acc 2),vw (wdi a.acc 3),.list 1 MV,vw (wdi (firstA a) 0),vw (wdi (firstA a) 1),vw (wdi (firstA a) 2),vw (wdi (firstA a) 3)])),(5,.ref 1 1 0 0),(6,.own 2 G o kx),(46,vi y),(47,vi x)],objsH a z2 G X⟩,WkE.round (by simp only [go_sem,↓reduceIte,reduceEqDiff];try rfl) rfl (objsH_inn _ _ _ _ _) rfl,G,o,X,hXd,rfl⟩
 | true =>
  rw [hfr,if_pos rfl] at hsu
  have hcl:=Clone47_n w (by omega)
  have hoX:o+kx<=X.length:=by
   have:=congrArg List.length hXd
   rw [List.length_drop,List.length_drop] at this
   omega
  have htk:List.take kx (List.drop o (X.map vrs))=(Lx.drop i).map vrs:=by
   rw [<-List.map_drop,hXd,List.take_of_length_le (by rw [List.length_map,List.length_drop];omega)]
  have qw1:(w.length+1)*8<=140737488355328:=by omega
  have qW:(kx+1)*56<=140737488355328:=by omega
  refine CwpE.vc ?_
  rw [objsH_eq]
  simp only [go_sem,↓reduceIte,reduceLT,reduceEqDiff,reduceAdd,Int.reduceToNat,Int.reduceToNat,Int.le_refl,gkx,hLxi,Nat.add_zero]
  refine callN1 (cap:=[]) (args:=[vints w]) hcl (.cons (.tree _ rfl) .nil) ?_ rfl ?_
  ·refine Bool.and_eq_true_iff.2 ⟨?_,rfl⟩
   show ((w.map vi).all (AV.inR _))=true
   rw [List.all_map]
   exact all_tt _
  have hren:∀ σ : Nat->Nat,(w.map vi).map (AV.ren σ)=w.map vi:=fun σ=>by rw [List.map_map];rfl
  simp only [go_sem,Nat.reducePow,Nat.reduceLeDiff,↓reduceIte,reduceLT,reduceEqDiff,reduceAdd,Nat.reduceMul,AV.ren,AV.ren1,AObj.renO,hren,qw1,qW,hoX,htk,List.length_map]
  have hl2:L2.length-i=kx+1:=by rw [hsu,List.length_append,List.length_singleton];omega
  have hX2:(Lx.drop i++[(t,w++[(x:Int)])])=L2.drop i:=by rw [hsu,List.drop_append_of_le_length (by omega)]
  rw [hl2]
  refine ⟨⟨[(1,.ref 0 1 0 0),(4,(.ptr [vi a.sy,vw (wdi a.acc 0),vw (wdi a.acc 1),vw (wdi a.acc 2),vw (wdi a.acc 3),.list 1 MV,vw (wdi (firstA a) 0),vw (wdi (firstA a) 1),vw (wdi (firstA a) 2),vw (wdi (firstA a) 3)])),(5,.ref 1 1 0 0),(6,.own 2 (G+1) 0 (kx+1)),(46,vi y),(47,vi x)],objsH a z2 (G+1) (L2.drop i)⟩,?_,G+1,0,L2.drop i,rfl,rfl⟩
  have hfr:=freezeLast (n:=93) (env:=[(1,.ref 0 1 0 0),(4,(.ptr [vi a.sy,vw (wdi a.acc 0),vw (wdi a.acc 1),vw (wdi a.acc 2),vw (wdi a.acc 3),.list 1 MV,vw (wdi (firstA a) 0),vw (wdi (firstA a) 1),vw (wdi (firstA a) 2),vw (wdi (firstA a) 3)])),(5,.ref 1 1 0 0),(6,.own 2 (G+1) 0 (kx+1)),(46,vi y),(47,vi x)]) [oX a,.arr 1 4 79 [vset z2]] [.arr 1 4 79 [vset t]] [.arr 1 5 90 [.agg [vw (wdi t 0),vw (wdi t 1),vw (wdi t 2),vw (wdi t 3),.own 4 (w.length+1) 0 (w.length+1)]]] 2 rfl (G+1) 5 90 ((Lx.drop i).map vrs) (.agg [vw (wdi t 0),vw (wdi t 1),vw (wdi t 2),vw (wdi t 3),.own 4 (w.length+1) 0 (w.length+1)]) 4 4 (w.map vi++[vi x]) (w.length+1) (by simp) rfl rfl (by rw [List.all_append,Bool.and_eq_true];exact ⟨isT_map (fun _=>rfl) _,rfl⟩)
  have he2 : [oX a,AObj.arr 1 4 79 [vset z2],.arr (G+1) 5 90 ((Lx.drop i).map vrs++[.agg [vw (wdi t 0),vw (wdi t 1),vw (wdi t 2),vw (wdi t 3),.list 1 (w.map vi++[vi x])]])]=objsH a z2 (G+1) (L2.drop i):=by
   rw [objsH_eq,<-hX2]
   simp only [List.map_append,List.map_cons,List.map_nil,vrs,vints]
  have hin:((objsH a z2 (G+1) (L2.drop i)).all fun o=>o.innO 3)=true:=objsH_inn _ _ _ _ _
  rw [<-he2] at hin ⊢
  refine (WkE.keep ?_).trans (hfr.trans (WkE.round ?_ rfl hin rfl))
  ·simp only [go_sem,↓reduceIte,reduceEqDiff];try rfl
  ·simp only [go_sem,↓reduceIte,reduceEqDiff];try rfl
end Go.Proofs.Ytjilachpkjlhdaa
namespace Go.Proofs.Ytjilachpkjlhdaa
open Go.RowKit Dak P5
open Nat (reduceEqDiff reduceLT reduceAdd)
def objsownA (a:Au) (A:List Bool) (E:List Edg):List AObj:=[.arr 1 3 26 [vau a],.arr 1 3 34 [nil3],.arr 1 3 34 [.agg [vi a.sy,.own 3 A.length 0 A.length,.own 4 E.length 0 E.length]],.arr A.length 1 4 (A.map vb),.arr E.length 3 72 (E.map vedge)]
theorem objsownA_eq (a:Au) (A:List Bool) (E:List Edg):objsownA a A E=[.arr 1 3 26 [vau a],.arr 1 3 34 [nil3],.arr 1 3 34 [.agg [vi a.sy,.own 3 A.length 0 A.length,.own 4 E.length 0 E.length]],.arr A.length 1 4 (A.map vb),.arr E.length 3 72 (E.map vedge)]:=rfl
theorem objsownA_inn (a:Au) (A:List Bool) (E:List Edg):((objsownA a A E).all fun o=>o.innO 5)=true:=by
 rw [objsownA_eq]
 refine Bool.and_eq_true_iff.2 ⟨rfl,Bool.and_eq_true_iff.2 ⟨rfl,Bool.and_eq_true_iff.2 ⟨rfl,Bool.and_eq_true_iff.2 ⟨inn_map fun _=>rfl,Bool.and_eq_true_iff.2 ⟨inn_map fun _=>rfl,rfl⟩⟩⟩⟩⟩
theorem objsownA_snap (a:Au) (objs:List AObj) (p q:Nat) (hp:p=a.acc.length) (hq:q=a.ed.length) (h4:objs[3]? = some (.arr p 1 4 (a.acc.map vb))) (h5:objs[4]? = some (.arr q 3 72 (a.ed.map vedge))) :
 Snap objs (.agg [vi a.sy,.own 3 p 0 p,.own 4 q 0 q]) (vau a):=by
 subst hp hq
 refine .agg _ _ rfl fun i h1 h2=>?_
 match i,h1,h2 with
 | 0,_,_=>exact .tree _ rfl
 | 1,_,_ =>
  refine .own 3 a.acc.length 0 a.acc.length 1 4 _ _ h4 (by simp) (by simp) fun q hq=>?_
  simp only [Nat.zero_add]
  exact .tree _ (List.all_eq_true.1 (isT_map (fun _=>rfl) _) _ (List.getElem_mem _))
 | 2,_,_ =>
  refine .own 4 a.ed.length 0 a.ed.length 3 72 _ _ h5 (by simp) (by simp) fun q hq=>?_
  simp only [Nat.zero_add]
  exact .tree _ (List.all_eq_true.1 (isT_map (fun _=>rfl) _) _ (List.getElem_mem _))
set_option maxHeartbeats 4000000 in
theorem ownA_s (a:Au) (ha:SzA a):Ctr Try.prog 13 [vau a] (vau a):=by
 refine specC f13 (by simp) fun F0 w0=>?_
 obtain ⟨hz1,hz2⟩:=ha
 unfold c13
 refine CwpE.cut (st:=⟨[(1,.ref 0 1 0 0),(2,.ref 1 1 0 0)],[.arr 1 3 26 [vau a],.arr 1 3 34 [nil3]]⟩) ?_ ?_
 ·simp only [go_sem,↓reduceIte,reduceLT,reduceAdd]
  exact ⟨_,WkE.kp,rfl⟩
 refine CwpE.cut (st:=⟨[(1,.ref 0 1 0 0),(2,.ref 1 1 0 0),(3,.ref 2 1 0 0)],objsownA a [] []⟩) ?_ ?_
 ·simp only [go_sem,Nat.reduceLeDiff,↓reduceIte,reduceLT,reduceEqDiff,reduceAdd]
  refine ⟨_,(WkE.nilCell 2 1 3 0 1 1 4 34 _ (.agg [vi a.sy,.val (.slice none 0 0),.val (.slice none 0 0)]) rfl rfl rfl).trans ((WkE.nilCell 2 1 3 0 2 3 72 34 _ (.agg [vi a.sy,.own 3 0 0 0,.val (.slice none 0 0)]) rfl rfl rfl).trans (WkE.kp)),rfl⟩
 refine CwpE.cut (st:=⟨[(1,.ref 0 1 0 0),(2,.ref 1 1 0 0),(3,.ref 2 1 0 0)],objsownA a a.acc []⟩) ?_ ?_
 ·have q1:a.acc.length*1<=140737488355328:=by omega
  have q2:(0+a.acc.length)*1<=140737488355328:=by omega
  rw [objsownA_eq a [] []]
  simp only [go_sem,Nat.reduceLeDiff,↓reduceIte,reduceLT,reduceEqDiff,reduceAdd,List.length_map,q1,Nat.zero_add,List.length_nil]
  exact ⟨_,WkE.kp,rfl⟩
 refine CwpE.step (fun z=>z=⟨[(1,.ref 0 1 0 0),(2,.ref 1 1 0 0),(3,.ref 2 1 0 0)],objsownA a a.acc a.ed⟩) ?_ ?_
 rotate_left
 ·rintro _ rfl
  refine CwpE.vc ?_
  rw [objsownA_eq]
  simp only [go_sem,↓reduceIte,reduceLT,reduceEqDiff,reduceAdd]
  exact objsownA_snap a _ _ _ rfl rfl rfl rfl
 simp only [go_sem,↓reduceIte,reduceLT]
 refine loopX 0 (fun m z=>∃ k:Nat,m=a.ed.length-k/\k<=a.ed.length/\z=⟨[(1,.ref 0 1 0 0),(2,.ref 1 1 0 0),(3,.ref 2 1 0 0),(4,vi k)],objsownA a a.acc (a.ed.take k)⟩)
  (fun z=>z=⟨[(1,.ref 0 1 0 0),(2,.ref 1 1 0 0),(3,.ref 2 1 0 0)],objsownA a a.acc a.ed⟩) a.ed.length
  ⟨[(1,.ref 0 1 0 0),(2,.ref 1 1 0 0),(3,.ref 2 1 0 0),(4,vi (0:Nat))],objsownA a a.acc (a.ed.take 0)⟩ (WkE.kp) ⟨0,by omega,by omega,rfl⟩ ?_ ?_
 rotate_left
 ·rintro z rfl
  simp only [go_sem,↓reduceIte]
  exact ⟨_,.refl _ _,rfl⟩
 rintro m z ⟨k,rfl,hk,rfl⟩
 by_cases hlt:k<a.ed.length
 rotate_left
 ·have gk:¬ (k:Int)<(a.ed.length:Int):=by omega
  rw [List.take_of_length_le (by omega),objsownA_eq a a.acc a.ed]
  simp only [go_sem,↓reduceIte,reduceLT,reduceEqDiff,gk,List.length_map]
  exact ⟨_,WkE.kp,rfl⟩
 have g1:(k:Int)<(a.ed.length:Int):=by omega
 have g0:(0:Int)<=(k:Int):=by omega
 have w1:=wrap_s k (by omega)
 have heg:=edge_get hlt
 have htk:=List.take_succ_eq_append_getElem hlt
 have htl:(a.ed.take k).length=k:=by simp;omega
 generalize a.ed[k]=e at heg htk
 obtain ⟨E1,hE1⟩:∃ E1,a.ed.take (k+1)=E1:=⟨_,rfl⟩
 obtain ⟨E0,hE0⟩:∃ E0,a.ed.take k=E0:=⟨_,rfl⟩
 rw [hE1,hE0] at htk
 rw [hE0] at htl ⊢
 have hE1l:E1.length=E0.length+1:=by rw [htk];simp
 have qe:(E0.length+1)*24<=140737488355328:=by omega
 have hEm:E0.map vedge++[vedge e]=E1.map vedge:=by rw [htk,List.map_append];rfl
 rw [objsownA_eq a a.acc E0]
 simp only [go_sem,Nat.reducePow,Nat.reduceLeDiff,↓reduceIte,reduceLT,reduceEqDiff,reduceAdd,Nat.reduceMul,g1,g0,heg,w1,qe,List.length_map,hEm,Int.toNat_natCast]
 refine ⟨a.ed.length-(k+1),⟨[(1,.ref 0 1 0 0),(2,.ref 1 1 0 0),(3,.ref 2 1 0 0),(4,vi (k+1:Nat))],objsownA a a.acc (a.ed.take (k+1))⟩,by omega,?_,k+1,rfl,by omega,rfl⟩
 have hin:=objsownA_inn a a.acc E1
 rw [hE1]
 rw [objsownA_eq,hE1l] at hin ⊢
 exact WkE.round (by simp only [go_sem,↓reduceIte,reduceEqDiff];try rfl) rfl hin rfl
def objsplainA (a:Au) (A:List Bool) (E:List Edg):List AObj:=[.arr 1 3 34 [vau a],.arr 1 3 26 [nil3],.arr 1 3 26 [.agg [vi a.sy,.own 3 A.length 0 A.length,.own 4 E.length 0 E.length]],.arr A.length 1 4 (A.map vb),.arr E.length 3 71 (E.map vedge)]
theorem objsplainA_eq (a:Au) (A:List Bool) (E:List Edg):objsplainA a A E=[.arr 1 3 34 [vau a],.arr 1 3 26 [nil3],.arr 1 3 26 [.agg [vi a.sy,.own 3 A.length 0 A.length,.own 4 E.length 0 E.length]],.arr A.length 1 4 (A.map vb),.arr E.length 3 71 (E.map vedge)]:=rfl
theorem objsplainA_inn (a:Au) (A:List Bool) (E:List Edg):((objsplainA a A E).all fun o=>o.innO 5)=true:=by
 rw [objsplainA_eq]
 refine Bool.and_eq_true_iff.2 ⟨rfl,Bool.and_eq_true_iff.2 ⟨rfl,Bool.and_eq_true_iff.2 ⟨rfl,Bool.and_eq_true_iff.2 ⟨inn_map fun _=>rfl,Bool.and_eq_true_iff.2 ⟨inn_map fun _=>rfl,rfl⟩⟩⟩⟩⟩
theorem objsplainA_snap (a:Au) (objs:List AObj) (p q:Nat) (hp:p=a.acc.length) (hq:q=a.ed.length) (h4:objs[3]? = some (.arr p 1 4 (a.acc.map vb))) (h5:objs[4]? = some (.arr q 3 71 (a.ed.map vedge))) :
 Snap objs (.agg [vi a.sy,.own 3 p 0 p,.own 4 q 0 q]) (vau a):=by
 subst hp hq
 refine .agg _ _ rfl fun i h1 h2=>?_
 match i,h1,h2 with
 | 0,_,_=>exact .tree _ rfl
 | 1,_,_ =>
  refine .own 3 a.acc.length 0 a.acc.length 1 4 _ _ h4 (by simp) (by simp) fun q hq=>?_
  simp only [Nat.zero_add]
  exact .tree _ (List.all_eq_true.1 (isT_map (fun _=>rfl) _) _ (List.getElem_mem _))
 | 2,_,_ =>
  refine .own 4 a.ed.length 0 a.ed.length 3 71 _ _ h5 (by simp) (by simp) fun q hq=>?_
  simp only [Nat.zero_add]
  exact .tree _ (List.all_eq_true.1 (isT_map (fun _=>rfl) _) _ (List.getElem_mem _))
set_option maxHeartbeats 4000000 in
theorem plainA_s (a:Au) (ha:SzA a):Ctr Try.prog 31 [vau a] (vau a):=by
 refine specC f31 (by simp) fun F0 w0=>?_
 obtain ⟨hz1,hz2⟩:=ha
 unfold c31
 refine CwpE.cut (st:=⟨[(1,.ref 0 1 0 0),(2,.ref 1 1 0 0)],[.arr 1 3 34 [vau a],.arr 1 3 26 [nil3]]⟩) ?_ ?_
 ·simp only [go_sem,↓reduceIte,reduceLT,reduceAdd]
  exact ⟨_,WkE.kp,rfl⟩
 refine CwpE.cut (st:=⟨[(1,.ref 0 1 0 0),(2,.ref 1 1 0 0),(3,.ref 2 1 0 0)],objsplainA a [] []⟩) ?_ ?_
 ·simp only [go_sem,Nat.reduceLeDiff,↓reduceIte,reduceLT,reduceEqDiff,reduceAdd]
  refine ⟨_,(WkE.nilCell 2 1 3 0 1 1 4 26 _ (.agg [vi a.sy,.val (.slice none 0 0),.val (.slice none 0 0)]) rfl rfl rfl).trans ((WkE.nilCell 2 1 3 0 2 3 71 26 _ (.agg [vi a.sy,.own 3 0 0 0,.val (.slice none 0 0)]) rfl rfl rfl).trans (WkE.kp)),rfl⟩
 refine CwpE.cut (st:=⟨[(1,.ref 0 1 0 0),(2,.ref 1 1 0 0),(3,.ref 2 1 0 0)],objsplainA a a.acc []⟩) ?_ ?_
 ·have q1:a.acc.length*1<=140737488355328:=by omega
  have q2:(0+a.acc.length)*1<=140737488355328:=by omega
  rw [objsplainA_eq a [] []]
  simp only [go_sem,Nat.reduceLeDiff,↓reduceIte,reduceLT,reduceEqDiff,reduceAdd,List.length_map,q1,Nat.zero_add,List.length_nil]
  exact ⟨_,WkE.kp,rfl⟩
 refine CwpE.step (fun z=>z=⟨[(1,.ref 0 1 0 0),(2,.ref 1 1 0 0),(3,.ref 2 1 0 0)],objsplainA a a.acc a.ed⟩) ?_ ?_
 rotate_left
 ·rintro _ rfl
  refine CwpE.vc ?_
  rw [objsplainA_eq]
  simp only [go_sem,↓reduceIte,reduceLT,reduceEqDiff,reduceAdd]
  exact objsplainA_snap a _ _ _ rfl rfl rfl rfl
 simp only [go_sem,↓reduceIte,reduceLT]
 refine loopX 0 (fun m z=>∃ k:Nat,m=a.ed.length-k/\k<=a.ed.length/\z=⟨[(1,.ref 0 1 0 0),(2,.ref 1 1 0 0),(3,.ref 2 1 0 0),(4,vi k)],objsplainA a a.acc (a.ed.take k)⟩)
  (fun z=>z=⟨[(1,.ref 0 1 0 0),(2,.ref 1 1 0 0),(3,.ref 2 1 0 0)],objsplainA a a.acc a.ed⟩) a.ed.length
  ⟨[(1,.ref 0 1 0 0),(2,.ref 1 1 0 0),(3,.ref 2 1 0 0),(4,vi (0:Nat))],objsplainA a a.acc (a.ed.take 0)⟩ (WkE.kp) ⟨0,by omega,by omega,rfl⟩ ?_ ?_
 rotate_left
 ·rintro z rfl
  simp only [go_sem,↓reduceIte]
  exact ⟨_,.refl _ _,rfl⟩
 rintro m z ⟨k,rfl,hk,rfl⟩
 by_cases hlt:k<a.ed.length
 rotate_left
 ·have gk:¬ (k:Int)<(a.ed.length:Int):=by omega
  rw [List.take_of_length_le (by omega),objsplainA_eq a a.acc a.ed]
  simp only [go_sem,↓reduceIte,reduceLT,reduceEqDiff,gk,List.length_map]
  exact ⟨_,WkE.kp,rfl⟩
 have g1:(k:Int)<(a.ed.length:Int):=by omega
 have g0:(0:Int)<=(k:Int):=by omega
 have w1:=wrap_s k (by omega)
 have heg:=edge_get hlt
 have htk:=List.take_succ_eq_append_getElem hlt
 have htl:(a.ed.take k).length=k:=by simp;omega
 generalize a.ed[k]=e at heg htk
 obtain ⟨E1,hE1⟩:∃ E1,a.ed.take (k+1)=E1:=⟨_,rfl⟩
 obtain ⟨E0,hE0⟩:∃ E0,a.ed.take k=E0:=⟨_,rfl⟩
 rw [hE1,hE0] at htk
 rw [hE0] at htl ⊢
 have hE1l:E1.length=E0.length+1:=by rw [htk];simp
 have qe:(E0.length+1)*24<=140737488355328:=by omega
 have hEm:E0.map vedge++[vedge e]=E1.map vedge:=by rw [htk,List.map_append];rfl
 rw [objsplainA_eq a a.acc E0]
 simp only [go_sem,Nat.reducePow,Nat.reduceLeDiff,↓reduceIte,reduceLT,reduceEqDiff,reduceAdd,Nat.reduceMul,g1,g0,heg,w1,qe,List.length_map,hEm,Int.toNat_natCast]
 refine ⟨a.ed.length-(k+1),⟨[(1,.ref 0 1 0 0),(2,.ref 1 1 0 0),(3,.ref 2 1 0 0),(4,vi (k+1:Nat))],objsplainA a a.acc (a.ed.take (k+1))⟩,by omega,?_,k+1,rfl,by omega,rfl⟩
 have hin:=objsplainA_inn a a.acc E1
 rw [hE1]
 rw [objsplainA_eq,hE1l] at hin ⊢
 exact WkE.round (by simp only [go_sem,↓reduceIte,reduceEqDiff];try rfl) rfl hin rfl
theorem au_ext {a b:Au} (h1:a.sy=b.sy) (h2:a.acc=b.acc) (h3:a.ed=b.ed):a=b:=by
 cases a;cases b;simp only at h1 h2 h3;subst h1 h2 h3;rfl
theorem edge_eq_cells (e f:Edg):(!decide ([e.1,e.2.1,e.2.2]=[f.1,f.2.1,f.2.2])) = !decide (e=f):=by
 congr 1
 rw [decide_eq_decide]
 simp only [List.cons.injEq,and_true]
 constructor
 ·rintro ⟨h1,h2,h3⟩
  exact Prod.ext h1 (Prod.ext h2 h3)
 ·rintro rfl;exact ⟨rfl,rfl,rfl⟩
theorem same_upto {α : Type} {l m:List α} {k:Nat} (hk:k<l.length) (hm:k<m.length) (h:l.take k=m.take k) (e:l[k]=m[k]):l.take (k+1)=m.take (k+1):=by
 rw [List.take_succ_eq_append_getElem hk,List.take_succ_eq_append_getElem hm,h,e]
end Go.Proofs.Ytjilachpkjlhdaa
