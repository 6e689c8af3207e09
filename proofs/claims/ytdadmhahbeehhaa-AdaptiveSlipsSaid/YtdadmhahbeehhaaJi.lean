/- Lemmas used by Next, Runs, Slips. -/
import Derived.Test.YtdadmhahbeehhaaJa
import Derived.Test.YtdadmhahbeehhaaJb
import Derived.Test.YtdadmhahbeehhaaJc
import Derived.Test.YtdadmhahbeehhaaJd
import Derived.Test.YtdadmhahbeehhaaJe
import Derived.Test.YtdadmhahbeehhaaJf
import Derived.Test.YtdadmhahbeehhaaJg
set_option linter.unusedSimpArgs false
set_option linter.unusedVariables false
set_option linter.unusedSectionVars false
set_option maxRecDepth 100000
namespace Go.Proofs.Ytdadmhahbeehhaa
open Dak
def c23:CCode :=
 (sR [oo 8 (.mov (kk 0))]
 (sR [oo 9 (.mov (kk 0))]
 (.seq (sR [oo 10 (.mov (kk 0))]
 (.block 0 (.loop
 (.seq (sR [vv 12 10,vv 13 1,oo 14 (lN 13),oo 15 (iB .lss 12 14)]
 (.cond (T 15)
 .skip
 (.exit 0)))
 (.seq (.block 1 (sR [vv 18 0,vv 19 1,vv 20 10,oo 21 (iS 1 19 20),oo 22 (ld1 21),oo 23 (iS 1 18 22),oo 24 (ld1 23),vv 11 24]
 (sR [vv 25 2,vv 26 10,oo 27 (iS 1 25 26),oo 28 (ld1 27),oo 29 (iK .eql 28 1),vv 30 29,vt 31 30 11,vt 32 30 3,gt 33 30 (iB .gtr 31 32),oo 34 (.pick (T 30) (T 33) bF),vv 35 34,vf 36 35 2,vf 37 35 10,gf 38 35 (iS 1 36 37),gf 39 35 (ld1 38),gf 40 35 (iK .eql 39 0),vf 41 35 40,vt 42 41 11,vt 43 41 3,gt 44 41 (iB .leq 42 43),gf 45 35 (.pick (T 41) (T 44) bF),oo 46 (.pick (T 35) bT (T 45))]
 (.cond (T 46)
 (rR [vv 47 9,oo 48 (iK .add 47 1),vv 9 48])
 .skip))))
 (rR [vv 16 10,oo 17 (iK .add 16 1),vv 10 17]))))))
 (sR [vv 49 9,vv 8 49]
 .ret))))
theorem f23:fnC Try.lprog 23=some (c23,50,[(.tmp 8)]):=by kernel_rfl
def c32:CCode :=
 (sR [oo 2 (.mov bF)]
 (.seq (sR [oo 3 (.mov (kk 0))]
 (.block 0 (.loop
 (.seq (sR [vv 4 3,vv 5 0,oo 6 (lN 5),oo 7 (iB .lss 4 6)]
 (.cond (T 7)
 .skip
 (.exit 0)))
 (.seq (.block 1 (sR [vv 10 0,vv 11 3,oo 12 (iS 1 10 11),oo 13 (ld1 12),oo 14 (iK .lss 13 0),vv 15 14,vf 16 15 0,vf 17 15 3,gf 18 15 (iS 1 16 17),gf 19 15 (ld1 18),gf 20 15 (iK .gtr 19 9),oo 21 (.pick (T 15) bT (T 20))]
 (.cond (T 21)
 (sR [oo 2 (.mov bF)]
 .ret)
 .skip)))
 (rR [vv 8 3,oo 9 (iK .add 8 1),vv 3 9]))))))
 (sR [vv 22 0,oo 23 (lN 22),oo 24 (iK .leq 23 256),vv 2 24]
 .ret)))
theorem f32:fnC Try.lprog 32=some (c32,25,[(.tmp 2)]):=by kernel_rfl
end Go.Proofs.Ytdadmhahbeehhaa
namespace A42
def mnS (L:List Int) (ps:List PI) (b lev:Int):Int:=min b (cnt L ps lev:Nat)
def mnK (L:List Int) (ps:List PI) (k:Nat):Int:=(levels.take k).foldl (mnS L ps) 1048576
theorem mnK_step (L:List Int) (ps:List PI) {k:Nat} (h:k<11):mnK L ps (k+1)=mnS L ps (mnK L ps k) (-1+(k:Int)):=by
 simp only [mnK,levels_step k h,List.foldl_append,List.foldl_cons,List.foldl_nil]
theorem mnK_bd (L:List Int) (ps:List PI):∀ k,k<=11->0<=mnK L ps k/\mnK L ps k<=1048576
 | 0,_=>by show (0:Int)<=1048576/\(1048576:Int)<=1048576;omega
 | k+1,h=>by
  have:=mnK_bd L ps k (by omega)
  rw [mnK_step L ps (by omega)]
  unfold mnS;omega
theorem mnK_le (L:List Int) (ps:List PI):∀ k,k<=11->∀ j,j<k->mnK L ps k<=(cnt L ps (-1+(j:Int)):Nat)
 | 0,_,j,hj=>by omega
 | k+1,h,j,hj=>by
  rw [mnK_step L ps (by omega)]
  unfold mnS
  by_cases e:j=k
  ·subst e;omega
  ·have:=mnK_le L ps k (by omega) j (by omega)
   omega
theorem mnK_eq (L:List Int) (ps:List PI):∀ k,k<=11->mnK L ps k=1048576 \/ ∃ j,j<k/\mnK L ps k=(cnt L ps (-1+(j:Int)):Nat)
 | 0,_=>.inl rfl
 | k+1,h=>by
  rw [mnK_step L ps (by omega)]
  unfold mnS
  rcases mnK_eq L ps k (by omega) with e | ⟨j,hj,e⟩
  ·by_cases hc:((cnt L ps (-1+(k:Int)):Nat):Int)<=1048576
   ·exact .inr ⟨k,by omega,by omega⟩
   ·exact .inl (by omega)
  ·by_cases hc:((cnt L ps (-1+(k:Int)):Nat):Int)<=mnK L ps k
   ·exact .inr ⟨k,by omega,by omega⟩
   ·exact .inr ⟨j,by omega,by omega⟩
theorem cnt_big {L:List Int} {ps:List PI} (h:ps.length<=L.length) (hL:L.length<=256) (lev:Int):cnt L ps lev<=256:=Nat.le_trans (cnt_le lev) (by omega)
theorem mn_best {L:List Int} {ps:List PI} (h:ps.length<=L.length) (hL:L.length<=256):mnK L ps 11=((sh3 L ps).2.2:Nat):=by
 have hs:=shown_spec h
 have hb:=shown_bd h
 generalize (sh3 L ps).2.2=best at hs
 have hc0:=cnt_big (lev:=-1) h hL
 rcases mnK_eq L ps 11 (by omega) with e | ⟨j,hj,e⟩
 ·have:=mnK_le L ps 11 (by omega) 0 (by omega)
  rw [e] at this
  have e2:(-1+((0:Nat):Int)) = -1:=by omega
  rw [e2] at this
  omega
 ·have h1:=hs.le (-1+(j:Int)) (by omega) (by omega)
  have h2:=mnK_le L ps 11 (by omega) ((shown L ps).1+1).toNat (by omega)
  have e2 : -1+((((shown L ps).1+1).toNat:Nat):Int)=(shown L ps).1:=by omega
  rw [e2,hs.fc] at h2
  omega
end A42
namespace Go.Proofs.Ytdadmhahbeehhaa
open Go.RowKit Dak A42
theorem any_drop {L:List Int} {k:Nat} (h:k<L.length):(L.drop k).any badL=(badL L[k] || (L.drop (k+1)).any badL):=by
 rw [List.drop_eq_getElem_cons h,List.any_cons]
theorem rValid_s (L:List Int) (hL:L.length<=9223372036854775806):Ctr Try.lprog 32 [vints L] (vb (validB L)):=by
 refine specC f32 (by simp) fun F0 w0=>?_
 unfold c32
 refine CwpE.cut (st:=⟨[(0,vints L)],[]⟩) ?_ ?_
 ·simp only [go_sem]
  exact ⟨_,WkE.kp,rfl⟩
 have hv:validB L=(decide (L.length<=256) && !(L.any badL)):=rfl
 refine CwpE.step (fun s=>L.any badL=false/\s=⟨[(0,vints L)],[]⟩) ?_ ?_
 rotate_left
 ·rintro s ⟨h,rfl⟩
  rw [hv,h]
  refine CwpE.vc ?_
  by_cases h2:(L.length:Int)<=256
  ·have h3:L.length<=256:=by omega
   simp only [go_sem,List.length_map,h2]
   have:decide (L.length<=256)=true:=by simpa using h3
   rw [this];exact .tree _ rfl
  ·have h3:¬ L.length<=256:=by omega
   simp only [go_sem,List.length_map,h2]
   have:decide (L.length<=256)=false:=by simpa using h3
   rw [this];exact .tree _ rfl
 simp only [go_sem]
 refine loopX 0 (fun m s=>∃ k:Nat,m=L.length-k/\k<=L.length/\L.any badL=(L.drop k).any badL/\s=⟨[(0,vints L),(3,vi k)],[]⟩)
  (fun s=>L.any badL=false/\s=⟨[(0,vints L)],[]⟩) L.length ⟨[(0,vints L),(3,vi (0:Nat))],[]⟩ (WkE.kp) ⟨0,rfl,by omega,rfl,rfl⟩ ?_ ?_
 rotate_left
 ·rintro s ⟨h,rfl⟩
  simp only [go_sem]
  exact ⟨_,.refl _ _,h,rfl⟩
 rintro m s ⟨k,rfl,hk,ha,rfl⟩
 by_cases hlt:k<L.length
 ·have g1:(k:Int)<(L.length:Int):=by omega
  have g0:(0:Int)<=(k:Int):=by omega
  have w1:=wrap_s k (by omega)
  rw [any_drop hlt] at ha
  obtain ⟨x,hx⟩:∃ x,L[k]=x:=⟨_,rfl⟩
  rw [hx] at ha
  by_cases a1:x<0
  ·have:validB L=false:=by rw [hv,ha];simp [badL,a1]
   rw [this]
   simp only [go_sem,g1,g0,List.length_map,List.getElem?_map,List.getElem?_eq_getElem hlt,hx,a1]
   exact .tree _ rfl
  by_cases a2:9<x
  ·have:validB L=false:=by rw [hv,ha];simp [badL,a2]
   rw [this]
   simp only [go_sem,g1,g0,List.length_map,List.getElem?_map,List.getElem?_eq_getElem hlt,hx,a1,a2]
   exact .tree _ rfl
  have hb:badL x=false:=by simp [badL,a1,a2]
  rw [hb,Bool.false_or] at ha
  simp only [go_sem,g1,g0,List.length_map,List.getElem?_map,List.getElem?_eq_getElem hlt,hx,a1,a2,w1]
  exact ⟨L.length-(k+1),⟨[(0,vints L),(3,vi ((k+1:Nat):Int))],[]⟩,by omega,WkE.kp,k+1,rfl,by omega,ha,rfl⟩
 ·obtain rfl:k=L.length:=by omega
  rw [List.drop_length] at ha
  simp only [go_sem,List.length_map,Int.lt_irrefl]
  exact ⟨_,WkE.keep (env':=[(0,vints L)]) (by simp only [go_sem];try trivial),ha,rfl⟩
theorem cnt_step {L:List Int} {ps:List PI} {k:Nat} (h:k<ps.length) (lev:Int):cnt L (ps.take (k+1)) lev=cnt L (ps.take k) lev+(if con L lev ps[k]=true then 1 else 0):=by
 unfold A42.cnt
 rw [List.take_succ_eq_append_getElem h,List.countP_append,List.countP_singleton]
theorem against_s (L asked right:List Int) (lev:Int) (he:asked.length=right.length) (hO:Ok L (asked.zip right)):Ctr Try.lprog 23 [vints L,vints asked,vints right,vi lev] (vi (cnt L (asked.zip right) lev)):=by
 obtain ⟨ps,hps⟩:∃ ps,asked.zip right=ps:=⟨_,rfl⟩
 have hpl:ps.length=asked.length:=by rw [<-hps,List.length_zip];omega
 have hget:∀ k (h:k<asked.length) (h2:k<right.length),ps[k]? = some (asked[k],right[k]):=fun k h h2=>by
  rw [<-hps]
  exact List.getElem?_zip_eq_some.2 ⟨List.getElem?_eq_getElem h,List.getElem?_eq_getElem h2⟩
 rw [hps] at hO ⊢
 have hlen:=hO.len
 have hv:=(valid_iff.1 hO.valid).1
 refine specC f23 (by simp) fun F0 w0=>?_
 unfold c23
 refine CwpE.cut (st:=⟨[(0,vints L),(1,vints asked),(2,vints right),(3,vi lev)],[]⟩) ?_ ?_
 ·simp only [go_sem]
  exact ⟨_,WkE.kp,rfl⟩
 refine CwpE.cut (st:=⟨[(0,vints L),(1,vints asked),(2,vints right),(3,vi lev),(9,vi 0)],[]⟩) ?_ ?_
 ·simp only [go_sem]
  exact ⟨_,WkE.kp,rfl⟩
 refine CwpE.step (fun s=>s=⟨[(9,vi (cnt L ps lev))],[]⟩) ?_ ?_
 rotate_left
 ·rintro s rfl
  refine CwpE.vc ?_
  simp only [go_sem]
  exact .tree _ rfl
 simp only [go_sem]
 refine loopX 0 (fun m s=>∃ k:Nat,m=asked.length-k/\k<=asked.length/\s=⟨[(0,vints L),(1,vints asked),(2,vints right),(3,vi lev),(9,vi (cnt L (ps.take k) lev)),(10,vi k)],[]⟩)
  (fun s=>s=⟨[(9,vi (cnt L ps lev))],[]⟩) asked.length ⟨[(0,vints L),(1,vints asked),(2,vints right),(3,vi lev),(9,vi 0),(10,vi (0:Nat))],[]⟩ (WkE.kp) ⟨0,rfl,by omega,rfl⟩ ?_ ?_
 rotate_left
 ·rintro s rfl
  simp only [go_sem]
  exact ⟨_,.refl _ _,rfl⟩
 rintro m s ⟨k,rfl,hk,rfl⟩
 by_cases hlt:k<asked.length
 ·have hltr:k<right.length:=by omega
  have hklt:k<ps.length:=by omega
  have hpk:=hget k hlt hltr
  have hpk':ps[k]=(asked[k],right[k]):=by
   rw [List.getElem?_eq_getElem hklt] at hpk;exact Option.some.inj hpk
  have hr:=hO.rng ps[k] (List.getElem_mem hklt)
  have hcs:=cnt_step (L:=L) hklt lev
  rw [hpk'] at hr hcs
  have g1:(k:Int)<(asked.length:Int):=by omega
  have g0:(0:Int)<=(k:Int):=by omega
  have g2:(k:Int)<(right.length:Int):=by omega
  have w1:=wrap_s k (by omega)
  obtain ⟨n,hn⟩:∃ n,asked[k]=n:=⟨_,rfl⟩
  obtain ⟨x,hx⟩:∃ x,right[k]=x:=⟨_,rfl⟩
  rw [hn,hx] at hr hcs
  obtain ⟨b1,b2,b3,b4⟩:=hr
  dsimp only at b1 b2 b3 b4
  have hi:(L.map vi)[n.toNat]? = some (vi (lv L n)):=by rw [List.getElem?_map,lv_idx b1 b2];rfl
  obtain ⟨c,hc⟩:∃ c,cnt L (ps.take k) lev=c:=⟨_,rfl⟩
  have hcl:c<=256:=by
   have:=cnt_le (L:=L) (ps:=ps.take k) lev
   rw [hc,List.length_take] at this;omega
  rw [hc] at hcs ⊢
  have w2:=wrap_s c (by omega)
  have fin:∀ c2:Nat,c2=cnt L (ps.take (k+1)) lev->∃ m s',m<asked.length-k/\WkE 50 ⟨[(0,vints L),(1,vints asked),(2,vints right),(3,vi lev),(9,vi c2),(10,vi ((k+1:Nat):Int))],[]⟩ s'/\∃ k:Nat,m=asked.length-k/\k<=asked.length/\s'=⟨[(0,vints L),(1,vints asked),(2,vints right),(3,vi lev),(9,vi (cnt L (ps.take k) lev)),(10,vi k)],[]⟩:=fun c2 h=>⟨asked.length-(k+1),_,by omega,.refl _ _,k+1,rfl,by omega,by rw [h]⟩
  have hcon:con L lev (n,x)=((decide (x=1)) != decide (lv L n<=lev)):=rfl
  rw [hcon] at hcs
  rcases (show x=0 \/ x=1 by omega) with rfl | rfl
  ·by_cases hc2:lv L n<=lev
   ·have hc3:¬ lev<lv L n:=by omega
    have e:cnt L (ps.take (k+1)) lev=c+1:=by rw [hcs];simp [hc2]
    simp only [go_sem,Int.reduceEq,g1,g0,List.length_map,List.getElem?_map,List.getElem?_eq_getElem hlt,List.getElem?_eq_getElem hltr,hn,hx,b1,lv_idx b1 b2,hc2,w1,w2]
    exact ⟨asked.length-(k+1),⟨[(0,vints L),(1,vints asked),(2,vints right),(3,vi lev),(9,vi ((c+1:Nat):Int)),(10,vi ((k+1:Nat):Int))],[]⟩,by omega,WkE.kp,k+1,rfl,by omega,by rw [e]⟩
   ·have hc3:lev<lv L n:=by omega
    have e:cnt L (ps.take (k+1)) lev=c:=by rw [hcs];simp [hc2]
    simp only [go_sem,Int.reduceEq,g1,g0,List.length_map,List.getElem?_map,List.getElem?_eq_getElem hlt,List.getElem?_eq_getElem hltr,hn,hx,b1,lv_idx b1 b2,hc2,w1]
    exact ⟨asked.length-(k+1),⟨[(0,vints L),(1,vints asked),(2,vints right),(3,vi lev),(9,vi (c:Int)),(10,vi ((k+1:Nat):Int))],[]⟩,by omega,WkE.kp,k+1,rfl,by omega,by rw [e]⟩
  ·by_cases hc2:lv L n<=lev
   ·have hc3:¬ lev<lv L n:=by omega
    have e:cnt L (ps.take (k+1)) lev=c:=by rw [hcs];simp [hc2]
    simp only [go_sem,Int.reduceEq,g1,g0,List.length_map,List.getElem?_map,List.getElem?_eq_getElem hlt,List.getElem?_eq_getElem hltr,hn,hx,b1,lv_idx b1 b2,hc3,w1]
    exact ⟨asked.length-(k+1),⟨[(0,vints L),(1,vints asked),(2,vints right),(3,vi lev),(9,vi (c:Int)),(10,vi ((k+1:Nat):Int))],[]⟩,by omega,WkE.kp,k+1,rfl,by omega,by rw [e]⟩
   ·have hc3:lev<lv L n:=by omega
    have e:cnt L (ps.take (k+1)) lev=c+1:=by rw [hcs];simp [hc2]
    simp only [go_sem,g1,g0,List.length_map,List.getElem?_map,List.getElem?_eq_getElem hlt,List.getElem?_eq_getElem hltr,hn,hx,b1,lv_idx b1 b2,hc3,w1,w2]
    exact ⟨asked.length-(k+1),⟨[(0,vints L),(1,vints asked),(2,vints right),(3,vi lev),(9,vi ((c+1:Nat):Int)),(10,vi ((k+1:Nat):Int))],[]⟩,by omega,WkE.kp,k+1,rfl,by omega,by rw [e]⟩
 ·obtain rfl:k=asked.length:=by omega
  rw [List.take_of_length_le (by omega)]
  simp only [go_sem,List.length_map,Int.lt_irrefl]
  exact ⟨_,WkE.keep (env':=[(9,vi (cnt L ps lev))]) (by simp only [go_sem];try trivial),rfl⟩
end Go.Proofs.Ytdadmhahbeehhaa
