/- Lemmas used by Slips. -/
import Derived.Test.YtdadmhahbeehhaaJa
import Derived.Test.YtdadmhahbeehhaaJb
import Derived.Test.YtdadmhahbeehhaaJc
import Derived.Test.YtdadmhahbeehhaaJd
import Derived.Test.YtdadmhahbeehhaaJe
import Derived.Test.YtdadmhahbeehhaaJf
import Derived.Test.YtdadmhahbeehhaaJg
import Derived.Test.YtdadmhahbeehhaaJh
import Derived.Test.YtdadmhahbeehhaaJi
import Derived.Test.YtdadmhahbeehhaaJk
import Derived.Test.YtdadmhahbeehhaaJn
import Derived.Test.YtdadmhahbeehhaaJo
import Derived.Test.YtdadmhahbeehhaaJq
set_option linter.unusedSimpArgs false
set_option linter.unusedVariables false
set_option linter.unusedSectionVars false
set_option maxRecDepth 100000
namespace A42
theorem rights_bd (l:List Int) (k:Nat) {x:Int} (h:x ∈ rightsK l k):0<=x/\x<=1:=by
 obtain ⟨i,_,rfl⟩:=List.mem_map.1 h
 have:=atL_bd l (i:Int) 2 (by omega)
 omega
theorem gen_ok (l m k:List Int):Ok (levelsM l) ((someM (levelsM l) m).zip (rightsK k (someM (levelsM l) m).length)):=by
 have hI:=some_I (levelsM l) m
 refine ⟨levels_valid l,fun p hp=>?_,?_⟩
 ·have h1:=List.of_mem_zip hp
  have:=hI.rng _ h1.1
  have:=rights_bd k _ h1.2
  omega
 ·rw [List.map_fst_zip (by rw [rights_len];omega)]
  exact hI.nodup
end A42
namespace Go.Proofs.Ytdadmhahbeehhaa
open Go.RowKit Dak A42
theorem rights_n (l:List Int) (N:Nat) (hl:∀ x ∈ l,I64 x) (hN:N<=1000):CtrN Try.lprog 10 [vints l,vi N] (.own 0 N 0 N) [.arr N 1 3 ((rightsK l N).map vi)]:=by
 refine specN f10 (by simp) rfl ?_ rfl fun F0 w0=>rights_c l N hl hN (CwpE.vc ?_)
 ·simp only [List.all_cons,List.all_nil,Bool.and_true];exact inn_ints _ _ _
 simp only [go_sem]
 exact ⟨_,rfl,.refl _ _⟩
end Go.Proofs.Ytdadmhahbeehhaa
namespace A42
theorem best_le {L:List Int} {ps:List PI} (h:ps.length<=L.length):(sh3 L ps).2.2<=ps.length:=by
 have:=(shown_spec h).fc
 rw [<-this];exact cnt_le _
theorem level_facts {L:List Int} {ps:List PI} (h:ps.length<=L.length) {f l:Int} (hs:shown L ps=(f,l)) :
 let mid:=floorM (f+l)
 let off:=max (mid-f) (l-mid)
 (-1<=mid/\mid<=9)/\(0<=off/\off<=11)/\(cnt L ps (max (mid-off) (-1))=(sh3 L ps).2.2 \/ cnt L ps (min (mid+off) 9)=(sh3 L ps).2.2):=by
 intro mid off
 have hb:=shown_bd h
 have hsp:=shown_spec h
 rw [hs] at hb hsp
 dsimp only at hb hsp
 have hm:mid=(f+l+18) / 2-9:=by
  show floorM (f+l)=_
  unfold floorM
  rw [Int.tdiv_eq_ediv_of_nonneg (by omega)]
 have ho:off=max (mid-f) (l-mid):=rfl
 refine ⟨by omega,by omega,?_⟩
 rcases Int.le_total (mid-f) (l-mid) with hc | hc
 ·right
  have:min (mid+off) 9=l:=by omega
  rw [this];exact hsp.lc
 ·left
  have:max (mid-off) (-1)=f:=by omega
  rw [this];exact hsp.fc
theorem countP_set_le {α : Type} (p : α->Bool):∀ (l:List α) (i:Nat) (a : α),(l.set i a).countP p<=l.countP p+1
 | [],_,_=>by simp
 | x::r,0,a=>by
  simp only [List.set_cons_zero,List.countP_cons]
  split <;> split <;> omega
 | x::r,i+1,a=>by
  have:=countP_set_le p r i a
  simp only [List.set_cons_succ,List.countP_cons]
  omega
theorem flip_zip {a r:List Int} (h:a.length=r.length) {i:Nat} (hi:i<r.length) (y:Int):a.zip (r.set i y)=(a.zip r).set i (a[i],y):=by
 rw [<-zip_set,List.set_getElem_self]
theorem flip_ok {L a r:List Int} (h:a.length=r.length) {i:Nat} (hi:i<r.length) (hO:Ok L (a.zip r)):Ok L (a.zip (r.set i (1-r[i]))):=by
 have hz:i<(a.zip r).length:=by rw [List.length_zip];omega
 have hm:(a[i],r[i]) ∈ a.zip r:=by
  have:=List.getElem_mem hz
  rwa [List.getElem_zip] at this
 have hb:=hO.rng _ hm
 dsimp only at hb
 refine ⟨hO.valid,fun p hp=>?_,?_⟩
 ·rw [flip_zip h hi] at hp
  rcases List.mem_or_eq_of_mem_set hp with hp | rfl
  ·exact hO.rng p hp
  ·dsimp only;omega
 ·have e1:(a.zip (r.set i (1-r[i]))).map (·.1)=a:=List.map_fst_zip (by rw [List.length_set];omega)
  have e2:(a.zip r).map (·.1)=a:=List.map_fst_zip (by omega)
  rw [e1,<-e2];exact hO.nodup
theorem flip_bd {L a r:List Int} (h:a.length=r.length) {i:Nat} (hi:i<r.length) (hO:Ok L (a.zip r)):0<=r[i]/\r[i]<=1:=by
 have hz:i<(a.zip r).length:=by rw [List.length_zip];omega
 have hm:(a[i],r[i]) ∈ a.zip r:=by
  have:=List.getElem_mem hz
  rwa [List.getElem_zip] at this
 exact ⟨(hO.rng _ hm).2.2.1,(hO.rng _ hm).2.2.2⟩
theorem flip_cnt {L a r:List Int} (h:a.length=r.length) {i:Nat} (hi:i<r.length) (y lev:Int):cnt L (a.zip (r.set i y)) lev<=cnt L (a.zip r) lev+1:=by
 rw [flip_zip h hi]
 exact countP_set_le _ _ _ _
theorem flip_best {L a r:List Int} (h:a.length=r.length) (hl:r.length<=L.length) {i:Nat} (hi:i<r.length) (y:Int):(sh3 L (a.zip (r.set i y))).2.2<=(sh3 L (a.zip r)).2.2+1:=by
 have h1:=shown_spec (L:=L) (ps:=a.zip r) (by rw [List.length_zip];omega)
 have hb1:=shown_bd (L:=L) (ps:=a.zip r) (by rw [List.length_zip];omega)
 have h2:=shown_spec (L:=L) (ps:=a.zip (r.set i y)) (by rw [List.length_zip,List.length_set];omega)
 have:=h2.le (shown L (a.zip r)).1 (by omega) (by omega)
 have:=flip_cnt (L:=L) h hi y (shown L (a.zip r)).1
 have:=h1.fc
 omega
end A42
namespace Go.Proofs.Ytdadmhahbeehhaa
open Go.RowKit Dak A42
theorem min_if (a b:Int):(if b<a then b else a)=min a b:=by split <;> omega
theorem max_if (a b:Int):(if a<b then b else a)=max a b:=by split <;> omega
theorem level_of {L a r:List Int} (he:a.length=r.length) (hO:Ok L (a.zip r)):∃ mid off:Int,LevelM L a r=(mid,off,0)/\(-1<=mid/\mid<=9)/\(0<=off/\off<=11) /\
 (cnt L (a.zip r) (max (mid-off) (-1))=(sh3 L (a.zip r)).2.2 \/ cnt L (a.zip r) (min (mid+off) 9)=(sh3 L (a.zip r)).2.2):=by
 obtain ⟨s,hs⟩:∃ s,shown L (a.zip r)=s:=⟨_,rfl⟩
 obtain ⟨f,l⟩:=s
 obtain ⟨h1,h2,h3⟩:=level_facts hO.len hs
 refine ⟨_,_,?_,h1,h2,h3⟩
 unfold LevelM
 rw [if_pos (ok_iff.2 ⟨he,hO⟩),hs]
set_option maxHeartbeats 4000000 in
theorem AdaptiveSlips_s (l m k:List Int) (at_:Int) (hl:∀ x ∈ l,I64 x) (hm:∀ x ∈ m,I64 x) (hk:∀ x ∈ k,I64 x) (ha:I64 at_):Ctr Try.lprog 7 [vints l,vints m,vints k,vi at_] (vb true):=by
 have hlen:=levels_len l
 have hI:=some_I (levelsM l) m
 have hIl:=hI.len
 have hLe:=Levels_s l hl
 have hSo:=Some_s (levelsM l) m (by omega) hm
 have hRi:=rights_n k (someM (levelsM l) m).length hk (by omega)
 have hRl:=rights_len k (someM (levelsM l) m).length
 have hO:=gen_ok l m k
 generalize rightsK k (someM (levelsM l) m).length=R at *
 generalize someM (levelsM l) m=A at *
 generalize levelsM l=L at *
 have hAR:A.length=R.length:=hRl.symm
 obtain ⟨N,hN⟩:∃ N,A.length=N:=⟨_,rfl⟩
 rw [hN] at hRi hRl hIl
 have hN20:N<=20:=by omega
 obtain ⟨mid,off,hlv,⟨m1,m2⟩,⟨o1,o2⟩,hdis⟩:=level_of hAR hO
 have hLv:=Level_s L A R (by omega) (by omega) (by omega)
 rw [hlv] at hLv
 have hps:(A.zip R).length=N:=by rw [List.length_zip];omega
 have hbl:=best_le (L:=L) (ps:=A.zip R) (by omega)
 have hmn:=mn_best (L:=L) (ps:=A.zip R) (by omega) (by omega)
 have hag:=fun lev=>against_s L A R lev hAR hO
 have hcl:=fun lev=>cnt_le (L:=L) (ps:=A.zip R) lev
 obtain ⟨best,hbest⟩:∃ b,(sh3 L (A.zip R)).2.2=b:=⟨_,rfl⟩
 rw [hbest] at hbl hmn hdis
 replace hdis:hid _:=hdis
 rw [hps] at hbl hcl
 refine specC f7 (by simp) fun F0 w0=>?_
 unfold c7
 refine CwpE.cut (st:=⟨[(0,vints l),(1,vints m),(2,vints k),(3,vi at_)],[]⟩) ?_ ?_
 ·simp only [go_sem]
  exact ⟨_,WkE.kp,rfl⟩
 refine CwpE.cut (st:=⟨[(1,vints m),(2,vints k),(3,vi at_),(9,vints L)],[]⟩) ?_ ?_
 ·simp only [go_sem]
  refine callT hLe rfl ?_
  simp only [go_sem]
  exact ⟨_,WkE.kp,rfl⟩
 refine CwpE.cut (st:=⟨[(2,vints k),(3,vi at_),(9,vints L),(10,vints A)],[]⟩) ?_ ?_
 ·simp only [go_sem]
  refine callT hSo rfl ?_
  simp only [go_sem]
  exact ⟨_,WkE.kp,rfl⟩
 have sh0:AV.shift 0 (.own 0 N 0 N) = .own 0 N 0 N:=by simp [AV.shift,AV.shift1]
 refine CwpE.cut (st:=⟨[(3,vi at_),(9,vints L),(10,vints A),(11,.own 0 N 0 N)],[.arr N 1 3 (R.map vi)]⟩) ?_ ?_
 ·simp only [go_sem,List.length_map,hN]
  refine callNew hRi (snaps_self [vints k,vi N] rfl _) ?_
  simp only [go_sem,sh0,sh_ints,List.length_nil,List.map_cons,List.map_nil,List.nil_append]
  exact ⟨_,WkE.kp,rfl⟩
 refine CwpE.cut (st:=⟨[(3,vi at_),(9,vints L),(10,vints A),(11,.own 0 N 0 N),(12,.ptr [vints L])],[.arr N 1 3 (R.map vi),.dead]⟩) ?_ ?_
 ·simp only [go_sem]
  refine ⟨_,(WkE.freezeS 12 1 1 1 30 [vbank L] _ (.ptr [vints L]) (by omega) rfl rfl (.ref _ _ _ _ _ _ rfl rfl fun i h1 h2=>by match i,h1 with | 0,_=>exact .tree _ rfl)).trans (WkE.keep ?_),rfl⟩
  simp only [go_sem];try trivial
 have sR:Snap [.arr N 1 3 (R.map vi),.dead] (.own 0 N 0 N) (vints R):=snapInts 0 N R rfl (by omega)
 refine CwpE.cut (st:=⟨[(3,vi at_),(9,vints L),(10,vints A),(11,.own 0 N 0 N),(12,.ptr [vints L]),(13,vi mid),(14,vi off),(15,vi 0)],[.arr N 1 3 (R.map vi),.dead]⟩) ?_ ?_
 ·simp only [go_sem]
  refine callF hLv (.cons (.tree _ rfl) (.cons (.tree _ rfl) (.cons sR .nil))) rfl ?_
  simp only [go_sem]
  exact ⟨_,WkE.kp,rfl⟩
 have q1:¬ mid < -1:=by omega
 have q2:¬ 9<mid:=by omega
 have q3:¬ off<0:=by omega
 have q4:¬ 11<off:=by omega
 refine CwpE.cut (st:=⟨[(3,vi at_),(9,vints L),(10,vints A),(11,.own 0 N 0 N),(12,.ptr [vints L]),(13,vi mid),(14,vi off)],[.arr N 1 3 (R.map vi),.dead]⟩) ?_ ?_
 ·simp only [go_sem,q1,q2,q3,q4]
  exact ⟨_,WkE.kp,rfl⟩
 refine CwpE.cut (st:=⟨[(3,vi at_),(9,vints L),(10,vints A),(11,.own 0 N 0 N),(12,.ptr [vints L]),(13,vi mid),(14,vi off),(16,vi N)],[.arr N 1 3 (R.map vi),.dead]⟩) ?_ ?_
 ·simp only [go_sem,List.length_map,hN]
  exact ⟨_,WkE.kp,rfl⟩
 refine CwpE.step (fun s=>s=⟨[(3,vi at_),(9,vints L),(10,vints A),(11,.own 0 N 0 N),(12,.ptr [vints L]),(13,vi mid),(14,vi off),(16,vi best)],[.arr N 1 3 (R.map vi),.dead]⟩) ?_ ?_
 ·simp only [go_sem]
  have st0:min (N:Int) (mnK L (A.zip R) 0)=N:=by show min (N:Int) 1048576=N;omega
  refine loopX 0 (fun m s=>∃ j:Nat,m=11-j/\j<=11/\s=⟨[(3,vi at_),(9,vints L),(10,vints A),(11,.own 0 N 0 N),(12,.ptr [vints L]),(13,vi mid),(14,vi off),(16,vi (min (N:Int) (mnK L (A.zip R) j))),(17,vi (-1+(j:Int)))],[.arr N 1 3 (R.map vi),.dead]⟩)
   (fun s=>s=⟨[(3,vi at_),(9,vints L),(10,vints A),(11,.own 0 N 0 N),(12,.ptr [vints L]),(13,vi mid),(14,vi off),(16,vi best)],[.arr N 1 3 (R.map vi),.dead]⟩) 11 ⟨[(3,vi at_),(9,vints L),(10,vints A),(11,.own 0 N 0 N),(12,.ptr [vints L]),(13,vi mid),(14,vi off),(16,vi (min (N:Int) (mnK L (A.zip R) 0))),(17,vi (-1+((0:Nat):Int)))],[.arr N 1 3 (R.map vi),.dead]⟩ ?_ ⟨0,rfl,by omega,rfl⟩ ?_ ?_
  ·rw [st0]
   exact WkE.keep ⟨rfl,rfl,rfl,rfl,rfl,rfl,rfl,rfl,rfl,trivial⟩
  rotate_left
  ·rintro s rfl
   simp only [go_sem]
   exact ⟨_,.refl _ _,rfl⟩
  rintro m s ⟨j,rfl,hj,rfl⟩
  by_cases hlt:j<11
  rotate_left
  ·obtain rfl:j=11:=by omega
   have e1 : -1+((11:Nat):Int)=10:=rfl
   have e2:min (N:Int) (mnK L (A.zip R) 11)=best:=by rw [hmn];omega
   rw [e1,e2]
   simp only [go_sem,Int.reduceNeg,Int.lt_irrefl]
   exact ⟨_,WkE.keep (env':=[(3,vi at_),(9,vints L),(10,vints A),(11,.own 0 N 0 N),(12,.ptr [vints L]),(13,vi mid),(14,vi off),(16,vi best)]) (by simp only [go_sem];try trivial),rfl⟩
  have hst:=mnK_step L (A.zip R) hlt
  unfold mnS at hst
  have g1 : -1+(j:Int)<10:=by omega
  have w1:IntKind.i64.wrap (-1+(j:Int)+1) = -1+((j+1:Nat):Int):=by rw [wrap_id (by omega) (by omega)];omega
  obtain ⟨b,hb⟩:∃ b,mnK L (A.zip R) j=b:=⟨_,rfl⟩
  obtain ⟨b2,hb2⟩:∃ b,mnK L (A.zip R) (j+1)=b:=⟨_,rfl⟩
  obtain ⟨lev,hlev⟩:∃ lev,-1+(j:Int)=lev:=⟨_,rfl⟩
  rw [hlev] at g1 w1 hst
  rw [hlev,hb]
  rw [hb,hb2] at hst
  have e3:min (min (N:Int) b) ((cnt L (A.zip R) lev:Nat):Int)=min (N:Int) b2:=by omega
  simp only [go_sem,g1]
  refine callF (hag lev) (.cons (.tree _ rfl) (.cons (.tree _ rfl) (.cons sR (.cons (.tree _ rfl) .nil)))) rfl ?_
  simp only [go_sem,w1,min_if,e3]
  exact ⟨11-(j+1),_,by omega,WkE.keep (env':=[(3,vi at_),(9,vints L),(10,vints A),(11,.own 0 N 0 N),(12,.ptr [vints L]),(13,vi mid),(14,vi off),(16,vi (min (N:Int) b2)),(17,vi (-1+((j+1:Nat):Int)))]) (by simp only [go_sem];try trivial),j+1,rfl,by omega,by rw [hb2]⟩
 rintro _ rfl
 have wa:IntKind.i64.wrap (mid-off)=mid-off:=wrap_id (by omega) (by omega)
 have wb:IntKind.i64.wrap (mid+off)=mid+off:=wrap_id (by omega) (by omega)
 refine CwpE.cut (st:=⟨[(3,vi at_),(9,vints L),(10,vints A),(11,.own 0 N 0 N),(12,.ptr [vints L]),(16,vi best)],[.arr N 1 3 (R.map vi),.dead]⟩) ?_ ?_
 ·simp only [go_sem,wa,max_if]
  refine callF (hag _) (.cons (.tree _ rfl) (.cons (.tree _ rfl) (.cons sR (.cons (.tree _ rfl) .nil)))) rfl ?_
  by_cases hc:cnt L (A.zip R) (max (mid-off) (-1))=best
  ·have hc':((cnt L (A.zip R) (max (mid-off) (-1)):Nat):Int)=(best:Int):=by omega
   simp only [go_sem,hc']
   exact ⟨_,WkE.kp,rfl⟩
  ·have hc':¬ ((cnt L (A.zip R) (max (mid-off) (-1)):Nat):Int)=(best:Int):=by omega
   have hd:((cnt L (A.zip R) (min (mid+off) 9):Nat):Int)=(best:Int):=by have h:=Or.resolve_left hdis hc;rw [h]
   simp only [go_sem,hc',wb,min_if]
   refine callF (hag _) (.cons (.tree _ rfl) (.cons (.tree _ rfl) (.cons sR (.cons (.tree _ rfl) .nil)))) rfl ?_
   simp only [go_sem,hd]
   exact ⟨_,WkE.kp,rfl⟩
 by_cases hN0:N=0
 ·have n0:((N:Int)=0)=True:=eq_true (by omega)
  have b0:((best:Int)=0)=True:=eq_true (by omega)
  refine CwpE.vc ?_
  simp only [go_sem,List.length_map,hN,n0,b0]
  refine callT lives_s rfl ?_
  simp only [go_sem]
  exact .tree _ rfl
 have n0:¬ (N:Int)=0:=by omega
 refine CwpE.cut (st:=⟨[(3,vi at_),(9,vints L),(10,vints A),(11,.own 0 N 0 N),(12,.ptr [vints L]),(16,vi best)],[.arr N 1 3 (R.map vi),.dead]⟩) ?_ ?_
 ·simp only [go_sem,List.length_map,hN,n0]
  exact ⟨_,WkE.kp,rfl⟩
 have hA1:=Around_s at_ N ha ⟨by omega,by omega⟩
 have bA1:=aroundL_bd at_ N (by omega)
 obtain ⟨i,hii⟩:∃ i:Nat,aroundL at_ N=i:=⟨(aroundL at_ N).toNat,by omega⟩
 rw [hii] at hA1 bA1
 have hiR:i<R.length:=by omega
 have i0:(0:Int)<=(i:Int):=by omega
 have i1:(i:Int)<(N:Int):=by omega
 have hgi:=mget hiR
 have hsi:=mset R i (1-R[i])
 have hfo:=flip_ok hAR hiR hO
 have hRi2:=flip_bd hAR hiR hO
 have w2:IntKind.i64.wrap (1-R[i])=1-R[i]:=wrap_id (by omega) (by omega)
 have hR2l:(R.set i (1-R[i])).length=N:=by rw [List.length_set];omega
 have hLb:R.length<=L.length:=by omega
 have hfb:∀ b2,(sh3 L (A.zip (R.set i (1-R[i])))).2.2=b2->b2<=best+1:=fun b2 e=>by
  have:=flip_best (L:=L) hAR hLb hiR (1-R[i])
  rw [e] at this
  exact Nat.le_trans this (Nat.le_of_eq (congrArg (·+1) hbest))
 generalize R[i]=x at hgi hsi hfo hfb w2 hR2l
 refine CwpE.cut (st:=⟨[(9,vints L),(10,vints A),(11,.own 0 N 0 N),(12,.ptr [vints L]),(16,vi best),(18,vi i)],[.arr N 1 3 (R.map vi),.dead]⟩) ?_ ?_
 ·simp only [go_sem]
  refine callF hA1 (.cons (.tree _ rfl) (.cons (.tree _ rfl) .nil)) rfl ?_
  simp only [go_sem]
  exact ⟨_,WkE.kp,rfl⟩
 refine CwpE.cut (st:=⟨[(9,vints L),(10,vints A),(11,.own 0 N 0 N),(12,.ptr [vints L]),(16,vi best)],[.arr N 1 3 ((R.set i (1-x)).map vi),.dead]⟩) ?_ ?_
 ·simp only [go_sem,i0,i1,hgi,w2,hsi]
  exact ⟨_,WkE.kp,rfl⟩
 generalize R.set i (1-x)=R2 at *
 obtain ⟨best2,hbest2⟩:∃ b,(sh3 L (A.zip R2)).2.2=b:=⟨_,rfl⟩
 replace hfb:=hfb best2 hbest2
 obtain ⟨mid2,off2,hlv2,⟨m3,m4⟩,⟨o3,o4⟩,hdis2⟩:=level_of (by omega) hfo
 rw [hbest2] at hdis2
 replace hdis2:hid _:=hdis2
 have hLv2:=Level_s L A R2 (by omega) (by omega) (by omega)
 rw [hlv2] at hLv2
 have hag2:=fun lev=>against_s L A R2 lev (by omega) hfo
 have hcl2:=fun lev=>cnt_le (L:=L) (ps:=A.zip R2) lev
 have sR2:Snap [.arr N 1 3 (R2.map vi),.dead] (.own 0 N 0 N) (vints R2):=snapInts 0 N R2 rfl (by omega)
 refine CwpE.cut (st:=⟨[(9,vints L),(10,vints A),(11,.own 0 N 0 N),(13,vi mid2),(14,vi off2),(15,vi 0),(16,vi best)],[.arr N 1 3 (R2.map vi),.dead]⟩) ?_ ?_
 ·simp only [go_sem]
  refine callF hLv2 (.cons (.tree _ rfl) (.cons (.tree _ rfl) (.cons sR2 .nil))) rfl ?_
  simp only [go_sem]
  exact ⟨_,WkE.kp,rfl⟩
 refine CwpE.cut (st:=⟨[(9,vints L),(10,vints A),(11,.own 0 N 0 N),(13,vi mid2),(14,vi off2),(16,vi best)],[.arr N 1 3 (R2.map vi),.dead]⟩) ?_ ?_
 ·simp only [go_sem]
  exact ⟨_,WkE.kp,rfl⟩
 have wc:IntKind.i64.wrap (mid2-off2)=mid2-off2:=wrap_id (by omega) (by omega)
 have wd:IntKind.i64.wrap (mid2+off2)=mid2+off2:=wrap_id (by omega) (by omega)
 have we:IntKind.i64.wrap ((best:Int)+1)=best+1:=wrap_id (by omega) (by omega)
 obtain ⟨c1,hc1⟩:∃ c,cnt L (A.zip R2) (max (mid2-off2) (-1))=c:=⟨_,rfl⟩
 obtain ⟨c2,hc2⟩:∃ c,cnt L (A.zip R2) (min (mid2+off2) 9)=c:=⟨_,rfl⟩
 have ha1:=hag2 (max (mid2-off2) (-1))
 have ha2:=hag2 (min (mid2+off2) 9)
 unfold hid at hdis2
 rw [hc1] at ha1 hdis2
 rw [hc2] at ha2 hdis2
 have hle:min (c1:Int) (c2:Int)<=(best:Int)+1:=by
  rcases hdis2 with h | h <;> rw [h] <;> omega
 refine CwpE.vc ?_
 simp only [go_sem,wc,max_if]
 refine callF ha1 (.cons (.tree _ rfl) (.cons (.tree _ rfl) (.cons sR2 (.cons (.tree _ rfl) .nil)))) rfl ?_
 simp only [go_sem,wd,min_if]
 refine callF ha2 (.cons (.tree _ rfl) (.cons (.tree _ rfl) (.cons sR2 (.cons (.tree _ rfl) .nil)))) rfl ?_
 simp only [go_sem,we,min_if,hle]
 refine callT lives_s rfl ?_
 simp only [go_sem]
 exact .tree _ rfl
end Go.Proofs.Ytdadmhahbeehhaa
