/- Lemmas used by all laws. -/
import Derived.Test.YtjilachpkjlhdaaJa
import Derived.Test.YtjilachpkjlhdaaJb
import Derived.Test.YtjilachpkjlhdaaJc
import Derived.Test.YtjilachpkjlhdaaJd
import Derived.Test.YtjilachpkjlhdaaJe
import Derived.Test.YtjilachpkjlhdaaJf
import Derived.DataReads
set_option linter.unusedSimpArgs false
set_option linter.unusedVariables false
set_option linter.unusedSectionVars false
set_option maxRecDepth 100000
namespace Go.Proofs.Ytjilachpkjlhdaa
open Go.RowKit Dak P5
set_option maxHeartbeats 4000000 in
theorem Not_s (a:Au) (ha:SzA a):Ctr Try.prog 35 [vau a] (vae (P5.notM a)):=by
 refine specC f35 (by simp) fun F0 w0=>?_
 have hfa:=Fixed_s a ha
 unfold P5.notM
 obtain ⟨c,e,hc⟩:∃ c e,fixedM a=(c,e):=⟨_,_,rfl⟩
 have hco:=fixed_ok (a:=a)
 have hcn:=fixed_norm (a:=a)
 rw [hc] at hfa hco hcn ⊢
 simp only at hco hcn ⊢
 unfold c35
 refine CwpE.cut (st:=⟨[(1,.ref 0 1 0 0),(2,.ref 1 1 0 0),(3,vi 0)],[oX a,.arr 1 3 34 [nil3]]⟩) ?_ ?_
 ·simp only [go_sem]
  exact ⟨_,WkE.kp,rfl⟩
 refine CwpE.cut (st:=⟨[(1,.ref 0 1 0 0),(2,.ref 1 1 0 0),(3,vi 0),(4,.ref 2 1 0 0),(5,vi e)],[oX a,.arr 1 3 34 [nil3],oX c]⟩) ?_ ?_
 ·simp only [go_sem]
  refine callT hfa rfl ?_
  simp only [go_sem]
  exact ⟨_,WkE.kp,rfl⟩
 by_cases he:e=0
 rotate_left
 ·rw [if_neg he]
  refine CwpE.vc ?_
  simp only [go_sem,he]
  exact snap_tup2 nil_snap (.tree _ rfl)
 subst he
 rw [if_pos rfl]
 obtain ⟨c1,c2,c3,_⟩:=hco rfl
 obtain ⟨va,g,d,h1,h2,h3,h4,h5,_⟩:=hcn rfl
 have htab:tabG c=g:=by rw [(Prod.mk.inj h3).1];exact tab_auOf h4.ok
 have k1:=fixedg_n c c1 c2
 have tl1:(tabM c).length=c.acc.length:=(tabM_ok c1 c2).len
 have tr1:=(tabM_ok c1 c2).row
 obtain ⟨y,hy⟩:∃ y:Nat,c.sy=(y:Int):=⟨c.sy.toNat,by have:=c1.sy;omega⟩
 have hyT:c.sy.toNat=y:=by omega
 have hyb:=c1.sy
 have hnb:=c1.n
 obtain ⟨n,hn⟩:∃ n,c.acc.length=n:=⟨_,rfl⟩
 obtain ⟨T,hT⟩:∃ T,tabM c=T:=⟨_,rfl⟩
 have hg:g=⟨y,c.acc,T⟩:=by rw [<-htab,tabG,hyT,hT]
 rw [hyT,hT,hn,hy] at k1
 rw [hT,hn] at tl1
 rw [hT,hyT] at tr1
 refine CwpE.cut (st:=⟨[(1,.ref 0 1 0 0),(2,.ref 1 1 0 0),(3,vi 0),(4,.ref 2 1 0 0)],[oX a,.arr 1 3 34 [nil3],oX c]⟩) ?_ ?_
 ·simp only [go_sem]
  exact ⟨_,WkE.kp,rfl⟩
 have hR1:(T.map (orow y)).length=n:=by rw [List.length_map,tl1]
 refine CwpE.cut (st:=⟨[(1,.ref 0 1 0 0),(2,.ref 1 1 0 0),(3,vi 0),(6,.ref 2 1 0 0)],objsV a (.agg [vi y,vbools c.acc,.own 3 n 0 n]) n n (rg n fun q=>.own (q+4) y 0 y) (T.map (orow y))⟩) ?_ ?_
 ·simp only [go_sem]
  refine callNew (cap:=[]) (args:=[vau c]) k1 (.cons (.tree _ rfl) .nil) ?_
  have hA0:∀ o:AObj,(T.map (orow y)++[o])[n]? = some o:=fun o=>by rw [List.getElem?_append_right (by rw [List.length_map];omega),List.length_map,tl1,Nat.sub_self];rfl
  have hA2:∀ o x:AObj,(T.map (orow y)++[o]).set n x=T.map (orow y)++[x]:=fun o x=>by rw [List.set_append_right _ _ (by rw [List.length_map];omega),List.length_map,tl1,Nat.sub_self];rfl
  simp only [go_sem,AV.shift,AV.shift1,newsG_shift,Nat.zero_add,tl1,hA0,hA2]
  refine ⟨_,WkE.rename (fun k=>if k=2 then n+4 else k) (objsV_ren (oc:=oX c) tl1) (objsV_inR tl1) ?_,rfl⟩
  exact ⟨rfl,rfl,rfl,rfl,rfl,rfl,rfl,rfl,trivial⟩
 refine CwpE.cut (st:=⟨[(1,.ref 0 1 0 0),(2,.ref 1 1 0 0),(3,vi 0),(6,.ref 2 1 0 0),(7,vi n)],objsV a (gcV y n c.acc) n n (toV4 y n) (T.map (orow y))⟩) ?_ ?_
 ·simp only [go_sem]
  exact ⟨_,WkE.kp,rfl⟩
 have hrep:=Repeat_s (n:Int) y (by omega) (by omega)
 have hasy:a.sy=(y:Int):=by omega
 obtain ⟨T2,hT2⟩:∃ T2,T2=T++[List.replicate y (n:Int)]:=⟨_,rfl⟩
 have tl2:T2.length=n+1:=by rw [hT2,List.length_append,tl1];rfl
 have hT2m:T.map (orow y)++[orow y (List.replicate y (n:Int))]=T2.map (orow y):=by rw [hT2,List.map_append];rfl
 have hto2:toV4 y n++[.own (n+4) y 0 y]=toV4 y (n+1):=by rw [toV4,toV4,rg_succ]
 have tol:(toV4 y n).length=n:=rg_len _ _
 refine CwpE.cut (st:=⟨[(1,.ref 0 1 0 0),(2,.ref 1 1 0 0),(3,vi 0),(6,.ref 2 1 0 0),(7,vi n)],objsV a (.agg [vi y,vbools c.acc,.own 3 (n+1) 0 (n+1)]) (n+1) (n+1) (toV4 y (n+1)) (T2.map (orow y))⟩) ?_ ?_
 ·generalize toV4 y n=M at hto2 tol ⊢
  generalize hRg:T.map (orow y)=R at hT2m hR1 ⊢
  simp only [go_sem,hasy]
  refine callNew (cap:=[]) (args:=[.list 1 [vi n],vi y]) hrep (.cons (.tree _ rfl) (.cons (.tree _ rfl) .nil)) ?_
  have hsh:(List.replicate y (vi n)).map (AV.shift (n+4))=(List.replicate y (n:Int)).map vi:=by rw [List.map_replicate,List.map_replicate];rfl
  have hR2l:(T2.map (orow y)).length=n+1:=by rw [List.length_map,tl2]
  have hR2i:(T2.map (orow y))[n]? = some (.arr y 1 3 ((List.replicate y (n:Int)).map vi)):=by rw [<-hT2m,<-hR1,List.getElem?_concat_length]
  have hin4:((T2.map (orow y)).all fun o=>o.innO (n+5))=true:=List.all_eq_true.2 fun o ho=>by
   obtain ⟨r,_,rfl⟩:=List.mem_map.1 ho
   exact inn_map fun _=>rfl
  generalize T2.map (orow y)=R2 at hT2m hR2l hR2i hin4 ⊢
  have hB0:∀ o:AObj,(R2++[o])[n]? = some (.arr y 1 3 ((List.replicate y (n:Int)).map vi)):=fun o=>by rw [List.getElem?_append_left (by omega),hR2i]
  have hB1:∀ o:AObj,(R2++[o])[n+1]? = some o:=fun o=>by rw [<-hR2l,List.getElem?_concat_length]
  have qa:(n+1)*24<=140737488355328:=by omega
  simp only [go_sem,AV.shift,AV.shift1,AObj.shiftO,Nat.zero_add,hR1,hsh,hT2m,hR2i,hR2l,beq_self_eq_true,hB1,qa,hto2,tol]
  refine ⟨_,objsV_drop (n:=n+1) (by rw [hR2l];simp [AV.inn,AV.inn1]) (by rw [hR2l];exact rg_all fun q hq=>by simp [AV.inn,AV.inn1];omega) (by rw [hR2l];exact hin4) (by simp only [go_sem];try rfl) (by rw [hR2l];simp [AV.inn,AV.inn1]),rfl⟩
 have hR2l:(T2.map (orow y)).length=n+1:=by rw [List.length_map,tl2]
 obtain ⟨A2,hA2⟩:∃ A2,A2=c.acc++[false]:=⟨_,rfl⟩
 have al2:A2.length=n+1:=by rw [hA2,List.length_append,hn];rfl
 have hcl:=Clone67_n c.acc (by omega)
 rw [hn] at hcl
 have hA2m:c.acc.map vb++[vb false]=A2.map vb:=by rw [hA2,List.map_append];rfl
 refine CwpE.cut (st:=⟨[(1,.ref 0 1 0 0),(2,.ref 1 1 0 0),(3,vi 0),(6,.ref 2 1 0 0),(7,vi n)],objsV a (.agg [vi y,.own (n+5) (n+1) 0 (n+1),.own 3 (n+1) 0 (n+1)]) (n+1) (n+1) (toV4 y (n+1)) (T2.map (orow y)++[.arr (n+1) 1 4 (A2.map vb)])⟩) ?_ ?_
 ·generalize T2.map (orow y)=R2 at hR2l ⊢
  have hB1:∀ o:AObj,(R2++[o])[n+1]? = some o:=fun o=>by rw [<-hR2l,List.getElem?_concat_length]
  have hB2:∀ o x:AObj,(R2++[o]).set (n+1) x=R2++[x]:=fun o x=>by rw [<-hR2l];simp
  have qa:(n+1)*1<=140737488355328:=by omega
  have hal:(c.acc.map vb).length=n:=by rw [List.length_map,hn]
  simp only [go_sem]
  refine callNew (cap:=[]) (args:=[vbools c.acc]) hcl (.cons (.tree _ rfl) .nil) ?_
  simp only [go_sem,AV.shift,AV.shift1,AObj.shiftO,Nat.zero_add,shift_map (f:=vb) (fun _=>rfl),hR2l,hB1,hB2,qa,hal,hA2m]
  exact ⟨_,WkE.kp,rfl⟩
 have hA0:=accN_zero al2
 have hT2r:∀ r ∈ T2,r.length=y:=fun r hr=>by
  rw [hT2] at hr
  rcases List.mem_append.1 hr with h | h
  ·exact tr1 r h
  ·rw [List.mem_singleton.1 h,List.length_replicate]
 have hR0:=rowsN_zero (n:=n) tl2 hT2r
 have hAl:=rowsN_all (n:=n) (y:=y) tl2
 have hAA:=accN_all al2
 obtain ⟨N,hN⟩:∃ N,n+1=N:=⟨_,rfl⟩
 have hn5:n+5=N+4:=by omega
 have hNb:N<=257:=by omega
 have hn0:0<=(n:Int):=by omega
 rw [hN] at hA0 hR0 hAl hAA tl2 al2 hR2l
 rw [<-hA0,<-hR0,hn5,hN]
 have hneg:negG g=⟨y,A2.map fun b=>!b,T2.map fun r=>r.map (negT n)⟩:=by
  have:=negG_eq h4.ok
  rw [hg] at this ⊢
  rw [this,hA2,hT2]
  simp only [hn]
 have hmq:∀ q,q<N->(toV4 y N)[q]? = some (.own (q+4) y 0 y):=fun q hq=>rg_get hq _
 have hml:(toV4 y N).length=N:=rg_len _ _
 have RRl:∀ i x (o:AObj),(rowsN n y N T2 i x++[o])[N]? = some o:=fun i x o=>by
  have:=List.getElem?_concat_length (l:=rowsN n y N T2 i x) (a:=o)
  rwa [rowsN_len] at this
 have RRs:∀ i x (o o':AObj),(rowsN n y N T2 i x++[o]).set N o'=rowsN n y N T2 i x++[o']:=fun i x o o'=>by
  rw [List.set_append_right _ _ (by rw [rowsN_len];omega),rowsN_len,Nat.sub_self];rfl
 refine CwpE.step (fun z=>z=⟨[(2,.ref 1 1 0 0),(6,.ref 2 1 0 0)],objsV a (.agg [vi y,.own (N+4) N 0 N,.own 3 N 0 N]) N N (toV4 y N) (rowsN n y N T2 N 0++[.arr N 1 4 (accN N A2 N)])⟩) ?_ ?_
 rotate_left
 ·rintro _ rfl
  rw [hAl,hAA]
  obtain ⟨X,hX⟩:=freezeGr (w:=79) (env:=[(2,.ref 1 1 0 0),(6,.ref 2 1 0 0)]) (oX a) (.arr 1 3 34 [nil3]) N y (T2.map fun r=>r.map (negT n)) (A2.map fun b=>!b) (by rw [List.length_map];exact tl2) (by rw [List.length_map];exact al2) (fun r hr=>by
   obtain ⟨u,hu,rfl⟩:=List.mem_map.1 hr
   rw [List.length_map];exact hT2r u hu)
  refine CwpE.wk hX ?_
  rw [<-hneg]
  have nok:=neg_ok h4.ok
  have nl:(negG g).acc.length<=257:=by rw [hneg];simp only [List.length_map];omega
  have ns:(negG g).sy=y:=by rw [hneg]
  have hls:=least_s (negG g) nok nl (by omega)
  rw [leastP_R nok nl] at hls
  rw [htab]
  generalize negG g=G at hls
  refine CwpE.vc ?_
  simp only [go_sem]
  refine callT hls rfl ?_
  simp only [go_sem]
  exact snap_tup2 (.tree _ rfl) (.tree _ rfl)
 obtain ⟨M,hM⟩:∃ M,toV4 y N=M:=⟨_,rfl⟩
 rw [hM] at hmq hml ⊢
 simp only [go_sem]
 refine loopX 0 (fun m z=>∃ i:Nat,m=N-i/\i<=N/\z=⟨[(1,.ref 0 1 0 0),(2,.ref 1 1 0 0),(6,.ref 2 1 0 0),(7,vi n),(43,.own 3 N 0 N),(44,vi N),(45,vi i)],objsV a (.agg [vi y,.own (N+4) N 0 N,.own 3 N 0 N]) N N M (rowsN n y N T2 i 0++[.arr N 1 4 (accN N A2 i)])⟩)
  (fun z=>z=⟨[(2,.ref 1 1 0 0),(6,.ref 2 1 0 0)],objsV a (.agg [vi y,.own (N+4) N 0 N,.own 3 N 0 N]) N N M (rowsN n y N T2 N 0++[.arr N 1 4 (accN N A2 N)])⟩) N
  ⟨[(1,.ref 0 1 0 0),(2,.ref 1 1 0 0),(6,.ref 2 1 0 0),(7,vi n),(43,.own 3 N 0 N),(44,vi N),(45,vi (0:Nat))],objsV a (.agg [vi y,.own (N+4) N 0 N,.own 3 N 0 N]) N N M (rowsN n y N T2 0 0++[.arr N 1 4 (accN N A2 0)])⟩ (WkE.kp) ⟨0,by omega,by omega,rfl⟩ ?_ ?_
 rotate_left
 ·rintro z rfl
  simp only [go_sem]
  exact ⟨_,.refl _ _,rfl⟩
 rintro m z ⟨i,rfl,hi,rfl⟩
 by_cases hlt:i<N
 rotate_left
 ·obtain rfl:i=N:=by omega
  simp only [go_sem,Int.lt_irrefl]
  exact ⟨_,WkE.kp,rfl⟩
 have g1:(i:Int)<(N:Int):=by omega
 have g0:(0:Int)<=(i:Int):=by omega
 have wi:=wrap_s i (by omega)
 have hMi:=hmq i hlt
 have hag:=accN_get (A:=A2) hlt
 have has:=accN_set (N:=N) (A:=A2) (i:=i)
 have hrn:=rowsN_next (n:=n) tl2 hT2r hlt
 have accl:=accN_len (N:=N) (A:=A2) (i:=i)
 have hrl:(T2.getD i []).length=y:=by
  rw [List.getD_eq_getElem?_getD,List.getElem?_eq_getElem (by omega)]
  exact hT2r _ (List.getElem_mem _)
 have RRi:∀ x (o:AObj),(rowsN n y N T2 i x++[o])[i]? = some (orow y (partN n y x (T2.getD i []))):=fun x o=>by
  rw [List.getElem?_append_left (by rw [rowsN_len];exact hlt),rowsN_get hlt]
 have RRt:∀ x x' (o:AObj),(rowsN n y N T2 i x++[o]).set i (orow y (partN n y x' (T2.getD i [])))=rowsN n y N T2 i x'++[o]:=fun x x' o=>by
  rw [List.set_append_left _ _ (by rw [rowsN_len];exact hlt),rowsN_set]
 have Rl:=RRl i 0 (.arr N 1 4 (accN N A2 i))
 have Rs:=RRs i 0 (.arr N 1 4 (accN N A2 i))
 obtain ⟨r,hr⟩:∃ r,T2.getD i []=r:=⟨_,rfl⟩
 rw [hr] at hrl RRi RRt
 have Ri0:=RRi 0 (.arr N 1 4 (accN N A2 (i+1)))
 simp only [go_sem,g1,g0,hMi,Rl,hag,has,Rs,Ri0,Int.toNat_natCast]
 refine loopX 2 (fun m z=>∃ x:Nat,m=y-x/\x<=y/\z=⟨[(1,.ref 0 1 0 0),(2,.ref 1 1 0 0),(6,.ref 2 1 0 0),(7,vi n),(43,.own 3 N 0 N),(44,vi N),(45,vi i),(9,.own (i+4) y 0 y),(60,.own (i+4) y 0 y),(61,vi y),(62,vi x)],objsV a (.agg [vi y,.own (N+4) N 0 N,.own 3 N 0 N]) N N M (rowsN n y N T2 i x++[.arr N 1 4 (accN N A2 (i+1))])⟩)
  (fun z=>z=⟨[(1,.ref 0 1 0 0),(2,.ref 1 1 0 0),(6,.ref 2 1 0 0),(7,vi n),(43,.own 3 N 0 N),(44,vi N),(45,vi i)],objsV a (.agg [vi y,.own (N+4) N 0 N,.own 3 N 0 N]) N N M (rowsN n y N T2 i y++[.arr N 1 4 (accN N A2 (i+1))])⟩) y
  ⟨[(1,.ref 0 1 0 0),(2,.ref 1 1 0 0),(6,.ref 2 1 0 0),(7,vi n),(43,.own 3 N 0 N),(44,vi N),(45,vi i),(9,.own (i+4) y 0 y),(60,.own (i+4) y 0 y),(61,vi y),(62,vi (0:Nat))],objsV a (.agg [vi y,.own (N+4) N 0 N,.own 3 N 0 N]) N N M (rowsN n y N T2 i 0++[.arr N 1 4 (accN N A2 (i+1))])⟩ ?_ ⟨0,by omega,by omega,rfl⟩ ?_ ?_
 ·exact WkE.kp
 rotate_left
 ·rintro z rfl
  simp only [go_sem,wi]
  exact ⟨N-(i+1),⟨[(1,.ref 0 1 0 0),(2,.ref 1 1 0 0),(6,.ref 2 1 0 0),(7,vi n),(43,.own 3 N 0 N),(44,vi N),(45,vi (i+1:Nat))],objsV a (.agg [vi y,.own (N+4) N 0 N,.own 3 N 0 N]) N N M (rowsN n y N T2 i y++[.arr N 1 4 (accN N A2 (i+1))])⟩,by omega,WkE.kp,i+1,rfl,by omega,by rw [hrn];rfl⟩
 rintro m z ⟨x,rfl,hx,rfl⟩
 by_cases hxy:x<y
 rotate_left
 ·obtain rfl:x=y:=by omega
  simp only [go_sem,Int.lt_irrefl]
  exact ⟨_,WkE.kp,rfl⟩
 have x1:(x:Int)<(y:Int):=by omega
 have x0:(0:Int)<=(x:Int):=by omega
 have wx:=wrap_s x (by omega)
 have hpg:=partN_get (n:=n) (r:=r) hxy
 have Ri:=RRi x (.arr N 1 4 (accN N A2 (i+1)))
 by_cases h0:r.getD x (-1)<0
 ·have hps:=partN_t (n:=n) (y:=y) h0
  have Rt:=RRt x (x+1) (.arr N 1 4 (accN N A2 (i+1)))
  generalize r.getD x (-1)=t at hpg h0
  simp only [go_sem,x1,x0,Ri,hpg,h0,hps,Rt,wx,Int.toNat_natCast]
  exact ⟨y-(x+1),⟨[(1,.ref 0 1 0 0),(2,.ref 1 1 0 0),(6,.ref 2 1 0 0),(7,vi n),(43,.own 3 N 0 N),(44,vi N),(45,vi i),(9,.own (i+4) y 0 y),(60,.own (i+4) y 0 y),(61,vi y),(62,vi (x+1:Nat))],_⟩,by omega,WkE.kp,x+1,rfl,by omega,rfl⟩
 ·have hpf:=partN_f (n:=n) (y:=y) h0
  have e:rowsN n y N T2 i x=rowsN n y N T2 i (x+1):=by
   rw [rowsN,rowsN]
   refine rg_congr fun q _=>?_
   by_cases hq:q=i
   ·rw [hq,hr,hpf]
   ·rw [if_neg hq,if_neg hq]
  generalize r.getD x (-1)=t at hpg h0
  simp only [go_sem,x1,x0,Ri,hpg,h0,wx,Int.toNat_natCast]
  exact ⟨y-(x+1),⟨[(1,.ref 0 1 0 0),(2,.ref 1 1 0 0),(6,.ref 2 1 0 0),(7,vi n),(43,.own 3 N 0 N),(44,vi N),(45,vi i),(9,.own (i+4) y 0 y),(60,.own (i+4) y 0 y),(61,vi y),(62,vi (x+1:Nat))],_⟩,by omega,WkE.kp,x+1,rfl,by omega,by rw [e]⟩
def pairR (a b:Au):Au × Au × Int:=if (twoM a b).1=0 then ((fixedM a).1,(fixedM b).1,0) else (nilA,nilA,(twoM a b).1)
theorem auOf_detA {g:Gr} (h:GrOk g) (hn:g.acc.length<=257) (hy:g.sy<=64):DetA (auOf g) g.acc.length g.sy :=
 ⟨rfl,rfl,by omega,by omega,Nat.le_trans (edl g h) (Nat.le_trans (Nat.mul_le_mul hn hy) (by omega)),fun e he=>by
  obtain ⟨i,x,hi,hx,_,rfl⟩:=(mem_auOf h).1 he
  simp only
  omega⟩
theorem rtable_s {g:Gr} (h:GrOk g) (hn:g.acc.length<=257) (hy:g.sy<=64):Ctr Try.prog 71 [vau (auOf g)] (vrows g.to):=by
 have h1:=table_s (auOf g) _ _ (auOf_detA h hn hy)
 rwa [show tabM (auOf g)=g.to from congrArg Gr.to (tab_auOf h)] at h1
set_option maxHeartbeats 4000000 in
theorem pair_s (a b:Au) (ha:SzA a) (hb:SzA b):Ctr Try.prog 58 [vau a,vau b] (.tup [vau (pairR a b).1,vau (pairR a b).2.1,vi (pairR a b).2.2]):=by
 refine specC f58 (by simp) fun F0 w0=>?_
 have hva:=rValid_s a ha
 have hvb:=rValid_s b hb
 have hfa:=rFixed_s a ha
 have hfb:=rFixed_s b hb
 unfold c58
 refine CwpE.cut (st:=⟨[(2,.ref 0 1 0 0),(3,.ref 1 1 0 0),(4,.ref 2 1 0 0),(5,.ref 3 1 0 0),(6,vi 0)],[oB a,oB b,.arr 1 3 26 [nil3],.arr 1 3 26 [nil3]]⟩) ?_ ?_
 ·simp only [go_sem]
  exact ⟨_,WkE.kp,rfl⟩
 have bad:∀ {e:Int},twoM a b=(e,nilG,nilG)->e ≠ 0->∀ objs,Snap objs (.tup [nil3,nil3,vi e]) (.tup [vau (pairR a b).1,vau (pairR a b).2.1,vi (pairR a b).2.2]):=by
  intro e ht he objs
  rw [pairR,ht]
  simp only
  rw [if_neg he]
  refine .tup _ _ rfl fun i h1 h2=>?_
  match i,h1,h2 with
  | 0,_,_=>exact nil_snap
  | 1,_,_=>exact nil_snap
  | 2,_,_=>exact .tree _ rfl
 refine CwpE.cut (st:=⟨[(2,.ref 0 1 0 0),(3,.ref 1 1 0 0),(4,.ref 2 1 0 0),(5,.ref 3 1 0 0),(6,vi 0),(7,vi (validM a))],[oB a,oB b,.arr 1 3 26 [nil3],.arr 1 3 26 [nil3]]⟩) ?_ ?_
 ·simp only [go_sem]
  refine callT hva rfl ?_
  simp only [go_sem]
  exact ⟨_,WkE.kp,rfl⟩
 by_cases h1:validM a=0
 rotate_left
 ·refine CwpE.vc ?_
  simp only [go_sem,h1]
  exact bad (by rw [twoM];rw [if_neg h1]) h1 _
 refine CwpE.cut (st:=⟨[(2,.ref 0 1 0 0),(3,.ref 1 1 0 0),(4,.ref 2 1 0 0),(5,.ref 3 1 0 0),(6,vi 0)],[oB a,oB b,.arr 1 3 26 [nil3],.arr 1 3 26 [nil3]]⟩) ?_ ?_
 ·simp only [go_sem,h1]
  exact ⟨_,WkE.kp,rfl⟩
 refine CwpE.cut (st:=⟨[(2,.ref 0 1 0 0),(3,.ref 1 1 0 0),(4,.ref 2 1 0 0),(5,.ref 3 1 0 0),(6,vi 0),(7,vi (validM b))],[oB a,oB b,.arr 1 3 26 [nil3],.arr 1 3 26 [nil3]]⟩) ?_ ?_
 ·simp only [go_sem]
  refine callT hvb rfl ?_
  simp only [go_sem]
  exact ⟨_,WkE.kp,rfl⟩
 by_cases h2:validM b=0
 rotate_left
 ·refine CwpE.vc ?_
  simp only [go_sem,h2]
  exact bad (by rw [twoM];rw [if_pos h1,if_neg h2]) h2 _
 refine CwpE.cut (st:=⟨[(2,.ref 0 1 0 0),(3,.ref 1 1 0 0),(4,.ref 2 1 0 0),(5,.ref 3 1 0 0),(6,vi 0)],[oB a,oB b,.arr 1 3 26 [nil3],.arr 1 3 26 [nil3]]⟩) ?_ ?_
 ·simp only [go_sem,h2]
  exact ⟨_,WkE.kp,rfl⟩
 by_cases hs:a.sy=b.sy
 rotate_left
 ·refine CwpE.vc ?_
  simp only [go_sem,hs]
  exact bad (by rw [twoM];rw [if_pos h1,if_pos h2,if_neg hs]) (by omega) _
 refine CwpE.cut (st:=⟨[(2,.ref 0 1 0 0),(3,.ref 1 1 0 0),(4,.ref 2 1 0 0),(5,.ref 3 1 0 0),(6,vi 0)],[oB a,oB b,.arr 1 3 26 [nil3],.arr 1 3 26 [nil3]]⟩) ?_ ?_
 ·simp only [go_sem,hs]
  exact ⟨_,WkE.kp,rfl⟩
 have ht:twoM a b=if (fixedM a).2=0 then if (fixedM b).2=0 then (0,tabG (fixedM a).1,tabG (fixedM b).1) else ((fixedM b).2,nilG,nilG) else ((fixedM a).2,nilG,nilG):=by rw [twoM];rw [if_pos h1,if_pos h2,if_pos hs]
 have hpr:pairR a b=if (twoM a b).1=0 then ((fixedM a).1,(fixedM b).1,0) else (nilA,nilA,(twoM a b).1):=rfl
 obtain ⟨c,e,hc⟩:∃ c e,fixedM a=(c,e):=⟨_,_,rfl⟩
 obtain ⟨d,e',hd⟩:∃ d e,fixedM b=(d,e):=⟨_,_,rfl⟩
 rw [hc] at hfa ht hpr
 rw [hd] at hfb ht hpr
 simp only at ht hpr
 refine CwpE.cut (st:=⟨[(2,.ref 0 1 0 0),(3,.ref 1 1 0 0),(4,.ref 2 1 0 0),(5,.ref 3 1 0 0),(6,vi 0),(8,.ref 4 1 0 0),(9,vi e)],[oB a,oB b,.arr 1 3 26 [nil3],.arr 1 3 26 [nil3],oB c]⟩) ?_ ?_
 ·simp only [go_sem]
  refine callT hfa rfl ?_
  simp only [go_sem]
  exact ⟨_,WkE.kp,rfl⟩
 by_cases he:e=0
 rotate_left
 ·refine CwpE.vc ?_
  simp only [go_sem,he]
  exact bad (by rw [ht,if_neg he]) he _
 subst he
 rw [if_pos rfl] at ht
 refine CwpE.cut (st:=⟨[(2,.ref 0 1 0 0),(3,.ref 1 1 0 0),(4,.ref 2 1 0 0),(5,.ref 3 1 0 0),(6,vi 0),(8,.ref 4 1 0 0)],[oB a,oB b,.arr 1 3 26 [nil3],.arr 1 3 26 [nil3],oB c]⟩) ?_ ?_
 ·simp only [go_sem]
  exact ⟨_,WkE.kp,rfl⟩
 refine CwpE.cut (st:=⟨[(2,.ref 0 1 0 0),(3,.ref 1 1 0 0),(4,.ref 2 1 0 0),(5,.ref 3 1 0 0),(6,vi 0),(8,.ref 4 1 0 0),(10,.ref 5 1 0 0),(11,vi e')],[oB a,oB b,.arr 1 3 26 [nil3],.arr 1 3 26 [nil3],oB c,oB d]⟩) ?_ ?_
 ·simp only [go_sem]
  refine callT hfb rfl ?_
  simp only [go_sem]
  exact ⟨_,WkE.kp,rfl⟩
 by_cases he:e'=0
 rotate_left
 ·refine CwpE.vc ?_
  simp only [go_sem,he]
  exact bad (by rw [ht,if_neg he]) he _
 subst he
 rw [if_pos rfl] at ht
 have hpr2:pairR a b=(c,d,0):=by rw [hpr,ht];exact if_pos rfl
 rw [hpr2]
 refine CwpE.vc ?_
 simp only [go_sem]
 refine .tup _ _ rfl fun i h1 h2=>?_
 match i,h1,h2 with
 | 0,_,_=>exact .tree _ rfl
 | 1,_,_=>exact .tree _ rfl
 | 2,_,_=>exact .tree _ rfl
abbrev pau (a:Au):AV:=.ptr [vi a.sy,vbools a.acc,vedges a.ed]
theorem turn1_s (s:List Bool):Ctr Try.prog 61 [vset s] (vb (bt s 0)):=by
 refine specC f61 (by simp) fun F0 w0=>?_
 have h:Ctr Try.prog 62 [vset s,vi 0] (vb (bt s 0)):=has_s s 0 (by omega)
 unfold c61
 refine CwpE.cut (st:=⟨[(1,.ref 0 1 0 0)],[.arr 1 4 79 [vset s]]⟩) ?_ ?_
 ·simp only [go_sem]
  exact ⟨_,WkE.kp,rfl⟩
 refine CwpE.vc ?_
 simp only [go_sem]
 refine callT h rfl ?_
 simp only [go_sem]
 exact .tree _ rfl
theorem turnS_of {a:Au} {s t:List Bool} {x:Int} (htl:t.length=a.acc.length) (h:∀ j,bt t j=true ↔ ∃ e ∈ a.ed,e.2.1=x/\bt s e.2.2.toNat=true/\e.1=(j:Int)):t=turnS a s x:=bt_ext (by rw [htl];simp [turnS]) fun j hj=>by
 rw [h,turnS,bt_map,Bool.and_eq_true,decide_eq_true_eq,List.any_eq_true]
 constructor
 ·rintro ⟨e,he,h1,h2,h3⟩
  exact ⟨by omega,e,he,by simp only [h1,h2,h3,decide_true,Bool.and_true]⟩
 ·rintro ⟨_,e,he,h1⟩
  simp only [Bool.and_eq_true,decide_eq_true_eq] at h1
  exact ⟨e,he,h1.1.1,h1.1.2,h1.2⟩
theorem turnS_len (a:Au) (s:List Bool) (x:Int):(turnS a s x).length=a.acc.length:=by simp [turnS]
theorem anyT_of {a:Au} (hv:VA a) (s:List Bool) (x:Int):anyT a s x=true ↔ ∃ j,bt (turnS a s x) j=true:=by
 unfold anyT turnS
 rw [List.any_eq_true]
 constructor
 ·rintro ⟨e,he,h⟩
  have:=(hv.ed e he).1
  refine ⟨e.1.toNat,?_⟩
  rw [bt_map,Bool.and_eq_true,decide_eq_true_eq,List.any_eq_true]
  exact ⟨by omega,e,he,by rw [h,Bool.true_and,decide_eq_true_eq];omega⟩
 ·rintro ⟨j,hj⟩
  rw [bt_map,Bool.and_eq_true,decide_eq_true_eq,List.any_eq_true] at hj
  obtain ⟨_,e,he,h⟩:=hj
  rw [Bool.and_eq_true] at h
  exact ⟨e,he,h.1⟩
set_option maxHeartbeats 4000000 in
theorem turn2_s (a:Au) (hv:VA a) (s:List Bool) (hs:s.length=a.acc.length) (x:Nat):Ctr Try.prog 63 [vset s,vi x,pau a] (.tup [vset (turnS a s (x:Int)),vb (anyT a s (x:Int))]):=by
 obtain ⟨⟨hsy1,hsy2⟩,⟨hn1,hn2⟩,hm,hed⟩:=id hv
 refine specC f63 (by simp) fun F0 w0=>?_
 obtain ⟨n,hn⟩:∃ n,a.acc.length=n:=⟨_,rfl⟩
 obtain ⟨zs,hzs⟩:∃ zs,zs=AV.agg [vw 0,vw 0,vw 0,vw 0]:=⟨_,rfl⟩
 have hz0:AV.agg [vw 0,vw 0,vw 0,vw 0]=vset (noneS n):=by rw [vset,wdi_none,wdi_none,wdi_none,wdi_none]
 unfold c63
 refine CwpE.cut (st:=⟨[(1,vi x),(2,pau a),(3,.ref 0 1 0 0),(5,.ref 1 1 0 0)],[.arr 1 4 79 [vset s],.arr 1 4 79 [.agg [vw 0,vw 0,vw 0,vw 0]]]⟩) ?_ ?_
 ·simp only [go_sem]
  exact ⟨_,WkE.kp,rfl⟩
 refine CwpE.cut (st:=⟨[(1,vi x),(2,pau a),(3,.ref 0 1 0 0),(5,.ref 1 1 0 0),(7,.ref 2 1 0 0)],[.arr 1 4 79 [vset s],.arr 1 4 79 [vset (noneS n)],.arr 1 4 79 [vset (noneS n)]]⟩) ?_ ?_
 ·rw [<-hz0]
  simp only [go_sem]
  exact ⟨_,WkE.kp,rfl⟩
 refine CwpE.step (fun z=>z=⟨[(5,.ref 1 1 0 0),(7,.ref 2 1 0 0)],[.arr 1 4 79 [vset s],.arr 1 4 79 [vset (noneS n)],.arr 1 4 79 [vset (turnS a s (x:Int))]]⟩) ?_ ?_
 rotate_left
 ·rintro _ rfl
  have hz:=wdi_zero (s:=turnS a s (x:Int)) (by rw [turnS_len];omega)
  rw [<-anyT_of hv] at hz
  generalize turnS a s (x:Int)=t at hz ⊢
  have hd:decide ([wdi t 0,wdi t 1,wdi t 2,wdi t 3]=[(0:Int),0,0,0]) = !anyT a s (x:Int):=by
   cases h:anyT a s (x:Int) with
   | false=>exact decide_eq_true (hz.2 (by rw [h];simp))
   | true=>exact decide_eq_false (fun e=>hz.1 e h)
  refine CwpE.vc ?_
  simp only [go_sem,hd]
  rw [Bool.not_not]
  exact snap_tup2 (.tree _ rfl) (.tree _ rfl)
 simp only [go_sem,List.length_map]
 refine loopX 0 (fun m z=>∃ (k:Nat) (t:List Bool),m=a.ed.length-k/\k<=a.ed.length/\t.length=n/\(∀ j,bt t j=true ↔ ∃ e ∈ a.ed.take k,e.2.1=(x:Int)/\bt s e.2.2.toNat=true/\e.1=(j:Int)) /\
  z=⟨[(1,vi x),(2,pau a),(3,.ref 0 1 0 0),(5,.ref 1 1 0 0),(7,.ref 2 1 0 0),(11,vedges a.ed),(12,vi a.ed.length),(13,vi k)],[.arr 1 4 79 [vset s],.arr 1 4 79 [vset (noneS n)],.arr 1 4 79 [vset t]]⟩)
  (fun z=>z=⟨[(5,.ref 1 1 0 0),(7,.ref 2 1 0 0)],[.arr 1 4 79 [vset s],.arr 1 4 79 [vset (noneS n)],.arr 1 4 79 [vset (turnS a s (x:Int))]]⟩) a.ed.length
  ⟨[(1,vi x),(2,pau a),(3,.ref 0 1 0 0),(5,.ref 1 1 0 0),(7,.ref 2 1 0 0),(11,vedges a.ed),(12,vi a.ed.length),(13,vi (0:Nat))],[.arr 1 4 79 [vset s],.arr 1 4 79 [vset (noneS n)],.arr 1 4 79 [vset (noneS n)]]⟩ (WkE.kp)
  ⟨0,noneS n,by omega,by omega,by simp [noneS],fun j=>by rw [noneS_bt];simp,rfl⟩ ?_ ?_
 rotate_left
 ·rintro z rfl
  simp only [go_sem]
  exact ⟨_,.refl _ _,rfl⟩
 rintro m z ⟨k,t,rfl,hk,htl,ht,rfl⟩
 by_cases hlt:k<a.ed.length
 rotate_left
 ·have gk:¬ (k:Int)<(a.ed.length:Int):=by omega
  rw [List.take_of_length_le (by omega)] at ht
  have e1:t=turnS a s (x:Int):=turnS_of (by omega) ht
  simp only [go_sem,gk]
  rw [<-e1]
  exact ⟨_,WkE.kp,rfl⟩
 have g1:(k:Int)<(a.ed.length:Int):=by omega
 have g0:(0:Int)<=(k:Int):=by omega
 have w1:=wrap_s k (by omega)
 have hee:=hed _ (List.getElem_mem hlt)
 have heg:=edge_get hlt
 have htk:=List.take_succ_eq_append_getElem hlt
 generalize a.ed[k]=e at hee heg htk
 obtain ⟨e1,e2,e3⟩:=e
 simp only at hee
 obtain ⟨p,rfl⟩:∃ p:Nat,e1=(p:Int):=⟨e1.toNat,by omega⟩
 obtain ⟨r,rfl⟩:∃ r:Nat,e3=(r:Int):=⟨e3.toNat,by omega⟩
 have hhas:=has_s s r (by omega)
 have same:(decide (e2=(x:Int)) && bt s r)=false->∀ st,WkE 35 st ⟨[(1,vi x),(2,pau a),(3,.ref 0 1 0 0),(5,.ref 1 1 0 0),(7,.ref 2 1 0 0),(11,vedges a.ed),(12,vi a.ed.length),(13,vi (k+1:Nat))],[.arr 1 4 79 [vset s],.arr 1 4 79 [vset (noneS n)],.arr 1 4 79 [vset t]]⟩ ->
  ∃ m z,m<a.ed.length-k/\WkE 35 st z/\∃ (k:Nat) (t:List Bool),m=a.ed.length-k/\k<=a.ed.length/\t.length=n/\(∀ j,bt t j=true ↔ ∃ e ∈ a.ed.take k,e.2.1=(x:Int)/\bt s e.2.2.toNat=true/\e.1=(j:Int)) /\
  z=⟨[(1,vi x),(2,pau a),(3,.ref 0 1 0 0),(5,.ref 1 1 0 0),(7,.ref 2 1 0 0),(11,vedges a.ed),(12,vi a.ed.length),(13,vi k)],[.arr 1 4 79 [vset s],.arr 1 4 79 [vset (noneS n)],.arr 1 4 79 [vset t]]⟩:=by
  intro hno st hst
  refine ⟨a.ed.length-(k+1),_,by omega,hst,k+1,t,rfl,by omega,htl,fun j=>?_,rfl⟩
  rw [ht,htk]
  constructor
  ·rintro ⟨e,he,h⟩;exact ⟨e,by simp [he],h⟩
  ·rintro ⟨e,he,h⟩
   rcases List.mem_append.1 he with he | he
   ·exact ⟨e,he,h⟩
   ·rw [List.mem_singleton] at he
    subst he
    simp only [Int.toNat_natCast] at h
    rw [h.1,h.2.1] at hno
    simp at hno
 have inn:∀ t u v:List Bool,([AObj.arr 1 4 79 [vset t],.arr 1 4 79 [vset u],.arr 1 4 79 [vset v]].all fun o=>o.innO 3)=true:=fun t u v=>rfl
 by_cases b1:e2=(x:Int)
 rotate_left
 ·have hs1:=same (by simp [b1])
  simp only [go_sem,g1,g0,heg,b1,w1,Int.toNat_natCast]
  exact hs1 _ (WkE.round (by simp only [go_sem];try rfl) rfl (inn _ _ _) rfl)
 cases b2:bt s r with
 | false =>
  rw [b2] at hhas
  have hs1:=same (by rw [b2,Bool.and_false])
  simp only [go_sem,g1,g0,heg,b1,Int.toNat_natCast]
  refine callT hhas rfl ?_
  simp only [go_sem,w1]
  exact hs1 _ (WkE.round (by simp only [go_sem];try rfl) rfl (inn _ _ _) rfl)
 | true =>
  rw [b2] at hhas
  have hpb:∀ j,bt (putS t p) j=(decide (j=p) || bt t j):=fun j=>putS_bt (by omega)
  simp only [go_sem,g1,g0,heg,b1,Int.toNat_natCast]
  refine callT hhas rfl ?_
  simp only [go_sem]
  have hput:=put1_m [.arr 1 4 79 [vset s],.arr 1 4 79 [vset (noneS n)],.arr 1 4 79 [vset t]] 2 1 0 4 79 [vset t] t p rfl rfl (by decide) rfl (by omega) (by omega)
  refine callM [.arr 1 4 79 [vset s],.arr 1 4 79 [vset (noneS n)],.arr 1 4 79 [vset t]] [_] _ hput rfl rfl rfl ?_
  simp only [go_sem,w1]
  refine ⟨a.ed.length-(k+1),⟨[(1,vi x),(2,pau a),(3,.ref 0 1 0 0),(5,.ref 1 1 0 0),(7,.ref 2 1 0 0),(11,vedges a.ed),(12,vi a.ed.length),(13,vi (k+1:Nat))],[.arr 1 4 79 [vset s],.arr 1 4 79 [vset (noneS n)],.arr 1 4 79 [vset (putS t p)]]⟩,by omega,WkE.round (by simp only [go_sem];try rfl) rfl (inn _ _ _) rfl,k+1,putS t p,rfl,by omega,by rw [putS_len,htl],fun j=>?_,rfl⟩
  rw [hpb,Bool.or_eq_true,decide_eq_true_eq,ht,htk]
  constructor
  ·rintro (rfl | ⟨e,he,h⟩)
   ·exact ⟨_,List.mem_append.2 (.inr (List.mem_singleton.2 rfl)),b1,by simpa using b2,rfl⟩
   ·exact ⟨e,by simp [he],h⟩
  ·rintro ⟨e,he,h⟩
   rcases List.mem_append.1 he with he | he
   ·exact .inr ⟨e,he,h⟩
   ·rw [List.mem_singleton] at he
    subst he
    exact .inl (by have:=h.2.2;simp only at this;omega)
set_option maxHeartbeats 4000000 in
theorem Turn_s (a:Au) (ha:SzA a):Ctr Try.prog 28 [vau a] (vae (turnM a)):=by
 refine specC f28 (by simp) fun F0 w0=>?_
 have hfa:=Fixed_s a ha
 unfold turnM
 obtain ⟨c,e,hc⟩:∃ c e,fixedM a=(c,e):=⟨_,_,rfl⟩
 have hco:=fixed_ok (a:=a)
 have hcn:=fixed_norm (a:=a)
 rw [hc] at hfa hco hcn ⊢
 simp only at hco hcn ⊢
 unfold c28
 refine CwpE.cut (st:=⟨[(1,.ref 0 1 0 0),(2,.ref 1 1 0 0),(3,vi 0)],[oX a,.arr 1 3 34 [nil3]]⟩) ?_ ?_
 ·simp only [go_sem]
  exact ⟨_,WkE.kp,rfl⟩
 refine CwpE.cut (st:=⟨[(1,.ref 0 1 0 0),(2,.ref 1 1 0 0),(3,vi 0),(4,.ref 2 1 0 0),(5,vi e)],[oX a,.arr 1 3 34 [nil3],oX c]⟩) ?_ ?_
 ·simp only [go_sem]
  refine callT hfa rfl ?_
  simp only [go_sem]
  exact ⟨_,WkE.kp,rfl⟩
 by_cases he:e=0
 rotate_left
 ·rw [if_neg he]
  refine CwpE.vc ?_
  simp only [go_sem,he]
  exact snap_tup2 nil_snap (.tree _ rfl)
 subst he
 rw [if_pos rfl]
 obtain ⟨va,g,d,h1,h2,h3,h4,h5,_⟩:=hcn rfl
 obtain ⟨cv,hne,hcsy,_⟩:=hco rfl
 have hcg:c=auOf g:=(Prod.mk.inj h3).1
 obtain ⟨⟨hsy1,hsy2⟩,⟨hn1,hn2⟩,hm,hed⟩:=id cv
 obtain ⟨y,hy⟩:∃ y:Nat,c.sy=(y:Int):=⟨c.sy.toNat,by omega⟩
 have hyT:c.sy.toNat=y:=by omega
 have hay:a.sy=(y:Int):=by omega
 obtain ⟨n,hn⟩:∃ n,c.acc.length=n:=⟨_,rfl⟩
 refine CwpE.cut (st:=⟨[(1,.ref 0 1 0 0),(2,.ref 1 1 0 0),(3,vi 0),(4,.ref 2 1 0 0)],[oX a,.arr 1 3 34 [nil3],oX c]⟩) ?_ ?_
 ·simp only [go_sem]
  exact ⟨_,WkE.kp,rfl⟩
 have hz0:AV.agg [vw 0,vw 0,vw 0,vw 0]=vset (accS c 0):=by
  have:accS c 0=noneS n:=by rw [<-hn];exact accS_zero c
  rw [this,vset,wdi_none,wdi_none,wdi_none,wdi_none]
 refine CwpE.cut (st:=⟨[(1,.ref 0 1 0 0),(2,.ref 1 1 0 0),(3,vi 0),(4,.ref 2 1 0 0),(6,.ref 3 1 0 0)],[oX a,.arr 1 3 34 [nil3],oX c,.arr 1 4 79 [vset (accS c 0)]]⟩) ?_ ?_
 ·rw [<-hz0]
  simp only [go_sem]
  exact ⟨_,WkE.kp,rfl⟩
 refine CwpE.step (fun z=>z=⟨[(1,.ref 0 1 0 0),(2,.ref 1 1 0 0),(3,vi 0),(4,.ref 2 1 0 0),(6,.ref 3 1 0 0)],[oX a,.arr 1 3 34 [nil3],oX c,.arr 1 4 79 [vset c.acc]]⟩) ?_ ?_
 ·simp only [go_sem,List.length_map,hn]
  refine loopX 0 (fun m z=>∃ k:Nat,m=n-k/\k<=n/\z=⟨[(1,.ref 0 1 0 0),(2,.ref 1 1 0 0),(3,vi 0),(4,.ref 2 1 0 0),(6,.ref 3 1 0 0),(20,vbools c.acc),(21,vi n),(22,vi k)],[oX a,.arr 1 3 34 [nil3],oX c,.arr 1 4 79 [vset (accS c k)]]⟩)
   (fun z=>z=⟨[(1,.ref 0 1 0 0),(2,.ref 1 1 0 0),(3,vi 0),(4,.ref 2 1 0 0),(6,.ref 3 1 0 0)],[oX a,.arr 1 3 34 [nil3],oX c,.arr 1 4 79 [vset c.acc]]⟩) n
   ⟨[(1,.ref 0 1 0 0),(2,.ref 1 1 0 0),(3,vi 0),(4,.ref 2 1 0 0),(6,.ref 3 1 0 0),(20,vbools c.acc),(21,vi n),(22,vi (0:Nat))],[oX a,.arr 1 3 34 [nil3],oX c,.arr 1 4 79 [vset (accS c 0)]]⟩ (WkE.kp) ⟨0,by omega,by omega,rfl⟩ ?_ ?_
  rotate_left
  ·rintro z rfl
   simp only [go_sem]
   exact ⟨_,.refl _ _,rfl⟩
  rintro m z ⟨k,rfl,hk,rfl⟩
  by_cases hlt:k<n
  rotate_left
  ·obtain rfl:k=n:=by omega
   have hal:accS c k=c.acc:=by rw [<-hn];exact accS_all c
   rw [hal]
   simp only [go_sem,Int.lt_irrefl]
   exact ⟨_,WkE.kp,rfl⟩
  have g1:(k:Int)<(n:Int):=by omega
  have g0:(0:Int)<=(k:Int):=by omega
  have w1:=wrap_s k (by omega)
  have hag:=bt_get (s:=c.acc) (k:=k) (by omega)
  cases hb:bt c.acc k with
  | false =>
   rw [hb] at hag
   have hac:=accS_f c k hb
   simp only [go_sem,g1,g0,hag,w1,Int.toNat_natCast]
   refine ⟨n-(k+1),⟨[(1,.ref 0 1 0 0),(2,.ref 1 1 0 0),(3,vi 0),(4,.ref 2 1 0 0),(6,.ref 3 1 0 0),(20,vbools c.acc),(21,vi n),(22,vi (k+1:Nat))],[oX a,.arr 1 3 34 [nil3],oX c,.arr 1 4 79 [vset (accS c k)]]⟩,by omega,WkE.kp,k+1,rfl,by omega,by rw [hac]⟩
  | true =>
   rw [hb] at hag
   have hac:=accS_t c k (by omega) hb
   simp only [go_sem,g1,g0,hag,Int.toNat_natCast]
   have hput:=put1_m [oX a,.arr 1 3 34 [nil3],oX c,.arr 1 4 79 [vset (accS c k)]] 3 1 0 4 79 [vset (accS c k)] (accS c k) k rfl rfl (by decide) rfl (by rw [accS_len];omega) (by rw [accS_len];omega)
   refine callM [oX a,.arr 1 3 34 [nil3],oX c,.arr 1 4 79 [vset (accS c k)]] [] _ hput rfl rfl rfl ?_
   simp only [go_sem,w1]
   refine ⟨n-(k+1),⟨[(1,.ref 0 1 0 0),(2,.ref 1 1 0 0),(3,vi 0),(4,.ref 2 1 0 0),(6,.ref 3 1 0 0),(20,vbools c.acc),(21,vi n),(22,vi (k+1:Nat))],[oX a,.arr 1 3 34 [nil3],oX c,.arr 1 4 79 [vset (putS (accS c k) k)]]⟩,by omega,WkE.kp,k+1,rfl,by omega,by rw [hac]⟩
 rintro _ rfl
 have hex:=explA_s (fun s=>s.length=c.acc.length) (fun s t hs ht=>keyS_inj (by rw [hs,ht]) (by omega)) (.clo (.func 61) []) (.clo (.func 63) [pau c]) c.acc y (by omega) (fun s=>bt s 0) (fun s x=>(turnS c s (x:Int),anyT c s (x:Int))) rfl (fun s x _ _ _=>turnS_len c s x)
  (fun s hs objs=>.data 61 _ _ _ _ (.cons (.tree _ rfl) .nil) (turn1_s s)) (fun s x hs hx objs=>.data 63 _ _ _ _ (.cons (.tree _ rfl) (.cons (.tree _ rfl) (.cons (.tree _ rfl) .nil))) (turn2_s c cv s hs x)) (fun k=>⟨rfl,rfl⟩)
 have hB:bfs 256 (nextE fun s (x:Nat)=>(turnS c s (x:Int),anyT c s (x:Int))) y c.acc=bfs 256 (nextT c) c.sy.toNat c.acc:=by rw [hyT];rfl
 rw [hB] at hex
 have htu:turnedM c=(bfs 256 (nextT c) c.sy.toNat c.acc).map fun r=>grOf y (fun s=>bt s 0) r.1 r.2:=by rw [turnedM,hyT]
 rw [htu]
 refine CwpE.wk (s':=⟨[(4,pau c),(1,.ref 0 1 0 0),(2,.ref 1 1 0 0),(3,vi 0),(6,.ref 3 1 0 0)],[oX a,.arr 1 3 34 [nil3],.dead,.arr 1 4 79 [vset c.acc]]⟩) ?_ ?_
 ·refine (WkE.freezeS (n:=47) (objs:=[oX a,.arr 1 3 34 [nil3],oX c,.arr 1 4 79 [vset c.acc]]) 4 2 1 3 34 [vau c] (.ref 2 1 0 0) (pau c) (by omega) rfl rfl ?_).trans (WkE.kp)
  refine .ref 2 1 0 0 _ _ rfl rfl fun i h1 h2=>?_
  match i,h1,h2 with
  | 0,_,_=>exact .tree _ rfl
  | 1,_,_=>exact .tree _ rfl
  | 2,_,_=>exact .tree _ rfl
 cases hb:bfs 256 (nextT c) c.sy.toNat c.acc with
 | none =>
  rw [hb] at hex
  refine CwpE.vc ?_
  simp only [go_sem,hay]
  refine callN hex (.cons (.tree _ rfl) (.cons (.tree _ rfl) (.cons (.tree _ rfl) (.cons (.tree _ rfl) .nil)))) ?_
  simp only [resE,go_sem,↓reduceIte,Nat.reduceLT,Nat.reduceEqDiff,Nat.reduceAdd,Int.reduceEq]
  exact snap_tup2 nil_snap (.tree _ rfl)
 | some r =>
  rw [hb,resE] at hex
  obtain ⟨l,rows⟩:=r
  rw [hyT] at hb
  obtain ⟨o1,o2,o3⟩:=bfs_ok (by omega) hb
  have hl1:1<=l.length:=by have:=o3.length_le;simpa using this
  have hgo:=grOf_ok (acc:=fun s:List Bool=>bt s 0) o1 o2 hl1
  have hlen:(grOf y (fun s:List Bool=>bt s 0) l rows).acc.length<=256:=by show (l.map _).length<=256;rw [List.length_map];exact o1.most
  have hGs:(grOf y (fun s:List Bool=>bt s 0) l rows).sy=y:=rfl
  simp only [Option.map_some]
  generalize grOf y (fun s:List Bool=>bt s 0) l rows=G at hex hgo hlen hGs ⊢
  have hls:=least_s G hgo (by omega) (by omega)
  rw [leastP_R hgo (by omega)] at hls
  refine CwpE.vc ?_
  simp only [go_sem,hay]
  refine callN hex (.cons (.tree _ rfl) (.cons (.tree _ rfl) (.cons (.tree _ rfl) (.cons (.tree _ rfl) .nil)))) ?_
  simp only [go_sem]
  refine callT hls rfl ?_
  simp only [go_sem]
  exact snap_tup2 (.tree _ rfl) (.tree _ rfl)
theorem freeze2 {n:Nat} {env:List (Nat × AV)} (pre:List AObj) (k:Nat) (hk:pre.length=k) (sy:Int) (A:List Bool) (E:List Edg) :
 WkE n ⟨env,pre++[.arr 1 3 26 [.agg [vi sy,.own (k+1) A.length 0 A.length,.own (k+2) E.length 0 E.length]],.arr A.length 1 4 (A.map vb),.arr E.length 3 71 (E.map vedge)]⟩ ⟨env,pre++[oB ⟨sy,A,E⟩,.dead,.dead]⟩:=by
 have g:∀ (j:Nat) (l:List AObj),(pre++l)[k+j]? = l[j]?:=fun j l=>by rw [List.getElem?_append_right (by omega),hk,Nat.add_sub_cancel_left]
 have st:∀ (j:Nat) (l:List AObj) (o:AObj),(pre++l).set (k+j) o=pre++l.set j o:=fun j l o=>by rw [List.set_append_right _ _ (by omega),hk,Nat.add_sub_cancel_left]
 refine WkE.trans (b:=⟨env,pre++[.arr 1 3 26 [.agg [vi sy,vbools A,.own (k+2) E.length 0 E.length]],.dead,.arr E.length 3 71 (E.map vedge)]⟩) ?_ ?_
 ·have:=WkE.freezeCell (n:=n) (env:=env) (objs:=pre++[.arr 1 3 26 [.agg [vi sy,.own (k+1) A.length 0 A.length,.own (k+2) E.length 0 E.length]],.arr A.length 1 4 (A.map vb),.arr E.length 3 71 (E.map vedge)]) (k+0) 1 3 0 1 (k+1) A.length 0 A.length 1 26 4 _ (A.map vb) _ (by rw [g];rfl) rfl rfl (by rw [g];rfl) (by omega) (by simp) (isT_map (fun _=>rfl) _)
  rw [st,st,List.drop_zero,List.take_of_length_le (by simp)] at this
  exact this
 ·have:=WkE.freezeCell (n:=n) (env:=env) (objs:=pre++[.arr 1 3 26 [.agg [vi sy,vbools A,.own (k+2) E.length 0 E.length]],.dead,.arr E.length 3 71 (E.map vedge)]) (k+0) 1 3 0 2 (k+2) E.length 0 E.length 3 26 71 _ (E.map vedge) _ (by rw [g];rfl) rfl rfl (by rw [g];rfl) (by omega) (by simp) (isT_map (fun _=>rfl) _)
  rw [st,st,List.drop_zero,List.take_of_length_le (by simp)] at this
  exact this
end Go.Proofs.Ytjilachpkjlhdaa
namespace P5
abbrev RE:=PI × List Int
theorem apartRow_t {g h:Gr} {p:PI} {w:List Int} {y:Nat} {xs:List Nat} {z:List PI} (hy:stepP g h p y ∈ z):apartRow g h p w (y::xs) z=apartRow g h p w xs z:=by rw [apartRow];exact if_pos hy
theorem apartRow_f {g h:Gr} {p:PI} {w:List Int} {y:Nat} {xs:List Nat} {z:List PI} (hy:stepP g h p y ∉ z):apartRow g h p w (y::xs) z=((stepP g h p y,w++[(y:Int)])::(apartRow g h p w xs (z++[stepP g h p y])).1,(apartRow g h p w xs (z++[stepP g h p y])).2):=by rw [apartRow];exact if_neg hy
theorem apartRow_in (g h:Gr) (p:PI) (w:List Int) (x:Nat):∀ (xs:List Nat) (z:List PI),stepP g h p x ∈ (apartRow g h p w xs z).2->apartRow g h p w (xs++[x]) z=apartRow g h p w xs z
 | [],z,hm=>apartRow_t hm
 | y::xs,z,hm=>by
  rw [List.cons_append]
  by_cases hy:stepP g h p y ∈ z
  ·rw [apartRow_t hy] at hm
   rw [apartRow_t hy,apartRow_t hy,apartRow_in g h p w x xs z hm]
  ·rw [apartRow_f hy] at hm
   rw [apartRow_f hy,apartRow_f hy,apartRow_in g h p w x xs _ hm]
theorem apartRow_out (g h:Gr) (p:PI) (w:List Int) (x:Nat):∀ (xs:List Nat) (z:List PI),stepP g h p x ∉ (apartRow g h p w xs z).2->apartRow g h p w (xs++[x]) z=((apartRow g h p w xs z).1++[(stepP g h p x,w++[(x:Int)])],(apartRow g h p w xs z).2++[stepP g h p x])
 | [],z,hm=>apartRow_f hm
 | y::xs,z,hm=>by
  rw [List.cons_append]
  by_cases hy:stepP g h p y ∈ z
  ·rw [apartRow_t hy] at hm
   rw [apartRow_t hy,apartRow_t hy,apartRow_out g h p w x xs z hm]
  ·rw [apartRow_f hy] at hm
   rw [apartRow_f hy,apartRow_f hy,apartRow_out g h p w x xs _ hm]
   rfl
theorem apartRow_fst (g h:Gr) (p:PI) (w:List Int):∀ (xs:List Nat) (z:List PI),(apartRow g h p w xs z).2=z++(apartRow g h p w xs z).1.map Prod.fst
 | [],z=>by simp [apartRow]
 | y::xs,z=>by
  by_cases hy:stepP g h p y ∈ z
  ·rw [apartRow_t hy]
   exact apartRow_fst g h p w xs z
  ·rw [apartRow_f hy]
   simp only [List.map_cons]
   rw [apartRow_fst g h p w xs]
   simp
def apL (g h:Gr) (L:List RE) (p:PI) (w:List Int) (x:Nat):List RE:=L++(apartRow g h p w (List.range x) (L.map Prod.fst)).1
theorem apL_zero (g h:Gr) (L:List RE) (p:PI) (w:List Int):apL g h L p w 0=L:=by simp [apL,apartRow]
theorem apL_fst (g h:Gr) (L:List RE) (p:PI) (w:List Int) (x:Nat):(apL g h L p w x).map Prod.fst=(apartRow g h p w (List.range x) (L.map Prod.fst)).2:=by
 rw [apL,List.map_append,apartRow_fst]
theorem apL_succ (g h:Gr) (L:List RE) (p:PI) (w:List Int) (x:Nat):apL g h L p w (x+1)=if stepP g h p x ∈ (apL g h L p w x).map Prod.fst then apL g h L p w x else apL g h L p w x++[(stepP g h p x,w++[(x:Int)])]:=by
 rw [apL_fst]
 unfold apL
 rw [List.range_succ]
 by_cases hm:stepP g h p x ∈ (apartRow g h p w (List.range x) (L.map Prod.fst)).2
 ·rw [if_pos hm,apartRow_in _ _ _ _ _ _ _ hm]
 ·rw [if_neg hm,apartRow_out _ _ _ _ _ _ _ hm,List.append_assoc]
theorem apL_pre (g h:Gr) (L:List RE) (p:PI) (w:List Int) (x:Nat):L <+: apL g h L p w x:=⟨_,rfl⟩
def apG (g h:Gr) (f:Nat) (L:List RE) (i:Nat):Option (List Int):=apartGo g h f (L.drop i) (L.map Prod.fst)
theorem apG_end {g h:Gr} {f:Nat} {L:List RE} {i:Nat} (hi:L.length<=i):apG g h f L i=none:=by
 rw [apG,List.drop_eq_nil_of_le hi]
 cases f <;> rfl
theorem apG_tell {g h:Gr} {f:Nat} {L:List RE} {i:Nat} (hi:i<L.length) (ht:tellsI g h L[i].1=true):apG g h (f+1) L i=some L[i].2:=by
 rw [apG,List.drop_eq_getElem_cons hi]
 rw [apartGo,if_pos ht]
theorem apG_step {g h:Gr} {f:Nat} {L:List RE} {i:Nat} (hi:i<L.length) (ht:tellsI g h L[i].1=false):apG g h (f+1) L i=apG g h f (apL g h L L[i].1 L[i].2 g.sy) (i+1):=by
 rw [apG,List.drop_eq_getElem_cons hi]
 rw [apartGo,if_neg (by rw [ht];simp)]
 simp only
 rw [apG,apL_fst,apL,List.drop_append_of_le_length (by omega)]
theorem apartM_G (g h:Gr):apartM g h=apG g h 66051 [((0,0),[])] 0:=rfl
structure ApOk (g h:Gr) (L:List RE) (n:Nat):Prop where
 nodup:(L.map Prod.fst).Nodup
 inn:∀ e ∈ L,InD g h e.1
 len:∀ e ∈ L,e.2.length<=n
theorem ApOk.le {g h:Gr} (gn:g.acc.length<=256) (hn:h.acc.length<=256) {L:List RE} {n:Nat} (k:ApOk g h L n):L.length<=66049:=by
 have:=sub_len (S:=allP g.acc.length h.acc.length) k.nodup (fun p hp=>by
  obtain ⟨e,he,rfl⟩:=List.mem_map.1 hp
  exact allP_mem (k.inn e he))
 rw [allP_len,List.length_map] at this
 exact Nat.le_trans this (Nat.le_trans (Nat.mul_le_mul (Nat.succ_le_succ gn) (Nat.succ_le_succ hn)) (by omega))
theorem ApOk.row {g h:Gr} (hg:GrOk g) (hh:GrOk h) {L:List RE} {n:Nat} (k:ApOk g h L n) {p:PI} {w:List Int} (hw:w.length<=n):∀ x,ApOk g h (apL g h L p w x) (n+1)
 | 0=>by rw [apL_zero];exact ⟨k.nodup,k.inn,fun e he=>Nat.le_succ_of_le (k.len e he)⟩
 | x+1=>by
  have ih:=ApOk.row hg hh k (p:=p) hw x
  rw [apL_succ]
  split
  ·exact ih
  ·rename_i hm
   refine ⟨?_,fun e he=>?_,fun e he=>?_⟩
   ·rw [List.map_append,List.nodup_append]
    refine ⟨ih.nodup,by simp,fun a ha b hb=>?_⟩
    have:b=stepP g h p x:=by simpa using hb
    rw [this]
    exact fun e=>hm (e ▸ ha)
   ·rcases List.mem_append.1 he with he | he
    ·exact ih.inn e he
    ·rw [List.mem_singleton.1 he]
     exact ⟨(stepI_in hg _ _).1,(stepI_in hg _ _).2,(stepI_in hh _ _).1,(stepI_in hh _ _).2⟩
   ·rcases List.mem_append.1 he with he | he
    ·exact ih.len e he
    ·rw [List.mem_singleton.1 he]
     simp only [List.length_append,List.length_singleton]
     omega
theorem apOk_one {g h:Gr} (hg:GrOk g) (hh:GrOk h):ApOk g h [((0,0),[])] 0:=by
 have h1:=hg.n
 have h2:=hh.n
 refine ⟨by simp,fun e he=>?_,fun e he=>?_⟩
 ·rw [List.mem_singleton.1 he];exact ⟨by simp only;omega,by simp only;omega,by simp only;omega,by simp only;omega⟩
 ·rw [List.mem_singleton.1 he];exact Nat.le_refl _
abbrev RS:=List Bool × List Int
theorem shortRow_t {a:Au} {s:List Bool} {w:List Int} {y:Nat} {xs:List Nat} {z:List Bool} (hy:freshB (afterA a s (y:Int)) z=true):shortRow a s w (y::xs) z=((afterA a s (y:Int),w++[(y:Int)])::(shortRow a s w xs (orS z (afterA a s (y:Int)))).1,(shortRow a s w xs (orS z (afterA a s (y:Int)))).2):=by rw [shortRow];exact if_pos hy
theorem shortRow_f {a:Au} {s:List Bool} {w:List Int} {y:Nat} {xs:List Nat} {z:List Bool} (hy:¬ freshB (afterA a s (y:Int)) z=true):shortRow a s w (y::xs) z=shortRow a s w xs (orS z (afterA a s (y:Int))):=by rw [shortRow];exact if_neg hy
theorem shortRow_in (a:Au) (s:List Bool) (w:List Int) (x:Nat):∀ (xs:List Nat) (z:List Bool),freshB (afterA a s (x:Int)) (shortRow a s w xs z).2=true->shortRow a s w (xs++[x]) z=((shortRow a s w xs z).1++[(afterA a s x,w++[(x:Int)])],orS (shortRow a s w xs z).2 (afterA a s x))
 | [],z,h=>shortRow_t (z:=z) h
 | y::xs,z,h=>by
  rw [List.cons_append]
  by_cases hy:freshB (afterA a s (y:Int)) z=true
  ·rw [shortRow_t hy] at h
   rw [shortRow_t hy,shortRow_t hy,shortRow_in a s w x xs _ h];rfl
  ·rw [shortRow_f hy] at h
   rw [shortRow_f hy,shortRow_f hy,shortRow_in a s w x xs _ h]
theorem shortRow_out (a:Au) (s:List Bool) (w:List Int) (x:Nat):∀ (xs:List Nat) (z:List Bool),¬ freshB (afterA a s (x:Int)) (shortRow a s w xs z).2=true->shortRow a s w (xs++[x]) z=((shortRow a s w xs z).1,orS (shortRow a s w xs z).2 (afterA a s x))
 | [],z,h=>shortRow_f (z:=z) h
 | y::xs,z,h=>by
  rw [List.cons_append]
  by_cases hy:freshB (afterA a s (y:Int)) z=true
  ·rw [shortRow_t hy] at h
   rw [shortRow_t hy,shortRow_t hy,shortRow_out a s w x xs _ h]
  ·rw [shortRow_f hy] at h
   rw [shortRow_f hy,shortRow_f hy,shortRow_out a s w x xs _ h]
def shL (a:Au) (L:List RS) (z:List Bool) (s:List Bool) (w:List Int) (x:Nat):List RS:=L++(shortRow a s w (List.range x) z).1
def shZ (a:Au) (z:List Bool) (s:List Bool) (w:List Int) (x:Nat):List Bool:=(shortRow a s w (List.range x) z).2
theorem shL_zero (a:Au) (L:List RS) (z s:List Bool) (w:List Int):shL a L z s w 0=L:=by simp [shL,shortRow]
theorem shZ_zero (a:Au) (z s:List Bool) (w:List Int):shZ a z s w 0=z:=by simp [shZ,shortRow]
theorem shL_succ (a:Au) (L:List RS) (z s:List Bool) (w:List Int) (x:Nat):shL a L z s w (x+1)=if freshB (afterA a s x) (shZ a z s w x) then shL a L z s w x++[(afterA a s x,w++[(x:Int)])] else shL a L z s w x:=by
 unfold shL shZ
 rw [List.range_succ]
 by_cases hm:freshB (afterA a s (x:Int)) (shortRow a s w (List.range x) z).2=true
 ·rw [if_pos hm,shortRow_in _ _ _ _ _ _ hm,List.append_assoc]
 ·rw [if_neg hm,shortRow_out _ _ _ _ _ _ hm]
theorem shZ_succ (a:Au) (z s:List Bool) (w:List Int) (x:Nat):shZ a z s w (x+1)=orS (shZ a z s w x) (afterA a s x):=by
 unfold shZ
 rw [List.range_succ]
 by_cases hm:freshB (afterA a s (x:Int)) (shortRow a s w (List.range x) z).2=true
 ·rw [shortRow_in _ _ _ _ _ _ hm]
 ·rw [shortRow_out _ _ _ _ _ _ hm]
theorem shL_pre (a:Au) (L:List RS) (z s:List Bool) (w:List Int) (x:Nat):L <+: shL a L z s w x:=⟨_,rfl⟩
def shG (a:Au) (f:Nat) (L:List RS) (i:Nat) (z:List Bool):Option (List Int):=shortGo a f (L.drop i) z
theorem shG_end {a:Au} {f:Nat} {L:List RS} {i:Nat} {z:List Bool} (hi:L.length<=i):shG a f L i z=none:=by
 rw [shG,List.drop_eq_nil_of_le hi]
 cases f <;> rfl
theorem shG_tell {a:Au} {f:Nat} {L:List RS} {i:Nat} {z:List Bool} (hi:i<L.length) (ht:meets L[i].1 a.acc=true):shG a (f+1) L i z=some L[i].2:=by
 rw [shG,List.drop_eq_getElem_cons hi]
 rw [shortGo,if_pos ht]
theorem shG_step {a:Au} {f:Nat} {L:List RS} {i:Nat} {z:List Bool} (hi:i<L.length) (ht:meets L[i].1 a.acc=false):shG a (f+1) L i z=shG a f (shL a L z L[i].1 L[i].2 a.sy.toNat) (i+1) (shZ a z L[i].1 L[i].2 a.sy.toNat):=by
 rw [shG,List.drop_eq_getElem_cons hi]
 rw [shortGo,if_neg (by rw [ht];simp)]
 simp only
 rw [shG,shL,List.drop_append_of_le_length (by omega)]
 rfl
theorem shortestM_G {a:Au} (h:validM a=0):shortestM a=shG a (a.acc.length+2) [(firstA a,[])] 0 (firstA a):=by rw [shortestM,if_pos h];rfl
structure ShOk (a:Au) (L:List RS) (z:List Bool) (n:Nat):Prop where
 zl:z.length=a.acc.length
 sl:∀ e ∈ L,e.1.length=a.acc.length
 len:∀ e ∈ L,e.2.length<=n
 cnt:L.length<=1+cnt z
theorem ShOk.le {a:Au} {L:List RS} {z:List Bool} {n:Nat} (k:ShOk a L z n):L.length<=a.acc.length+1:=by
 have h1:=cnt_le z
 have h2:=k.zl
 have h3:=k.cnt
 omega
theorem ShOk.row {a:Au} {L:List RS} {z:List Bool} {n:Nat} (k:ShOk a L z n) {s:List Bool} {w:List Int} (hw:w.length<=n):∀ x,ShOk a (shL a L z s w x) (shZ a z s w x) (n+1)
 | 0=>by rw [shL_zero,shZ_zero];exact ⟨k.zl,k.sl,fun e he=>Nat.le_succ_of_le (k.len e he),k.cnt⟩
 | x+1=>by
  have ih:=ShOk.row k (s:=s) hw x
  have hl:(orS (shZ a z s w x) (afterA a s x)).length=a.acc.length:=by rw [orS_len,ih.zl,afterA_len,Nat.max_self]
  have hm:=cnt_mono (shZ a z s w x) (orS (shZ a z s w x) (afterA a s x)) (by rw [ih.zl,hl]) (fun i hi=>orS_bt.2 (.inl hi))
  rw [shL_succ,shZ_succ]
  split
  ·rename_i hf
   obtain ⟨i,h1,h2⟩:=freshB_iff.1 hf
   have hne:P5.cnt (shZ a z s w x) ≠ P5.cnt (orS (shZ a z s w x) (afterA a s x)):=fun e=>by
    refine h2 ?_
    rw [hm.2 e]
    exact orS_bt.2 (.inr h1)
   refine ⟨hl,fun e he=>?_,fun e he=>?_,?_⟩
   ·rcases List.mem_append.1 he with he | he
    ·exact ih.sl e he
    ·rw [List.mem_singleton.1 he];exact afterA_len _ _ _
   ·rcases List.mem_append.1 he with he | he
    ·exact ih.len e he
    ·rw [List.mem_singleton.1 he]
     simp only [List.length_append,List.length_singleton]
     omega
   ·have:=ih.cnt
    have:=hm.1
    rw [List.length_append,List.length_singleton]
    omega
  ·exact ⟨hl,ih.sl,ih.len,by have:=ih.cnt;have:=hm.1;omega⟩
theorem shOk_one (a:Au):ShOk a [(firstA a,[])] (firstA a) 0 :=
 ⟨firstA_len a,fun e he=>by rw [List.mem_singleton.1 he];exact firstA_len a,fun e he=>by rw [List.mem_singleton.1 he];exact Nat.le_refl _,by simp⟩
end P5
namespace Go.Proofs.Ytjilachpkjlhdaa
open Go.RowKit Dak P5
abbrev vwb (o:Option (List Int)):AV:=.tup [vints (o.getD []),vb o.isSome]
theorem freezeLast {n:Nat} {env:List (Nat × AV)} (pre mid tl:List AObj) (k:Nat) (hk:pre.length=k) (N sz:Nat) (et:TypeId) (X:List AV) (y:AV) (c id2:Nat) (ys:List AV) (m:Nat) (hm:ys.length=m) (hid:k+1+mid.length=id2) (hc:y.cells[c]? = some (.own id2 m 0 m)) (hT:(ys.all AV.isT)=true) :
 WkE n ⟨env,pre++[.arr N sz et (X++[y])]++(mid++.arr m 1 3 ys::tl)⟩ ⟨env,pre++[.arr N sz et (X++[recell y (y.cells.set c (.list 1 ys))])]++(mid++.dead::tl)⟩:=by
 subst hm hid
 have g1:(pre++[AObj.arr N sz et (X++[y])]++(mid++AObj.arr ys.length 1 3 ys::tl))[k]? = some (.arr N sz et (X++[y])):=by
  rw [List.append_assoc,List.getElem?_append_right (by omega),hk,Nat.sub_self];rfl
 have e0:k+1+mid.length-(pre++[AObj.arr N sz et (X++[y])]).length=mid.length:=by simp;omega
 have g2:(pre++[AObj.arr N sz et (X++[y])]++(mid++AObj.arr ys.length 1 3 ys::tl))[k+1+mid.length]? = some (.arr ys.length 1 3 ys):=by
  rw [List.getElem?_append_right (by simp;omega),e0,List.getElem?_append_right (Nat.le_refl _),Nat.sub_self];rfl
 have h:=WkE.freezeCell (n:=n) (env:=env) k N sz X.length c (k+1+mid.length) ys.length 0 ys.length 1 et 3 (X++[y]) ys y g1 List.getElem?_concat_length hc g2 (by omega) (by omega) hT
 have s1:(pre++[AObj.arr N sz et (X++[y])]++(mid++AObj.arr ys.length 1 3 ys::tl)).set (k+1+mid.length) AObj.dead=pre++[AObj.arr N sz et (X++[y])]++(mid++AObj.dead::tl):=by
  rw [List.set_append_right _ _ (by simp;omega),e0,List.set_append_right _ _ (Nat.le_refl _),Nat.sub_self];rfl
 have s2:∀ o,(pre++[AObj.arr N sz et (X++[y])]++(mid++AObj.dead::tl)).set k o=pre++[o]++(mid++AObj.dead::tl):=fun o=>by
  rw [List.append_assoc,List.set_append_right _ _ (by omega),hk,Nat.sub_self,List.append_assoc];rfl
 have s3:∀ v:AV,(X++[y]).set X.length v=X++[v]:=fun v=>by
  rw [List.set_append_right _ _ (Nat.le_refl _),Nat.sub_self];rfl
 rw [s1,s2,s3,List.drop_zero,List.take_length] at h
 exact h
theorem differ1_s (g:Gr) (i:Int) (hi:i<g.acc.length):Ctr Try.prog 56 [vgr g,vi i] (vb (decide (0<=i) && bt g.acc i.toNat)):=by
 refine specE f56 (by simp) fun F0 w0=>?_
 by_cases h0:0<=i
 ·have b1:=bt_get (s:=g.acc) (k:=i.toNat) (by omega)
  simp only [c56,go_sem,↓reduceIte,reduceCtorEq,Nat.reduceLT,Nat.reduceEqDiff,Nat.reduceAdd,h0,b1,decide_true,Bool.true_and]
  exact .tree _ rfl
 ·simp only [c56,go_sem,↓reduceIte,reduceCtorEq,Nat.reduceLT,Nat.reduceEqDiff,Nat.reduceAdd,h0,decide_false,Bool.false_and]
  exact .tree _ rfl
theorem differ2_s (g:Gr) (h:GrOk g) (i:Int) (x:Nat) (hi:i<g.acc.length) (hx:x<g.sy):Ctr Try.prog 57 [vgr g,vi i,vi x] (vi (stepI g i x)):=by
 refine specE f57 (by simp) fun F0 w0=>?_
 unfold stepI
 by_cases h0:i<0
 ·rw [if_pos h0]
  simp only [c57,go_sem,↓reduceIte,reduceCtorEq,Nat.reduceLT,Nat.reduceEqDiff,Nat.reduceAdd,Int.reduceNeg,h0]
  exact .tree _ rfl
 ·rw [if_neg h0]
  have a0:0<=i:=by omega
  have r1:=row_get h (i:=i.toNat) (by omega)
  have t1:=gto_get h (i:=i.toNat) (x:=x) (by omega) hx
  have x0:(0:Int)<=(x:Int):=by omega
  simp only [c57,go_sem,↓reduceIte,reduceCtorEq,Nat.reduceLT,Nat.reduceEqDiff,Nat.reduceAdd,Int.reduceNeg,h0,a0,r1,t1,x0,Int.toNat_natCast]
  exact .tree _ rfl
abbrev vre (e:RE):AV:=.agg [vi e.1.1,vi e.1.2,vints e.2]
abbrev oG2 (g:Gr):AObj:=.arr 1 3 97 [vgr g]
def objsD (a b:Au) (g h:Gr) (ks:List (MK × Value)) (G:Nat) (X:List RE):List AObj:=[oX a,oX b,oG2 g,oG2 h,.arr 1 1 (mapT+6) [.val (mapV ks)],.arr G 3 112 (X.map vre)]
theorem objsD_eq (a b:Au) (g h:Gr) (ks:List (MK × Value)) (G:Nat) (X:List RE):objsD a b g h ks G X=[oX a,oX b,oG2 g,oG2 h,.arr 1 1 (mapT+6) [.val (mapV ks)],.arr G 3 112 (X.map vre)]:=rfl
theorem vre_drop {X L:List RE} {o i:Nat} (h:X.drop o=L.drop i) (hi:i<L.length):(X.map vre)[o]? = some (vre L[i]):=by
 have:X[o]? = some L[i]:=by
  have h2:=congrArg (fun l:List RE=>l[0]?) h
  simp only [List.getElem?_drop,Nat.add_zero] at h2
  rw [h2,List.getElem?_eq_getElem hi]
 rw [List.getElem?_map,this];rfl
theorem objsD_inn (a b:Au) (g h:Gr) (ks:List (MK × Value)) (G:Nat) (X:List RE) (n:Nat):((objsD a b g h ks G X).all fun o=>o.innO n)=true:=by
 rw [objsD_eq]
 exact Bool.and_eq_true_iff.2 ⟨rfl,Bool.and_eq_true_iff.2 ⟨rfl,Bool.and_eq_true_iff.2 ⟨rfl,Bool.and_eq_true_iff.2 ⟨rfl,Bool.and_eq_true_iff.2 ⟨rfl,Bool.and_eq_true_iff.2 ⟨inn_map fun _=>rfl,rfl⟩⟩⟩⟩⟩⟩
def KnowP (ks:List (MK × Value)) (Z:List PI):Prop:=∀ t,kget ks (keyP t)=if t ∈ Z then some (.bool true) else none
theorem knowP_one:KnowP [(keyP (0,0),.bool true)] [(0,0)]:=by
 intro t
 rw [kget_cons,kget_nil]
 by_cases h:t=(0,0)
 ·subst h;rw [if_pos rfl,if_pos (by simp)]
 ·rw [if_neg (fun e=>h (keyP_inj e)),if_neg (by simpa using h)]
theorem KnowP.add {ks:List (MK × Value)} {Z:List PI} (h:KnowP ks Z) (k:PI):KnowP (kset ks (keyP k) (.bool true)) (Z++[k]):=by
 intro t
 rw [kget_kset]
 by_cases e:t=k
 ·subst e;rw [if_pos rfl,if_pos (by simp)]
 ·rw [if_neg (fun e2=>e (keyP_inj e2)),h t]
  have:t ∈ Z++[k] ↔ t ∈ Z:=by simp [e]
  simp only [this]
set_option maxHeartbeats 8000000 in
theorem Differ_s (a b:Au) (ha:SzA a) (hb:SzA b):Ctr Try.prog 26 [vau a,vau b] (.tup [vints ((differM a b).1.getD []),vb (differM a b).1.isSome,vi (differM a b).2]):=by
 refine specC f26 (by simp) fun F0 w0=>?_
 have htw:=two_s a b ha hb
 unfold differM
 simp only
 unfold c26
 refine CwpE.cut (st:=⟨[(2,.ref 0 1 0 0),(3,.ref 1 1 0 0)],[oX a,oX b]⟩) ?_ ?_
 ·simp only [go_sem]
  exact ⟨_,WkE.kp,rfl⟩
 refine CwpE.cut (st:=⟨[(2,.ref 0 1 0 0),(7,.ref 2 1 0 0),(8,.ref 3 1 0 0),(9,vi (twoM a b).1)],[oX a,oX b,oG2 (twoM a b).2.1,oG2 (twoM a b).2.2]⟩) ?_ ?_
 ·generalize twoM a b=t at htw ⊢
  simp only [go_sem]
  refine callT htw rfl ?_
  simp only [go_sem]
  exact ⟨_,WkE.kp,rfl⟩
 by_cases h0:(twoM a b).1=0
 rotate_left
 ·rw [if_neg h0]
  generalize twoM a b=t at h0 ⊢
  refine CwpE.vc ?_
  simp only [go_sem,h0]
  refine .tup _ _ rfl fun i h1 h2=>?_
  match i,h1,h2 with
  | 0,_,_=>exact .nil 1
  | 1,_,_=>exact .tree _ rfl
  | 2,_,_=>exact .tree _ rfl
 rw [if_pos h0]
 obtain ⟨va,vb',hs,fa,fb,g,h,e,ea,eb,ng,nk,sg,sk,lg,lk⟩:=two_norm h0
 rw [e]
 simp only
 have hsy:=va.sy
 have gok:=ng.ok
 have hok:=nk.ok
 have gn:g.acc.length<=256:=ng.va.n.2
 have hn:h.acc.length<=256:=nk.va.n.2
 obtain ⟨y,hy⟩:∃ y,g.sy=y:=⟨_,rfl⟩
 have hasy:a.sy=(y:Int):=by omega
 have hhy:h.sy=y:=by omega
 obtain ⟨B,hB⟩:∃ B,apartM g h=B:=⟨_,rfl⟩
 rw [hB]
 rw [apartM_G] at hB
 refine CwpE.cut (st:=⟨[(2,.ref 0 1 0 0),(7,.ref 2 1 0 0),(8,.ref 3 1 0 0)],[oX a,oX b,oG2 g,oG2 h]⟩) ?_ ?_
 ·simp only [go_sem]
  exact ⟨_,WkE.kp,rfl⟩
 refine CwpE.cut (st:=⟨[(2,.ref 0 1 0 0),(7,.ref 2 1 0 0),(8,.ref 3 1 0 0),(10,.clo (.func 56) [])],[oX a,oX b,oG2 g,oG2 h]⟩) ?_ ?_
 ·simp only [go_sem]
  exact ⟨_,WkE.kp,rfl⟩
 refine CwpE.cut (st:=⟨[(2,.ref 0 1 0 0),(7,.ref 2 1 0 0),(8,.ref 3 1 0 0),(10,.clo (.func 56) []),(11,.clo (.func 57) [])],[oX a,oX b,oG2 g,oG2 h]⟩) ?_ ?_
 ·simp only [go_sem]
  exact ⟨_,WkE.kp,rfl⟩
 refine CwpE.cut (st:=⟨[(2,.ref 0 1 0 0),(7,.ref 2 1 0 0),(8,.ref 3 1 0 0),(10,.clo (.func 56) []),(11,.clo (.func 57) []),(12,.mref 4 1)],[oX a,oX b,oG2 g,oG2 h,.arr 1 1 (mapT+6) [.val (mapV [(keyP (0,0),.bool true)])]]⟩) ?_ ?_
 ·simp only [go_sem]
  exact ⟨_,WkE.kp,rfl⟩
 refine CwpE.seqJ (fun z=>B=none) ?_ ?_
 rotate_left
 ·rintro z hBn
  rw [hBn]
  obtain ⟨env,objs⟩:=z
  refine CwpE.wk (s':=⟨[],objs⟩) (WkE.kp) ?_
  refine CwpE.vc ?_
  simp only [go_sem]
  refine .tup _ _ rfl fun i h1 h2=>?_
  match i,h1,h2 with
  | 0,_,_=>exact .nil 1
  | 1,_,_=>exact .tree _ rfl
  | 2,_,_=>exact .tree _ rfl
 refine CwpE.seqJ (fun st=>st=⟨[(2,.ref 0 1 0 0),(7,.ref 2 1 0 0),(8,.ref 3 1 0 0),(10,.clo (.func 56) []),(11,.clo (.func 57) []),(12,.mref 4 1),(13,.own 5 1 0 1)],objsD a b g h [(keyP (0,0),.bool true)] 1 [((0,0),[])]⟩) ?_ ?_
 ·refine CwpE.regionC (csa:=[⟨some 30,none,.build [(.val (.int .i64 0)),(.val (.int .i64 0)),(.val (.slice none 0 0))] []⟩]) (csb:=[⟨some 13,none,.mov (T 31)⟩]) (by omega) (by decide) ?_
  simp only [go_sem]
  refine ⟨_,WkE.keep (env':=[(2,.ref 0 1 0 0),(7,.ref 2 1 0 0),(8,.ref 3 1 0 0),(10,.clo (.func 56) []),(11,.clo (.func 57) []),(12,.mref 4 1),(31,.own 5 1 0 1)]) (by simp only [go_sem];try rfl),?_⟩
  simp only [go_sem]
  refine ⟨_,(WkE.nilCell 5 1 3 0 2 1 3 112 [.agg [vi 0,vi 0,nilV]] (.agg [vi 0,vi 0,nilV]) rfl rfl rfl).trans ((WkE.freezeCell 5 1 3 0 2 6 0 0 0 1 112 3 [.agg [vi 0,vi 0,.own 6 0 0 0]] [] (.agg [vi 0,vi 0,.own 6 0 0 0]) rfl rfl rfl rfl (by omega) (by simp) rfl).trans (WkE.round (by simp only [go_sem];try rfl) rfl (objsD_inn a b g h [(keyP (0,0),.bool true)] 1 [((0,0),[])] _) rfl)),rfl⟩
 rintro _ rfl
 refine CwpE.block ?_
 refine loopXC 0 (fun m z=>∃ (i k:Nat) (L:List RE) (ks:List (MK × Value)) (G o:Nat) (X:List RE),m=66051-i/\i+k=L.length/\X.drop o=L.drop i/\ApOk g h L i/\KnowP ks (L.map Prod.fst)/\apG g h (66051-i) L i=B /\
  z=⟨[(2,.ref 0 1 0 0),(7,.ref 2 1 0 0),(8,.ref 3 1 0 0),(10,.clo (.func 56) []),(11,.clo (.func 57) []),(12,.mref 4 1),(13,.own 5 G o k)],objsD a b g h ks G X⟩)
  (fun z=>B=none) 66051 _ (.refl _ _) ⟨0,1,[((0,0),[])],_,1,0,_,rfl,by simp,rfl,apOk_one gok hok,knowP_one,hB,rfl⟩ ?_ ?_
 rotate_left
 ·rintro z h
  simp only [inBlockE,if_true]
  exact ⟨z,.refl _ _,h⟩
 rintro m z ⟨i,k,L,ks,G,o,X,rfl,hik,hXd,hL,hks,hG,rfl⟩
 have hLb:=hL.le gn hn
 by_cases hlt:i<L.length
 rotate_left
 ·have gk:¬ (0:Int)<(k:Int):=by omega
  rw [apG_end (by omega)] at hG
  refine CwpE.vc ?_
  rw [objsD_eq]
  simp only [go_sem,gk]
  exact ⟨_,.refl _ _,hG.symm⟩
 have gk:(0:Int)<(k:Int):=by omega
 have gk':((0:Int)<=0/\(0:Int)<(k:Int)) ↔ True:=⟨fun _=>trivial,fun _=>⟨Int.le_refl _,gk⟩⟩
 have hLi:=vre_drop hXd hlt
 have hIn:=hL.inn _ (List.getElem_mem hlt)
 have hwl:=hL.len _ (List.getElem_mem hlt)
 have hf:66051-i=(66051-(i+1))+1:=by omega
 have htell:=@apG_tell g h (66051-(i+1)) L i hlt
 have hstep:=@apG_step g h (66051-(i+1)) L i hlt
 rw [<-hf,hG] at htell hstep
 have hrow:=fun x=>hL.row gok hok (p:=L[i].1) hwl x
 have hkeep:∀ x (hx:i<(apL g h L L[i].1 L[i].2 x).length),(apL g h L L[i].1 L[i].2 x)[i]=L[i]:=fun x hx=>((apL_pre g h L _ _ x).getElem hlt).symm
 obtain ⟨re,hre⟩:∃ re,L[i]=re:=⟨_,rfl⟩
 rw [hre] at hLi hIn hwl htell hstep
 simp only [hre] at hrow hkeep
 obtain ⟨⟨p,q⟩,w⟩:=re
 obtain ⟨a0,a1,b0,b1⟩:=hIn
 simp only at a0 a1 b0 b1 hwl htell hstep hrow hkeep hLi
 have ht1:=differ1_s g p a1
 have ht2:=differ1_s h q b1
 have hte:tellsI g h (p,q)=((decide (0<=p) && bt g.acc p.toNat) != (decide (0<=q) && bt h.acc q.toNat)):=rfl
 generalize (decide (0<=p) && bt g.acc p.toNat)=tb1 at ht1 hte
 generalize (decide (0<=q) && bt h.acc q.toNat)=tb2 at ht2 hte
 refine CwpE.cut (st:=⟨[(2,.ref 0 1 0 0),(7,.ref 2 1 0 0),(8,.ref 3 1 0 0),(10,.clo (.func 56) []),(11,.clo (.func 57) []),(12,.mref 4 1),(13,.own 5 G o k)],objsD a b g h ks G X⟩) ?_ ?_
 ·rw [objsD_eq]
  simp only [go_sem,gk]
  exact ⟨_,WkE.kp,rfl⟩
 refine CwpE.seqJ (fun z=>tellsI g h (p,q)=false/\∃ (ks2:List (MK × Value)) (G o:Nat) (X:List RE),KnowP ks2 ((apL g h L (p,q) w y).map Prod.fst)/\X.drop o=(apL g h L (p,q) w y).drop i/\z=⟨[(2,.ref 0 1 0 0),(7,.ref 2 1 0 0),(8,.ref 3 1 0 0),(10,.clo (.func 56) []),(11,.clo (.func 57) []),(12,.mref 4 1),(13,.own 5 G o ((apL g h L (p,q) w y).length-i))],objsD a b g h ks2 G X⟩) (CwpE.block ?_) ?_
 rotate_left
 ·rintro z ⟨htf,ks2,G2,o2,X2,hks2,hX2,rfl⟩
  have hs1:=hstep htf
  rw [hy] at hs1
  have hle:=(apL_pre g h L (p,q) w y).length_le
  have hrw:=hrow y
  obtain ⟨L2,hL2⟩:∃ L2,apL g h L (p,q) w y=L2:=⟨_,rfl⟩
  rw [hL2] at hs1 hle hrw hks2 hX2 ⊢
  obtain ⟨k2,hk2⟩:∃ k2,L2.length-i=k2+1:=⟨L2.length-i-1,by omega⟩
  rw [hk2]
  refine CwpE.vc ?_
  rw [objsD_eq]
  have k01:(0:Int)<=1:=by omega
  have k1:(1:Int)<=((k2+1:Nat):Int):=by omega
  simp only [go_sem,k01,k1,Option.bind_some,Option.map_some,Nat.add_sub_cancel]
  exact ⟨66051-(i+1),⟨[(2,.ref 0 1 0 0),(7,.ref 2 1 0 0),(8,.ref 3 1 0 0),(10,.clo (.func 56) []),(11,.clo (.func 57) []),(12,.mref 4 1),(13,.own 5 G2 (o2+1) k2)],objsD a b g h ks2 G2 X2⟩,by omega,WkE.kp,i+1,k2,L2,ks2,G2,o2+1,X2,rfl,by omega,by rw [<-List.drop_drop,<-List.drop_drop,hX2],hrw,hks2,hs1.symm,rfl⟩
 refine CwpE.cut (st:=⟨[(2,.ref 0 1 0 0),(7,.ref 2 1 0 0),(8,.ref 3 1 0 0),(10,.clo (.func 56) []),(11,.clo (.func 57) []),(12,.mref 4 1),(13,.own 5 G o k),(14,.ref 6 1 0 0)],objsD a b g h ks G X++[.arr 1 2 109 [vpair (p,q)]]⟩) ?_ ?_
 ·rw [objsD_eq]
  simp only [go_sem,Int.le_refl,gk,hLi,Nat.add_zero]
  exact ⟨_,WkE.kp,rfl⟩
 refine CwpE.step (fun z=>tellsI g h (p,q)=false/\z=⟨[(2,.ref 0 1 0 0),(7,.ref 2 1 0 0),(8,.ref 3 1 0 0),(10,.clo (.func 56) []),(11,.clo (.func 57) []),(12,.mref 4 1),(13,.own 5 G o k),(14,.ref 6 1 0 0)],objsD a b g h ks G X++[.arr 1 2 109 [vpair (p,q)]]⟩) ?_ ?_
 ·have htt:(tb1 != tb2) = !(tb1 == tb2):=rfl
  cases ht:tellsI g h (p,q) with
  | true =>
   have hB1:=htell ht
   rw [hB1]
   rw [ht] at hte
   have hq:(tb1 == tb2)=false:=by rw [bne] at hte;cases h:(tb1 == tb2) with
    | false=>rfl
    | true=>rw [h] at hte;cases hte
   rw [objsD_eq]
   simp only [go_sem,Int.reduceLE,Int.le_refl,w02,w12]
   refine callT ht1 rfl ?_
   simp only [go_sem,Int.reduceLE,w12]
   refine callT ht2 rfl ?_
   simp only [go_sem,Int.le_refl,hq,Bool.not_false,gk,hLi,Nat.add_zero]
   refine .tup _ _ rfl fun i h1 h2=>?_
   match i,h1,h2 with
   | 0,_,_=>exact .tree _ rfl
   | 1,_,_=>exact .tree _ rfl
   | 2,_,_=>exact .tree _ rfl
  | false =>
   rw [ht] at hte
   have hq:(tb1 == tb2)=true:=by rw [bne] at hte;cases h:(tb1 == tb2) with
    | true=>rfl
    | false=>rw [h] at hte;cases hte
   rw [objsD_eq]
   simp only [go_sem,Int.reduceLE,Int.le_refl,w02,w12]
   refine callT ht1 rfl ?_
   simp only [go_sem,Int.reduceLE,w12]
   refine callT ht2 rfl ?_
   simp only [go_sem,hq,Bool.not_true]
   exact ⟨_,WkE.kp,rfl⟩
 rintro _ ⟨htf,rfl⟩
 refine CwpE.cut (st:=⟨[(2,.ref 0 1 0 0),(7,.ref 2 1 0 0),(8,.ref 3 1 0 0),(10,.clo (.func 56) []),(11,.clo (.func 57) []),(12,.mref 4 1),(13,.own 5 G o k),(14,.ref 6 1 0 0),(57,vi y),(58,vi (0:Nat))],objsD a b g h ks G X++[.arr 1 2 109 [vpair (p,q)]]⟩) ?_ ?_
 ·rw [objsD_eq]
  simp only [go_sem,hasy]
  exact ⟨_,WkE.kp,rfl⟩
 refine CwpE.block ?_
 refine loopXC 2 (fun m z=>∃ (x:Nat) (ks:List (MK × Value)) (G o:Nat) (X:List RE),m=y-x/\x<=y/\KnowP ks ((apL g h L (p,q) w x).map Prod.fst)/\X.drop o=(apL g h L (p,q) w x).drop i/\z=⟨[(2,.ref 0 1 0 0),(7,.ref 2 1 0 0),(8,.ref 3 1 0 0),(10,.clo (.func 56) []),(11,.clo (.func 57) []),(12,.mref 4 1),(13,.own 5 G o ((apL g h L (p,q) w x).length-i)),(14,.ref 6 1 0 0),(57,vi y),(58,vi x)],objsD a b g h ks G X++[.arr 1 2 109 [vpair (p,q)]]⟩)
  (fun z=>∃ (ks:List (MK × Value)) (G o:Nat) (X:List RE),KnowP ks ((apL g h L (p,q) w y).map Prod.fst)/\X.drop o=(apL g h L (p,q) w y).drop i/\z=⟨[(2,.ref 0 1 0 0),(7,.ref 2 1 0 0),(8,.ref 3 1 0 0),(10,.clo (.func 56) []),(11,.clo (.func 57) []),(12,.mref 4 1),(13,.own 5 G o ((apL g h L (p,q) w y).length-i))],objsD a b g h ks G X⟩) y
  _ (.refl _ _) ⟨0,ks,G,o,X,by omega,by omega,by rw [apL_zero];exact hks,by rw [apL_zero];exact hXd,by rw [apL_zero,show L.length-i=k by omega]⟩ ?_ ?_
 rotate_left
 ·rintro z ⟨ks2,G2,o2,X2,h2,h3,rfl⟩
  simp only [go_sem]
  exact ⟨_,.refl _ _,htf,ks2,G2,o2,X2,h2,h3,rfl⟩
 clear hXd hLi
 rintro m z ⟨x,ks,G,o,X,rfl,hx,hks,hXd,rfl⟩
 by_cases hxy:x<y
 rotate_left
 ·obtain rfl:y=x:=by omega
  refine CwpE.vc ?_
  rw [objsD_eq]
  simp only [go_sem,Int.lt_irrefl]
  exact ⟨_,WkE.round (by simp only [go_sem];try rfl) rfl (objsD_inn _ _ _ _ _ _ _ _) rfl,ks,G,o,X,hks,hXd,rfl⟩
 have gx:(x:Int)<(y:Int):=by omega
 have wx:=wrap_s x (by omega)
 have hr1:=(hrow x).le gn hn
 have hsu:=apL_succ g h L (p,q) w x
 have hLl:=(apL_pre g h L (p,q) w x).length_le
 have hkx:=hkeep x (by omega)
 obtain ⟨Lx,hLx⟩:∃ Lx,apL g h L (p,q) w x=Lx:=⟨_,rfl⟩
 simp only [hLx] at hr1 hsu hLl hkx hks hXd ⊢
 have hLxi:(X.map vre)[o]? = some (vre ((p,q),w)):=by rw [vre_drop hXd (by omega),hkx]
 obtain ⟨kx,hkxl⟩:∃ kx,Lx.length-i=kx:=⟨_,rfl⟩
 rw [hkxl]
 have hikx:i+kx=Lx.length:=by omega
 have gkx:(0:Int)<(kx:Int):=by omega
 have hs1:=differ2_s g gok p x a1 (by omega)
 have hs2:=differ2_s h hok q x b1 (by omega)
 rw [stepP] at hsu
 simp only at hsu
 generalize stepI g p x=u at hs1 hsu
 generalize stepI h q x=v at hs2 hsu
 obtain ⟨L2,hL2⟩:∃ L2,apL g h L (p,q) w (x+1)=L2:=⟨_,rfl⟩
 rw [hL2] at hsu
 refine CwpE.cut (st:=⟨[(2,.ref 0 1 0 0),(7,.ref 2 1 0 0),(8,.ref 3 1 0 0),(10,.clo (.func 56) []),(11,.clo (.func 57) []),(12,.mref 4 1),(13,.own 5 G o kx),(14,.ref 6 1 0 0),(57,vi y),(58,vi x),(59,vb true)],objsD a b g h ks G X++[.arr 1 2 109 [vpair (p,q)]]⟩) ?_ ?_
 ·simp only [go_sem,gx]
  exact ⟨_,WkE.kp,rfl⟩
 refine CwpE.cut (st:=⟨[(2,.ref 0 1 0 0),(7,.ref 2 1 0 0),(8,.ref 3 1 0 0),(10,.clo (.func 56) []),(11,.clo (.func 57) []),(12,.mref 4 1),(13,.own 5 G o kx),(14,.ref 6 1 0 0),(57,vi y),(58,vi x)],objsD a b g h ks G X++[.arr 1 2 109 [vpair (p,q)]]⟩) ?_ ?_
 ·simp only [go_sem]
  exact ⟨_,WkE.kp,rfl⟩
 refine CwpE.seqJ (fun z=>∃ (ks2:List (MK × Value)) (G o:Nat) (X:List RE),KnowP ks2 (L2.map Prod.fst)/\X.drop o=L2.drop i/\z=⟨[(2,.ref 0 1 0 0),(7,.ref 2 1 0 0),(8,.ref 3 1 0 0),(10,.clo (.func 56) []),(11,.clo (.func 57) []),(12,.mref 4 1),(13,.own 5 G o (L2.length-i)),(14,.ref 6 1 0 0),(57,vi y),(58,vi x)],objsD a b g h ks2 G X++[.arr 1 2 109 [vpair (p,q)]]⟩) (CwpE.block ?_) ?_
 rotate_left
 ·rintro _ ⟨ks2,G2,o2,X2,hk2,hX2,rfl⟩
  refine CwpE.vc ?_
  simp only [go_sem,wx]
  exact ⟨y-(x+1),⟨[(2,.ref 0 1 0 0),(7,.ref 2 1 0 0),(8,.ref 3 1 0 0),(10,.clo (.func 56) []),(11,.clo (.func 57) []),(12,.mref 4 1),(13,.own 5 G2 o2 (L2.length-i)),(14,.ref 6 1 0 0),(57,vi y),(58,vi (x+1:Nat))],objsD a b g h ks2 G2 X2++[.arr 1 2 109 [vpair (p,q)]]⟩,by omega,WkE.kp,x+1,ks2,G2,o2,X2,rfl,by omega,by rw [hL2];exact hk2,by rw [hL2];exact hX2,by rw [hL2]⟩
 refine CwpE.cut (st:=⟨[(2,.ref 0 1 0 0),(7,.ref 2 1 0 0),(8,.ref 3 1 0 0),(10,.clo (.func 56) []),(11,.clo (.func 57) []),(12,.mref 4 1),(13,.own 5 G o kx),(14,.ref 6 1 0 0),(57,vi y),(58,vi x),(15,vi x)],objsD a b g h ks G X++[.arr 1 2 109 [vpair (p,q)]]⟩) ?_ ?_
 ·simp only [go_sem]
  exact ⟨_,WkE.kp,rfl⟩
 refine CwpE.cut (st:=⟨[(2,.ref 0 1 0 0),(7,.ref 2 1 0 0),(8,.ref 3 1 0 0),(10,.clo (.func 56) []),(11,.clo (.func 57) []),(12,.mref 4 1),(13,.own 5 G o kx),(14,.ref 6 1 0 0),(57,vi y),(58,vi x),(15,vi x),(16,.ref 7 1 0 0)],objsD a b g h ks G X++[.arr 1 2 109 [vpair (p,q)],.arr 1 2 109 [vpair (u,v)]]⟩) ?_ ?_
 ·rw [objsD_eq]
  simp only [go_sem,Int.le_refl,w02]
  refine callT hs1 rfl ?_
  simp only [go_sem,Int.reduceLE,w12]
  refine callT hs2 rfl ?_
  simp only [go_sem]
  exact ⟨_,WkE.kp,rfl⟩
 have hkt:=hks (u,v)
 rw [keyP] at hkt
 simp only at hkt
 by_cases hm:(u,v) ∈ Lx.map Prod.fst
 ·rw [if_pos hm] at hsu hkt
  refine CwpE.vc ?_
  rw [objsD_eq]
  simp only [go_sem,hkt,Option.getD_some,Bool.not_true]
  rw [hsu,hkxl]
  refine ⟨⟨[(2,.ref 0 1 0 0),(7,.ref 2 1 0 0),(8,.ref 3 1 0 0),(10,.clo (.func 56) []),(11,.clo (.func 57) []),(12,.mref 4 1),(13,.own 5 G o kx),(14,.ref 6 1 0 0),(57,vi y),(58,vi x)],objsD a b g h ks G X++[.arr 1 2 109 [vpair (p,q)]]⟩,?_,ks,G,o,X,hks,hXd,rfl⟩
  refine WkE.round (by simp only [go_sem];try rfl) rfl ?_ rfl
  rw [List.all_append,objsD_inn];rfl
 rw [if_neg hm] at hsu hkt
 refine CwpE.cut (st:=⟨[(2,.ref 0 1 0 0),(7,.ref 2 1 0 0),(8,.ref 3 1 0 0),(10,.clo (.func 56) []),(11,.clo (.func 57) []),(12,.mref 4 1),(13,.own 5 G o kx),(14,.ref 6 1 0 0),(57,vi y),(58,vi x),(15,vi x),(16,.ref 7 1 0 0),(77,vb true)],objsD a b g h ks G X++[.arr 1 2 109 [vpair (p,q)],.arr 1 2 109 [vpair (u,v)]]⟩) ?_ ?_
 ·rw [objsD_eq]
  simp only [go_sem,hkt,Option.getD_none,Bool.not_false]
  exact ⟨_,WkE.kp,rfl⟩
 refine CwpE.cond_t rfl ?_
 have hks2:=hks.add (u,v)
 refine CwpE.cut (st:=⟨[(2,.ref 0 1 0 0),(7,.ref 2 1 0 0),(8,.ref 3 1 0 0),(10,.clo (.func 56) []),(11,.clo (.func 57) []),(12,.mref 4 1),(13,.own 5 G o kx),(14,.ref 6 1 0 0),(57,vi y),(58,vi x),(15,vi x),(16,.ref 7 1 0 0)],objsD a b g h (kset ks (keyP (u,v)) (.bool true)) G X++[.arr 1 2 109 [vpair (p,q)],.arr 1 2 109 [vpair (u,v)]]⟩) ?_ ?_
 ·rw [objsD_eq a b g h ks G X]
  simp only [go_sem]
  exact ⟨_,WkE.kp,rfl⟩
 generalize kset ks (keyP (u,v)) (.bool true)=ks2 at hks2 ⊢
 have hcl:=Clone47_n w (by omega)
 have hoX:o+kx<=X.length:=by
  have:=congrArg List.length hXd
  rw [List.length_drop,List.length_drop] at this
  omega
 have htk:List.take kx (List.drop o (X.map vre))=(Lx.drop i).map vre:=by
  rw [<-List.map_drop,hXd,List.take_of_length_le (by rw [List.length_map,List.length_drop];omega)]
 have qw1:(w.length+1)*8<=140737488355328:=by omega
 have qW:(kx+1)*40<=140737488355328:=by omega
 refine CwpE.vc ?_
 rw [objsD_eq]
 simp only [go_sem,Int.le_refl,gkx,hLxi,Nat.add_zero]
 refine callN1 (cap:=[]) (args:=[vints w]) hcl (.cons (.tree _ rfl) .nil) ?_ rfl ?_
 ·refine Bool.and_eq_true_iff.2 ⟨?_,rfl⟩
  show ((w.map vi).all (AV.inR _))=true
  rw [List.all_map]
  exact all_tt _
 have hren:∀ σ : Nat->Nat,(w.map vi).map (AV.ren σ)=w.map vi:=fun σ=>by rw [List.map_map];rfl
 simp only [go_sem,AV.ren,AV.ren1,AObj.renO,hren,qw1,qW,hoX,htk,List.length_map]
 have hl2:L2.length-i=kx+1:=by rw [hsu,List.length_append,List.length_singleton];omega
 have hX2:(Lx.drop i++[((u,v),w++[(x:Int)])])=L2.drop i:=by rw [hsu,List.drop_append_of_le_length (by omega)]
 rw [hl2]
 refine ⟨⟨[(2,.ref 0 1 0 0),(7,.ref 2 1 0 0),(8,.ref 3 1 0 0),(10,.clo (.func 56) []),(11,.clo (.func 57) []),(12,.mref 4 1),(13,.own 5 (G+1) 0 (kx+1)),(14,.ref 6 1 0 0),(57,vi y),(58,vi x)],objsD a b g h ks2 (G+1) (L2.drop i)++[.arr 1 2 109 [vpair (p,q)]]⟩,?_,ks2,G+1,0,L2.drop i,by rw [hsu,List.map_append];exact hks2,rfl,rfl⟩
 have hfr:=freezeLast (n:=94) (env:=[(2,.ref 0 1 0 0),(7,.ref 2 1 0 0),(8,.ref 3 1 0 0),(10,.clo (.func 56) []),(11,.clo (.func 57) []),(12,.mref 4 1),(13,.own 5 (G+1) 0 (kx+1)),(14,.ref 6 1 0 0),(57,vi y),(58,vi x)]) [oX a,oX b,oG2 g,oG2 h,.arr 1 1 (mapT+6) [.val (mapV ks2)]] [.arr 1 2 109 [vpair (p,q)],.arr 1 2 109 [vpair (u,v)]] [.arr 1 3 112 [.agg [vi u,vi v,.own 8 (w.length+1) 0 (w.length+1)]]] 5 rfl (G+1) 3 112 ((Lx.drop i).map vre) (.agg [vi u,vi v,.own 8 (w.length+1) 0 (w.length+1)]) 2 8 (w.map vi++[vi x]) (w.length+1) (by simp) rfl rfl (by rw [List.all_append,Bool.and_eq_true];exact ⟨isT_map (fun _=>rfl) _,rfl⟩)
 have he2 : [oX a,oX b,oG2 g,oG2 h,AObj.arr 1 1 (mapT+6) [.val (mapV ks2)],.arr (G+1) 3 112 ((Lx.drop i).map vre++[.agg [vi u,vi v,.list 1 (w.map vi++[vi x])]]),.arr 1 2 109 [vpair (p,q)]]=objsD a b g h ks2 (G+1) (L2.drop i)++[.arr 1 2 109 [vpair (p,q)]]:=by
  rw [objsD_eq,<-hX2]
  simp only [List.map_append,List.map_cons,List.map_nil,vre,vints,List.cons_append,List.nil_append]
 have hin:((objsD a b g h ks2 (G+1) (L2.drop i)++[AObj.arr 1 2 109 [vpair (p,q)]]).all fun o=>o.innO 7)=true:=by rw [List.all_append,objsD_inn];rfl
 rw [<-he2] at hin ⊢
 refine (WkE.keep ?_).trans (hfr.trans (WkE.round ?_ rfl hin rfl))
 ·simp only [go_sem];try rfl
 ·simp only [go_sem];try rfl
def frK (t z:List Bool):Nat->Bool
 | 0=>false
 | k+1=>frK t z k || decide (wdv t k &&& ~~~ wdv z k ≠ 0#64)
theorem frK_all {t z:List Bool} (h:t.length<=256):frK t z 4=freshB t z:=by
 rw [Bool.eq_iff_iff,fresh_words h]
 simp only [frK,Bool.or_eq_true,decide_eq_true_eq,Bool.false_or]
 constructor
 ·rintro (((h | h) | h) | h)
  ·exact ⟨0,by omega,h⟩
  ·exact ⟨1,by omega,h⟩
  ·exact ⟨2,by omega,h⟩
  ·exact ⟨3,by omega,h⟩
 ·rintro ⟨k,hk,h⟩
  have h4:k=0 \/ k=1 \/ k=2 \/ k=3:=by omega
  rcases h4 with rfl | rfl | rfl | rfl
  ·exact .inl (.inl (.inl h))
  ·exact .inl (.inl (.inr h))
  ·exact .inl (.inr h)
  ·exact .inr h
theorem fresh_word (t z:List Bool) (k:Nat):(IntKind.u64.wrap (((BitVec.ofInt 64 (wdi t k) &&& ~~~ BitVec.ofInt 64 (wdi z k)).toNat:Nat):Int)=0) ↔ wdv t k &&& ~~~ wdv z k=0#64:=by
 rw [wdi,wdi,ofInt_word,ofInt_word]
 have hlt:=(wdv t k &&& ~~~ wdv z k).isLt
 rw [wrap_u (by omega) (by omega)]
 exact word_int
abbrev vrs (e:RS):AV:=.agg [vw (wdi e.1 0),vw (wdi e.1 1),vw (wdi e.1 2),vw (wdi e.1 3),vints e.2]
def objsH (a:Au) (z:List Bool) (G:Nat) (X:List RS):List AObj:=[oX a,.arr 1 4 79 [vset z],.arr G 5 90 (X.map vrs)]
theorem objsH_eq (a:Au) (z:List Bool) (G:Nat) (X:List RS):objsH a z G X=[oX a,.arr 1 4 79 [vset z],.arr G 5 90 (X.map vrs)]:=rfl
theorem vrs_drop {X L:List RS} {o i:Nat} (h:X.drop o=L.drop i) (hi:i<L.length):(X.map vrs)[o]? = some (vrs L[i]):=by
 have:X[o]? = some L[i]:=by
  have h2:=congrArg (fun l:List RS=>l[0]?) h
  simp only [List.getElem?_drop,Nat.add_zero] at h2
  rw [h2,List.getElem?_eq_getElem hi]
 rw [List.getElem?_map,this];rfl
theorem objsH_inn (a:Au) (z:List Bool) (G:Nat) (X:List RS) (n:Nat):((objsH a z G X).all fun o=>o.innO n)=true:=by
 rw [objsH_eq]
 exact Bool.and_eq_true_iff.2 ⟨rfl,Bool.and_eq_true_iff.2 ⟨rfl,Bool.and_eq_true_iff.2 ⟨inn_map fun _=>rfl,rfl⟩⟩⟩
set_option maxHeartbeats 8000000 in
theorem Shortest_s (a:Au) (ha:SzA a):Ctr Try.prog 18 [vau a] (vwb (shortestM a)):=by
 refine specC f18 (by simp) fun F0 w0=>?_
 have hval:=Valid_s a ha
 unfold c18
 refine CwpE.cut (st:=⟨[(1,.ref 0 1 0 0)],[oX a]⟩) ?_ ?_
 ·simp only [go_sem]
  exact ⟨_,WkE.kp,rfl⟩
 by_cases h0:validM a=0
 rotate_left
 ·refine CwpE.step (fun _=>False) ?_ (fun _ h=>h.elim)
  have:shortestM a=none:=by rw [shortestM,if_neg h0]
  rw [this]
  simp only [go_sem]
  refine callT hval rfl ?_
  simp only [go_sem,h0]
  exact snap_tup2 (.nil 1) (.tree _ rfl)
 rw [h0] at hval
 have hV:=valid_VA.1 h0
 obtain ⟨⟨hsy1,hsy2⟩,⟨hn1,hn2⟩,hm,hed⟩:=id hV
 obtain ⟨y,hy⟩:∃ y:Nat,a.sy=(y:Int):=⟨a.sy.toNat,by omega⟩
 have hyT:a.sy.toNat=y:=by omega
 obtain ⟨n,hn⟩:∃ n,a.acc.length=n:=⟨_,rfl⟩
 have hnm:=newMachine_s a hV
 have haf:=fun (s:List Bool) (x:Nat) (hx:(x:Int)<a.sy)=>after_s a hV s x hx
 obtain ⟨MV,hMV⟩:∃ MV,MV=rg a.acc.length fun i=>AV.list 4 (rg a.sy.toNat fun x=>vset (moveP a i (x:Int))):=⟨_,rfl⟩
 have hvm:vmach a=(.ptr [vi a.sy,vw (wdi a.acc 0),vw (wdi a.acc 1),vw (wdi a.acc 2),vw (wdi a.acc 3),.list 1 MV,vw (wdi (firstA a) 0),vw (wdi (firstA a) 1),vw (wdi (firstA a) 2),vw (wdi (firstA a) 3)]):=by rw [vmach,hMV]
 rw [hvm] at hnm haf
 obtain ⟨B,hB⟩:∃ B,shortestM a=B:=⟨_,rfl⟩
 rw [hB]
 rw [shortestM_G h0,hn] at hB
 refine CwpE.cut (st:=⟨[(1,.ref 0 1 0 0)],[oX a]⟩) ?_ ?_
 ·simp only [go_sem]
  refine callT hval rfl ?_
  simp only [go_sem]
  exact ⟨_,WkE.kp,rfl⟩
 refine CwpE.cut (st:=⟨[(1,.ref 0 1 0 0),(4,(.ptr [vi a.sy,vw (wdi a.acc 0),vw (wdi a.acc 1),vw (wdi a.acc 2),vw (wdi a.acc 3),.list 1 MV,vw (wdi (firstA a) 0),vw (wdi (firstA a) 1),vw (wdi (firstA a) 2),vw (wdi (firstA a) 3)]))],[oX a]⟩) ?_ ?_
 ·simp only [go_sem]
  refine callT hnm rfl ?_
  simp only [go_sem]
  exact ⟨_,WkE.kp,rfl⟩
 refine CwpE.cut (st:=⟨[(1,.ref 0 1 0 0),(4,(.ptr [vi a.sy,vw (wdi a.acc 0),vw (wdi a.acc 1),vw (wdi a.acc 2),vw (wdi a.acc 3),.list 1 MV,vw (wdi (firstA a) 0),vw (wdi (firstA a) 1),vw (wdi (firstA a) 2),vw (wdi (firstA a) 3)])),(5,.ref 1 1 0 0)],[oX a,.arr 1 4 79 [vset (firstA a)]]⟩) ?_ ?_
 ·simp only [go_sem]
  exact ⟨_,WkE.kp,rfl⟩
 refine CwpE.seqJ (fun z=>B=none) ?_ ?_
 rotate_left
 ·rintro z hBn
  rw [hBn]
  obtain ⟨env,objs⟩:=z
  refine CwpE.wk (s':=⟨[],objs⟩) (WkE.kp) ?_
  refine CwpE.vc ?_
  simp only [go_sem]
  exact snap_tup2 (.nil 1) (.tree _ rfl)
 refine CwpE.seqJ (fun st=>st=⟨[(1,.ref 0 1 0 0),(4,(.ptr [vi a.sy,vw (wdi a.acc 0),vw (wdi a.acc 1),vw (wdi a.acc 2),vw (wdi a.acc 3),.list 1 MV,vw (wdi (firstA a) 0),vw (wdi (firstA a) 1),vw (wdi (firstA a) 2),vw (wdi (firstA a) 3)])),(5,.ref 1 1 0 0),(6,.own 2 1 0 1)],objsH a (firstA a) 1 [(firstA a,[])]⟩) ?_ ?_
 ·refine CwpE.regionC (csa:=[⟨some 21,none,.mov (T 4)⟩,⟨some 22,none,.nilCheck (T 21)⟩,⟨some 23,none,.fieldAddr 6 (T 22)⟩,⟨some 24,none,.load true 4 (T 23)⟩,⟨some 25,none,.build [(.val (.int .u64 0)),(.val (.int .u64 0)),(.val (.int .u64 0)),(.val (.int .u64 0)),(.val (.slice none 0 0))] [(0,(4,(T 24)))]⟩]) (csb:=[⟨some 6,none,.mov (T 26)⟩]) (by omega) (by decide) ?_
  simp only [go_sem]
  refine ⟨_,WkE.keep (env':=[(1,.ref 0 1 0 0),(4,(.ptr [vi a.sy,vw (wdi a.acc 0),vw (wdi a.acc 1),vw (wdi a.acc 2),vw (wdi a.acc 3),.list 1 MV,vw (wdi (firstA a) 0),vw (wdi (firstA a) 1),vw (wdi (firstA a) 2),vw (wdi (firstA a) 3)])),(5,.ref 1 1 0 0),(26,.own 2 1 0 1)]) (by simp only [go_sem];try rfl),?_⟩
  simp only [go_sem]
  refine ⟨_,(WkE.nilCell 2 1 5 0 4 1 3 90 [.agg [vw (wdi (firstA a) 0),vw (wdi (firstA a) 1),vw (wdi (firstA a) 2),vw (wdi (firstA a) 3),nilV]] (.agg [vw (wdi (firstA a) 0),vw (wdi (firstA a) 1),vw (wdi (firstA a) 2),vw (wdi (firstA a) 3),nilV]) rfl rfl rfl).trans ((WkE.freezeCell 2 1 5 0 4 3 0 0 0 1 90 3 [.agg [vw (wdi (firstA a) 0),vw (wdi (firstA a) 1),vw (wdi (firstA a) 2),vw (wdi (firstA a) 3),.own 3 0 0 0]] [] (.agg [vw (wdi (firstA a) 0),vw (wdi (firstA a) 1),vw (wdi (firstA a) 2),vw (wdi (firstA a) 3),.own 3 0 0 0]) rfl rfl rfl rfl (by omega) (by simp) rfl).trans (WkE.round (by simp only [go_sem];try rfl) rfl (objsH_inn a (firstA a) 1 [(firstA a,[])] _) rfl)),rfl⟩
 rintro _ rfl
 refine CwpE.block ?_
 refine loopXC 0 (fun m st=>∃ (i k:Nat) (L:List RS) (z:List Bool) (G o:Nat) (X:List RS),m=n+2-i/\i+k=L.length/\X.drop o=L.drop i/\ShOk a L z i/\shG a (n+2-i) L i z=B /\
  st=⟨[(1,.ref 0 1 0 0),(4,(.ptr [vi a.sy,vw (wdi a.acc 0),vw (wdi a.acc 1),vw (wdi a.acc 2),vw (wdi a.acc 3),.list 1 MV,vw (wdi (firstA a) 0),vw (wdi (firstA a) 1),vw (wdi (firstA a) 2),vw (wdi (firstA a) 3)])),(5,.ref 1 1 0 0),(6,.own 2 G o k)],objsH a z G X⟩)
  (fun st=>B=none) (n+2) _ (.refl _ _) ⟨0,1,[(firstA a,[])],firstA a,1,0,_,rfl,by simp,rfl,shOk_one a,hB,rfl⟩ ?_ ?_
 rotate_left
 ·rintro z h
  simp only [inBlockE,if_true]
  exact ⟨z,.refl _ _,h⟩
 rintro m st ⟨i,k,L,z,G,o,X,rfl,hik,hXd,hL,hG,rfl⟩
 have hLb:=hL.le
 rw [hn] at hLb
 by_cases hlt:i<L.length
 rotate_left
 ·have gk:¬ (0:Int)<(k:Int):=by omega
  rw [shG_end (by omega)] at hG
  refine CwpE.vc ?_
  rw [objsH_eq]
  simp only [go_sem,gk]
  exact ⟨_,.refl _ _,hG.symm⟩
 have gk:(0:Int)<(k:Int):=by omega
 have hLi:=vrs_drop hXd hlt
 have hsl:=hL.sl _ (List.getElem_mem hlt)
 have hwl:=hL.len _ (List.getElem_mem hlt)
 have hf:n+2-i=(n+2-(i+1))+1:=by omega
 have htell:=@shG_tell a (n+2-(i+1)) L i z hlt
 have hstep:=@shG_step a (n+2-(i+1)) L i z hlt
 rw [<-hf,hG] at htell hstep
 rw [hyT] at hstep
 have hrow:=fun x=>hL.row (s:=L[i].1) hwl x
 have hkeep:∀ x (hx:i<(shL a L z L[i].1 L[i].2 x).length),(shL a L z L[i].1 L[i].2 x)[i]=L[i]:=fun x hx=>((shL_pre a L z _ _ x).getElem hlt).symm
 obtain ⟨re,hre⟩:∃ re,L[i]=re:=⟨_,rfl⟩
 rw [hre] at hLi hsl hwl htell hstep
 simp only [hre] at hrow hkeep
 obtain ⟨s,w⟩:=re
 simp only at hsl hwl htell hstep hrow hkeep hLi
 have hme:=meets_s s a.acc (by omega)
 refine CwpE.cut (st:=⟨[(1,.ref 0 1 0 0),(4,(.ptr [vi a.sy,vw (wdi a.acc 0),vw (wdi a.acc 1),vw (wdi a.acc 2),vw (wdi a.acc 3),.list 1 MV,vw (wdi (firstA a) 0),vw (wdi (firstA a) 1),vw (wdi (firstA a) 2),vw (wdi (firstA a) 3)])),(5,.ref 1 1 0 0),(6,.own 2 G o k)],objsH a z G X⟩) ?_ ?_
 ·rw [objsH_eq]
  simp only [go_sem,gk]
  exact ⟨_,WkE.kp,rfl⟩
 refine CwpE.seqJ (fun st=>meets s a.acc=false/\∃ (G o:Nat) (X:List RS),X.drop o=(shL a L z s w y).drop i/\st=⟨[(1,.ref 0 1 0 0),(4,(.ptr [vi a.sy,vw (wdi a.acc 0),vw (wdi a.acc 1),vw (wdi a.acc 2),vw (wdi a.acc 3),.list 1 MV,vw (wdi (firstA a) 0),vw (wdi (firstA a) 1),vw (wdi (firstA a) 2),vw (wdi (firstA a) 3)])),(5,.ref 1 1 0 0),(6,.own 2 G o ((shL a L z s w y).length-i))],objsH a (shZ a z s w y) G X⟩) (CwpE.block ?_) ?_
 rotate_left
 ·rintro st ⟨htf,G2,o2,X2,hX2,rfl⟩
  have hs1:=hstep htf
  have hle:=(shL_pre a L z s w y).length_le
  have hrw:=hrow y
  obtain ⟨L2,hL2⟩:∃ L2,shL a L z s w y=L2:=⟨_,rfl⟩
  obtain ⟨z2,hz2⟩:∃ z2,shZ a z s w y=z2:=⟨_,rfl⟩
  rw [hL2,hz2] at hs1 hrw
  rw [hL2] at hle hX2 ⊢
  rw [hz2]
  obtain ⟨k2,hk2⟩:∃ k2,L2.length-i=k2+1:=⟨L2.length-i-1,by omega⟩
  rw [hk2]
  refine CwpE.vc ?_
  rw [objsH_eq]
  have k01:(0:Int)<=1:=by omega
  have k1:(1:Int)<=((k2+1:Nat):Int):=by omega
  simp only [go_sem,k01,k1,Option.bind_some,Option.map_some,Nat.add_sub_cancel]
  exact ⟨n+2-(i+1),⟨[(1,.ref 0 1 0 0),(4,(.ptr [vi a.sy,vw (wdi a.acc 0),vw (wdi a.acc 1),vw (wdi a.acc 2),vw (wdi a.acc 3),.list 1 MV,vw (wdi (firstA a) 0),vw (wdi (firstA a) 1),vw (wdi (firstA a) 2),vw (wdi (firstA a) 3)])),(5,.ref 1 1 0 0),(6,.own 2 G2 (o2+1) k2)],objsH a z2 G2 X2⟩,by omega,WkE.kp,i+1,k2,L2,z2,G2,o2+1,X2,rfl,by omega,by rw [<-List.drop_drop,<-List.drop_drop,hX2],hrw,hs1.symm,rfl⟩
 refine CwpE.step (fun st=>meets s a.acc=false/\st=⟨[(1,.ref 0 1 0 0),(4,(.ptr [vi a.sy,vw (wdi a.acc 0),vw (wdi a.acc 1),vw (wdi a.acc 2),vw (wdi a.acc 3),.list 1 MV,vw (wdi (firstA a) 0),vw (wdi (firstA a) 1),vw (wdi (firstA a) 2),vw (wdi (firstA a) 3)])),(5,.ref 1 1 0 0),(6,.own 2 G o k)],objsH a z G X⟩) ?_ ?_
 ·cases ht:meets s a.acc with
  | true =>
   rw [ht] at hme
   have hB1:=htell ht
   rw [hB1]
   rw [objsH_eq]
   simp only [go_sem,Int.le_refl,gk,hLi,Nat.add_zero]
   refine callT hme rfl ?_
   simp only [go_sem,Int.le_refl,gk,hLi,Nat.add_zero]
   exact snap_tup2 (.tree _ rfl) (.tree _ rfl)
  | false =>
   rw [ht] at hme
   rw [objsH_eq]
   simp only [go_sem,Int.le_refl,gk,hLi,Nat.add_zero]
   refine callT hme rfl ?_
   simp only [go_sem]
   exact ⟨_,WkE.kp,rfl⟩
 rintro _ ⟨htf,rfl⟩
 refine CwpE.cut (st:=⟨[(1,.ref 0 1 0 0),(4,(.ptr [vi a.sy,vw (wdi a.acc 0),vw (wdi a.acc 1),vw (wdi a.acc 2),vw (wdi a.acc 3),.list 1 MV,vw (wdi (firstA a) 0),vw (wdi (firstA a) 1),vw (wdi (firstA a) 2),vw (wdi (firstA a) 3)])),(5,.ref 1 1 0 0),(6,.own 2 G o k),(46,vi y),(47,vi (0:Nat))],objsH a z G X⟩) ?_ ?_
 ·rw [objsH_eq]
  simp only [go_sem,hy]
  exact ⟨_,WkE.kp,rfl⟩
 refine CwpE.block ?_
 refine loopXC 2 (fun m st=>∃ (x G o:Nat) (X:List RS),m=y-x/\x<=y/\X.drop o=(shL a L z s w x).drop i/\st=⟨[(1,.ref 0 1 0 0),(4,(.ptr [vi a.sy,vw (wdi a.acc 0),vw (wdi a.acc 1),vw (wdi a.acc 2),vw (wdi a.acc 3),.list 1 MV,vw (wdi (firstA a) 0),vw (wdi (firstA a) 1),vw (wdi (firstA a) 2),vw (wdi (firstA a) 3)])),(5,.ref 1 1 0 0),(6,.own 2 G o ((shL a L z s w x).length-i)),(46,vi y),(47,vi x)],objsH a (shZ a z s w x) G X⟩)
  (fun st=>∃ (G o:Nat) (X:List RS),X.drop o=(shL a L z s w y).drop i/\st=⟨[(1,.ref 0 1 0 0),(4,(.ptr [vi a.sy,vw (wdi a.acc 0),vw (wdi a.acc 1),vw (wdi a.acc 2),vw (wdi a.acc 3),.list 1 MV,vw (wdi (firstA a) 0),vw (wdi (firstA a) 1),vw (wdi (firstA a) 2),vw (wdi (firstA a) 3)])),(5,.ref 1 1 0 0),(6,.own 2 G o ((shL a L z s w y).length-i))],objsH a (shZ a z s w y) G X⟩) y
  _ (.refl _ _) ⟨0,G,o,X,by omega,by omega,by rw [shL_zero];exact hXd,by rw [shL_zero,shZ_zero,show L.length-i=k by omega]⟩ ?_ ?_
 rotate_left
 ·rintro st ⟨G2,o2,X2,h3,rfl⟩
  simp only [go_sem]
  exact ⟨_,.refl _ _,htf,G2,o2,X2,h3,rfl⟩
 clear hXd hLi
 rintro m st ⟨x,G,o,X,rfl,hx,hXd,rfl⟩
 by_cases hxy:x<y
 rotate_left
 ·obtain rfl:y=x:=by omega
  refine CwpE.vc ?_
  simp only [go_sem,Int.lt_irrefl]
  exact ⟨_,WkE.kp,G,o,X,hXd,rfl⟩
 have gx:(x:Int)<(y:Int):=by omega
 have wx:=wrap_s x (by omega)
 have hr1:=hrow x
 have hsu:=shL_succ a L z s w x
 have hzu:=shZ_succ a z s w x
 have hLl:=(shL_pre a L z s w x).length_le
 have hkx:=hkeep x (by omega)
 have hafx:=haf s x (by omega)
 have htl:=afterA_len a s (x:Int)
 obtain ⟨t,ht⟩:∃ t,afterA a s (x:Int)=t:=⟨_,rfl⟩
 rw [ht] at hsu hzu hafx htl
 obtain ⟨Lx,hLx⟩:∃ Lx,shL a L z s w x=Lx:=⟨_,rfl⟩
 obtain ⟨zx,hzx⟩:∃ zx,shZ a z s w x=zx:=⟨_,rfl⟩
 simp only [hLx] at hsu hLl hkx hXd ⊢
 simp only [hzx] at hsu hzu ⊢
 have hr2:=hr1.le
 rw [hLx,hn] at hr2
 have hLxi:(X.map vrs)[o]? = some (vrs (s,w)):=by rw [vrs_drop hXd (by omega),hkx]
 obtain ⟨kx,hkxl⟩:∃ kx,Lx.length-i=kx:=⟨_,rfl⟩
 rw [hkxl]
 have hikx:i+kx=Lx.length:=by omega
 have gkx:(0:Int)<(kx:Int):=by omega
 obtain ⟨L2,hL2⟩:∃ L2,shL a L z s w (x+1)=L2:=⟨_,rfl⟩
 obtain ⟨z2,hz2⟩:∃ z2,shZ a z s w (x+1)=z2:=⟨_,rfl⟩
 rw [hL2] at hsu
 rw [hz2] at hzu
 have hfa:=frK_all (t:=t) (z:=zx) (by omega)
 refine CwpE.cut (st:=⟨[(1,.ref 0 1 0 0),(4,(.ptr [vi a.sy,vw (wdi a.acc 0),vw (wdi a.acc 1),vw (wdi a.acc 2),vw (wdi a.acc 3),.list 1 MV,vw (wdi (firstA a) 0),vw (wdi (firstA a) 1),vw (wdi (firstA a) 2),vw (wdi (firstA a) 3)])),(5,.ref 1 1 0 0),(6,.own 2 G o kx),(46,vi y),(47,vi x),(48,vb true)],objsH a zx G X⟩) ?_ ?_
 ·simp only [go_sem,gx]
  exact ⟨_,WkE.kp,rfl⟩
 refine CwpE.cut (st:=⟨[(1,.ref 0 1 0 0),(4,(.ptr [vi a.sy,vw (wdi a.acc 0),vw (wdi a.acc 1),vw (wdi a.acc 2),vw (wdi a.acc 3),.list 1 MV,vw (wdi (firstA a) 0),vw (wdi (firstA a) 1),vw (wdi (firstA a) 2),vw (wdi (firstA a) 3)])),(5,.ref 1 1 0 0),(6,.own 2 G o kx),(46,vi y),(47,vi x)],objsH a zx G X⟩) ?_ ?_
 ·simp only [go_sem]
  exact ⟨_,WkE.kp,rfl⟩
 refine CwpE.seqJ (fun st=>∃ (G o:Nat) (X:List RS),X.drop o=L2.drop i/\st=⟨[(1,.ref 0 1 0 0),(4,(.ptr [vi a.sy,vw (wdi a.acc 0),vw (wdi a.acc 1),vw (wdi a.acc 2),vw (wdi a.acc 3),.list 1 MV,vw (wdi (firstA a) 0),vw (wdi (firstA a) 1),vw (wdi (firstA a) 2),vw (wdi (firstA a) 3)])),(5,.ref 1 1 0 0),(6,.own 2 G o (L2.length-i)),(46,vi y),(47,vi x)],objsH a z2 G X⟩) (CwpE.block ?_) ?_
 rotate_left
 ·rintro _ ⟨G2,o2,X2,hX2,rfl⟩
  refine CwpE.vc ?_
  simp only [go_sem,wx]
  exact ⟨y-(x+1),⟨[(1,.ref 0 1 0 0),(4,(.ptr [vi a.sy,vw (wdi a.acc 0),vw (wdi a.acc 1),vw (wdi a.acc 2),vw (wdi a.acc 3),.list 1 MV,vw (wdi (firstA a) 0),vw (wdi (firstA a) 1),vw (wdi (firstA a) 2),vw (wdi (firstA a) 3)])),(5,.ref 1 1 0 0),(6,.own 2 G2 o2 (L2.length-i)),(46,vi y),(47,vi (x+1:Nat))],objsH a z2 G2 X2⟩,by omega,WkE.kp,x+1,G2,o2,X2,rfl,by omega,by rw [hL2];exact hX2,by rw [hL2,hz2]⟩
 refine CwpE.cut (st:=⟨[(1,.ref 0 1 0 0),(4,(.ptr [vi a.sy,vw (wdi a.acc 0),vw (wdi a.acc 1),vw (wdi a.acc 2),vw (wdi a.acc 3),.list 1 MV,vw (wdi (firstA a) 0),vw (wdi (firstA a) 1),vw (wdi (firstA a) 2),vw (wdi (firstA a) 3)])),(5,.ref 1 1 0 0),(6,.own 2 G o kx),(46,vi y),(47,vi x),(7,vi x)],objsH a zx G X⟩) ?_ ?_
 ·simp only [go_sem]
  exact ⟨_,WkE.kp,rfl⟩
 refine CwpE.cut (st:=⟨[(1,.ref 0 1 0 0),(4,(.ptr [vi a.sy,vw (wdi a.acc 0),vw (wdi a.acc 1),vw (wdi a.acc 2),vw (wdi a.acc 3),.list 1 MV,vw (wdi (firstA a) 0),vw (wdi (firstA a) 1),vw (wdi (firstA a) 2),vw (wdi (firstA a) 3)])),(5,.ref 1 1 0 0),(6,.own 2 G o kx),(46,vi y),(47,vi x),(7,vi x),(8,.ref 3 1 0 0)],objsH a zx G X++[.arr 1 4 79 [vset t]]⟩) ?_ ?_
 ·rw [objsH_eq]
  simp only [go_sem,Int.le_refl,gkx,hLxi,Nat.add_zero]
  refine callT hafx rfl ?_
  simp only [go_sem]
  exact ⟨_,WkE.kp,rfl⟩
 refine CwpE.cut (st:=⟨[(1,.ref 0 1 0 0),(4,(.ptr [vi a.sy,vw (wdi a.acc 0),vw (wdi a.acc 1),vw (wdi a.acc 2),vw (wdi a.acc 3),.list 1 MV,vw (wdi (firstA a) 0),vw (wdi (firstA a) 1),vw (wdi (firstA a) 2),vw (wdi (firstA a) 3)])),(5,.ref 1 1 0 0),(6,.own 2 G o kx),(46,vi y),(47,vi x),(7,vi x),(8,.ref 3 1 0 0),(9,vb false)],objsH a zx G X++[.arr 1 4 79 [vset t]]⟩) ?_ ?_
 ·simp only [go_sem]
  exact ⟨_,WkE.kp,rfl⟩
 have k4:((4:Nat):Int)=4:=rfl
 have v1:IntKind.i64.wrap (0+1)=1:=by decide
 have v2:IntKind.i64.wrap (1+1)=2:=by decide
 have v3:IntKind.i64.wrap (2+1)=3:=by decide
 have v4:IntKind.i64.wrap (3+1)=4:=by decide
 refine CwpE.step (fun st=>st=⟨[(1,.ref 0 1 0 0),(4,(.ptr [vi a.sy,vw (wdi a.acc 0),vw (wdi a.acc 1),vw (wdi a.acc 2),vw (wdi a.acc 3),.list 1 MV,vw (wdi (firstA a) 0),vw (wdi (firstA a) 1),vw (wdi (firstA a) 2),vw (wdi (firstA a) 3)])),(5,.ref 1 1 0 0),(6,.own 2 G o kx),(46,vi y),(47,vi x),(7,vi x),(8,.ref 3 1 0 0),(9,vb (freshB t zx))],objsH a z2 G X++[.arr 1 4 79 [vset t]]⟩) ?_ ?_
 ·rw [objsH_eq a zx G X,hzu]
  clear hzx hz2 hzu hsu hr1
  obtain ⟨z,hzz⟩:∃ z,zx=z:=⟨_,rfl⟩
  rw [hzz] at hfa ⊢
  simp only [go_sem]
  refine loopX 4 (fun m st=>(m=4/\st=⟨[(1,.ref 0 1 0 0),(4,(.ptr [vi a.sy,vw (wdi a.acc 0),vw (wdi a.acc 1),vw (wdi a.acc 2),vw (wdi a.acc 3),.list 1 MV,vw (wdi (firstA a) 0),vw (wdi (firstA a) 1),vw (wdi (firstA a) 2),vw (wdi (firstA a) 3)])),(5,.ref 1 1 0 0),(6,.own 2 G o kx),(46,vi y),(47,vi x),(7,vi x),(8,.ref 3 1 0 0),(9,vb (frK t z 0)),(57,vset t),(58,vi 0)],[oX a,.arr 1 4 79 [.agg [vw (wdi z 0),vw (wdi z 1),vw (wdi z 2),vw (wdi z 3)]],.arr G 5 90 (X.map vrs),.arr 1 4 79 [vset t]]⟩) \/ (m=3/\st=⟨[(1,.ref 0 1 0 0),(4,(.ptr [vi a.sy,vw (wdi a.acc 0),vw (wdi a.acc 1),vw (wdi a.acc 2),vw (wdi a.acc 3),.list 1 MV,vw (wdi (firstA a) 0),vw (wdi (firstA a) 1),vw (wdi (firstA a) 2),vw (wdi (firstA a) 3)])),(5,.ref 1 1 0 0),(6,.own 2 G o kx),(46,vi y),(47,vi x),(7,vi x),(8,.ref 3 1 0 0),(9,vb (frK t z 1)),(57,vset t),(58,vi 1)],[oX a,.arr 1 4 79 [.agg [vw (orw z t 0),vw (wdi z 1),vw (wdi z 2),vw (wdi z 3)]],.arr G 5 90 (X.map vrs),.arr 1 4 79 [vset t]]⟩) \/ (m=2/\st=⟨[(1,.ref 0 1 0 0),(4,(.ptr [vi a.sy,vw (wdi a.acc 0),vw (wdi a.acc 1),vw (wdi a.acc 2),vw (wdi a.acc 3),.list 1 MV,vw (wdi (firstA a) 0),vw (wdi (firstA a) 1),vw (wdi (firstA a) 2),vw (wdi (firstA a) 3)])),(5,.ref 1 1 0 0),(6,.own 2 G o kx),(46,vi y),(47,vi x),(7,vi x),(8,.ref 3 1 0 0),(9,vb (frK t z 2)),(57,vset t),(58,vi 2)],[oX a,.arr 1 4 79 [.agg [vw (orw z t 0),vw (orw z t 1),vw (wdi z 2),vw (wdi z 3)]],.arr G 5 90 (X.map vrs),.arr 1 4 79 [vset t]]⟩) \/ (m=1/\st=⟨[(1,.ref 0 1 0 0),(4,(.ptr [vi a.sy,vw (wdi a.acc 0),vw (wdi a.acc 1),vw (wdi a.acc 2),vw (wdi a.acc 3),.list 1 MV,vw (wdi (firstA a) 0),vw (wdi (firstA a) 1),vw (wdi (firstA a) 2),vw (wdi (firstA a) 3)])),(5,.ref 1 1 0 0),(6,.own 2 G o kx),(46,vi y),(47,vi x),(7,vi x),(8,.ref 3 1 0 0),(9,vb (frK t z 3)),(57,vset t),(58,vi 3)],[oX a,.arr 1 4 79 [.agg [vw (orw z t 0),vw (orw z t 1),vw (orw z t 2),vw (wdi z 3)]],.arr G 5 90 (X.map vrs),.arr 1 4 79 [vset t]]⟩) \/ (m=0/\st=⟨[(1,.ref 0 1 0 0),(4,(.ptr [vi a.sy,vw (wdi a.acc 0),vw (wdi a.acc 1),vw (wdi a.acc 2),vw (wdi a.acc 3),.list 1 MV,vw (wdi (firstA a) 0),vw (wdi (firstA a) 1),vw (wdi (firstA a) 2),vw (wdi (firstA a) 3)])),(5,.ref 1 1 0 0),(6,.own 2 G o kx),(46,vi y),(47,vi x),(7,vi x),(8,.ref 3 1 0 0),(9,vb (frK t z 4)),(57,vset t),(58,vi 4)],[oX a,.arr 1 4 79 [.agg [vw (orw z t 0),vw (orw z t 1),vw (orw z t 2),vw (orw z t 3)]],.arr G 5 90 (X.map vrs),.arr 1 4 79 [vset t]]⟩))
   (fun st=>st=⟨[(1,.ref 0 1 0 0),(4,(.ptr [vi a.sy,vw (wdi a.acc 0),vw (wdi a.acc 1),vw (wdi a.acc 2),vw (wdi a.acc 3),.list 1 MV,vw (wdi (firstA a) 0),vw (wdi (firstA a) 1),vw (wdi (firstA a) 2),vw (wdi (firstA a) 3)])),(5,.ref 1 1 0 0),(6,.own 2 G o kx),(46,vi y),(47,vi x),(7,vi x),(8,.ref 3 1 0 0),(9,vb (freshB t z))],objsH a (orS z t) G X++[.arr 1 4 79 [vset t]]⟩) 4 ⟨[(1,.ref 0 1 0 0),(4,(.ptr [vi a.sy,vw (wdi a.acc 0),vw (wdi a.acc 1),vw (wdi a.acc 2),vw (wdi a.acc 3),.list 1 MV,vw (wdi (firstA a) 0),vw (wdi (firstA a) 1),vw (wdi (firstA a) 2),vw (wdi (firstA a) 3)])),(5,.ref 1 1 0 0),(6,.own 2 G o kx),(46,vi y),(47,vi x),(7,vi x),(8,.ref 3 1 0 0),(9,vb (frK t z 0)),(57,vset t),(58,vi 0)],[oX a,.arr 1 4 79 [.agg [vw (wdi z 0),vw (wdi z 1),vw (wdi z 2),vw (wdi z 3)]],.arr G 5 90 (X.map vrs),.arr 1 4 79 [vset t]]⟩ (WkE.kp) (.inl ⟨rfl,rfl⟩) ?_ ?_
  rotate_left
  ·rintro st rfl
   simp only [go_sem]
   exact ⟨_,.refl _ _,rfl⟩
  rintro m st (⟨rfl,rfl⟩ | ⟨rfl,rfl⟩ | ⟨rfl,rfl⟩ | ⟨rfl,rfl⟩ | ⟨rfl,rfl⟩)
  ·have hfk:frK t z 1=(frK t z 0 || decide (wdv t 0 &&& ~~~ wdv z 0 ≠ 0#64)):=rfl
   cases hb:frK t z 0 with
   | true =>
    rw [hb,Bool.true_or] at hfk
    simp only [go_sem,Int.reduceLT,Int.le_refl,k4,v1]
    exact ⟨3,⟨[(1,.ref 0 1 0 0),(4,(.ptr [vi a.sy,vw (wdi a.acc 0),vw (wdi a.acc 1),vw (wdi a.acc 2),vw (wdi a.acc 3),.list 1 MV,vw (wdi (firstA a) 0),vw (wdi (firstA a) 1),vw (wdi (firstA a) 2),vw (wdi (firstA a) 3)])),(5,.ref 1 1 0 0),(6,.own 2 G o kx),(46,vi y),(47,vi x),(7,vi x),(8,.ref 3 1 0 0),(9,vb (frK t z 1)),(57,vset t),(58,vi 1)],[oX a,.arr 1 4 79 [.agg [vw (orw z t 0),vw (wdi z 1),vw (wdi z 2),vw (wdi z 3)]],.arr G 5 90 (X.map vrs),.arr 1 4 79 [vset t]]⟩,by omega,by rw [hfk];exact WkE.kp,.inr (.inl ⟨rfl,rfl⟩)⟩
   | false =>
    rw [hb,Bool.false_or] at hfk
    have hw:=fresh_word t z 0
    by_cases hz:wdv t 0 &&& ~~~ wdv z 0=0#64
    ·have hzz:=hw.2 hz
     rw [decide_eq_false (not_not_intro hz)] at hfk
     simp only [go_sem,Int.reduceLT,Int.le_refl,k4,v1]
     exact ⟨3,⟨[(1,.ref 0 1 0 0),(4,(.ptr [vi a.sy,vw (wdi a.acc 0),vw (wdi a.acc 1),vw (wdi a.acc 2),vw (wdi a.acc 3),.list 1 MV,vw (wdi (firstA a) 0),vw (wdi (firstA a) 1),vw (wdi (firstA a) 2),vw (wdi (firstA a) 3)])),(5,.ref 1 1 0 0),(6,.own 2 G o kx),(46,vi y),(47,vi x),(7,vi x),(8,.ref 3 1 0 0),(9,vb (frK t z 1)),(57,vset t),(58,vi 1)],[oX a,.arr 1 4 79 [.agg [vw (orw z t 0),vw (wdi z 1),vw (wdi z 2),vw (wdi z 3)]],.arr G 5 90 (X.map vrs),.arr 1 4 79 [vset t]]⟩,by omega,by rw [hfk];exact WkE.keep (by simp only [go_sem];exact congrArg not (decide_eq_true hzz)),.inr (.inl ⟨rfl,rfl⟩)⟩
    ·have hzz:=mt hw.1 hz
     rw [decide_eq_true hz] at hfk
     simp only [go_sem,Int.reduceLT,Int.le_refl,k4,v1]
     exact ⟨3,⟨[(1,.ref 0 1 0 0),(4,(.ptr [vi a.sy,vw (wdi a.acc 0),vw (wdi a.acc 1),vw (wdi a.acc 2),vw (wdi a.acc 3),.list 1 MV,vw (wdi (firstA a) 0),vw (wdi (firstA a) 1),vw (wdi (firstA a) 2),vw (wdi (firstA a) 3)])),(5,.ref 1 1 0 0),(6,.own 2 G o kx),(46,vi y),(47,vi x),(7,vi x),(8,.ref 3 1 0 0),(9,vb (frK t z 1)),(57,vset t),(58,vi 1)],[oX a,.arr 1 4 79 [.agg [vw (orw z t 0),vw (wdi z 1),vw (wdi z 2),vw (wdi z 3)]],.arr G 5 90 (X.map vrs),.arr 1 4 79 [vset t]]⟩,by omega,by rw [hfk];exact WkE.keep (by simp only [go_sem];exact congrArg not (decide_eq_false hzz)),.inr (.inl ⟨rfl,rfl⟩)⟩
  ·have hfk:frK t z 2=(frK t z 1 || decide (wdv t 1 &&& ~~~ wdv z 1 ≠ 0#64)):=rfl
   cases hb:frK t z 1 with
   | true =>
    rw [hb,Bool.true_or] at hfk
    simp only [go_sem,Int.reduceLT,Int.reduceLE,k4,v2]
    exact ⟨2,⟨[(1,.ref 0 1 0 0),(4,(.ptr [vi a.sy,vw (wdi a.acc 0),vw (wdi a.acc 1),vw (wdi a.acc 2),vw (wdi a.acc 3),.list 1 MV,vw (wdi (firstA a) 0),vw (wdi (firstA a) 1),vw (wdi (firstA a) 2),vw (wdi (firstA a) 3)])),(5,.ref 1 1 0 0),(6,.own 2 G o kx),(46,vi y),(47,vi x),(7,vi x),(8,.ref 3 1 0 0),(9,vb (frK t z 2)),(57,vset t),(58,vi 2)],[oX a,.arr 1 4 79 [.agg [vw (orw z t 0),vw (orw z t 1),vw (wdi z 2),vw (wdi z 3)]],.arr G 5 90 (X.map vrs),.arr 1 4 79 [vset t]]⟩,by omega,by rw [hfk];exact WkE.kp,.inr (.inr (.inl ⟨rfl,rfl⟩))⟩
   | false =>
    rw [hb,Bool.false_or] at hfk
    have hw:=fresh_word t z 1
    by_cases hz:wdv t 1 &&& ~~~ wdv z 1=0#64
    ·have hzz:=hw.2 hz
     rw [decide_eq_false (not_not_intro hz)] at hfk
     simp only [go_sem,Int.reduceLT,Int.reduceLE,k4,v2]
     exact ⟨2,⟨[(1,.ref 0 1 0 0),(4,(.ptr [vi a.sy,vw (wdi a.acc 0),vw (wdi a.acc 1),vw (wdi a.acc 2),vw (wdi a.acc 3),.list 1 MV,vw (wdi (firstA a) 0),vw (wdi (firstA a) 1),vw (wdi (firstA a) 2),vw (wdi (firstA a) 3)])),(5,.ref 1 1 0 0),(6,.own 2 G o kx),(46,vi y),(47,vi x),(7,vi x),(8,.ref 3 1 0 0),(9,vb (frK t z 2)),(57,vset t),(58,vi 2)],[oX a,.arr 1 4 79 [.agg [vw (orw z t 0),vw (orw z t 1),vw (wdi z 2),vw (wdi z 3)]],.arr G 5 90 (X.map vrs),.arr 1 4 79 [vset t]]⟩,by omega,by rw [hfk];exact WkE.keep (by simp only [go_sem];exact congrArg not (decide_eq_true hzz)),.inr (.inr (.inl ⟨rfl,rfl⟩))⟩
    ·have hzz:=mt hw.1 hz
     rw [decide_eq_true hz] at hfk
     simp only [go_sem,Int.reduceLT,Int.reduceLE,k4,v2]
     exact ⟨2,⟨[(1,.ref 0 1 0 0),(4,(.ptr [vi a.sy,vw (wdi a.acc 0),vw (wdi a.acc 1),vw (wdi a.acc 2),vw (wdi a.acc 3),.list 1 MV,vw (wdi (firstA a) 0),vw (wdi (firstA a) 1),vw (wdi (firstA a) 2),vw (wdi (firstA a) 3)])),(5,.ref 1 1 0 0),(6,.own 2 G o kx),(46,vi y),(47,vi x),(7,vi x),(8,.ref 3 1 0 0),(9,vb (frK t z 2)),(57,vset t),(58,vi 2)],[oX a,.arr 1 4 79 [.agg [vw (orw z t 0),vw (orw z t 1),vw (wdi z 2),vw (wdi z 3)]],.arr G 5 90 (X.map vrs),.arr 1 4 79 [vset t]]⟩,by omega,by rw [hfk];exact WkE.keep (by simp only [go_sem];exact congrArg not (decide_eq_false hzz)),.inr (.inr (.inl ⟨rfl,rfl⟩))⟩
  ·have hfk:frK t z 3=(frK t z 2 || decide (wdv t 2 &&& ~~~ wdv z 2 ≠ 0#64)):=rfl
   cases hb:frK t z 2 with
   | true =>
    rw [hb,Bool.true_or] at hfk
    simp only [go_sem,Int.reduceLT,Int.reduceLE,k4,v3]
    exact ⟨1,⟨[(1,.ref 0 1 0 0),(4,(.ptr [vi a.sy,vw (wdi a.acc 0),vw (wdi a.acc 1),vw (wdi a.acc 2),vw (wdi a.acc 3),.list 1 MV,vw (wdi (firstA a) 0),vw (wdi (firstA a) 1),vw (wdi (firstA a) 2),vw (wdi (firstA a) 3)])),(5,.ref 1 1 0 0),(6,.own 2 G o kx),(46,vi y),(47,vi x),(7,vi x),(8,.ref 3 1 0 0),(9,vb (frK t z 3)),(57,vset t),(58,vi 3)],[oX a,.arr 1 4 79 [.agg [vw (orw z t 0),vw (orw z t 1),vw (orw z t 2),vw (wdi z 3)]],.arr G 5 90 (X.map vrs),.arr 1 4 79 [vset t]]⟩,by omega,by rw [hfk];exact WkE.kp,.inr (.inr (.inr (.inl ⟨rfl,rfl⟩)))⟩
   | false =>
    rw [hb,Bool.false_or] at hfk
    have hw:=fresh_word t z 2
    by_cases hz:wdv t 2 &&& ~~~ wdv z 2=0#64
    ·have hzz:=hw.2 hz
     rw [decide_eq_false (not_not_intro hz)] at hfk
     simp only [go_sem,Int.reduceLT,Int.reduceLE,k4,v3]
     exact ⟨1,⟨[(1,.ref 0 1 0 0),(4,(.ptr [vi a.sy,vw (wdi a.acc 0),vw (wdi a.acc 1),vw (wdi a.acc 2),vw (wdi a.acc 3),.list 1 MV,vw (wdi (firstA a) 0),vw (wdi (firstA a) 1),vw (wdi (firstA a) 2),vw (wdi (firstA a) 3)])),(5,.ref 1 1 0 0),(6,.own 2 G o kx),(46,vi y),(47,vi x),(7,vi x),(8,.ref 3 1 0 0),(9,vb (frK t z 3)),(57,vset t),(58,vi 3)],[oX a,.arr 1 4 79 [.agg [vw (orw z t 0),vw (orw z t 1),vw (orw z t 2),vw (wdi z 3)]],.arr G 5 90 (X.map vrs),.arr 1 4 79 [vset t]]⟩,by omega,by rw [hfk];exact WkE.keep (by simp only [go_sem];exact congrArg not (decide_eq_true hzz)),.inr (.inr (.inr (.inl ⟨rfl,rfl⟩)))⟩
    ·have hzz:=mt hw.1 hz
     rw [decide_eq_true hz] at hfk
     simp only [go_sem,Int.reduceLT,Int.reduceLE,k4,v3]
     exact ⟨1,⟨[(1,.ref 0 1 0 0),(4,(.ptr [vi a.sy,vw (wdi a.acc 0),vw (wdi a.acc 1),vw (wdi a.acc 2),vw (wdi a.acc 3),.list 1 MV,vw (wdi (firstA a) 0),vw (wdi (firstA a) 1),vw (wdi (firstA a) 2),vw (wdi (firstA a) 3)])),(5,.ref 1 1 0 0),(6,.own 2 G o kx),(46,vi y),(47,vi x),(7,vi x),(8,.ref 3 1 0 0),(9,vb (frK t z 3)),(57,vset t),(58,vi 3)],[oX a,.arr 1 4 79 [.agg [vw (orw z t 0),vw (orw z t 1),vw (orw z t 2),vw (wdi z 3)]],.arr G 5 90 (X.map vrs),.arr 1 4 79 [vset t]]⟩,by omega,by rw [hfk];exact WkE.keep (by simp only [go_sem];exact congrArg not (decide_eq_false hzz)),.inr (.inr (.inr (.inl ⟨rfl,rfl⟩)))⟩
  ·have hfk:frK t z 4=(frK t z 3 || decide (wdv t 3 &&& ~~~ wdv z 3 ≠ 0#64)):=rfl
   cases hb:frK t z 3 with
   | true =>
    rw [hb,Bool.true_or] at hfk
    simp only [go_sem,Int.reduceLT,Int.reduceLE,k4,v4]
    exact ⟨0,⟨[(1,.ref 0 1 0 0),(4,(.ptr [vi a.sy,vw (wdi a.acc 0),vw (wdi a.acc 1),vw (wdi a.acc 2),vw (wdi a.acc 3),.list 1 MV,vw (wdi (firstA a) 0),vw (wdi (firstA a) 1),vw (wdi (firstA a) 2),vw (wdi (firstA a) 3)])),(5,.ref 1 1 0 0),(6,.own 2 G o kx),(46,vi y),(47,vi x),(7,vi x),(8,.ref 3 1 0 0),(9,vb (frK t z 4)),(57,vset t),(58,vi 4)],[oX a,.arr 1 4 79 [.agg [vw (orw z t 0),vw (orw z t 1),vw (orw z t 2),vw (orw z t 3)]],.arr G 5 90 (X.map vrs),.arr 1 4 79 [vset t]]⟩,by omega,by rw [hfk];exact WkE.kp,.inr (.inr (.inr (.inr (⟨rfl,rfl⟩))))⟩
   | false =>
    rw [hb,Bool.false_or] at hfk
    have hw:=fresh_word t z 3
    by_cases hz:wdv t 3 &&& ~~~ wdv z 3=0#64
    ·have hzz:=hw.2 hz
     rw [decide_eq_false (not_not_intro hz)] at hfk
     simp only [go_sem,Int.reduceLT,Int.reduceLE,k4,v4]
     exact ⟨0,⟨[(1,.ref 0 1 0 0),(4,(.ptr [vi a.sy,vw (wdi a.acc 0),vw (wdi a.acc 1),vw (wdi a.acc 2),vw (wdi a.acc 3),.list 1 MV,vw (wdi (firstA a) 0),vw (wdi (firstA a) 1),vw (wdi (firstA a) 2),vw (wdi (firstA a) 3)])),(5,.ref 1 1 0 0),(6,.own 2 G o kx),(46,vi y),(47,vi x),(7,vi x),(8,.ref 3 1 0 0),(9,vb (frK t z 4)),(57,vset t),(58,vi 4)],[oX a,.arr 1 4 79 [.agg [vw (orw z t 0),vw (orw z t 1),vw (orw z t 2),vw (orw z t 3)]],.arr G 5 90 (X.map vrs),.arr 1 4 79 [vset t]]⟩,by omega,by rw [hfk];exact WkE.keep (by simp only [go_sem];exact congrArg not (decide_eq_true hzz)),.inr (.inr (.inr (.inr (⟨rfl,rfl⟩))))⟩
    ·have hzz:=mt hw.1 hz
     rw [decide_eq_true hz] at hfk
     simp only [go_sem,Int.reduceLT,Int.reduceLE,k4,v4]
     exact ⟨0,⟨[(1,.ref 0 1 0 0),(4,(.ptr [vi a.sy,vw (wdi a.acc 0),vw (wdi a.acc 1),vw (wdi a.acc 2),vw (wdi a.acc 3),.list 1 MV,vw (wdi (firstA a) 0),vw (wdi (firstA a) 1),vw (wdi (firstA a) 2),vw (wdi (firstA a) 3)])),(5,.ref 1 1 0 0),(6,.own 2 G o kx),(46,vi y),(47,vi x),(7,vi x),(8,.ref 3 1 0 0),(9,vb (frK t z 4)),(57,vset t),(58,vi 4)],[oX a,.arr 1 4 79 [.agg [vw (orw z t 0),vw (orw z t 1),vw (orw z t 2),vw (orw z t 3)]],.arr G 5 90 (X.map vrs),.arr 1 4 79 [vset t]]⟩,by omega,by rw [hfk];exact WkE.keep (by simp only [go_sem];exact congrArg not (decide_eq_false hzz)),.inr (.inr (.inr (.inr (⟨rfl,rfl⟩))))⟩
  ·simp only [go_sem,Int.lt_irrefl]
   refine ⟨⟨[(1,.ref 0 1 0 0),(4,(.ptr [vi a.sy,vw (wdi a.acc 0),vw (wdi a.acc 1),vw (wdi a.acc 2),vw (wdi a.acc 3),.list 1 MV,vw (wdi (firstA a) 0),vw (wdi (firstA a) 1),vw (wdi (firstA a) 2),vw (wdi (firstA a) 3)])),(5,.ref 1 1 0 0),(6,.own 2 G o kx),(46,vi y),(47,vi x),(7,vi x),(8,.ref 3 1 0 0),(9,vb (freshB t z))],objsH a (orS z t) G X++[.arr 1 4 79 [vset t]]⟩,?_,rfl⟩
   rw [objsH_eq,hfa]
   simp only [vset,wdi_or]
   exact WkE.kp
 rintro _ rfl
 cases hfr:freshB t zx with
 | false =>
  rw [hfr,if_neg (by simp)] at hsu
  refine CwpE.vc ?_
  simp only [go_sem]
  rw [hsu,hkxl]
  exact ⟨⟨[(1,.ref 0 1 0 0),(4,(.ptr [vi a.sy,vw (wdi a.acc 0),vw (wdi a.acc 1),vw (wdi a.acc 2),vw (wdi a.acc 3),.list 1 MV,vw (wdi (firstA a) 0),vw (wdi (firstA a) 1),vw (wdi (firstA a) 2),vw (wdi (firstA a) 3)])),(5,.ref 1 1 0 0),(6,.own 2 G o kx),(46,vi y),(47,vi x)],objsH a z2 G X⟩,WkE.round (by simp only [go_sem];try rfl) rfl (objsH_inn _ _ _ _ _) rfl,G,o,X,hXd,rfl⟩
 | true =>
  rw [hfr,if_pos rfl] at hsu
  have hcl:=Clone47_n w (by omega)
  have hoX:o+kx<=X.length:=by
   have:=congrArg List.length hXd
   rw [List.length_drop,List.length_drop] at this
   omega
  have htk:List.take kx (List.drop o (X.map vrs))=(Lx.drop i).map vrs:=by
   rw [<-List.map_drop,hXd,List.take_of_length_le (by rw [List.length_map,List.length_drop];omega)]
  have qw1:(w.length+1)*8<=140737488355328:=by omega
  have qW:(kx+1)*56<=140737488355328:=by omega
  refine CwpE.vc ?_
  rw [objsH_eq]
  simp only [go_sem,Int.le_refl,gkx,hLxi,Nat.add_zero]
  refine callN1 (cap:=[]) (args:=[vints w]) hcl (.cons (.tree _ rfl) .nil) ?_ rfl ?_
  ·refine Bool.and_eq_true_iff.2 ⟨?_,rfl⟩
   show ((w.map vi).all (AV.inR _))=true
   rw [List.all_map]
   exact all_tt _
  have hren:∀ σ : Nat->Nat,(w.map vi).map (AV.ren σ)=w.map vi:=fun σ=>by rw [List.map_map];rfl
  simp only [go_sem,AV.ren,AV.ren1,AObj.renO,hren,qw1,qW,hoX,htk,List.length_map]
  have hl2:L2.length-i=kx+1:=by rw [hsu,List.length_append,List.length_singleton];omega
  have hX2:(Lx.drop i++[(t,w++[(x:Int)])])=L2.drop i:=by rw [hsu,List.drop_append_of_le_length (by omega)]
  rw [hl2]
  refine ⟨⟨[(1,.ref 0 1 0 0),(4,(.ptr [vi a.sy,vw (wdi a.acc 0),vw (wdi a.acc 1),vw (wdi a.acc 2),vw (wdi a.acc 3),.list 1 MV,vw (wdi (firstA a) 0),vw (wdi (firstA a) 1),vw (wdi (firstA a) 2),vw (wdi (firstA a) 3)])),(5,.ref 1 1 0 0),(6,.own 2 (G+1) 0 (kx+1)),(46,vi y),(47,vi x)],objsH a z2 (G+1) (L2.drop i)⟩,?_,G+1,0,L2.drop i,rfl,rfl⟩
  have hfr:=freezeLast (n:=93) (env:=[(1,.ref 0 1 0 0),(4,(.ptr [vi a.sy,vw (wdi a.acc 0),vw (wdi a.acc 1),vw (wdi a.acc 2),vw (wdi a.acc 3),.list 1 MV,vw (wdi (firstA a) 0),vw (wdi (firstA a) 1),vw (wdi (firstA a) 2),vw (wdi (firstA a) 3)])),(5,.ref 1 1 0 0),(6,.own 2 (G+1) 0 (kx+1)),(46,vi y),(47,vi x)]) [oX a,.arr 1 4 79 [vset z2]] [.arr 1 4 79 [vset t]] [.arr 1 5 90 [.agg [vw (wdi t 0),vw (wdi t 1),vw (wdi t 2),vw (wdi t 3),.own 4 (w.length+1) 0 (w.length+1)]]] 2 rfl (G+1) 5 90 ((Lx.drop i).map vrs) (.agg [vw (wdi t 0),vw (wdi t 1),vw (wdi t 2),vw (wdi t 3),.own 4 (w.length+1) 0 (w.length+1)]) 4 4 (w.map vi++[vi x]) (w.length+1) (by simp) rfl rfl (by rw [List.all_append,Bool.and_eq_true];exact ⟨isT_map (fun _=>rfl) _,rfl⟩)
  have he2 : [oX a,AObj.arr 1 4 79 [vset z2],.arr (G+1) 5 90 ((Lx.drop i).map vrs++[.agg [vw (wdi t 0),vw (wdi t 1),vw (wdi t 2),vw (wdi t 3),.list 1 (w.map vi++[vi x])]])]=objsH a z2 (G+1) (L2.drop i):=by
   rw [objsH_eq,<-hX2]
   simp only [List.map_append,List.map_cons,List.map_nil,vrs,vints]
  have hin:((objsH a z2 (G+1) (L2.drop i)).all fun o=>o.innO 3)=true:=objsH_inn _ _ _ _ _
  rw [<-he2] at hin ⊢
  refine (WkE.keep ?_).trans (hfr.trans (WkE.round ?_ rfl hin rfl))
  ·simp only [go_sem];try rfl
  ·simp only [go_sem];try rfl
def objsownA (a:Au) (A:List Bool) (E:List Edg):List AObj:=[.arr 1 3 26 [vau a],.arr 1 3 34 [nil3],.arr 1 3 34 [.agg [vi a.sy,.own 3 A.length 0 A.length,.own 4 E.length 0 E.length]],.arr A.length 1 4 (A.map vb),.arr E.length 3 72 (E.map vedge)]
theorem objsownA_eq (a:Au) (A:List Bool) (E:List Edg):objsownA a A E=[.arr 1 3 26 [vau a],.arr 1 3 34 [nil3],.arr 1 3 34 [.agg [vi a.sy,.own 3 A.length 0 A.length,.own 4 E.length 0 E.length]],.arr A.length 1 4 (A.map vb),.arr E.length 3 72 (E.map vedge)]:=rfl
theorem objsownA_inn (a:Au) (A:List Bool) (E:List Edg):((objsownA a A E).all fun o=>o.innO 5)=true:=by
 rw [objsownA_eq]
 refine Bool.and_eq_true_iff.2 ⟨rfl,Bool.and_eq_true_iff.2 ⟨rfl,Bool.and_eq_true_iff.2 ⟨rfl,Bool.and_eq_true_iff.2 ⟨inn_map fun _=>rfl,Bool.and_eq_true_iff.2 ⟨inn_map fun _=>rfl,rfl⟩⟩⟩⟩⟩
theorem objsownA_snap (a:Au) (objs:List AObj) (p q:Nat) (hp:p=a.acc.length) (hq:q=a.ed.length) (h4:objs[3]? = some (.arr p 1 4 (a.acc.map vb))) (h5:objs[4]? = some (.arr q 3 72 (a.ed.map vedge))) :
 Snap objs (.agg [vi a.sy,.own 3 p 0 p,.own 4 q 0 q]) (vau a):=by
 subst hp hq
 refine .agg _ _ rfl fun i h1 h2=>?_
 match i,h1,h2 with
 | 0,_,_=>exact .tree _ rfl
 | 1,_,_ =>
  refine .own 3 a.acc.length 0 a.acc.length 1 4 _ _ h4 (by simp) (by simp) fun q hq=>?_
  simp only [Nat.zero_add]
  exact .tree _ (List.all_eq_true.1 (isT_map (fun _=>rfl) _) _ (List.getElem_mem _))
 | 2,_,_ =>
  refine .own 4 a.ed.length 0 a.ed.length 3 72 _ _ h5 (by simp) (by simp) fun q hq=>?_
  simp only [Nat.zero_add]
  exact .tree _ (List.all_eq_true.1 (isT_map (fun _=>rfl) _) _ (List.getElem_mem _))
set_option maxHeartbeats 4000000 in
theorem ownA_s (a:Au) (ha:SzA a):Ctr Try.prog 13 [vau a] (vau a):=by
 refine specC f13 (by simp) fun F0 w0=>?_
 obtain ⟨hz1,hz2⟩:=ha
 unfold c13
 refine CwpE.cut (st:=⟨[(1,.ref 0 1 0 0),(2,.ref 1 1 0 0)],[.arr 1 3 26 [vau a],.arr 1 3 34 [nil3]]⟩) ?_ ?_
 ·simp only [go_sem]
  exact ⟨_,WkE.kp,rfl⟩
 refine CwpE.cut (st:=⟨[(1,.ref 0 1 0 0),(2,.ref 1 1 0 0),(3,.ref 2 1 0 0)],objsownA a [] []⟩) ?_ ?_
 ·simp only [go_sem]
  refine ⟨_,(WkE.nilCell 2 1 3 0 1 1 4 34 _ (.agg [vi a.sy,.val (.slice none 0 0),.val (.slice none 0 0)]) rfl rfl rfl).trans ((WkE.nilCell 2 1 3 0 2 3 72 34 _ (.agg [vi a.sy,.own 3 0 0 0,.val (.slice none 0 0)]) rfl rfl rfl).trans (WkE.kp)),rfl⟩
 refine CwpE.cut (st:=⟨[(1,.ref 0 1 0 0),(2,.ref 1 1 0 0),(3,.ref 2 1 0 0)],objsownA a a.acc []⟩) ?_ ?_
 ·have q1:a.acc.length*1<=140737488355328:=by omega
  have q2:(0+a.acc.length)*1<=140737488355328:=by omega
  rw [objsownA_eq a [] []]
  simp only [go_sem,List.length_map,q1,Nat.zero_add,List.length_nil]
  exact ⟨_,WkE.kp,rfl⟩
 refine CwpE.step (fun z=>z=⟨[(1,.ref 0 1 0 0),(2,.ref 1 1 0 0),(3,.ref 2 1 0 0)],objsownA a a.acc a.ed⟩) ?_ ?_
 rotate_left
 ·rintro _ rfl
  refine CwpE.vc ?_
  rw [objsownA_eq]
  simp only [go_sem]
  exact objsownA_snap a _ _ _ rfl rfl rfl rfl
 simp only [go_sem]
 refine loopX 0 (fun m z=>∃ k:Nat,m=a.ed.length-k/\k<=a.ed.length/\z=⟨[(1,.ref 0 1 0 0),(2,.ref 1 1 0 0),(3,.ref 2 1 0 0),(4,vi k)],objsownA a a.acc (a.ed.take k)⟩)
  (fun z=>z=⟨[(1,.ref 0 1 0 0),(2,.ref 1 1 0 0),(3,.ref 2 1 0 0)],objsownA a a.acc a.ed⟩) a.ed.length
  ⟨[(1,.ref 0 1 0 0),(2,.ref 1 1 0 0),(3,.ref 2 1 0 0),(4,vi (0:Nat))],objsownA a a.acc (a.ed.take 0)⟩ (WkE.kp) ⟨0,by omega,by omega,rfl⟩ ?_ ?_
 rotate_left
 ·rintro z rfl
  simp only [go_sem]
  exact ⟨_,.refl _ _,rfl⟩
 rintro m z ⟨k,rfl,hk,rfl⟩
 by_cases hlt:k<a.ed.length
 rotate_left
 ·have gk:¬ (k:Int)<(a.ed.length:Int):=by omega
  rw [List.take_of_length_le (by omega),objsownA_eq a a.acc a.ed]
  simp only [go_sem,gk,List.length_map]
  exact ⟨_,WkE.kp,rfl⟩
 have g1:(k:Int)<(a.ed.length:Int):=by omega
 have g0:(0:Int)<=(k:Int):=by omega
 have w1:=wrap_s k (by omega)
 have heg:=edge_get hlt
 have htk:=List.take_succ_eq_append_getElem hlt
 have htl:(a.ed.take k).length=k:=by simp;omega
 generalize a.ed[k]=e at heg htk
 obtain ⟨E1,hE1⟩:∃ E1,a.ed.take (k+1)=E1:=⟨_,rfl⟩
 obtain ⟨E0,hE0⟩:∃ E0,a.ed.take k=E0:=⟨_,rfl⟩
 rw [hE1,hE0] at htk
 rw [hE0] at htl ⊢
 have hE1l:E1.length=E0.length+1:=by rw [htk];simp
 have qe:(E0.length+1)*24<=140737488355328:=by omega
 have hEm:E0.map vedge++[vedge e]=E1.map vedge:=by rw [htk,List.map_append];rfl
 rw [objsownA_eq a a.acc E0]
 simp only [go_sem,g1,g0,heg,w1,qe,List.length_map,hEm,Int.toNat_natCast]
 refine ⟨a.ed.length-(k+1),⟨[(1,.ref 0 1 0 0),(2,.ref 1 1 0 0),(3,.ref 2 1 0 0),(4,vi (k+1:Nat))],objsownA a a.acc (a.ed.take (k+1))⟩,by omega,?_,k+1,rfl,by omega,rfl⟩
 have hin:=objsownA_inn a a.acc E1
 rw [hE1]
 rw [objsownA_eq,hE1l] at hin ⊢
 exact WkE.round (by simp only [go_sem];try rfl) rfl hin rfl
def objsplainA (a:Au) (A:List Bool) (E:List Edg):List AObj:=[.arr 1 3 34 [vau a],.arr 1 3 26 [nil3],.arr 1 3 26 [.agg [vi a.sy,.own 3 A.length 0 A.length,.own 4 E.length 0 E.length]],.arr A.length 1 4 (A.map vb),.arr E.length 3 71 (E.map vedge)]
theorem objsplainA_eq (a:Au) (A:List Bool) (E:List Edg):objsplainA a A E=[.arr 1 3 34 [vau a],.arr 1 3 26 [nil3],.arr 1 3 26 [.agg [vi a.sy,.own 3 A.length 0 A.length,.own 4 E.length 0 E.length]],.arr A.length 1 4 (A.map vb),.arr E.length 3 71 (E.map vedge)]:=rfl
theorem objsplainA_inn (a:Au) (A:List Bool) (E:List Edg):((objsplainA a A E).all fun o=>o.innO 5)=true:=by
 rw [objsplainA_eq]
 refine Bool.and_eq_true_iff.2 ⟨rfl,Bool.and_eq_true_iff.2 ⟨rfl,Bool.and_eq_true_iff.2 ⟨rfl,Bool.and_eq_true_iff.2 ⟨inn_map fun _=>rfl,Bool.and_eq_true_iff.2 ⟨inn_map fun _=>rfl,rfl⟩⟩⟩⟩⟩
theorem objsplainA_snap (a:Au) (objs:List AObj) (p q:Nat) (hp:p=a.acc.length) (hq:q=a.ed.length) (h4:objs[3]? = some (.arr p 1 4 (a.acc.map vb))) (h5:objs[4]? = some (.arr q 3 71 (a.ed.map vedge))) :
 Snap objs (.agg [vi a.sy,.own 3 p 0 p,.own 4 q 0 q]) (vau a):=by
 subst hp hq
 refine .agg _ _ rfl fun i h1 h2=>?_
 match i,h1,h2 with
 | 0,_,_=>exact .tree _ rfl
 | 1,_,_ =>
  refine .own 3 a.acc.length 0 a.acc.length 1 4 _ _ h4 (by simp) (by simp) fun q hq=>?_
  simp only [Nat.zero_add]
  exact .tree _ (List.all_eq_true.1 (isT_map (fun _=>rfl) _) _ (List.getElem_mem _))
 | 2,_,_ =>
  refine .own 4 a.ed.length 0 a.ed.length 3 71 _ _ h5 (by simp) (by simp) fun q hq=>?_
  simp only [Nat.zero_add]
  exact .tree _ (List.all_eq_true.1 (isT_map (fun _=>rfl) _) _ (List.getElem_mem _))
set_option maxHeartbeats 4000000 in
theorem plainA_s (a:Au) (ha:SzA a):Ctr Try.prog 31 [vau a] (vau a):=by
 refine specC f31 (by simp) fun F0 w0=>?_
 obtain ⟨hz1,hz2⟩:=ha
 unfold c31
 refine CwpE.cut (st:=⟨[(1,.ref 0 1 0 0),(2,.ref 1 1 0 0)],[.arr 1 3 34 [vau a],.arr 1 3 26 [nil3]]⟩) ?_ ?_
 ·simp only [go_sem]
  exact ⟨_,WkE.kp,rfl⟩
 refine CwpE.cut (st:=⟨[(1,.ref 0 1 0 0),(2,.ref 1 1 0 0),(3,.ref 2 1 0 0)],objsplainA a [] []⟩) ?_ ?_
 ·simp only [go_sem]
  refine ⟨_,(WkE.nilCell 2 1 3 0 1 1 4 26 _ (.agg [vi a.sy,.val (.slice none 0 0),.val (.slice none 0 0)]) rfl rfl rfl).trans ((WkE.nilCell 2 1 3 0 2 3 71 26 _ (.agg [vi a.sy,.own 3 0 0 0,.val (.slice none 0 0)]) rfl rfl rfl).trans (WkE.kp)),rfl⟩
 refine CwpE.cut (st:=⟨[(1,.ref 0 1 0 0),(2,.ref 1 1 0 0),(3,.ref 2 1 0 0)],objsplainA a a.acc []⟩) ?_ ?_
 ·have q1:a.acc.length*1<=140737488355328:=by omega
  have q2:(0+a.acc.length)*1<=140737488355328:=by omega
  rw [objsplainA_eq a [] []]
  simp only [go_sem,List.length_map,q1,Nat.zero_add,List.length_nil]
  exact ⟨_,WkE.kp,rfl⟩
 refine CwpE.step (fun z=>z=⟨[(1,.ref 0 1 0 0),(2,.ref 1 1 0 0),(3,.ref 2 1 0 0)],objsplainA a a.acc a.ed⟩) ?_ ?_
 rotate_left
 ·rintro _ rfl
  refine CwpE.vc ?_
  rw [objsplainA_eq]
  simp only [go_sem]
  exact objsplainA_snap a _ _ _ rfl rfl rfl rfl
 simp only [go_sem]
 refine loopX 0 (fun m z=>∃ k:Nat,m=a.ed.length-k/\k<=a.ed.length/\z=⟨[(1,.ref 0 1 0 0),(2,.ref 1 1 0 0),(3,.ref 2 1 0 0),(4,vi k)],objsplainA a a.acc (a.ed.take k)⟩)
  (fun z=>z=⟨[(1,.ref 0 1 0 0),(2,.ref 1 1 0 0),(3,.ref 2 1 0 0)],objsplainA a a.acc a.ed⟩) a.ed.length
  ⟨[(1,.ref 0 1 0 0),(2,.ref 1 1 0 0),(3,.ref 2 1 0 0),(4,vi (0:Nat))],objsplainA a a.acc (a.ed.take 0)⟩ (WkE.kp) ⟨0,by omega,by omega,rfl⟩ ?_ ?_
 rotate_left
 ·rintro z rfl
  simp only [go_sem]
  exact ⟨_,.refl _ _,rfl⟩
 rintro m z ⟨k,rfl,hk,rfl⟩
 by_cases hlt:k<a.ed.length
 rotate_left
 ·have gk:¬ (k:Int)<(a.ed.length:Int):=by omega
  rw [List.take_of_length_le (by omega),objsplainA_eq a a.acc a.ed]
  simp only [go_sem,gk,List.length_map]
  exact ⟨_,WkE.kp,rfl⟩
 have g1:(k:Int)<(a.ed.length:Int):=by omega
 have g0:(0:Int)<=(k:Int):=by omega
 have w1:=wrap_s k (by omega)
 have heg:=edge_get hlt
 have htk:=List.take_succ_eq_append_getElem hlt
 have htl:(a.ed.take k).length=k:=by simp;omega
 generalize a.ed[k]=e at heg htk
 obtain ⟨E1,hE1⟩:∃ E1,a.ed.take (k+1)=E1:=⟨_,rfl⟩
 obtain ⟨E0,hE0⟩:∃ E0,a.ed.take k=E0:=⟨_,rfl⟩
 rw [hE1,hE0] at htk
 rw [hE0] at htl ⊢
 have hE1l:E1.length=E0.length+1:=by rw [htk];simp
 have qe:(E0.length+1)*24<=140737488355328:=by omega
 have hEm:E0.map vedge++[vedge e]=E1.map vedge:=by rw [htk,List.map_append];rfl
 rw [objsplainA_eq a a.acc E0]
 simp only [go_sem,g1,g0,heg,w1,qe,List.length_map,hEm,Int.toNat_natCast]
 refine ⟨a.ed.length-(k+1),⟨[(1,.ref 0 1 0 0),(2,.ref 1 1 0 0),(3,.ref 2 1 0 0),(4,vi (k+1:Nat))],objsplainA a a.acc (a.ed.take (k+1))⟩,by omega,?_,k+1,rfl,by omega,rfl⟩
 have hin:=objsplainA_inn a a.acc E1
 rw [hE1]
 rw [objsplainA_eq,hE1l] at hin ⊢
 exact WkE.round (by simp only [go_sem];try rfl) rfl hin rfl
theorem au_ext {a b:Au} (h1:a.sy=b.sy) (h2:a.acc=b.acc) (h3:a.ed=b.ed):a=b:=by
 cases a;cases b;simp only at h1 h2 h3;subst h1 h2 h3;rfl
theorem edge_eq_cells (e f:Edg):(!decide ([e.1,e.2.1,e.2.2]=[f.1,f.2.1,f.2.2])) = !decide (e=f):=by
 congr 1
 rw [decide_eq_decide]
 simp only [List.cons.injEq,and_true]
 constructor
 ·rintro ⟨h1,h2,h3⟩
  exact Prod.ext h1 (Prod.ext h2 h3)
 ·rintro rfl;exact ⟨rfl,rfl,rfl⟩
theorem same_upto {α : Type} {l m:List α} {k:Nat} (hk:k<l.length) (hm:k<m.length) (h:l.take k=m.take k) (e:l[k]=m[k]):l.take (k+1)=m.take (k+1):=by
 rw [List.take_succ_eq_append_getElem hk,List.take_succ_eq_append_getElem hm,h,e]
set_option maxHeartbeats 4000000 in
theorem Same_s (a b:Au) (ha:SzA a) (hb:SzA b):Ctr Try.prog 30 [vau a,vau b] (vb (decide (a=b))):=by
 refine specC f30 (by simp) fun F0 w0=>?_
 obtain ⟨ha1,ha2⟩:=ha
 obtain ⟨hb1,hb2⟩:=hb
 unfold c30
 refine CwpE.cut (st:=⟨[(2,.ref 0 1 0 0),(3,.ref 1 1 0 0),(4,vb false)],[oB a,oB b]⟩) ?_ ?_
 ·simp only [go_sem]
  exact ⟨_,WkE.kp,rfl⟩
 by_cases hall:a.sy=b.sy/\a.acc.length=b.acc.length/\a.ed.length=b.ed.length
 rotate_left
 ·have hne:¬ a=b:=fun e=>hall (by subst e;exact ⟨rfl,rfl,rfl⟩)
  rw [decide_eq_false hne]
  refine CwpE.step (fun _=>False) ?_ (fun _ h=>h.elim)
  by_cases h1:a.sy=b.sy
  ·by_cases h2:a.acc.length=b.acc.length
   ·have h2':(a.acc.length:Int)=(b.acc.length:Int):=by omega
    have h3':¬ (a.ed.length:Int)=(b.ed.length:Int):=fun e=>hall ⟨h1,h2,by omega⟩
    simp only [go_sem,h1,h2',h3',List.length_map]
    exact .tree _ rfl
   ·have h2':¬ (a.acc.length:Int)=(b.acc.length:Int):=by omega
    simp only [go_sem,h1,h2',List.length_map]
    exact .tree _ rfl
  ·simp only [go_sem,h1]
   exact .tree _ rfl
 obtain ⟨h1,h2,h3⟩:=hall
 refine CwpE.cut (st:=⟨[(2,.ref 0 1 0 0),(3,.ref 1 1 0 0),(4,vb false)],[oB a,oB b]⟩) ?_ ?_
 ·have h2':(a.acc.length:Int)=(b.acc.length:Int):=by omega
  have h3':(a.ed.length:Int)=(b.ed.length:Int):=by omega
  simp only [go_sem,h1,h2',h3',List.length_map]
  exact ⟨_,WkE.kp,rfl⟩
 refine CwpE.step (fun z=>a.acc=b.acc/\z=⟨[(2,.ref 0 1 0 0),(3,.ref 1 1 0 0),(4,vb false)],[oB a,oB b]⟩) ?_ ?_
 ·simp only [go_sem]
  refine loopX 0 (fun m z=>∃ k:Nat,m=a.acc.length-k/\k<=a.acc.length/\a.acc.take k=b.acc.take k/\z=⟨[(2,.ref 0 1 0 0),(3,.ref 1 1 0 0),(4,vb false),(5,vi k)],[oB a,oB b]⟩)
   (fun z=>a.acc=b.acc/\z=⟨[(2,.ref 0 1 0 0),(3,.ref 1 1 0 0),(4,vb false)],[oB a,oB b]⟩) a.acc.length
   ⟨[(2,.ref 0 1 0 0),(3,.ref 1 1 0 0),(4,vb false),(5,vi (0:Nat))],[oB a,oB b]⟩ (WkE.kp) ⟨0,by omega,by omega,rfl,rfl⟩ ?_ ?_
  rotate_left
  ·rintro z ⟨h,rfl⟩
   simp only [go_sem]
   exact ⟨_,.refl _ _,h,rfl⟩
  rintro m z ⟨k,rfl,hk,ht,rfl⟩
  by_cases hlt:k<a.acc.length
  rotate_left
  ·have gk:¬ (k:Int)<(a.acc.length:Int):=by omega
   rw [List.take_of_length_le (by omega),List.take_of_length_le (by omega)] at ht
   simp only [go_sem,gk,List.length_map]
   exact ⟨_,WkE.kp,ht,rfl⟩
  have g1:(k:Int)<(a.acc.length:Int):=by omega
  have g2:(k:Int)<(b.acc.length:Int):=by omega
  have g0:(0:Int)<=(k:Int):=by omega
  have w1:=wrap_s k (by omega)
  have e1:(a.acc.map vb)[k]? = some (vb a.acc[k]):=by rw [List.getElem?_map,List.getElem?_eq_getElem hlt];rfl
  have e2:(b.acc.map vb)[k]? = some (vb (b.acc[k]'(by omega))):=by rw [List.getElem?_map,List.getElem?_eq_getElem (by omega)];rfl
  have hn:=same_upto hlt (by omega) ht
  by_cases he:a.acc[k]=b.acc[k]'(by omega)
  ·have hn1:=hn he
   have hq:(a.acc[k] == b.acc[k]'(by omega))=true:=by rw [he];exact beq_self_eq_true _
   simp only [go_sem,g1,g0,e1,e2,w1,hq,Bool.not_true,List.length_map,Int.toNat_natCast]
   exact ⟨a.acc.length-(k+1),⟨[(2,.ref 0 1 0 0),(3,.ref 1 1 0 0),(4,vb false),(5,vi (k+1:Nat))],[oB a,oB b]⟩,by omega,WkE.kp,k+1,rfl,by omega,hn1,rfl⟩
  ·have hq:(a.acc[k] == b.acc[k]'(by omega))=false:=by simpa using he
   have hne:¬ a=b:=fun e=>he (by subst e;rfl)
   rw [decide_eq_false hne]
   simp only [go_sem,g1,g0,e1,e2,hq,Bool.not_false,List.length_map,Int.toNat_natCast]
   exact .tree _ rfl
 rintro _ ⟨hacc,rfl⟩
 refine CwpE.step (fun z=>a.ed=b.ed) ?_ ?_
 ·simp only [go_sem]
  refine loopX 2 (fun m z=>∃ k:Nat,m=a.ed.length-k/\k<=a.ed.length/\a.ed.take k=b.ed.take k/\z=⟨[(2,.ref 0 1 0 0),(3,.ref 1 1 0 0),(4,vb false),(6,vi k)],[oB a,oB b]⟩)
   (fun z=>a.ed=b.ed) a.ed.length
   ⟨[(2,.ref 0 1 0 0),(3,.ref 1 1 0 0),(4,vb false),(6,vi (0:Nat))],[oB a,oB b]⟩ (WkE.kp) ⟨0,by omega,by omega,rfl,rfl⟩ ?_ ?_
  rotate_left
  ·rintro z h
   simp only [go_sem]
   exact ⟨_,.refl _ _,h⟩
  rintro m z ⟨k,rfl,hk,ht,rfl⟩
  by_cases hlt:k<a.ed.length
  rotate_left
  ·have gk:¬ (k:Int)<(a.ed.length:Int):=by omega
   rw [List.take_of_length_le (by omega),List.take_of_length_le (by omega)] at ht
   simp only [go_sem,gk,List.length_map]
   exact ⟨_,.refl _ _,ht⟩
  have g1:(k:Int)<(a.ed.length:Int):=by omega
  have g2:(k:Int)<(b.ed.length:Int):=by omega
  have g0:(0:Int)<=(k:Int):=by omega
  have w1:=wrap_s k (by omega)
  have e1:=edge_get hlt
  have e2:=edge_get (l:=b.ed) (k:=k) (by omega)
  have hn:=same_upto hlt (by omega) ht
  have hne:¬ a.ed[k]=b.ed[k]'(by omega)->¬ a=b:=fun h e=>h (by subst e;rfl)
  have hcell:=edge_eq_cells a.ed[k] (b.ed[k]'(by omega))
  generalize a.ed[k]=e at e1 hn hne hcell
  generalize b.ed[k]'(by omega)=f at e2 hn hne hcell
  by_cases he:e=f
  ·have hn1:=hn he
   rw [decide_eq_true he] at hcell
   simp only [go_sem,g1,g0,e1,e2,w1,hcell,Bool.not_true,List.length_map,Int.toNat_natCast]
   exact ⟨a.ed.length-(k+1),⟨[(2,.ref 0 1 0 0),(3,.ref 1 1 0 0),(4,vb false),(6,vi (k+1:Nat))],[oB a,oB b]⟩,by omega,WkE.kp,k+1,rfl,by omega,hn1,rfl⟩
  ·rw [decide_eq_false he] at hcell
   rw [decide_eq_false (hne he)]
   simp only [go_sem,g1,g0,e1,e2,hcell,Bool.not_false,List.length_map,Int.toNat_natCast]
   exact .tree _ rfl
 intro z hed
 rw [decide_eq_true (au_ext h1 hacc hed)]
 obtain ⟨env,objs⟩:=z
 refine CwpE.wk (s':=⟨[],objs⟩) (WkE.kp) ?_
 refine CwpE.vc ?_
 simp only [go_sem]
 exact .tree _ rfl
theorem same_s (a b:Au) (ha:SzA a) (hb:SzA b):Ctr Try.prog 24 [vau a,vau b] (vb (decide (a=b))):=by
 refine specC f24 (by simp) fun F0 w0=>?_
 have hp:=plainA_s a ha
 have hs:=Same_s a b ha hb
 unfold c24
 refine CwpE.cut (st:=⟨[(2,.ref 0 1 0 0),(3,.ref 1 1 0 0)],[oX a,oB b]⟩) ?_ ?_
 ·simp only [go_sem]
  exact ⟨_,WkE.kp,rfl⟩
 refine CwpE.vc ?_
 simp only [go_sem]
 refine callT hp rfl ?_
 simp only [go_sem]
 refine callT hs rfl ?_
 simp only [go_sem]
 exact .tree _ rfl
def bitM (bits:Int) (i:Nat):Bool:=decide ((bits.fdiv (2 ^ min i 64)).tmod 2=1)
def inM (y:Nat) (k:Int):Int:=if ((k.tdiv 36).tmod (4*(y:Int)+1)).tdiv 4=(y:Int) then -1 else ((k.tdiv 36).tmod (4*(y:Int)+1)).tdiv 4
def madeE (n y:Nat) (k:Int):Edg:=((k.tmod 6).tmod n,inM y k,((k.tdiv 6).tmod 6).tmod n)
def madeN (l:List Int):Nat:=(1+atL l 0 6).toNat
def madeEs (l:List Int) (n y j:Nat):List Edg:=(List.range j).map fun i=>madeE n y (atL l ((i+2:Nat):Int) 1048576)
def madeK (l:List Int):Nat:=min l.length 20-2
def madeM (l:List Int) (y:Nat):Au:=⟨y,(List.range (madeN l)).map (bitM (atL l 1 64)),madeEs l (madeN l) y (madeK l)⟩
theorem madeN_bd (l:List Int):1<=madeN l/\madeN l<=6/\1+atL l 0 6=(madeN l:Int):=by
 have:=atL_bd l 0 6 (by omega)
 unfold madeN
 omega
def accG (n:Nat) (bits:Int) (i:Nat):List AV:=rg n fun q=>vb (if q<i then bitM bits q else false)
def objsK (y n:Nat) (A:List AV) (E:List Edg):List AObj:=[.arr 1 3 26 [nil3],.arr n 1 4 A,.arr 1 3 26 [.agg [vi y,.own 1 n 0 n,.own 3 E.length 0 E.length]],.arr E.length 3 71 (E.map vedge)]
theorem objsK_eq (y n:Nat) (A:List AV) (E:List Edg):objsK y n A E=[.arr 1 3 26 [nil3],.arr n 1 4 A,.arr 1 3 26 [.agg [vi y,.own 1 n 0 n,.own 3 E.length 0 E.length]],.arr E.length 3 71 (E.map vedge)]:=rfl
set_option maxHeartbeats 4000000 in
theorem Made_s (l:List Int) (hl:∀ x ∈ l,I64 x) (y:Nat) (h1:1<=y) (h2:y<=64):Ctr Try.prog 25 [vints l,vi y] (vau (madeM l y)):=by
 refine specC f25 (by simp) fun F0 w0=>?_
 obtain ⟨n1,n2,hne⟩:=madeN_bd l
 have ha0:=At_s l 0 6 hl ⟨by omega,by omega⟩
 have ha1:=At_s l 1 64 hl ⟨by omega,by omega⟩
 have hb0:=atL_bd l 0 6 (by omega)
 rw [madeM]
 generalize madeN l=n at n1 n2 hne ⊢
 generalize atL l 1 64=bits at ha1 ⊢
 generalize atL l 0 6=a0 at ha0 hb0 hne
 have w0:IntKind.i64.wrap (1+a0)=(n:Int):=by rw [wrap_id (by omega) (by omega),hne]
 unfold c25
 refine CwpE.cut (st:=⟨[(0,vints l),(1,vi y),(4,.ref 0 1 0 0)],[.arr 1 3 26 [nil3]]⟩) ?_ ?_
 ·simp only [go_sem]
  exact ⟨_,WkE.kp,rfl⟩
 refine CwpE.cut (st:=⟨[(0,vints l),(1,vi y),(4,.ref 0 1 0 0),(5,vi n)],[.arr 1 3 26 [nil3]]⟩) ?_ ?_
 ·simp only [go_sem]
  refine callT ha0 rfl ?_
  simp only [go_sem,w0]
  exact ⟨_,WkE.kp,rfl⟩
 have q0:(0:Int)<=(n:Int):=by omega
 have q2:((1:Nat):Int)*(n:Int)<=281474976710656:=by omega
 have q3:(n:Int)<=9223372036854775807:=by omega
 have hz:(rg n fun _=>vb false)=accG n bits 0:=rg_congr fun q _=>by rw [if_neg (by omega)]
 refine CwpE.cut (st:=⟨[(0,vints l),(1,vi y),(4,.ref 0 1 0 0),(5,vi n),(6,.ref 2 1 0 0)],objsK y n (accG n bits 0) []⟩) ?_ ?_
 ·rw [<-hz]
  simp only [go_sem,q0,q2,q3,Int.le_refl,Int.toNat_natCast,rg_rep]
  refine ⟨_,(WkE.nilCell 2 1 3 0 2 3 71 26 _ (.agg [vi y,.own 1 n 0 n,.val (.slice none 0 0)]) rfl rfl rfl).trans (WkE.kp),rfl⟩
 refine CwpE.cut (st:=⟨[(0,vints l),(1,vi y),(4,.ref 0 1 0 0),(5,vi n),(6,.ref 2 1 0 0),(7,vi bits)],objsK y n (accG n bits 0) []⟩) ?_ ?_
 ·simp only [go_sem]
  refine callT ha1 rfl ?_
  simp only [go_sem]
  exact ⟨_,WkE.kp,rfl⟩
 refine CwpE.step (fun z=>z=⟨[(0,vints l),(1,vi y),(4,.ref 0 1 0 0),(5,vi n),(6,.ref 2 1 0 0)],objsK y n (accG n bits n) []⟩) ?_ ?_
 ·simp only [go_sem]
  refine loopX 0 (fun m z=>∃ i:Nat,m=n-i/\i<=n/\z=⟨[(0,vints l),(1,vi y),(4,.ref 0 1 0 0),(5,vi n),(6,.ref 2 1 0 0),(7,vi bits),(8,vi i)],objsK y n (accG n bits i) []⟩)
   (fun z=>z=⟨[(0,vints l),(1,vi y),(4,.ref 0 1 0 0),(5,vi n),(6,.ref 2 1 0 0)],objsK y n (accG n bits n) []⟩) n
   ⟨[(0,vints l),(1,vi y),(4,.ref 0 1 0 0),(5,vi n),(6,.ref 2 1 0 0),(7,vi bits),(8,vi (0:Nat))],objsK y n (accG n bits 0) []⟩ (WkE.kp) ⟨0,by omega,by omega,rfl⟩ ?_ ?_
  rotate_left
  ·rintro z rfl
   simp only [go_sem]
   exact ⟨_,.refl _ _,rfl⟩
  rintro m z ⟨i,rfl,hi,rfl⟩
  by_cases hlt:i<n
  rotate_left
  ·obtain rfl:i=n:=by omega
   simp only [go_sem,Int.lt_irrefl]
   exact ⟨_,WkE.kp,rfl⟩
  have g1:(i:Int)<(n:Int):=by omega
  have g0:(0:Int)<=(i:Int):=by omega
  have gn:¬ (i:Int)<0:=by omega
  have wi:=wrap_s i (by omega)
  have wu:IntKind.u64.wrap (i:Int)=(i:Int):=wrap_u (by omega) (by omega)
  have hget:∃ u,(accG n bits i)[i]? = some (vb u):=⟨_,rg_get hlt _⟩
  obtain ⟨u,hget⟩:=hget
  have hset:(accG n bits i).set i (vb (decide ((bits.fdiv (2 ^ min i 64)).tmod 2=1)))=accG n bits (i+1):=by
   rw [accG,accG,rg_set]
   refine rg_congr fun q _=>?_
   by_cases hq:q=i
   ·subst hq
    rw [if_pos rfl,if_pos (by omega)];rfl
   ·rw [if_neg hq]
    by_cases h3:q<i
    ·rw [if_pos h3,if_pos (by omega)]
    ·rw [if_neg h3,if_neg (by omega)]
  rw [objsK_eq y n (accG n bits i) []]
  simp only [go_sem,Int.reduceEq,g1,g0,gn,wi,wu,hget,hset,Int.toNat_natCast]
  exact ⟨n-(i+1),⟨[(0,vints l),(1,vi y),(4,.ref 0 1 0 0),(5,vi n),(6,.ref 2 1 0 0),(7,vi bits),(8,vi (i+1:Nat))],objsK y n (accG n bits (i+1)) []⟩,by omega,WkE.kp,i+1,rfl,by omega,rfl⟩
 rintro _ rfl
 have hA:accG n bits n=((List.range n).map (bitM bits)).map vb:=by
  rw [accG,rg,List.map_map]
  refine List.map_congr_left fun q hq=>?_
  rw [if_pos (List.mem_range.1 hq)];rfl
 have hAl:(accG n bits n).length=n:=rg_len _ _
 obtain ⟨A,hAe⟩:∃ A,accG n bits n=A:=⟨_,rfl⟩
 rw [hAe] at hA hAl ⊢
 refine CwpE.step (fun z=>z=⟨[(4,.ref 0 1 0 0),(6,.ref 2 1 0 0)],objsK y n A (madeEs l n y (madeK l))⟩) ?_ ?_
 rotate_left
 ·rintro _ rfl
  refine CwpE.vc ?_
  rw [objsK_eq]
  simp only [go_sem]
  refine .agg _ _ rfl fun i h1 h2=>?_
  match i,h1,h2 with
  | 0,_,_=>exact .tree _ rfl
  | 1,_,_ =>
   refine .own 1 n 0 n 1 4 _ _ rfl (by omega) (by simp) fun q hq=>?_
   simp only [Nat.zero_add,hA]
   exact .tree _ (List.all_eq_true.1 (isT_map (fun _=>rfl) _) _ (List.getElem_mem _))
  | 2,_,_ =>
   refine .own 3 _ 0 _ 3 71 _ _ rfl (by simp) (by simp) fun q hq=>?_
   simp only [Nat.zero_add]
   exact .tree _ (List.all_eq_true.1 (isT_map (fun _=>rfl) _) _ (List.getElem_mem _))
 simp only [go_sem]
 refine loopX 2 (fun m z=>∃ j:Nat,m=18-j/\j<=madeK l/\z=⟨[(0,vints l),(1,vi y),(4,.ref 0 1 0 0),(5,vi n),(6,.ref 2 1 0 0),(9,vi (j+2:Nat))],objsK y n A (madeEs l n y j)⟩)
  (fun z=>z=⟨[(4,.ref 0 1 0 0),(6,.ref 2 1 0 0)],objsK y n A (madeEs l n y (madeK l))⟩) 18
  ⟨[(0,vints l),(1,vi y),(4,.ref 0 1 0 0),(5,vi n),(6,.ref 2 1 0 0),(9,vi (0+2:Nat))],objsK y n A (madeEs l n y 0)⟩ (WkE.kp) ⟨0,by omega,by omega,rfl⟩ ?_ ?_
 rotate_left
 ·rintro z rfl
  simp only [go_sem]
  exact ⟨_,.refl _ _,rfl⟩
 rintro m z ⟨j,rfl,hj,rfl⟩
 have hkd:madeK l=min l.length 20-2:=rfl
 by_cases hlt:j+2<l.length
 rotate_left
 ·have gk:¬ ((j+2:Nat):Int)<(l.length:Int):=by omega
  have:j=madeK l:=by omega
  subst this
  simp only [go_sem,gk,List.length_map]
  exact ⟨_,WkE.kp,rfl⟩
 have gk:((j+2:Nat):Int)<(l.length:Int):=by omega
 by_cases h20:j+2<20
 rotate_left
 ·have g20:¬ ((j+2:Nat):Int)<20:=by omega
  have:j=madeK l:=by omega
  subst this
  simp only [go_sem,gk,g20,List.length_map]
  exact ⟨_,WkE.kp,rfl⟩
 have g20:((j+2:Nat):Int)<20:=by omega
 have hak:=At_s l ((j+2:Nat):Int) 1048576 hl ⟨by omega,by omega⟩
 have hkb:=atL_bd l ((j+2:Nat):Int) 1048576 (by omega)
 have hsucc:madeEs l n y (j+1)=madeEs l n y j++[madeE n y (atL l ((j+2:Nat):Int) 1048576)]:=by
  rw [madeEs,madeEs,List.range_succ,List.map_append];rfl
 have hEl:(madeEs l n y j).length=j:=by simp [madeEs]
 generalize atL l ((j+2:Nat):Int) 1048576=k at hak hkb hsucc
 obtain ⟨hk0,hk1⟩:=hkb
 obtain ⟨E0,hE0⟩:∃ E0,madeEs l n y j=E0:=⟨_,rfl⟩
 obtain ⟨E1,hE1⟩:∃ E1,madeEs l n y (j+1)=E1:=⟨_,rfl⟩
 rw [hE0] at hEl hsucc
 rw [hE1] at hsucc
 have hE1l:E1.length=E0.length+1:=by rw [hsucc];simp
 have qe:(E0.length+1)*24<=140737488355328:=by omega
 have b36:0<=k.tdiv 36/\k.tdiv 36<=1048576:=by rw [Int.tdiv_eq_ediv_of_nonneg hk0];omega
 have b6:0<=k.tdiv 6/\k.tdiv 6<=1048576:=by rw [Int.tdiv_eq_ediv_of_nonneg hk0];omega
 have c36:IntKind.i64.wrap (k.tdiv 36)=k.tdiv 36:=wrap_id (by omega) (by omega)
 have c6:IntKind.i64.wrap (k.tdiv 6)=k.tdiv 6:=wrap_id (by omega) (by omega)
 have c4:IntKind.i64.wrap (4*(y:Int))=4*(y:Int):=wrap_id (by omega) (by omega)
 have c5:IntKind.i64.wrap (4*(y:Int)+1)=4*(y:Int)+1:=wrap_id (by omega) (by omega)
 have d5:¬ (4*(y:Int)+1=0):=by omega
 have dn:¬ ((n:Int)=0):=by omega
 have m3:0<=(k.tdiv 36).tmod (4*(y:Int)+1):=Int.tmod_nonneg _ b36.1
 have m4:(k.tdiv 36).tmod (4*(y:Int)+1)<4*(y:Int)+1:=Int.tmod_lt_of_pos _ (by omega)
 have hmade:madeE n y k=((k.tmod 6).tmod n,inM y k,((k.tdiv 6).tmod 6).tmod n):=rfl
 rw [inM] at hmade
 obtain ⟨r,hr⟩:∃ r,(k.tdiv 36).tmod (4*(y:Int)+1)=r:=⟨_,rfl⟩
 rw [hr] at m3 m4 hmade
 have br:0<=r.tdiv 4/\r.tdiv 4<=64:=by rw [Int.tdiv_eq_ediv_of_nonneg m3];omega
 have wy:IntKind.i64.wrap (y:Int)=(y:Int):=wrap_id (by omega) (by omega)
 have cr:IntKind.i64.wrap (r.tdiv 4)=r.tdiv 4:=wrap_id (by omega) (by omega)
 have wj:IntKind.i64.wrap (((j+2:Nat):Int)+1)=((j+1+2:Nat):Int):=by rw [wrap_id (by omega) (by omega)];omega
 have fin:∀ st,WkE 76 st ⟨[(0,vints l),(1,vi y),(4,.ref 0 1 0 0),(5,vi n),(6,.ref 2 1 0 0),(9,vi (j+1+2:Nat))],objsK y n A E1⟩->∃ m s',m<18-j/\WkE 76 st s'/\∃ j,m=18-j/\j<=madeK l/\s'=⟨[(0,vints l),(1,vi y),(4,.ref 0 1 0 0),(5,vi n),(6,.ref 2 1 0 0),(9,vi (j+2:Nat))],objsK y n A (madeEs l n y j)⟩ :=
  fun st hst=>⟨18-(j+1),_,by omega,hst,j+1,rfl,by omega,by rw [hE1]⟩
 rw [hE0,objsK_eq y n A E0]
 by_cases hq:r.tdiv 4=(y:Int)
 ·rw [if_pos hq] at hmade
  have hEm:E0.map vedge++[.agg [vi ((k.tmod 6).tmod n),vi (-1),vi (((k.tdiv 6).tmod 6).tmod n)]]=E1.map vedge:=by rw [hsucc,hmade,List.map_append];rfl
  simp only [go_sem,Int.reduceNeg,gk,g20,List.length_map]
  refine callT hak rfl ?_
  simp only [go_sem,Int.reduceEq,Int.reduceNeg,c36,c4,c5,d5,dn,c6,hr,hq,wy,eq_self,decide_true,qe,hEm,wj,List.length_map]
  refine fin _ ?_
  rw [objsK_eq,hE1l]
  exact WkE.kp
 ·rw [if_neg hq] at hmade
  have hEm:E0.map vedge++[.agg [vi ((k.tmod 6).tmod n),vi (r.tdiv 4),vi (((k.tdiv 6).tmod 6).tmod n)]]=E1.map vedge:=by rw [hsucc,hmade,List.map_append];rfl
  simp only [go_sem,Int.reduceNeg,gk,g20,List.length_map]
  refine callT hak rfl ?_
  simp only [go_sem,Int.reduceEq,Int.reduceNeg,c36,c4,c5,d5,dn,c6,hr,cr,hq,qe,hEm,wj,List.length_map]
  refine fin _ ?_
  rw [objsK_eq,hE1l]
  exact WkE.kp
def dblG:Nat->List Edg->List Edg
 | 0,E=>E
 | f+1,E=>if 0<E.length/\E.length<4096 then dblG f (E++E) else E
theorem dblG_stop {f:Nat} {E:List Edg} (h:¬ (0<E.length/\E.length<4096)):dblG f E=E:=by
 cases f with
 | zero=>rfl
 | succ f=>rw [dblG,if_neg h]
theorem dblG_fuel:∀ (f g:Nat) (E:List Edg),4096-E.length<f->4096-E.length<g->dblG f E=dblG g E
 | 0,_,_,h,_=>by omega
 | _+1,0,_,_,h=>by omega
 | f+1,g+1,E,hf,hg=>by
  rw [dblG,dblG]
  by_cases h:0<E.length/\E.length<4096
  ·rw [if_pos h,if_pos h]
   have hl:(E++E).length=E.length+E.length:=List.length_append
   exact dblG_fuel f g _ (by omega) (by omega)
  ·rw [if_neg h,if_neg h]
theorem dblG_len:∀ (f:Nat) (E:List Edg),(dblG f E).length<=max E.length 8190
 | 0,E=>by rw [dblG];omega
 | f+1,E=>by
  rw [dblG]
  split
  ·rename_i h
   have:=dblG_len f (E++E)
   rw [List.length_append] at this
   omega
  ·omega
def setE (E:List Edg) (k:Nat) (f:Edg->Edg):List Edg:=match E[k]? with
 | none=>E
 | some e=>E.set k (f e)
theorem setE_len (E:List Edg) (k:Nat) (f:Edg->Edg):(setE E k f).length=E.length:=by
 unfold setE
 split
 ·rfl
 ·rw [List.length_set]
def flipB (A:List Bool) (k:Nat):List Bool:=match A[k]? with
 | none=>A
 | some b=>A.set k (!b)
theorem flipB_len (A:List Bool) (k:Nat):(flipB A k).length=A.length:=by
 unfold flipB
 split
 ·rfl
 ·rw [List.length_set]
def bentM (a:Au) (at' how by':Int):Au :=
 match (aroundL how 9).toNat with
 | 0=>⟨[0,-1,65,64,2].getD (aroundL by' 5).toNat 0,a.acc,a.ed⟩
 | 1=>⟨a.sy,[],a.ed⟩
 | 2=>⟨a.sy,a.acc,setE a.ed (aroundL at' (max a.ed.length 1:Nat)).toNat fun e=>(aroundL by' 9-1,e.2)⟩
 | 3=>⟨a.sy,a.acc,setE a.ed (aroundL at' (max a.ed.length 1:Nat)).toNat fun e=>(e.1,e.2.1,aroundL by' 9-1)⟩
 | 4=>⟨a.sy,a.acc,setE a.ed (aroundL at' (max a.ed.length 1:Nat)).toNat fun e=>(e.1,aroundL by' 7-2,e.2.2)⟩
 | 5=>⟨a.sy,a.acc++List.replicate ([1,249,250,256].getD (aroundL by' 4).toNat 0) false,a.ed⟩
 | 6=>⟨a.sy,a.acc,dblG 4098 a.ed⟩
 | 7=>⟨a.sy,flipB a.acc (aroundL by' (a.acc.length:Nat)).toNat,a.ed⟩
 | _=>⟨a.sy,a.acc,a.ed++[(0,-1,0)]⟩
theorem four_le (i:Nat) : [1,249,250,256].getD i 0<=256:=by
 match i with
 | 0 | 1 | 2 | 3=>decide
 | n+4=>simp
theorem bent_len (a:Au) (at' how by':Int):(bentM a at' how by').acc.length<=a.acc.length+256/\(bentM a at' how by').ed.length<=max (a.ed.length+1) 8190:=by
 unfold bentM
 have h4:=four_le (aroundL by' 4).toNat
 have hd:=dblG_len 4098 a.ed
 split <;> simp only [setE_len,flipB_len,List.length_append,List.length_replicate,List.length_nil,List.length_singleton] <;> omega
def objsR (a:Au) (sy:Int) (A:List Bool) (E:List Edg):List AObj:=[oB a,.arr 1 3 26 [nil3],.arr 1 3 26 [.agg [vi sy,.own 3 A.length 0 A.length,.own 4 E.length 0 E.length]],.arr A.length 1 4 (A.map vb),.arr E.length 3 71 (E.map vedge)]
theorem objsR_eq (a:Au) (sy:Int) (A:List Bool) (E:List Edg):objsR a sy A E=[oB a,.arr 1 3 26 [nil3],.arr 1 3 26 [.agg [vi sy,.own 3 A.length 0 A.length,.own 4 E.length 0 E.length]],.arr A.length 1 4 (A.map vb),.arr E.length 3 71 (E.map vedge)]:=rfl
theorem objsR_snap (sy:Int) (A:List Bool) (E:List Edg) (o0 o1 o2:AObj):Snap [o0,o1,o2,.arr A.length 1 4 (A.map vb),.arr E.length 3 71 (E.map vedge)] (.agg [vi sy,.own 3 A.length 0 A.length,.own 4 E.length 0 E.length]) (vau ⟨sy,A,E⟩):=by
 refine .agg _ _ rfl fun i h1 h2=>?_
 match i,h1,h2 with
 | 0,_,_=>exact .tree _ rfl
 | 1,_,_ =>
  refine .own 3 A.length 0 A.length 1 4 _ _ rfl (by simp) (by simp) fun q hq=>?_
  simp only [Nat.zero_add]
  exact .tree _ (List.all_eq_true.1 (isT_map (fun _=>rfl) _) _ (List.getElem_mem _))
 | 2,_,_ =>
  refine .own 4 E.length 0 E.length 3 71 _ _ rfl (by simp) (by simp) fun q hq=>?_
  simp only [Nat.zero_add]
  exact .tree _ (List.all_eq_true.1 (isT_map (fun _=>rfl) _) _ (List.getElem_mem _))
theorem I64_of {n:Int} (h1 : -1000000<=n) (h2:n<=1000000):I64 n:=⟨by omega,by omega⟩
set_option maxHeartbeats 8000000 in
theorem Bent_s (a:Au) (hz1:a.acc.length<=50000) (hz2:a.ed.length<=50000) (at' how by':Int) (hat:I64 at') (hhow:I64 how) (hby:I64 by'):Ctr Try.prog 11 [vau a,vi at',vi how,vi by'] (vau (bentM a at' how by')):=by
 refine specC f11 (by simp) fun F0 w0=>?_
 have hA33:=fun (n:Int) (h1 : -1000000<=n) (h2:n<=1000000)=>Around_s by' n hby (I64_of h1 h2)
 obtain ⟨Y,hY⟩:∃ Y,bentM a at' how by'=Y:=⟨_,rfl⟩
 rw [hY]
 unfold bentM at hY
 have hk:=Around_s at' (max a.ed.length 1:Nat) hat ⟨by omega,by omega⟩
 have hkb:=aroundL_bd at' (max a.ed.length 1:Nat) (by omega)
 have hc:=Around_s how 9 hhow ⟨by omega,by omega⟩
 have hcb:=aroundL_bd how 9 (by omega)
 have hmax:(if (a.ed.length:Int)<1 then 1 else (a.ed.length:Int))=((max a.ed.length 1:Nat):Int):=by split <;> omega
 obtain ⟨mx,hmx⟩:∃ mx,max a.ed.length 1=mx:=⟨_,rfl⟩
 rw [hmx] at hk hkb hmax hY
 obtain ⟨k,hke⟩:∃ k:Nat,aroundL at' mx=(k:Int):=⟨(aroundL at' mx).toNat,by omega⟩
 rw [hke] at hk hkb hY
 obtain ⟨c,hce⟩:∃ c:Nat,aroundL how 9=(c:Int):=⟨(aroundL how 9).toNat,by omega⟩
 rw [hce] at hc hcb hY
 rw [Int.toNat_natCast] at hY
 simp only [Int.toNat_natCast] at hY
 unfold c11
 refine CwpE.cut (st:=⟨[(1,vi at'),(2,vi how),(3,vi by'),(4,.ref 0 1 0 0),(8,.ref 1 1 0 0)],[oB a,.arr 1 3 26 [nil3]]⟩) ?_ ?_
 ·simp only [go_sem]
  exact ⟨_,WkE.kp,rfl⟩
 refine CwpE.cut (st:=⟨[(1,vi at'),(2,vi how),(3,vi by'),(4,.ref 0 1 0 0),(8,.ref 1 1 0 0),(9,.ref 2 1 0 0)],objsR a a.sy [] []⟩) ?_ ?_
 ·simp only [go_sem]
  refine ⟨_,(WkE.nilCell 2 1 3 0 1 1 4 26 _ (.agg [vi a.sy,.val (.slice none 0 0),.val (.slice none 0 0)]) rfl rfl rfl).trans ((WkE.nilCell 2 1 3 0 2 3 71 26 _ (.agg [vi a.sy,.own 3 0 0 0,.val (.slice none 0 0)]) rfl rfl rfl).trans (WkE.kp)),rfl⟩
 refine CwpE.cut (st:=⟨[(1,vi at'),(2,vi how),(3,vi by'),(4,.ref 0 1 0 0),(8,.ref 1 1 0 0),(9,.ref 2 1 0 0)],objsR a a.sy a.acc []⟩) ?_ ?_
 ·have q1:a.acc.length*1<=140737488355328:=by omega
  rw [objsR_eq a a.sy [] []]
  simp only [go_sem,List.length_map,q1,Nat.zero_add,List.length_nil]
  exact ⟨_,WkE.kp,rfl⟩
 refine CwpE.cut (st:=⟨[(1,vi at'),(2,vi how),(3,vi by'),(4,.ref 0 1 0 0),(8,.ref 1 1 0 0),(9,.ref 2 1 0 0)],objsR a a.sy a.acc a.ed⟩) ?_ ?_
 ·have q1:a.ed.length*24<=140737488355328:=by omega
  rw [objsR_eq a a.sy a.acc []]
  simp only [go_sem,List.length_map,q1,Nat.zero_add,List.length_nil]
  exact ⟨_,WkE.kp,rfl⟩
 refine CwpE.cut (st:=⟨[(2,vi how),(3,vi by'),(8,.ref 1 1 0 0),(9,.ref 2 1 0 0),(10,vi k)],objsR a a.sy a.acc a.ed⟩) ?_ ?_
 ·rw [objsR_eq]
  simp only [go_sem,hmax]
  refine callT hk rfl ?_
  simp only [go_sem]
  exact ⟨_,WkE.kp,rfl⟩
 refine CwpE.seqJ (fun z=>∃ (c0 c1 c2:AV) (rest:List AObj),(∀ o1,Snap ([oB a,o1,.arr 1 3 26 [.agg [c0,c1,c2]]]++rest) (.agg [c0,c1,c2]) (vau Y))/\z=⟨[(8,.ref 1 1 0 0),(9,.ref 2 1 0 0)],[oB a,.arr 1 3 26 [nil3],.arr 1 3 26 [.agg [c0,c1,c2]]]++rest⟩) ?_ ?_
 rotate_left
 ·rintro _ ⟨c0,c1,c2,rest,h,rfl⟩
  refine CwpE.vc ?_
  simp only [go_sem]
  exact h _
 refine CwpE.cut (st:=⟨[(3,vi by'),(8,.ref 1 1 0 0),(9,.ref 2 1 0 0),(10,vi k),(34,vi c)],objsR a a.sy a.acc a.ed⟩) ?_ ?_
 ·simp only [go_sem]
  refine callT hc rfl ?_
  simp only [go_sem]
  exact ⟨_,WkE.kp,rfl⟩
 refine CwpE.block ?_
 have fin:∀ (env:List (Nat × AV)) (sy:Int) (A:List Bool) (E:List Edg),(⟨sy,A,E⟩:Au)=Y->(∀ X,WkE 145 ⟨env,X⟩ ⟨[(8,.ref 1 1 0 0),(9,.ref 2 1 0 0)],X⟩) ->
  ∃ s',WkE 145 ⟨env,objsR a sy A E⟩ s'/\∃ (c0 c1 c2:AV) (rest:List AObj),(∀ o1,Snap ([oB a,o1,.arr 1 3 26 [.agg [c0,c1,c2]]]++rest) (.agg [c0,c1,c2]) (vau Y))/\s'=⟨[(8,.ref 1 1 0 0),(9,.ref 2 1 0 0)],[oB a,.arr 1 3 26 [nil3],.arr 1 3 26 [.agg [c0,c1,c2]]]++rest⟩:=by
  rintro env sy A E rfl h
  exact ⟨_,h _,vi sy,_,_,_,fun o1=>objsR_snap sy A E _ o1 _,rfl⟩
 have z0:((0:Nat):Int)=0:=rfl
 have z1:((1:Nat):Int)=1:=rfl
 have z2:((2:Nat):Int)=2:=rfl
 have z3:((3:Nat):Int)=3:=rfl
 have z4:((4:Nat):Int)=4:=rfl
 have z5:((5:Nat):Int)=5:=rfl
 have z6:((6:Nat):Int)=6:=rfl
 have z7:((7:Nat):Int)=7:=rfl
 have z8:((8:Nat):Int)=8:=rfl
 have hc9:c=0 \/ c=1 \/ c=2 \/ c=3 \/ c=4 \/ c=5 \/ c=6 \/ c=7 \/ c=8:=by omega
 rcases hc9 with rfl | rfl | rfl | rfl | rfl | rfl | rfl | rfl | rfl
 ·
  have h5:=hA33 5 (by omega) (by omega)
  have h5b:=aroundL_bd by' 5 (by omega)
  simp only at hY
  generalize aroundL by' 5=j at h5 h5b hY
  have hj:j=0 \/ j=1 \/ j=2 \/ j=3 \/ j=4:=by omega
  refine CwpE.vc ?_
  rw [objsR_eq]
  simp only [go_sem,Int.reduceNeg,z0]
  refine callT h5 rfl ?_
  rcases hj with rfl | rfl | rfl | rfl | rfl <;> simp only [go_sem,Int.reduceLE,Int.reduceNeg,Int.le_refl] <;> refine fin _ _ a.acc a.ed hY fun X=>WkE.keep ?_ <;> simp only [go_sem] <;> try rfl
 ·
  simp only at hY
  subst hY
  refine CwpE.vc ?_
  rw [objsR_eq]
  simp only [go_sem,Int.reduceEq,Int.reduceNeg,z1]
  refine ⟨_,WkE.kp,vi a.sy,_,_,_,fun o1=>?_,rfl⟩
  refine .agg _ _ rfl fun i h1 h2=>?_
  match i,h1,h2 with
  | 0,_,_=>exact .tree _ rfl
  | 1,_,_=>exact .nil 1
  | 2,_,_ =>
   refine .own 4 a.ed.length 0 a.ed.length 3 71 _ _ rfl (by simp) (by simp) fun q hq=>?_
   simp only [Nat.zero_add]
   exact .tree _ (List.all_eq_true.1 (isT_map (fun _=>rfl) _) _ (List.getElem_mem _))
 ·
  have h5:=hA33 9 (by omega) (by omega)
  have h5b:=aroundL_bd by' 9 (by omega)
  simp only at hY
  generalize aroundL by' 9=j at h5 h5b hY
  have wj:IntKind.i64.wrap (j-1)=j-1:=wrap_id (by omega) (by omega)
  by_cases hl:0<a.ed.length
  rotate_left
  ·have gl:¬ (0:Int)<(a.ed.length:Int):=by omega
   have hnil:a.ed=[]:=List.eq_nil_of_length_eq_zero (by omega)
   have hY2:(⟨a.sy,a.acc,a.ed⟩:Au)=Y:=by rw [<-hY,hnil];rfl
   refine CwpE.vc ?_
   rw [objsR_eq]
   simp only [go_sem,Int.reduceEq,Int.reduceNeg,z2,gl]
   refine fin _ _ a.acc a.ed hY2 fun X=>WkE.keep ?_
   simp only [go_sem];try rfl
  have gl:(0:Int)<(a.ed.length:Int):=by omega
  have hkl:k<a.ed.length:=by omega
  have g1:(k:Int)<(a.ed.length:Int):=by omega
  have g0:(0:Int)<=(k:Int):=by omega
  have heg:=edge_get hkl
  obtain ⟨e,he⟩:∃ e,a.ed[k]=e:=⟨_,rfl⟩
  have hE:setE a.ed k (fun e=>(j-1,e.2))=a.ed.set k (j-1,e.2):=by rw [setE,List.getElem?_eq_getElem hkl,he]
  rw [he] at heg
  rw [hE] at hY
  have hset:(a.ed.map vedge).set k (.agg [vi (j-1),vi e.2.1,vi e.2.2])=(a.ed.set k (j-1,e.2)).map vedge:=by rw [List.map_set]
  have hlen:(a.ed.set k (j-1,e.2)).length=a.ed.length:=List.length_set
  obtain ⟨E1,hE1⟩:∃ E1,a.ed.set k (j-1,e.2)=E1:=⟨_,rfl⟩
  rw [hE1] at hset hlen hY
  refine CwpE.vc ?_
  rw [objsR_eq]
  simp only [go_sem,Int.reduceEq,Int.reduceNeg,z2,gl]
  refine callT h5 rfl ?_
  simp only [go_sem,g1,g0,heg,wj,hset,Int.toNat_natCast]
  rw [<-hlen]
  refine fin _ _ a.acc E1 hY fun X=>WkE.keep ?_
  simp only [go_sem];try rfl
 ·
  have h5:=hA33 9 (by omega) (by omega)
  have h5b:=aroundL_bd by' 9 (by omega)
  simp only at hY
  generalize aroundL by' 9=j at h5 h5b hY
  have wj:IntKind.i64.wrap (j-1)=j-1:=wrap_id (by omega) (by omega)
  by_cases hl:0<a.ed.length
  rotate_left
  ·have gl:¬ (0:Int)<(a.ed.length:Int):=by omega
   have hnil:a.ed=[]:=List.eq_nil_of_length_eq_zero (by omega)
   have hY2:(⟨a.sy,a.acc,a.ed⟩:Au)=Y:=by rw [<-hY,hnil];rfl
   refine CwpE.vc ?_
   rw [objsR_eq]
   simp only [go_sem,Int.reduceEq,Int.reduceNeg,z3,gl]
   refine fin _ _ a.acc a.ed hY2 fun X=>WkE.keep ?_
   simp only [go_sem];try rfl
  have gl:(0:Int)<(a.ed.length:Int):=by omega
  have hkl:k<a.ed.length:=by omega
  have g1:(k:Int)<(a.ed.length:Int):=by omega
  have g0:(0:Int)<=(k:Int):=by omega
  have heg:=edge_get hkl
  obtain ⟨e,he⟩:∃ e,a.ed[k]=e:=⟨_,rfl⟩
  have hE:setE a.ed k (fun e=>(e.1,e.2.1,j-1))=a.ed.set k (e.1,e.2.1,j-1):=by rw [setE,List.getElem?_eq_getElem hkl,he]
  rw [he] at heg
  rw [hE] at hY
  have hset:(a.ed.map vedge).set k (.agg [vi e.1,vi e.2.1,vi (j-1)])=(a.ed.set k (e.1,e.2.1,j-1)).map vedge:=by rw [List.map_set]
  have hlen:(a.ed.set k (e.1,e.2.1,j-1)).length=a.ed.length:=List.length_set
  obtain ⟨E1,hE1⟩:∃ E1,a.ed.set k (e.1,e.2.1,j-1)=E1:=⟨_,rfl⟩
  rw [hE1] at hset hlen hY
  refine CwpE.vc ?_
  rw [objsR_eq]
  simp only [go_sem,Int.reduceEq,Int.reduceNeg,z3,gl]
  refine callT h5 rfl ?_
  simp only [go_sem,g1,g0,heg,wj,hset,Int.toNat_natCast]
  rw [<-hlen]
  refine fin _ _ a.acc E1 hY fun X=>WkE.keep ?_
  simp only [go_sem];try rfl
 ·
  have h5:=hA33 7 (by omega) (by omega)
  have h5b:=aroundL_bd by' 7 (by omega)
  simp only at hY
  generalize aroundL by' 7=j at h5 h5b hY
  have wj:IntKind.i64.wrap (j-2)=j-2:=wrap_id (by omega) (by omega)
  by_cases hl:0<a.ed.length
  rotate_left
  ·have gl:¬ (0:Int)<(a.ed.length:Int):=by omega
   have hnil:a.ed=[]:=List.eq_nil_of_length_eq_zero (by omega)
   have hY2:(⟨a.sy,a.acc,a.ed⟩:Au)=Y:=by rw [<-hY,hnil];rfl
   refine CwpE.vc ?_
   rw [objsR_eq]
   simp only [go_sem,Int.reduceEq,Int.reduceNeg,z4,gl]
   refine fin _ _ a.acc a.ed hY2 fun X=>WkE.keep ?_
   simp only [go_sem];try rfl
  have gl:(0:Int)<(a.ed.length:Int):=by omega
  have hkl:k<a.ed.length:=by omega
  have g1:(k:Int)<(a.ed.length:Int):=by omega
  have g0:(0:Int)<=(k:Int):=by omega
  have heg:=edge_get hkl
  obtain ⟨e,he⟩:∃ e,a.ed[k]=e:=⟨_,rfl⟩
  have hE:setE a.ed k (fun e=>(e.1,j-2,e.2.2))=a.ed.set k (e.1,j-2,e.2.2):=by rw [setE,List.getElem?_eq_getElem hkl,he]
  rw [he] at heg
  rw [hE] at hY
  have hset:(a.ed.map vedge).set k (.agg [vi e.1,vi (j-2),vi e.2.2])=(a.ed.set k (e.1,j-2,e.2.2)).map vedge:=by rw [List.map_set]
  have hlen:(a.ed.set k (e.1,j-2,e.2.2)).length=a.ed.length:=List.length_set
  obtain ⟨E1,hE1⟩:∃ E1,a.ed.set k (e.1,j-2,e.2.2)=E1:=⟨_,rfl⟩
  rw [hE1] at hset hlen hY
  refine CwpE.vc ?_
  rw [objsR_eq]
  simp only [go_sem,Int.reduceEq,Int.reduceNeg,z4,gl]
  refine callT h5 rfl ?_
  simp only [go_sem,g1,g0,heg,wj,hset,Int.toNat_natCast]
  rw [<-hlen]
  refine fin _ _ a.acc E1 hY fun X=>WkE.keep ?_
  simp only [go_sem];try rfl
 ·
  have h5:=hA33 4 (by omega) (by omega)
  have h5b:=aroundL_bd by' 4 (by omega)
  simp only at hY
  generalize aroundL by' 4=j at h5 h5b hY
  have hj:j=0 \/ j=1 \/ j=2 \/ j=3:=by omega
  have app:∀ m:Nat,a.acc.map vb++List.replicate m (vb false)=(a.acc++List.replicate m false).map vb:=fun m=>by rw [List.map_append,List.map_replicate]
  have apl:∀ m:Nat,(a.acc++List.replicate m false).length=a.acc.length+m:=fun m=>by rw [List.length_append,List.length_replicate]
  refine CwpE.vc ?_
  rw [objsR_eq]
  simp only [go_sem,Int.reduceEq,Int.reduceNeg,z5]
  refine callT h5 rfl ?_
  rcases hj with rfl | rfl | rfl | rfl
  ·have q:(a.acc.length+1)*1<=140737488355328:=by omega
   have hm:=app 1
   have hl:=apl 1
   have hY2:(⟨a.sy,a.acc++List.replicate 1 false,a.ed⟩:Au)=Y:=hY
   obtain ⟨A1,hA1⟩:∃ A1,a.acc++List.replicate 1 false=A1:=⟨_,rfl⟩
   rw [hA1] at hm hl hY2
   simp only [go_sem,Int.reduceLE,Int.le_refl,List.length_replicate,q,hm]
   rw [<-hl]
   refine fin _ _ A1 a.ed hY2 fun X=>WkE.keep ?_
   simp only [go_sem];try rfl
  ·have q:(a.acc.length+249)*1<=140737488355328:=by omega
   have hm:=app 249
   have hl:=apl 249
   have hY2:(⟨a.sy,a.acc++List.replicate 249 false,a.ed⟩:Au)=Y:=hY
   obtain ⟨A1,hA1⟩:∃ A1,a.acc++List.replicate 249 false=A1:=⟨_,rfl⟩
   rw [hA1] at hm hl hY2
   simp only [go_sem,Int.reduceLE,List.length_replicate,q,hm]
   rw [<-hl]
   refine fin _ _ A1 a.ed hY2 fun X=>WkE.keep ?_
   simp only [go_sem];try rfl
  ·have q:(a.acc.length+250)*1<=140737488355328:=by omega
   have hm:=app 250
   have hl:=apl 250
   have hY2:(⟨a.sy,a.acc++List.replicate 250 false,a.ed⟩:Au)=Y:=hY
   obtain ⟨A1,hA1⟩:∃ A1,a.acc++List.replicate 250 false=A1:=⟨_,rfl⟩
   rw [hA1] at hm hl hY2
   simp only [go_sem,Int.reduceLE,List.length_replicate,q,hm]
   rw [<-hl]
   refine fin _ _ A1 a.ed hY2 fun X=>WkE.keep ?_
   simp only [go_sem];try rfl
  ·have q:(a.acc.length+256)*1<=140737488355328:=by omega
   have hm:=app 256
   have hl:=apl 256
   have hY2:(⟨a.sy,a.acc++List.replicate 256 false,a.ed⟩:Au)=Y:=hY
   obtain ⟨A1,hA1⟩:∃ A1,a.acc++List.replicate 256 false=A1:=⟨_,rfl⟩
   rw [hA1] at hm hl hY2
   simp only [go_sem,Int.reduceLE,List.length_replicate,q,hm]
   rw [<-hl]
   refine fin _ _ A1 a.ed hY2 fun X=>WkE.keep ?_
   simp only [go_sem];try rfl
 ·
  simp only at hY
  refine CwpE.vc ?_
  rw [objsR_eq]
  simp only [go_sem,Int.reduceEq,Int.reduceNeg,z6]
  refine loopX 1 (fun m z=>∃ E:List Edg,m=4096-E.length/\E.length<=100000/\(⟨a.sy,a.acc,dblG 4098 E⟩:Au)=Y/\z=⟨[(8,.ref 1 1 0 0),(9,.ref 2 1 0 0)],objsR a a.sy a.acc E⟩)
   (fun z=>∃ E:List Edg,(⟨a.sy,a.acc,E⟩:Au)=Y/\z=⟨[(8,.ref 1 1 0 0),(9,.ref 2 1 0 0)],objsR a a.sy a.acc E⟩) (4096-a.ed.length)
   ⟨[(8,.ref 1 1 0 0),(9,.ref 2 1 0 0)],objsR a a.sy a.acc a.ed⟩ (WkE.kp) ⟨a.ed,rfl,by omega,hY,rfl⟩ ?_ ?_
  rotate_left
  ·rintro z ⟨E,hE,rfl⟩
   simp only [go_sem]
   exact fin _ a.sy a.acc E hE fun X=>WkE.refl _ _
  rintro m z ⟨E,rfl,hEb,hE,rfl⟩
  by_cases h0:0<E.length
  ·have g0:(0:Int)<(E.length:Int):=by omega
   by_cases h1:E.length<4096
   ·have g1:(E.length:Int)<4096:=by omega
    have qe:(E.length+E.length)*24<=140737488355328:=by omega
    have hl:(E++E).length=E.length+E.length:=List.length_append
    have hd:dblG 4098 E=dblG 4098 (E++E):=by
     rw [dblG_fuel 4098 4099 E (by omega) (by omega),dblG,if_pos ⟨h0,h1⟩]
    rw [hd] at hE
    rw [objsR_eq]
    have hm:E.map vedge++E.map vedge=(E++E).map vedge:=List.map_append.symm
    obtain ⟨E1,hE1⟩:∃ E1,E++E=E1:=⟨_,rfl⟩
    rw [hE1] at hm hl hE
    simp only [go_sem,g0,g1,qe,hm,List.length_map]
    rw [<-hl]
    exact ⟨4096-E1.length,⟨[(8,.ref 1 1 0 0),(9,.ref 2 1 0 0)],objsR a a.sy a.acc E1⟩,by omega,WkE.kp,E1,rfl,by omega,hE,rfl⟩
   ·have g1:¬ (E.length:Int)<4096:=by omega
    rw [dblG_stop (by omega)] at hE
    rw [objsR_eq]
    simp only [go_sem,g0,g1]
    exact ⟨_,WkE.kp,E,hE,rfl⟩
  ·have g0:¬ (0:Int)<(E.length:Int):=by omega
   rw [dblG_stop (by omega)] at hE
   rw [objsR_eq]
   simp only [go_sem,g0]
   exact ⟨_,WkE.kp,E,hE,rfl⟩
 ·
  simp only at hY
  by_cases hl:0<a.acc.length
  rotate_left
  ·have gl:¬ (0:Int)<(a.acc.length:Int):=by omega
   have hnil:a.acc=[]:=List.eq_nil_of_length_eq_zero (by omega)
   have hY2:(⟨a.sy,a.acc,a.ed⟩:Au)=Y:=by rw [<-hY,hnil];rfl
   refine CwpE.vc ?_
   rw [objsR_eq]
   simp only [go_sem,Int.reduceEq,Int.reduceNeg,z7,gl]
   refine fin _ _ a.acc a.ed hY2 fun X=>WkE.keep ?_
   simp only [go_sem];try rfl
  have gl:(0:Int)<(a.acc.length:Int):=by omega
  have h5:=hA33 (a.acc.length:Nat) (by omega) (by omega)
  have h5b:=aroundL_bd by' (a.acc.length:Nat) (by omega)
  obtain ⟨j,hj⟩:∃ j:Nat,aroundL by' (a.acc.length:Nat)=(j:Int):=⟨(aroundL by' (a.acc.length:Nat)).toNat,by omega⟩
  rw [hj] at h5 h5b hY
  have g1:(j:Int)<(a.acc.length:Int):=by omega
  have g0:(0:Int)<=(j:Int):=by omega
  have hjl:j<a.acc.length:=by omega
  have hag:(a.acc.map vb)[j]? = some (vb a.acc[j]):=by rw [List.getElem?_map,List.getElem?_eq_getElem hjl];rfl
  have hF:flipB a.acc j=a.acc.set j (!a.acc[j]):=by rw [flipB,List.getElem?_eq_getElem hjl]
  rw [Int.toNat_natCast,hF] at hY
  generalize a.acc[j]=b at hag hY
  have hset:(a.acc.map vb).set j (vb (!b))=(a.acc.set j (!b)).map vb:=by rw [List.map_set]
  have hlen:(a.acc.set j (!b)).length=a.acc.length:=List.length_set
  obtain ⟨A1,hA1⟩:∃ A1,a.acc.set j (!b)=A1:=⟨_,rfl⟩
  rw [hA1] at hset hlen hY
  refine CwpE.vc ?_
  rw [objsR_eq]
  simp only [go_sem,Int.reduceEq,Int.reduceNeg,z7,gl]
  refine callT h5 rfl ?_
  simp only [go_sem,g1,g0,hag,hset,Int.toNat_natCast]
  rw [<-hlen]
  refine fin _ _ A1 a.ed hY fun X=>WkE.keep ?_
  simp only [go_sem];try rfl
 ·
  simp only at hY
  have qe:(a.ed.length+1)*24<=140737488355328:=by omega
  have hm:a.ed.map vedge++[vedge (0,-1,0)]=(a.ed++[((0:Int),(-1:Int),(0:Int))]).map vedge:=by rw [List.map_append];rfl
  have hl:(a.ed++[((0:Int),(-1:Int),(0:Int))]).length=a.ed.length+1:=by simp
  obtain ⟨E1,hE1⟩:∃ E1,a.ed++[((0:Int),(-1:Int),(0:Int))]=E1:=⟨_,rfl⟩
  rw [hE1] at hm hl hY
  refine CwpE.vc ?_
  rw [objsR_eq]
  simp only [go_sem,Int.reduceEq,Int.reduceNeg,z8,qe,List.length_map,hm]
  rw [<-hl]
  refine fin _ _ a.acc E1 hY fun X=>WkE.keep ?_
  simp only [go_sem];try rfl
end Go.Proofs.Ytjilachpkjlhdaa
namespace P5
def lvA:Au:=⟨2,[false,false,true],[(0,0,0),(0,1,0),(0,1,1),(1,0,2),(1,1,2)]⟩
def lvB:Au:=⟨2,[false,false,true,true],[(0,0,0),(0,1,1),(1,0,2),(1,1,3),(2,0,0),(2,1,1),(3,0,2),(3,1,3)]⟩
deriving instance DecidableEq for Au
theorem lv_fixed:fixedM lvA=(lvB,0):=by decide +kernel
theorem lv_short:shortestM lvA=some [1,0]:=by decide +kernel
theorem lv_turn:(turnM lvA).2=0:=by decide +kernel
theorem lv_differ:differM lvA (turnM lvA).1=(some [0,1],0):=by decide +kernel
theorem lv_not:(notM lvA).2=0/\(notM lvA).1.acc=[true,true,false,false]:=by decide +kernel
theorem lv_acc:acceptsM lvA [0,1,0]=true/\acceptsM lvA [1,0,0]=false:=by decide +kernel
end P5
namespace Go.Proofs.Ytjilachpkjlhdaa
open Go.RowKit Dak P5
set_option maxHeartbeats 4000000 in
theorem lives_s:Ctr Try.prog 21 [] (vb true):=by
 have hz:SzA lvA:=⟨by decide,by decide⟩
 have hzB:SzA lvB:=⟨by decide,by decide⟩
 have hF:=Fixed_s lvA hz
 rw [lv_fixed] at hF
 have hT:=Turn_s lvA hz
 obtain ⟨tA,hTe⟩:∃ tA,turnM lvA=(tA,0):=⟨(turnM lvA).1,Prod.ext rfl lv_turn⟩
 obtain ⟨_,g,hTn,hTg,_⟩:=turn_norm (a:=lvA) lv_turn
 have hzT:SzA tA:=by
  have e:tA=auOf g:=(Prod.mk.inj (hTe.symm.trans hTn)).1
  rw [e];exact szA_va hTg.va
 have hD:=Differ_s lvA tA hz hzT
 have hde:=lv_differ
 rw [hTe] at hde hT
 simp only at hde
 rw [hde] at hD
 replace hD:Ctr Try.prog 26 [vau lvA,vau tA] (.tup [vints [0,1],vb true,vi 0]):=hD
 have hS:=Shortest_s lvA hz
 rw [lv_short] at hS
 replace hS:Ctr Try.prog 18 [vau lvA] (.tup [vints [1,0],vb true]):=hS
 have hN:=Not_s lvA hz
 obtain ⟨nA,hNe⟩:∃ nA,P5.notM lvA=(nA,0):=⟨(P5.notM lvA).1,Prod.ext rfl lv_not.1⟩
 have hNa:nA.acc=[true,true,false,false]:=by have:=lv_not.2;rw [hNe] at this;exact this
 rw [hNe] at hN
 have hA1:=Accepts_s lvA hz [0,1,0] (by simp)
 have hA2:=Accepts_s lvA hz [1,0,0] (by simp)
 rw [lv_acc.1] at hA1
 rw [lv_acc.2] at hA2
 have hSm:=same_s lvB lvB hzB hzB
 rw [decide_eq_true rfl] at hSm
 have hI1:=SameInts_s [0,1] [0,1] (by simp)
 have hI2:=SameInts_s [1,0] [1,0] (by simp)
 rw [decide_eq_true rfl] at hI1 hI2
 obtain ⟨na,nb,nc⟩:=nA
 simp only at hNa
 subst hNa
 refine specC f21 (by simp) fun F0 w0=>?_
 unfold c21
 refine CwpE.cut (st:=⟨[],[]⟩) ?_ ?_
 ·simp only [go_sem]
  exact ⟨_,WkE.kp,rfl⟩
 refine CwpE.cut (st:=⟨[(1,.ref 0 1 0 0)],[oX lvA]⟩) ?_ ?_
 ·simp only [go_sem]
  exact ⟨_,WkE.kp,rfl⟩
 refine CwpE.cut (st:=⟨[(1,.ref 0 1 0 0),(2,.ref 1 1 0 0),(3,vi 0)],[oX lvA,oX lvB]⟩) ?_ ?_
 ·generalize lvA=A at *
  generalize lvB=B at *
  simp only [go_sem]
  refine callT hF rfl ?_
  simp only [go_sem]
  exact ⟨_,WkE.kp,rfl⟩
 refine CwpE.cut (st:=⟨[(1,.ref 0 1 0 0),(2,.ref 1 1 0 0),(3,vi 0),(4,.ref 2 1 0 0),(5,vi 0)],[oX lvA,oX lvB,oX tA]⟩) ?_ ?_
 ·generalize lvA=A at *
  generalize lvB=B at *
  simp only [go_sem]
  refine callT hT rfl ?_
  simp only [go_sem]
  exact ⟨_,WkE.kp,rfl⟩
 refine CwpE.cut (st:=⟨[(1,.ref 0 1 0 0),(2,.ref 1 1 0 0),(3,vi 0),(5,vi 0),(6,vints [0,1]),(7,vb true),(8,vi 0)],[oX lvA,oX lvB,oX tA]⟩) ?_ ?_
 ·generalize lvA=A at *
  generalize lvB=B at *
  simp only [go_sem]
  refine callT hD rfl ?_
  simp only [go_sem]
  exact ⟨_,WkE.kp,rfl⟩
 refine CwpE.cut (st:=⟨[(1,.ref 0 1 0 0),(2,.ref 1 1 0 0),(3,vi 0),(5,vi 0),(6,vints [0,1]),(7,vb true),(8,vi 0),(9,vints [1,0]),(10,vb true)],[oX lvA,oX lvB,oX tA]⟩) ?_ ?_
 ·generalize lvA=A at *
  generalize lvB=B at *
  simp only [go_sem]
  refine callT hS rfl ?_
  simp only [go_sem]
  exact ⟨_,WkE.kp,rfl⟩
 refine CwpE.cut (st:=⟨[(1,.ref 0 1 0 0),(2,.ref 1 1 0 0),(3,vi 0),(5,vi 0),(6,vints [0,1]),(7,vb true),(8,vi 0),(9,vints [1,0]),(10,vb true),(11,.ref 3 1 0 0)],[oX lvA,oX lvB,oX tA,oB lvB]⟩) ?_ ?_
 ·simp only [go_sem]
  exact ⟨_,WkE.kp,rfl⟩
 refine CwpE.cut (st:=⟨[(1,.ref 0 1 0 0),(2,.ref 1 1 0 0),(3,vi 0),(5,vi 0),(6,vints [0,1]),(7,vb true),(8,vi 0),(9,vints [1,0]),(10,vb true),(11,.ref 3 1 0 0),(12,.ref 4 1 0 0),(13,vi 0)],[oX lvA,oX lvB,oX tA,oB lvB,oX ⟨na,[true,true,false,false],nc⟩]⟩) ?_ ?_
 ·generalize lvA=A at *
  generalize lvB=B at *
  simp only [go_sem]
  refine callT hN rfl ?_
  simp only [go_sem]
  exact ⟨_,WkE.kp,rfl⟩
 generalize lvA=A at *
 generalize lvB=B at *
 have k4:((4:Nat):Int)=4:=rfl
 refine CwpE.cut (st:=⟨[(1,.ref 0 1 0 0),(2,.ref 1 1 0 0),(6,vints [0,1]),(9,vints [1,0]),(11,.ref 3 1 0 0),(12,.ref 4 1 0 0)],[oX A,oX B,oX tA,oB B,oX ⟨na,[true,true,false,false],nc⟩]⟩) ?_ ?_
 ·simp only [go_sem,k4,List.length_cons,List.length_nil]
  exact ⟨_,WkE.kp,rfl⟩
 refine CwpE.cut (st:=⟨[(1,.ref 0 1 0 0),(2,.ref 1 1 0 0),(11,.ref 3 1 0 0),(12,.ref 4 1 0 0),(14,vb true)],[oX A,oX B,oX tA,oB B,oX ⟨na,[true,true,false,false],nc⟩]⟩) ?_ ?_
 ·simp only [go_sem]
  refine callT hI1 rfl ?_
  simp only [go_sem]
  refine callT hI2 rfl ?_
  simp only [go_sem]
  exact ⟨_,WkE.kp,rfl⟩
 refine CwpE.vc ?_
 simp only [go_sem]
 refine callT hSm rfl ?_
 simp only [go_sem,Int.reduceLE,Int.le_refl,List.map_cons,List.map_nil,List.length_cons,List.length_nil]
 refine callT hA1 rfl ?_
 simp only [go_sem]
 refine callT hA2 rfl ?_
 simp only [go_sem]
 exact .tree _ rfl
def symN (s:Int):Nat:=(1+aroundL s 3).toNat
theorem symN_bd (s:Int):1<=symN s/\symN s<=3/\1+aroundL s 3=(symN s:Int):=by
 have:=aroundL_bd s 3 (by omega)
 unfold symN;omega
theorem pair2_s (l m:List Int) (s:Int) (hl:∀ x ∈ l,I64 x) (hm:∀ x ∈ m,I64 x) (hs:I64 s):Ctr Try.prog 10 [vints l,vints m,vi s] (.tup [vau (madeM l (symN s)),vau (madeM m (symN s))]):=by
 refine specC f10 (by simp) fun F0 w0=>?_
 obtain ⟨s1,s2,s3⟩:=symN_bd s
 have ha:=Around_s s 3 hs ⟨by omega,by omega⟩
 generalize symN s=y at s1 s2 s3 ⊢
 generalize aroundL s 3=r at ha s3
 have hw:IntKind.i64.wrap (1+r)=(y:Int):=by rw [wrap_id (by omega) (by omega),s3]
 have h1:=Made_s l hl y s1 (by omega)
 have h2:=Made_s m hm y s1 (by omega)
 generalize madeM l y=A at h1 ⊢
 generalize madeM m y=B at h2 ⊢
 unfold c10
 refine CwpE.cut (st:=⟨[(0,vints l),(1,vints m),(2,vi s),(6,.ref 0 1 0 0),(7,.ref 1 1 0 0)],[.arr 1 3 26 [nil3],.arr 1 3 26 [nil3]]⟩) ?_ ?_
 ·simp only [go_sem]
  exact ⟨_,WkE.kp,rfl⟩
 refine CwpE.cut (st:=⟨[(0,vints l),(1,vints m),(6,.ref 0 1 0 0),(7,.ref 1 1 0 0),(8,vi y)],[.arr 1 3 26 [nil3],.arr 1 3 26 [nil3]]⟩) ?_ ?_
 ·simp only [go_sem]
  refine callT ha rfl ?_
  simp only [go_sem,hw]
  exact ⟨_,WkE.kp,rfl⟩
 refine CwpE.vc ?_
 simp only [go_sem]
 refine callT h1 rfl ?_
 simp only [go_sem]
 refine callT h2 rfl ?_
 simp only [go_sem]
 exact snap_tup2 (.tree _ rfl) (.tree _ rfl)
theorem made_sz (l:List Int) (y:Nat):(madeM l y).acc.length<=6/\(madeM l y).ed.length<=18:=by
 obtain ⟨n1,n2,_⟩:=madeN_bd l
 simp only [madeM,madeEs,List.length_map,List.length_range]
 unfold madeK
 omega
theorem bent_sz {a:Au} (h1:a.acc.length<=40000) (h2:a.ed.length<=40000) (at' how by':Int):SzA (bentM a at' how by'):=by
 have:=bent_len a at' how by'
 exact ⟨by omega,by omega⟩
theorem checked_sz (g:Gr):SzA (checkedM g).1:=by
 rcases checked_cases g with ⟨h,e⟩ | ⟨_,e⟩
 ·rw [e];exact szA_va h
 ·rw [e];exact ⟨by simp,by simp⟩
theorem nilA_sz:SzA nilA:=⟨by simp,by simp⟩
end Go.Proofs.Ytjilachpkjlhdaa
namespace Dak
open Go Go.RowKit
variable [Globs]
theorem tr_ofRow {k:IntKind} {w:World} {a:Option Addr} {len cap:Nat} {zs:List Int} (h:(a=none/\len=0/\cap=0/\zs=[]) \/
 ∃ x,a=some x/\len<=cap/\cap<=maxLen/\zs.length=cap/\(∀ i,i<zs.length->w.cell? (x.add i)=some (.int k (zs.getD i 0)))/\∀ n ∈ zs,(Lit.int k n).wf=true) :
 TR w (fun _=>True) (.list 1 ((zs.take len).map fun n=>.val (.int k n))) (.slice a len cap):=by
 rcases h with ⟨rfl,rfl,rfl,rfl⟩ | ⟨⟨b,o,sp⟩,rfl,hl,hm,hz,hc,_⟩
 ·exact .nolist _ _ _ (Nat.zero_le _)
 ·by_cases h0:len=0
  ·subst h0;exact .nolist _ _ _ hm
  ·have hsp:sp=none:=World.cell?_spot (hc 0 (by omega))
   subst hsp
   have hlen:((zs.take len).map fun n=>AV.val (.int k n)).length=len:=by simp;omega
   have:=TR.list (w:=w) (F:=fun _=>True) 1 ((zs.take len).map fun n=>AV.val (.int k n)) b o cap (fun i _=>.int k (zs.getD i 0)) trivial (isC.of_cell (hc 0 (by omega))) (by omega) hm
    (fun i hi=>by simp [AV.cells]) (fun i j hi hj=>by
     have:j=0:=by omega
     subst this
     have:=hc i (by omega)
     rw [Nat.mul_one,Nat.add_zero]
     by_cases hi0:i=0
     ·subst hi0;simpa [Addr.add] using this
     ·simpa [Addr.add,hi0] using this) (fun i j hi hj=>rfl) (fun i hi j hj=>by
     simp only [List.getElem_map,AV.cells,List.length_singleton] at hj ⊢
     have:j=0:=by omega
     subst this
     have h1:i<zs.length:=by omega
     simp only [List.getElem_cons_zero,List.getElem_take,List.getD_eq_getElem?_getD,List.getElem?_eq_getElem h1,Option.getD_some]
     exact .val _)
   rw [hlen] at this
   exact this
theorem wf_i64 {n:Int} (h:(Lit.int .i64 n).wf=true) : -9223372036854775808<=n/\n<=9223372036854775807:=by
 simp [Lit.wf] at h
 have:IntKind.i64.min = -9223372036854775808:=by decide
 omega
end Dak
