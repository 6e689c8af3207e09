/- Lemmas used by Runs. -/
import Derived.Test.YtdadmhahbeehhaaJa
import Derived.Test.YtdadmhahbeehhaaJb
import Derived.Test.YtdadmhahbeehhaaJc
import Derived.Test.YtdadmhahbeehhaaJd
import Derived.Test.YtdadmhahbeehhaaJe
import Derived.Test.YtdadmhahbeehhaaJf
import Derived.Test.YtdadmhahbeehhaaJg
import Derived.Test.YtdadmhahbeehhaaJi
import Derived.Test.YtdadmhahbeehhaaJj
import Derived.Test.YtdadmhahbeehhaaJk
import Derived.Test.YtdadmhahbeehhaaJm
import Derived.Test.YtdadmhahbeehhaaJo
import Derived.Test.YtdadmhahbeehhaaJp
set_option linter.unusedSimpArgs false
set_option linter.unusedVariables false
set_option linter.unusedSectionVars false
set_option maxRecDepth 100000
namespace Dak
open Go Go.RowKit
variable [Globs]
variable {P : Program} {F0 : FD} {w0 w : World} {L : Lay} {objs objs0 : List AObj} {nid : Nat}
end Dak
namespace Dak
open Go Go.RowKit
variable [Globs]
theorem callNewF {P:Program} {objs news:List AObj} {f:FuncId} {cap args xs:List AV} {r:AV} {K:AV->List AObj->Prop} (h:CtrN P f xs r news) (hs:Snaps objs (args++cap) xs) (hf:(news.all AObj.flat)=true) (hr:r.flatO=true) (k:K (r.shift objs.length) (objs++news.map (AObj.shiftO objs.length))) :
 ∃ r objs',CallM P true objs (.clo (.func f) cap) args r objs'/\K r objs':=⟨_,_,.newF f cap args xs objs news r hs h hf hr,k⟩
end Dak
namespace Dak
open Go Go.RowKit
variable [Globs]
variable {P : Program} {F0 : FD} {w0 : World}
end Dak
namespace Go.Proofs.Ytdadmhahbeehhaa
open Dak
def c19:CCode :=
 (sR [oo 6 (.mov (.const (.slice none 0 0))),oo 7 (.mov (kk 0))]
 (.seq (sR [vv 12 0,oo 13 (cL 32 [T 12]),oo 14 (.lnot (T 13)),vv 15 14,vf 16 15 1,gf 17 15 (.ibin .lss (T 16) (kk (-1))),oo 18 (.pick (T 15) bT (T 17)),vv 19 18,vf 20 19 1,gf 21 19 (iK .gtr 20 9),oo 22 (.pick (T 19) bT (T 21)),vv 23 22,vf 24 23 2,gf 25 23 (iK .lss 24 0),oo 26 (.pick (T 23) bT (T 25))]
 (.cond (T 26)
 (sR [oo 6 (.mov (.const (.slice none 0 0))),oo 7 (.mov (kk 1))]
 .ret)
 .skip))
 (.seq (sR [vv 27 2,vv 28 0,oo 29 (lN 28),oo 30 (iB .gtr 27 29)]
 (.cond (T 30)
 (sR [oo 6 (.mov (.const (.slice none 0 0))),oo 7 (.mov (kk 6))]
 .ret)
 .skip))
 (sR [oo 8 (.mov (.const (.slice none 0 0)))]
 (.seq (sR [oo 9 (.mov (kk 0))]
 (.block 0 (.loop
 (.seq (sR [vv 31 9,vv 32 2,oo 33 (iB .lss 31 32)]
 (.cond (T 33)
 .skip
 (.exit 0)))
 (.seq (.block 1 (sR [vv 37 0,vv 38 8,vv 39 0,vv 40 1,vv 41 8,oo 42 (cL 21 [T 39,T 40,T 41]),oo 43 (cL 13 [T 37,T 38,T 42]),vv 36 43,oo 44 (eX 36 0),oo 45 (eX 36 1),vv 10 44,vv 11 45]
 (rR [vv 46 8,vv 47 10,oo 48 (.bslice 3 1 [T 47]),oo 49 (.append 3 1 8 (T 46) (T 48)),vv 8 49])))
 (rR [vv 34 9,oo 35 (iK .add 34 1),vv 9 35]))))))
 (sR [vv 50 8,vv 6 50,oo 7 (.mov (kk 0))]
 .ret))))))
theorem f19:fnC Try.lprog 19=some (c19,51,[(.tmp 6),(.tmp 7)]):=by kernel_rfl
end Go.Proofs.Ytdadmhahbeehhaa
namespace A42
theorem runGo_pre (L:List Int) (lev:Int):∀ (k j:Nat) (out:List Int),runGo L lev (k+j) out=runGo L lev j (runGo L lev k out)
 | 0,j,out=>by rw [Nat.zero_add];rfl
 | k+1,j,out=>by
  rw [show k+1+j=(k+j)+1 by omega,runGo,runGo,runGo_pre L lev k j]
theorem runGo_pref (L:List Int) (lev:Int):∀ (k:Nat) (out:List Int),out <+: runGo L lev k out
 | 0,out=>List.prefix_refl _
 | k+1,out=>by
  rw [runGo]
  exact (List.prefix_append _ _).trans (runGo_pref L lev k _)
end A42
namespace Go.Proofs.Ytdadmhahbeehhaa
open Go.RowKit Dak A42
theorem Given_n (L:List Int) (lev:Int) (out:List Int) (hr:∀ x ∈ out,0<=x/\x<L.length) (hl:out.length<=1000000):CtrN Try.lprog 21 [vints L,vi lev,vints out] (.own 0 out.length 0 out.length) [.arr out.length 1 3 ((givenL L lev out).map vi)]:=by
 refine specN f21 (by simp) rfl ?_ rfl fun F0 w0=>given_c L lev out hr hl (CwpE.vc ?_)
 ·simp [AObj.innO,AV.inn,AV.inn1]
 simp only [go_sem]
 exact ⟨_,rfl,.refl _ _⟩
theorem sh_own (a b c:Nat):AV.shift 1 (.own 0 a b c) = .own 1 a b c:=by simp [AV.shift,AV.shift1]
theorem flat_ints (n:Nat) (l:List Int):AObj.flat (.arr n 1 3 (l.map vi))=true:=by
 simp [AObj.flat];intro x _;rfl
theorem okAns_run {L out:List Int} (h:RunI L out) (lev:Int):NextM L out (givenL L lev out)=nxR (nextM L (truth L lev out)):=by
 unfold NextM
 rw [given_zip,if_pos (ok_iff.2 ⟨(given_len L lev out).symm,by rw [given_zip];exact h.ok lev⟩)]
set_option maxHeartbeats 4000000 in
theorem rRun_s (L:List Int) (lev n:Int) (hL:L.length<=9223372036854775806) (hlev:I64 lev) (hn:I64 n) :
 Ctr Try.lprog 19 [vints L,vi lev,vi n] (.tup [vints (RunM L lev n).1,vi (RunM L lev n).2]):=by
 have hva:=rValid_s L hL
 refine specC f19 (by simp) fun F0 w0=>?_
 unfold c19
 refine CwpE.cut (st:=⟨[(0,vints L),(1,vi lev),(2,vi n)],[]⟩) ?_ ?_
 ·simp only [go_sem]
  exact ⟨_,WkE.kp,rfl⟩
 have enil:∀ x:Int,Snap [] (.tup [.val (.slice none 0 0),vi x]) (.tup [vints [],vi x]):=fun x=>snap_tup2 (.nil 1) (.tree _ rfl)
 by_cases hv:validB L=true
 rotate_left
 ·have hv':validB L=false:=by simpa using hv
  have e1:RunM L lev n=([],1):=by unfold RunM;rw [if_pos (.inl hv')]
  rw [e1]
  refine CwpE.vc ?_
  simp only [go_sem]
  refine callT hva rfl ?_
  simp only [go_sem,hv']
  exact enil 1
 by_cases a1:lev < -1
 ·have e1:RunM L lev n=([],1):=by unfold RunM;rw [if_pos (.inr (.inl a1))]
  rw [e1]
  refine CwpE.vc ?_
  simp only [go_sem]
  refine callT hva rfl ?_
  simp only [go_sem,hv,a1]
  exact enil 1
 by_cases a2:9<lev
 ·have e1:RunM L lev n=([],1):=by unfold RunM;rw [if_pos (.inr (.inr (.inl a2)))]
  rw [e1]
  refine CwpE.vc ?_
  simp only [go_sem]
  refine callT hva rfl ?_
  simp only [go_sem,hv,a1,a2]
  exact enil 1
 by_cases a3:n<0
 ·have e1:RunM L lev n=([],1):=by unfold RunM;rw [if_pos (.inr (.inr (.inr a3)))]
  rw [e1]
  refine CwpE.vc ?_
  simp only [go_sem]
  refine callT hva rfl ?_
  simp only [go_sem,hv,a1,a2,a3]
  exact enil 1
 have hne:¬ (validB L=false \/ lev < -1 \/ 9<lev \/ n<0):=by simp [hv,a1,a2,a3]
 refine CwpE.cut (st:=⟨[(0,vints L),(1,vi lev),(2,vi n)],[]⟩) ?_ ?_
 ·simp only [go_sem]
  refine callT hva rfl ?_
  simp only [go_sem,hv,a1,a2,a3]
  exact ⟨_,WkE.kp,rfl⟩
 by_cases a4:(L.length:Int)<n
 ·have e1:RunM L lev n=([],6):=by unfold RunM;rw [if_neg hne,if_pos a4]
  rw [e1]
  refine CwpE.vc ?_
  simp only [go_sem,a4,List.length_map]
  exact enil 6
 have e1:RunM L lev n=(runGo L lev n.toNat [],0):=by unfold RunM;rw [if_neg hne,if_neg a4]
 rw [e1]
 have hLl:=(valid_iff.1 hv).1
 obtain ⟨N,hN⟩:∃ N:Nat,n=N:=⟨n.toNat,by omega⟩
 subst hN
 rw [Int.toNat_natCast]
 have hNL:N<=L.length:=by omega
 refine CwpE.cut (st:=⟨[(0,vints L),(1,vi lev),(2,vi N)],[]⟩) ?_ ?_
 ·simp only [go_sem,a4,List.length_map]
  exact ⟨_,WkE.kp,rfl⟩
 refine CwpE.cut (st:=⟨[(0,vints L),(1,vi lev),(2,vi N),(8,.own 0 0 0 0)],[.arr 0 1 3 []]⟩) ?_ ?_
 ·simp only [go_sem]
  exact ⟨_,(WkE.nil 8 1 3 (by omega) rfl).trans (WkE.kp),rfl⟩
 obtain ⟨R,hR⟩:∃ R,runGo L lev N []=R:=⟨_,rfl⟩
 rw [hR]
 have hRl:R.length=N:=by rw [<-hR,runGo_len];simp
 refine CwpE.step (fun s=>s=⟨[(8,.own 0 N 0 N)],[.arr N 1 3 (R.map vi)]⟩) ?_ ?_
 rotate_left
 ·rintro s rfl
  refine CwpE.vc ?_
  simp only [go_sem]
  exact snap_tup2 (snapInts 0 N R rfl hRl.symm) (.tree _ rfl)
 simp only [go_sem]
 refine loopX 0 (fun m s=>∃ (k:Nat) (out:List Int),m=N-k/\k<=N/\out.length=k/\RunI L out/\R=runGo L lev (N-k) out/\s=⟨[(0,vints L),(1,vi lev),(2,vi N),(8,.own 0 k 0 k),(9,vi k)],[.arr k 1 3 (out.map vi)]⟩)
  (fun s=>s=⟨[(8,.own 0 N 0 N)],[.arr N 1 3 (R.map vi)]⟩) N
  ⟨[(0,vints L),(1,vi lev),(2,vi N),(8,.own 0 0 0 0),(9,vi (0:Nat))],[.arr 0 1 3 []]⟩ (WkE.kp) ⟨0,[],rfl,by omega,rfl,⟨hv,by simp,by simp⟩,hR.symm,rfl⟩ ?_ ?_
 rotate_left
 ·rintro s rfl
  simp only [go_sem]
  exact ⟨_,.refl _ _,rfl⟩
 rintro m s ⟨k,out,rfl,hk,hol,hI,hRo,rfl⟩
 by_cases hlt:k<N
 rotate_left
 ·obtain rfl:k=N:=by omega
  have hRo':R=out:=by rw [hRo,Nat.sub_self];rfl
  simp only [go_sem,Int.lt_irrefl]
  exact ⟨_,WkE.keep (env':=[(8,.own 0 k 0 k)]) (by simp only [go_sem];try trivial),by rw [hRo']⟩
 have g1:(k:Int)<(N:Int):=by omega
 have w1:=wrap_s k (by omega)
 obtain ⟨x,hx,x0,x1,hxo,hI2⟩:=hI.step lev (by omega)
 have hRo2:R=runGo L lev (N-(k+1)) (out++[x]):=by
  rw [hRo,show N-k=(N-(k+1))+1 by omega,runGo,hx];rfl
 have hgn:=Given_n L lev out hI.rng (by omega)
 have hns:=rNext_s L out (givenL L lev out) hL (by omega) (by rw [given_len];omega)
 rw [okAns_run hI,hx,show nxR (some x)=(x,0) from rfl] at hns
 have hgl:=given_len L lev out
 generalize givenL L lev out=G at hgn hns hgl
 have qa:(k+1)*8<=140737488355328:=by omega
 rw [hol] at hgn hgl
 have sn1:Snap [.arr k 1 3 (out.map vi)] (.own 0 k 0 k) (vints out):=snapInts 0 k out rfl hol.symm
 have sn2:Snap [.arr k 1 3 (out.map vi),.arr k 1 3 (G.map vi)] (.own 0 k 0 k) (vints out):=snapInts 0 k out rfl hol.symm
 have sn3:Snap [.arr k 1 3 (out.map vi),.arr k 1 3 (G.map vi)] (.own 1 k 0 k) (vints G):=snapInts 1 k G rfl hgl.symm
 have hap:out.map vi++[vi x]=(out++[x]).map vi:=by simp
 simp only [go_sem,g1]
 refine callNewF hgn (.cons (.tree _ rfl) (.cons (.tree _ rfl) (.cons sn1 .nil))) (by simp only [List.all_cons,List.all_nil,Bool.and_true];exact flat_ints _ _) rfl ?_
 simp only [go_sem,sh_own,sh_ints,List.map_cons,List.map_nil,List.length_cons,List.length_nil,List.cons_append,List.nil_append]
 refine callF hns (.cons (.tree _ rfl) (.cons sn2 (.cons sn3 .nil))) rfl ?_
 simp only [go_sem,List.length_map,hol,qa,w1]
 rw [hap]
 exact ⟨N-(k+1),_,by omega,WkE.round (by simp only [go_sem];try trivial) rfl (by simp only [List.all_cons,List.all_nil,Bool.and_true];exact inn_ints _ _ _) rfl,k+1,out++[x],rfl,by omega,by simp [hol],hI2,hRo2,rfl⟩
theorem run_len (L:List Int) (lev n:Int):(RunM L lev n).1.length<=L.length:=by
 unfold RunM
 split
 ·simp
 ·split
  ·simp
  ·rw [runGo_len];simp;omega
theorem take_run (L:List Int) (c:Int) {N M:Nat} (h:N<=M):(runGo L c M []).take N=runGo L c N []:=by
 obtain ⟨j,rfl⟩:∃ j,M=N+j:=⟨M-N,by omega⟩
 rw [runGo_pre]
 obtain ⟨t,ht⟩:=runGo_pref L c j (runGo L c N [])
 have hl:(runGo L c N []).length=N:=by rw [runGo_len];simp
 rw [<-ht,List.take_append_of_le_length (by omega)]
 exact List.take_of_length_le (by omega)
set_option maxHeartbeats 4000000 in
theorem AdaptiveRuns_s (l:List Int) (level n at_ by_:Int) (hl:∀ x ∈ l,I64 x) (h1:I64 level) (h2:I64 n) (ha:I64 at_) (hb:I64 by_):Ctr Try.lprog 4 [vints l,vi level,vi n,vi at_,vi by_] (vb true):=by
 have hlen:=levels_len l
 have hv:=levels_valid l
 have hLe:=Levels_s l hl
 have hO1:=odd_s (levelsM l) at_ by_ (by omega) ha hb
 have l1:=odd_len (levelsM l) at_ by_
 generalize levelsM l=L at *
 generalize oddM L at_ by_=L2 at *
 have b1:=aroundL_bd level 11 (by omega)
 have b2:=aroundL_bd level 15 (by omega)
 have b3:=aroundL_bd n ((L.length:Int)+1) (by omega)
 have b4:=aroundL_bd n 25 (by omega)
 have a1:=Around_s level 11 h1 ⟨by omega,by omega⟩
 have a2:=Around_s level 15 h1 ⟨by omega,by omega⟩
 have a3:=Around_s n ((L.length:Int)+1) h2 ⟨by omega,by omega⟩
 have a4:=Around_s n 25 h2 ⟨by omega,by omega⟩
 generalize aroundL level 11=x1 at *
 generalize aroundL level 15=x2 at *
 generalize aroundL n ((L.length:Int)+1)=x3 at *
 generalize aroundL n 25=x4 at *
 have w2:IntKind.i64.wrap (x2-3)=x2-3:=wrap_id (by omega) (by omega)
 have w3:IntKind.i64.wrap ((L.length:Int)+1)=(L.length:Int)+1:=wrap_id (by omega) (by omega)
 have w4:IntKind.i64.wrap (x4-1)=x4-1:=wrap_id (by omega) (by omega)
 obtain ⟨N,hN⟩:∃ N:Nat,x3=N:=⟨x3.toNat,by omega⟩
 subst hN
 obtain ⟨c,hc⟩:∃ c,x1-1=c:=⟨_,rfl⟩
 have w1:IntKind.i64.wrap (x1-1)=c:=by rw [wrap_id (by omega) (by omega)];exact hc
 have c1 : -1<=c:=by omega
 have c9:c<=9:=by omega
 refine specC f4 (by simp) fun F0 w0=>?_
 unfold c4
 refine CwpE.cut (st:=⟨[(0,vints l),(1,vi level),(2,vi n),(3,vi at_),(4,vi by_)],[]⟩) ?_ ?_
 ·simp only [go_sem]
  exact ⟨_,WkE.kp,rfl⟩
 refine CwpE.cut (st:=⟨[(1,vi level),(2,vi n),(3,vi at_),(4,vi by_),(11,vints L)],[]⟩) ?_ ?_
 ·simp only [go_sem]
  refine callT hLe rfl ?_
  simp only [go_sem]
  exact ⟨_,WkE.kp,rfl⟩
 refine CwpE.cut (st:=⟨[(1,vi level),(2,vi n),(11,vints L),(12,vrow [L,L2])],[]⟩) ?_ ?_
 ·simp only [go_sem]
  refine callT hO1 rfl ?_
  simp only [go_sem]
  exact ⟨_,WkE.kp,rfl⟩
 refine CwpE.cut (st:=⟨[(2,vi n),(11,vints L),(12,vrow [L,L2]),(13,vints [c,x2-3,level])],[]⟩) ?_ ?_
 ·simp only [go_sem]
  refine callT a1 rfl ?_
  simp only [go_sem,w1]
  refine callT a2 rfl ?_
  simp only [go_sem,w2]
  exact ⟨_,WkE.kp,rfl⟩
 refine CwpE.cut (st:=⟨[(11,vints L),(12,vrow [L,L2]),(13,vints [c,x2-3,level]),(14,vints [(N:Int),x4-1])],[]⟩) ?_ ?_
 ·simp only [go_sem,w3,List.length_map]
  refine callT a3 rfl ?_
  simp only [go_sem]
  refine callT a4 rfl ?_
  simp only [go_sem,w4]
  exact ⟨_,WkE.kp,rfl⟩
 refine CwpE.seqJ (fun z=>z=⟨[(11,vints L),(12,vrow [L,L2]),(13,vints [c,x2-3,level]),(14,vints [(N:Int),x4-1])],[]⟩) ?_ ?_
 rotate_left
 ·rintro _ rfl
  obtain ⟨r1,r2,r3⟩:=run_ok hv c1 c9 (Nat.le_refl L.length)
  obtain ⟨s1,s2,s3⟩:=run_ok hv c1 c9 (show N<=L.length by omega)
  have htk:=take_run L c (show N<=L.length by omega)
  have hR1:=Run_s L c L.length (by omega) ⟨by omega,by omega⟩ ⟨by omega,by omega⟩
  have hR2:=Run_s L c N (by omega) ⟨by omega,by omega⟩ ⟨by omega,by omega⟩
  rw [r1] at hR1
  rw [s1] at hR2
  generalize runGo L c L.length []=A at *
  generalize runGo L c N []=B at *
  have hAb:∀ x ∈ A,I64 x:=fun x hx=>by have:=r2.rng x hx;exact ⟨by omega,by omega⟩
  have hSo:=Some_s L A (by omega) hAb
  rw [some_eq r2.nodup r2.rng] at hSo
  have hSm:=SameInts_s B B (by omega)
  have dt:decide (B=B)=true:=by simp
  rw [dt] at hSm
  have tk:((A.map vi).take N)=B.map vi:=by rw [<-List.map_take,htk]
  have e1:((A.length:Int)=(L.length:Int))=True:=eq_true (by omega)
  have e2:((B.length:Int)=(N:Int))=True:=eq_true (by omega)
  have n0:(0:Int)<=(N:Int):=by omega
  have n1:(N:Int)<=(A.length:Int):=by omega
  have n2:N<=A.length:=by omega
  refine CwpE.cut (st:=⟨[(11,vints L),(13,vints [c,x2-3,level]),(14,vints [(N:Int),x4-1]),(22,vints A),(23,vi 0)],[]⟩) ?_ ?_
  ·simp only [go_sem,Int.le_refl,List.length_map,List.length_cons,List.length_nil]
   refine callT hR1 rfl ?_
   simp only [go_sem]
   exact ⟨_,WkE.kp,rfl⟩
  refine CwpE.cut (st:=⟨[(11,vints L),(14,vints [(N:Int),x4-1]),(22,vints A),(23,vi 0),(24,vints B),(25,vi 0)],[]⟩) ?_ ?_
  ·simp only [go_sem,Int.le_refl,List.length_cons,List.length_nil]
   refine callT hR2 rfl ?_
   simp only [go_sem]
   exact ⟨_,WkE.kp,rfl⟩
  refine CwpE.cut (st:=⟨[(14,vints [(N:Int),x4-1]),(22,vints A),(24,vints B)],[]⟩) ?_ ?_
  ·simp only [go_sem,Int.le_refl,List.length_map,e1,e2]
   refine callT hSo rfl ?_
   simp only [go_sem,List.length_map]
   exact ⟨_,WkE.kp,rfl⟩
  refine CwpE.vc ?_
  simp only [go_sem,Int.le_refl,List.length_map,n0,n1,tk]
  refine callT hSm rfl ?_
  simp only [go_sem]
  refine callT lives_s rfl ?_
  simp only [go_sem]
  exact .tree _ rfl
 have hB:∀ i:Nat,i<2->∃ x,([L,L2].map vints)[i]? = some (vints x)/\x.length<=21:=fun i hi=>by
  match i,hi with
  | 0,_=>exact ⟨L,rfl,by omega⟩
  | 1,_=>exact ⟨L2,rfl,by omega⟩
 have hS:∀ i:Nat,i<3->∃ x,([c,x2-3,level].map vi)[i]? = some (vi x)/\I64 x:=fun i hi=>by
  match i,hi with
  | 0,_=>exact ⟨c,rfl,by omega,by omega⟩
  | 1,_=>exact ⟨x2-3,rfl,by omega,by omega⟩
  | 2,_=>exact ⟨level,rfl,h1⟩
 have hM:∀ i:Nat,i<2->∃ x,([(N:Int),x4-1].map vi)[i]? = some (vi x)/\I64 x:=fun i hi=>by
  match i,hi with
  | 0,_=>exact ⟨N,rfl,by omega,by omega⟩
  | 1,_=>exact ⟨x4-1,rfl,by omega,by omega⟩
 have lB:([L,L2].map vints).length=2:=rfl
 have lS:([c,x2-3,level].map vi).length=3:=rfl
 have lM:([(N:Int),x4-1].map vi).length=2:=rfl
 obtain ⟨rB,hrB⟩:∃ r,[L,L2].map vints=r:=⟨_,rfl⟩
 obtain ⟨rS,hrS⟩:∃ r,[c,x2-3,level].map vi=r:=⟨_,rfl⟩
 obtain ⟨rM,hrM⟩:∃ r,[(N:Int),x4-1].map vi=r:=⟨_,rfl⟩
 have est:(⟨[(11,vints L),(12,vrow [L,L2]),(13,vints [c,x2-3,level]),(14,vints [(N:Int),x4-1])],[]⟩:Est)=⟨[(11,vints L),(12,.list 1 rB),(13,.list 1 rS),(14,.list 1 rM)],[]⟩:=by subst hrB hrS hrM;rfl
 rw [est]
 rw [hrB] at hB lB
 rw [hrS] at hS lS
 rw [hrM] at hM lM
 clear est hrB hrS hrM
 have two:((2:Nat):Int)=2:=rfl
 have three:((3:Nat):Int)=3:=rfl
 refine CwpE.cut (st:=⟨[(11,vints L),(12,.list 1 rB),(13,.list 1 rS),(14,.list 1 rM),(15,vi (0:Nat))],[]⟩) ?_ ?_
 ·simp only [go_sem]
  exact ⟨⟨[(11,vints L),(12,.list 1 rB),(13,.list 1 rS),(14,.list 1 rM),(15,vi (0:Nat))],[]⟩,WkE.kp,rfl⟩
 refine CwpE.block ?_
 refine loopXC 0 (fun m' s=>∃ i:Nat,m'=2-i/\i<=2/\s=⟨[(11,vints L),(12,.list 1 rB),(13,.list 1 rS),(14,.list 1 rM),(15,vi i)],[]⟩) (fun z=>z=⟨[(11,vints L),(12,.list 1 rB),(13,.list 1 rS),(14,.list 1 rM)],[]⟩) 2 _ (.refl _ _) ⟨0,rfl,by omega,rfl⟩ ?_ ?_
 rotate_left
 ·rintro s rfl
  simp only [go_sem]
  exact ⟨_,.refl _ _,rfl⟩
 rintro m' s ⟨i,rfl,hi,rfl⟩
 by_cases hlt:i<2
 rotate_left
 ·obtain rfl:i=2:=by omega
  refine CwpE.vc ?_
  rw [two]
  simp only [go_sem,Int.lt_irrefl]
  exact ⟨⟨[(11,vints L),(12,.list 1 rB),(13,.list 1 rS),(14,.list 1 rM)],[]⟩,WkE.kp,rfl⟩
 have i0:(0:Int)<=(i:Int):=by omega
 have i1:(i:Int)<2:=by omega
 have i2:(i:Int)<((2:Nat):Int):=by omega
 have wi:=wrap_s i (by omega)
 obtain ⟨Bi,hBi,hBl⟩:=hB i hlt
 refine CwpE.cut (st:=⟨[(11,vints L),(12,.list 1 rB),(13,.list 1 rS),(14,.list 1 rM),(15,vi i)],[]⟩) ?_ ?_
 ·simp only [go_sem,i1]
  exact ⟨_,WkE.kp,rfl⟩
 refine CwpE.seqJ (fun z=>z=⟨[(11,vints L),(12,.list 1 rB),(13,.list 1 rS),(14,.list 1 rM),(15,vi i)],[]⟩) (CwpE.block ?_) ?_
 rotate_left
 ·rintro _ rfl
  refine CwpE.vc ?_
  simp only [go_sem,wi]
  exact ⟨2-(i+1),⟨[(11,vints L),(12,.list 1 rB),(13,.list 1 rS),(14,.list 1 rM),(15,vi ((i+1:Nat):Int))],[]⟩,by omega,WkE.kp,i+1,rfl,by omega,rfl⟩
 refine CwpE.cut (st:=⟨[(11,vints L),(12,.list 1 rB),(13,.list 1 rS),(14,.list 1 rM),(15,vi i),(16,vi (0:Nat))],[]⟩) ?_ ?_
 ·simp only [go_sem]
  exact ⟨⟨[(11,vints L),(12,.list 1 rB),(13,.list 1 rS),(14,.list 1 rM),(15,vi i),(16,vi (0:Nat))],[]⟩,WkE.kp,rfl⟩
 refine CwpE.block ?_
 refine loopXC 2 (fun m' s=>∃ j:Nat,m'=3-j/\j<=3/\s=⟨[(11,vints L),(12,.list 1 rB),(13,.list 1 rS),(14,.list 1 rM),(15,vi i),(16,vi j)],[]⟩) (fun z=>z=⟨[(11,vints L),(12,.list 1 rB),(13,.list 1 rS),(14,.list 1 rM),(15,vi i)],[]⟩) 3 _ (.refl _ _) ⟨0,rfl,by omega,rfl⟩ ?_ ?_
 rotate_left
 ·rintro s rfl
  simp only [go_sem]
  exact ⟨_,.refl _ _,rfl⟩
 rintro m' s ⟨j,rfl,hj,rfl⟩
 by_cases hjt:j<3
 rotate_left
 ·obtain rfl:j=3:=by omega
  refine CwpE.vc ?_
  rw [three]
  simp only [go_sem,Int.lt_irrefl]
  exact ⟨⟨[(11,vints L),(12,.list 1 rB),(13,.list 1 rS),(14,.list 1 rM),(15,vi i)],[]⟩,WkE.kp,rfl⟩
 have j0:(0:Int)<=(j:Int):=by omega
 have j1:(j:Int)<3:=by omega
 have j2:(j:Int)<((3:Nat):Int):=by omega
 have wj:=wrap_s j (by omega)
 obtain ⟨Sj,hSj,hSI⟩:=hS j hjt
 refine CwpE.cut (st:=⟨[(11,vints L),(12,.list 1 rB),(13,.list 1 rS),(14,.list 1 rM),(15,vi i),(16,vi j)],[]⟩) ?_ ?_
 ·simp only [go_sem,j1]
  exact ⟨_,WkE.kp,rfl⟩
 refine CwpE.seqJ (fun z=>z=⟨[(11,vints L),(12,.list 1 rB),(13,.list 1 rS),(14,.list 1 rM),(15,vi i),(16,vi j)],[]⟩) (CwpE.block ?_) ?_
 rotate_left
 ·rintro _ rfl
  refine CwpE.vc ?_
  simp only [go_sem,wj]
  exact ⟨3-(j+1),⟨[(11,vints L),(12,.list 1 rB),(13,.list 1 rS),(14,.list 1 rM),(15,vi i),(16,vi ((j+1:Nat):Int))],[]⟩,by omega,WkE.kp,j+1,rfl,by omega,rfl⟩
 refine CwpE.cut (st:=⟨[(11,vints L),(12,.list 1 rB),(13,.list 1 rS),(14,.list 1 rM),(15,vi i),(16,vi j),(17,vi (0:Nat))],[]⟩) ?_ ?_
 ·simp only [go_sem]
  exact ⟨⟨[(11,vints L),(12,.list 1 rB),(13,.list 1 rS),(14,.list 1 rM),(15,vi i),(16,vi j),(17,vi (0:Nat))],[]⟩,WkE.kp,rfl⟩
 refine CwpE.block ?_
 refine loopXC 4 (fun m' s=>∃ k:Nat,m'=2-k/\k<=2/\s=⟨[(11,vints L),(12,.list 1 rB),(13,.list 1 rS),(14,.list 1 rM),(15,vi i),(16,vi j),(17,vi k)],[]⟩) (fun z=>z=⟨[(11,vints L),(12,.list 1 rB),(13,.list 1 rS),(14,.list 1 rM),(15,vi i),(16,vi j)],[]⟩) 2 _ (.refl _ _) ⟨0,rfl,by omega,rfl⟩ ?_ ?_
 rotate_left
 ·rintro s rfl
  simp only [go_sem]
  exact ⟨_,.refl _ _,rfl⟩
 rintro m' s ⟨k,rfl,hk,rfl⟩
 by_cases hkt:k<2
 rotate_left
 ·obtain rfl:k=2:=by omega
  refine CwpE.vc ?_
  rw [two]
  simp only [go_sem,Int.lt_irrefl]
  exact ⟨⟨[(11,vints L),(12,.list 1 rB),(13,.list 1 rS),(14,.list 1 rM),(15,vi i),(16,vi j)],[]⟩,WkE.kp,rfl⟩
 have k0:(0:Int)<=(k:Int):=by omega
 have k1:(k:Int)<2:=by omega
 have k2:(k:Int)<((2:Nat):Int):=by omega
 have wk:=wrap_s k (by omega)
 obtain ⟨Mk,hMk,hMI⟩:=hM k hkt
 have hR:=Run_s Bi Sj Mk (by omega) hSI hMI
 have hrR:=rRun_s Bi Sj Mk (by omega) hSI hMI
 have hRl:=run_len Bi Sj Mk
 generalize RunM Bi Sj Mk=R at hR hrR hRl
 obtain ⟨O,e⟩:=R
 dsimp only at hR hrR hRl
 have hSm:=SameInts_s O O (by omega)
 have dt:decide (O=O)=true:=by simp
 rw [dt] at hSm
 refine CwpE.cut (st:=⟨[(11,vints L),(12,.list 1 rB),(13,.list 1 rS),(14,.list 1 rM),(15,vi i),(16,vi j),(17,vi k)],[]⟩) ?_ ?_
 ·simp only [go_sem,k1]
  exact ⟨_,WkE.kp,rfl⟩
 refine CwpE.seqJ (fun z=>z=⟨[(11,vints L),(12,.list 1 rB),(13,.list 1 rS),(14,.list 1 rM),(15,vi i),(16,vi j),(17,vi k)],[]⟩) (CwpE.block ?_) ?_
 rotate_left
 ·rintro _ rfl
  refine CwpE.vc ?_
  simp only [go_sem,wk]
  exact ⟨2-(k+1),⟨[(11,vints L),(12,.list 1 rB),(13,.list 1 rS),(14,.list 1 rM),(15,vi i),(16,vi j),(17,vi ((k+1:Nat):Int))],[]⟩,by omega,WkE.kp,k+1,rfl,by omega,rfl⟩
 refine CwpE.cut (st:=⟨[(11,vints L),(12,.list 1 rB),(13,.list 1 rS),(14,.list 1 rM),(15,vi i),(16,vi j),(17,vi k),(18,vints O),(19,vi e)],[]⟩) ?_ ?_
 ·simp only [go_sem,i0,j0,k0,hBi,hSj,hMk]
  refine callT hR rfl ?_
  simp only [go_sem]
  exact ⟨_,WkE.kp,rfl⟩
 refine CwpE.cut (st:=⟨[(11,vints L),(12,.list 1 rB),(13,.list 1 rS),(14,.list 1 rM),(15,vi i),(16,vi j),(17,vi k),(18,vints O),(19,vi e),(20,vints O),(21,vi e)],[]⟩) ?_ ?_
 ·simp only [go_sem,i0,j0,k0,hBi,hSj,hMk]
  refine callT hrR rfl ?_
  simp only [go_sem]
  exact ⟨_,WkE.kp,rfl⟩
 refine CwpE.vc ?_
 simp only [go_sem]
 refine callT hSm rfl ?_
 simp only [go_sem]
 exact ⟨_,WkE.kp,rfl⟩
end Go.Proofs.Ytdadmhahbeehhaa
