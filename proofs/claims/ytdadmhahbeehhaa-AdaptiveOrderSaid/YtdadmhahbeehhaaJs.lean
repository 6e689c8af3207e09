/- Lemmas used by Order. -/
import Derived.Test.YtdadmhahbeehhaaJa
import Derived.Test.YtdadmhahbeehhaaJb
import Derived.Test.YtdadmhahbeehhaaJc
import Derived.Test.YtdadmhahbeehhaaJd
import Derived.Test.YtdadmhahbeehhaaJe
import Derived.Test.YtdadmhahbeehhaaJf
import Derived.Test.YtdadmhahbeehhaaJh
import Derived.Test.YtdadmhahbeehhaaJl
import Derived.Test.YtdadmhahbeehhaaJn
set_option linter.unusedSimpArgs false
set_option linter.unusedVariables false
set_option linter.unusedSectionVars false
set_option maxRecDepth 100000
namespace A42
theorem Ok.perm {L:List Int} {ps qs:List PI} (h:Ok L ps) (p:ps.Perm qs):Ok L qs :=
 ⟨h.valid,fun x hx=>h.rng x (p.mem_iff.2 hx),(p.map _).nodup_iff.1 h.nodup⟩
theorem cnt_perm {L:List Int} {ps qs:List PI} (p:ps.Perm qs) (lev:Int):cnt L ps lev=cnt L qs lev:=p.countP_eq _
theorem stp_perm {L:List Int} {ps qs:List PI} (p:ps.Perm qs):stp L ps=stp L qs:=by
 funext s lev;simp only [stp,cnt_perm p]
theorem shown_perm {L:List Int} {ps qs:List PI} (p:ps.Perm qs):shown L ps=shown L qs:=by simp only [shown,sh3,stp_perm p]
theorem isIn_perm {ps qs:List PI} (p:ps.Perm qs) (n:Int):isIn ps n=isIn qs n:=by
 rw [Bool.eq_iff_iff];simp only [isIn,List.any_eq_true]
 exact ⟨fun ⟨x,hx,h⟩=>⟨x,p.mem_iff.1 hx,h⟩,fun ⟨x,hx,h⟩=>⟨x,p.mem_iff.2 hx,h⟩⟩
theorem left_perm {L:List Int} {ps qs:List PI} (p:ps.Perm qs):leftL L ps=leftL L qs:=by simp only [leftL,isIn_perm p]
theorem next_perm {L:List Int} {ps qs:List PI} (p:ps.Perm qs):nextM L ps=nextM L qs:=by simp only [nextM,left_perm p,shown_perm p]
def swapL {α : Type} (l:List α) (p q:Nat):List α:=match l[p]?,l[q]? with
 | some x,some y=>(l.set p y).set q x
 | _,_=>l
theorem swap_len {α : Type} (l:List α) (p q:Nat):(swapL l p q).length=l.length:=by
 unfold swapL;split <;> simp
theorem swap_eq {α : Type} {l:List α} {p q:Nat} (hp:p<l.length) (hq:q<l.length):swapL l p q=(l.set p l[q]).set q l[p]:=by
 simp only [swapL,List.getElem?_eq_getElem hp,List.getElem?_eq_getElem hq]
theorem swap_perm {α : Type} (l:List α) (p q:Nat):(swapL l p q).Perm l:=by
 by_cases hp:p<l.length
 ·by_cases hq:q<l.length
  ·rw [swap_eq hp hq]
   have:=Array.swap_perm (xs:=l.toArray) (i:=p) (j:=q) (by simpa using hp) (by simpa using hq)
   rw [Array.perm_iff_toList_perm] at this
   simpa [Array.swap] using this
  ·simp [swapL,List.getElem?_eq_none (Nat.le_of_not_lt hq)]
 ·simp [swapL,List.getElem?_eq_none (Nat.le_of_not_lt hp)]
theorem swap_zip {a r:List Int} {p q:Nat} (h:a.length=r.length) (hp:p<a.length) (hq:q<a.length):(swapL a p q).zip (swapL r p q)=swapL (a.zip r) p q:=by
 have hz:(a.zip r).length=a.length:=by rw [List.length_zip];omega
 rw [swap_eq hp hq,swap_eq (by omega) (by omega),swap_eq (by omega) (by omega),zip_set,zip_set,List.getElem_zip,List.getElem_zip]
theorem okAns_perm {L a r a2 r2:List Int} (h:a.length=r.length) (h2:a2.length=r2.length) (hp:(a2.zip r2).Perm (a.zip r)):okAns L a r=okAns L a2 r2:=by
 rw [Bool.eq_iff_iff,ok_iff,ok_iff]
 exact ⟨fun ⟨_,hO⟩=>⟨h2,hO.perm hp.symm⟩,fun ⟨_,hO⟩=>⟨h,hO.perm hp⟩⟩
theorem Next_perm {L a r a2 r2:List Int} (h:a.length=r.length) (h2:a2.length=r2.length) (hp:(a2.zip r2).Perm (a.zip r)):NextM L a r=NextM L a2 r2:=by
 simp only [NextM,okAns_perm (L:=L) h h2 hp,next_perm (L:=L) hp]
theorem Level_perm {L a r a2 r2:List Int} (h:a.length=r.length) (h2:a2.length=r2.length) (hp:(a2.zip r2).Perm (a.zip r)):LevelM L a r=LevelM L a2 r2:=by
 simp only [LevelM,okAns_perm (L:=L) h h2 hp,shown_perm (L:=L) hp]
end A42
namespace Go.Proofs.Ytdadmhahbeehhaa
open Go.RowKit Dak A42
set_option maxHeartbeats 4000000 in
theorem AdaptiveOrder_s (l m k turn:List Int) (hl:∀ x ∈ l,I64 x) (hm:∀ x ∈ m,I64 x) (hk:∀ x ∈ k,I64 x) (ht:∀ x ∈ turn,I64 x):Ctr Try.lprog 5 [vints l,vints m,vints k,vints turn] (vb true):=by
 have hlen:=levels_len l
 have hI:=some_I (levelsM l) m
 have hIl:=hI.len
 have hLe:=Levels_s l hl
 have hSo:=Some_s (levelsM l) m (by omega) hm
 have hRi:=rights_s k (someM (levelsM l) m).length hk (by omega)
 have hRl:=rights_len k (someM (levelsM l) m).length
 generalize rightsK k (someM (levelsM l) m).length=R at *
 generalize someM (levelsM l) m=A at *
 generalize levelsM l=L at *
 obtain ⟨N,hN⟩:∃ N,A.length=N:=⟨_,rfl⟩
 rw [hN] at hRi hRl hIl
 have hN20:N<=20:=by omega
 refine specC f5 (by simp) fun F0 w0=>?_
 unfold c5
 refine CwpE.cut (st:=⟨[(0,vints l),(1,vints m),(2,vints k),(3,vints turn)],[]⟩) ?_ ?_
 ·simp only [go_sem]
  exact ⟨_,WkE.kp,rfl⟩
 refine CwpE.cut (st:=⟨[(1,vints m),(2,vints k),(3,vints turn),(9,.ptr [vints L])],[.dead]⟩) ?_ ?_
 ·simp only [go_sem]
  refine callT hLe rfl ?_
  simp only [go_sem]
  refine ⟨_,(WkE.freezeS 9 0 1 1 30 [vbank L] _ (.ptr [vints L]) (by omega) rfl rfl (.ref _ _ _ _ _ _ rfl rfl fun i h1 h2=>by match i,h1 with | 0,_=>exact .tree _ rfl)).trans (WkE.keep ?_),rfl⟩
  simp only [go_sem];try trivial
 refine CwpE.cut (st:=⟨[(2,vints k),(3,vints turn),(9,.ptr [vints L]),(10,vints A)],[.dead]⟩) ?_ ?_
 ·simp only [go_sem]
  refine callT hSo rfl ?_
  simp only [go_sem]
  exact ⟨_,WkE.kp,rfl⟩
 refine CwpE.cut (st:=⟨[(3,vints turn),(9,.ptr [vints L]),(10,vints A),(11,vints R)],[.dead]⟩) ?_ ?_
 ·simp only [go_sem,List.length_map,hN]
  refine callT hRi rfl ?_
  simp only [go_sem]
  exact ⟨_,WkE.kp,rfl⟩
 have b1:N*8<=140737488355328:=by omega
 refine CwpE.cut (st:=⟨[(3,vints turn),(9,.ptr [vints L]),(10,vints A),(11,vints R),(12,.own 1 N 0 N)],[.dead,.arr N 1 3 (A.map vi)]⟩) ?_ ?_
 ·simp only [go_sem,List.length_map,hN,b1]
  exact ⟨_,WkE.kp,rfl⟩
 refine CwpE.cut (st:=⟨[(3,vints turn),(9,.ptr [vints L]),(10,vints A),(11,vints R),(12,.own 1 N 0 N),(13,.own 2 N 0 N)],[.dead,.arr N 1 3 (A.map vi),.arr N 1 3 (R.map vi)]⟩) ?_ ?_
 ·simp only [go_sem,List.length_map,hRl,b1]
  exact ⟨_,WkE.kp,rfl⟩
 refine CwpE.seqJ (fun z=>∃ a r:List Int,a.length=N/\r.length=N/\(a.zip r).Perm (A.zip R)/\z=⟨[(9,.ptr [vints L]),(10,vints A),(11,vints R),(12,.own 1 N 0 N),(13,.own 2 N 0 N)],[.dead,.arr N 1 3 (a.map vi),.arr N 1 3 (r.map vi)]⟩) ?_ ?_
 rotate_left
 ·rintro _ ⟨a,r,ha,hr,hp,rfl⟩
  have n1:=Next_s L A R (by omega) (by omega) (by omega)
  have n2:=Next_s L a r (by omega) (by omega) (by omega)
  have v1:=Level_s L A R (by omega) (by omega) (by omega)
  have v2:=Level_s L a r (by omega) (by omega) (by omega)
  rw [<-Next_perm (L:=L) (a:=A) (r:=R) (a2:=a) (r2:=r) (by omega) (by omega) hp] at n2
  rw [<-Level_perm (L:=L) (a:=A) (r:=R) (a2:=a) (r2:=r) (by omega) (by omega) hp] at v2
  generalize NextM L A R=nx at n1 n2
  generalize LevelM L A R=lv at v1 v2
  have sa:Snap [.dead,.arr N 1 3 (a.map vi),.arr N 1 3 (r.map vi)] (.own 1 N 0 N) (vints a):=snapInts 1 N a rfl ha.symm
  have sr:Snap [.dead,.arr N 1 3 (a.map vi),.arr N 1 3 (r.map vi)] (.own 2 N 0 N) (vints r):=snapInts 2 N r rfl hr.symm
  obtain ⟨x1,x2⟩:=nx
  obtain ⟨y1,y2,y3⟩:=lv
  refine CwpE.vc ?_
  simp only [go_sem]
  refine callT n1 rfl ?_
  simp only [go_sem]
  refine callF n2 (.cons (.tree _ rfl) (.cons sa (.cons sr .nil))) rfl ?_
  simp only [go_sem]
  refine callT v1 rfl ?_
  simp only [go_sem]
  refine callF v2 (.cons (.tree _ rfl) (.cons sa (.cons sr .nil))) rfl ?_
  simp only [go_sem]
  refine callT lives_s rfl ?_
  simp only [go_sem]
  exact .tree _ rfl
 refine CwpE.cut (st:=⟨[(3,vints turn),(9,.ptr [vints L]),(10,vints A),(11,vints R),(12,.own 1 N 0 N),(13,.own 2 N 0 N),(14,vi (0:Nat))],[.dead,.arr N 1 3 (A.map vi),.arr N 1 3 (R.map vi)]⟩) ?_ ?_
 ·simp only [go_sem]
  exact ⟨⟨[(3,vints turn),(9,.ptr [vints L]),(10,vints A),(11,vints R),(12,.own 1 N 0 N),(13,.own 2 N 0 N),(14,vi (0:Nat))],[.dead,.arr N 1 3 (A.map vi),.arr N 1 3 (R.map vi)]⟩,WkE.kp,rfl⟩
 refine CwpE.block ?_
 refine loopXC 0 (fun m' s=>∃ (i:Nat) (a r:List Int),m'=32-i/\i<=31/\a.length=N/\r.length=N/\(a.zip r).Perm (A.zip R)/\s=⟨[(3,vints turn),(9,.ptr [vints L]),(10,vints A),(11,vints R),(12,.own 1 N 0 N),(13,.own 2 N 0 N),(14,vi i)],[.dead,.arr N 1 3 (a.map vi),.arr N 1 3 (r.map vi)]⟩)
  (fun z=>∃ a r:List Int,a.length=N/\r.length=N/\(a.zip r).Perm (A.zip R)/\z=⟨[(9,.ptr [vints L]),(10,vints A),(11,vints R),(12,.own 1 N 0 N),(13,.own 2 N 0 N)],[.dead,.arr N 1 3 (a.map vi),.arr N 1 3 (r.map vi)]⟩) 32 _ (.refl _ _) ⟨0,A,R,rfl,by omega,hN,hRl,.refl _,rfl⟩ ?_ ?_
 rotate_left
 ·rintro s ⟨a,r,h1,h2,h3,rfl⟩
  simp only [go_sem]
  exact ⟨_,.refl _ _,a,r,h1,h2,h3,rfl⟩
 rintro m' s ⟨i,a,r,rfl,hi,ha,hr,hp,rfl⟩
 have w1:IntKind.i64.wrap ((i:Int)+1)=((i+1:Nat):Int):=wrap_s i (by omega)
 have exit:∀ (e:List (Nat × AV)),Agree e [(9,.ptr [vints L]),(10,vints A),(11,vints R),(12,.own 1 N 0 N),(13,.own 2 N 0 N)]->∃ s',WkE 162 ⟨e,[.dead,.arr N 1 3 (a.map vi),.arr N 1 3 (r.map vi)]⟩ s'/\∃ a r:List Int,a.length=N/\r.length=N/\(a.zip r).Perm (A.zip R)/\s'=⟨[(9,.ptr [vints L]),(10,vints A),(11,vints R),(12,.own 1 N 0 N),(13,.own 2 N 0 N)],[.dead,.arr N 1 3 (a.map vi),.arr N 1 3 (r.map vi)]⟩:=fun e he=>⟨_,WkE.keep he,a,r,ha,hr,hp,rfl⟩
 by_cases g1:i+1<turn.length
 rotate_left
 ·have g1':¬ ((i+1:Nat):Int)<(turn.length:Int):=by omega
  refine CwpE.vc ?_
  simp only [go_sem,w1,g1',List.length_map]
  exact exit _ (by simp only [go_sem];try trivial)
 have g1':((i+1:Nat):Int)<(turn.length:Int):=by omega
 by_cases g2:0<N
 rotate_left
 ·have g2':¬ (0:Int)<(N:Int):=by omega
  refine CwpE.vc ?_
  simp only [go_sem,w1,g1',g2',List.length_map]
  exact exit _ (by simp only [go_sem];try trivial)
 have g2':(0:Int)<(N:Int):=by omega
 by_cases g3:i<30
 rotate_left
 ·have g3':¬ (i:Int)<30:=by omega
  refine CwpE.vc ?_
  simp only [go_sem,w1,g1',g2',g3',List.length_map]
  exact exit _ (by simp only [go_sem];try trivial)
 have g3':(i:Int)<30:=by omega
 have i0:(0:Int)<=(i:Int):=by omega
 have i1:(i:Int)<(turn.length:Int):=by omega
 have j0:(0:Int)<=((i+1:Nat):Int):=by omega
 have w2:IntKind.i64.wrap ((i:Int)+2)=((i+2:Nat):Int):=by rw [wrap_id (by omega) (by omega)];omega
 have ti:=mget (l:=turn) (p:=i) (by omega)
 have tj:=mget (l:=turn) (p:=i+1) (by omega)
 have hA1:=Around_s turn[i] N (ht _ (List.getElem_mem _)) ⟨by omega,by omega⟩
 have hA2:=Around_s turn[i+1] N (ht _ (List.getElem_mem _)) ⟨by omega,by omega⟩
 have bA1:=aroundL_bd turn[i] N (by omega)
 have bA2:=aroundL_bd turn[i+1] N (by omega)
 obtain ⟨p,hpp⟩:∃ p:Nat,aroundL turn[i] N=p:=⟨(aroundL turn[i] N).toNat,by omega⟩
 obtain ⟨q,hqq⟩:∃ q:Nat,aroundL turn[i+1] N=q:=⟨(aroundL turn[i+1] N).toNat,by omega⟩
 rw [hpp] at hA1 bA1
 rw [hqq] at hA2 bA2
 have hpa:p<a.length:=by omega
 have hqa:q<a.length:=by omega
 have hpr:p<r.length:=by omega
 have hqr:q<r.length:=by omega
 have p0:(0:Int)<=(p:Int):=by omega
 have q0:(0:Int)<=(q:Int):=by omega
 have p1:(p:Int)<(N:Int):=by omega
 have q1:(q:Int)<(N:Int):=by omega
 generalize turn[i]=tx at ti hA1
 generalize turn[i+1]=ty at tj hA2
 have sw:(swapL a p q).zip (swapL r p q)=swapL (a.zip r) p q:=swap_zip (by omega) hpa hqa
 have sp:((swapL a p q).zip (swapL r p q)).Perm (A.zip R):=by rw [sw];exact (swap_perm _ _ _).trans hp
 have sla:(swapL a p q).length=N:=by rw [swap_len];exact ha
 have slr:(swapL r p q).length=N:=by rw [swap_len];exact hr
 have ea:=swap_eq hpa hqa
 have er:=swap_eq hpr hqr
 obtain ⟨A2,hA2e⟩:∃ x,swapL a p q=x:=⟨_,rfl⟩
 obtain ⟨R2,hR2e⟩:∃ x,swapL r p q=x:=⟨_,rfl⟩
 rw [hA2e] at ea sp sla
 rw [hR2e] at er sp slr
 have gap:=mget hpa
 have gaq:=mget hqa
 have grp:=mget hpr
 have grq:=mget hqr
 generalize a[p]=xp at ea gap
 generalize a[q]=xq at ea gaq
 generalize r[p]=yp at er grp
 generalize r[q]=yq at er grq
 have ma1:=mset a p xq
 have ma2:=mset (a.set p xq) q xp
 have mr1:=mset r p yq
 have mr2:=mset (r.set p yq) q yp
 have gq2:=mget (l:=a.set p xq) (p:=q) (by rw [List.length_set];exact hqa)
 have gq3:=mget (l:=r.set p yq) (p:=q) (by rw [List.length_set];exact hqr)
 have la1:(a.set p xq).length=N:=by rw [List.length_set];exact ha
 have lr1:(r.set p yq).length=N:=by rw [List.length_set];exact hr
 generalize (a.set p xq)[q]'(by rw [List.length_set];exact hqa)=z1 at gq2
 generalize (r.set p yq)[q]'(by rw [List.length_set];exact hqr)=z2 at gq3
 refine CwpE.cut (st:=⟨[(3,vints turn),(9,.ptr [vints L]),(10,vints A),(11,vints R),(12,.own 1 N 0 N),(13,.own 2 N 0 N),(14,vi i)],[.dead,.arr N 1 3 (a.map vi),.arr N 1 3 (r.map vi)]⟩) ?_ ?_
 ·simp only [go_sem,w1,g1',g2',g3',List.length_map]
  exact ⟨_,WkE.kp,rfl⟩
 refine CwpE.seqJ (fun z=>z=⟨[(3,vints turn),(9,.ptr [vints L]),(10,vints A),(11,vints R),(12,.own 1 N 0 N),(13,.own 2 N 0 N),(14,vi i)],[.dead,.arr N 1 3 (A2.map vi),.arr N 1 3 (R2.map vi)]⟩) (CwpE.block ?_) ?_
 rotate_left
 ·rintro _ rfl
  refine CwpE.vc ?_
  simp only [go_sem,w2]
  exact ⟨32-(i+2),⟨[(3,vints turn),(9,.ptr [vints L]),(10,vints A),(11,vints R),(12,.own 1 N 0 N),(13,.own 2 N 0 N),(14,vi ((i+2:Nat):Int))],[.dead,.arr N 1 3 (A2.map vi),.arr N 1 3 (R2.map vi)]⟩,by omega,WkE.kp,i+2,A2,R2,rfl,by omega,sla,slr,sp,rfl⟩
 refine CwpE.cut (st:=⟨[(3,vints turn),(9,.ptr [vints L]),(10,vints A),(11,vints R),(12,.own 1 N 0 N),(13,.own 2 N 0 N),(14,vi i),(15,vi p)],[.dead,.arr N 1 3 (a.map vi),.arr N 1 3 (r.map vi)]⟩) ?_ ?_
 ·simp only [go_sem,i0,ti]
  refine callF hA1 (.cons (.tree _ rfl) (.cons (.tree _ rfl) .nil)) rfl ?_
  simp only [go_sem]
  exact ⟨_,WkE.kp,rfl⟩
 refine CwpE.cut (st:=⟨[(3,vints turn),(9,.ptr [vints L]),(10,vints A),(11,vints R),(12,.own 1 N 0 N),(13,.own 2 N 0 N),(14,vi i),(15,vi p),(16,vi q)],[.dead,.arr N 1 3 (a.map vi),.arr N 1 3 (r.map vi)]⟩) ?_ ?_
 ·simp only [go_sem,w1,j0,tj,Int.toNat_natCast]
  refine callF hA2 (.cons (.tree _ rfl) (.cons (.tree _ rfl) .nil)) rfl ?_
  simp only [go_sem]
  exact ⟨_,WkE.kp,rfl⟩
 refine CwpE.cut (st:=⟨[(3,vints turn),(9,.ptr [vints L]),(10,vints A),(11,vints R),(12,.own 1 N 0 N),(13,.own 2 N 0 N),(14,vi i),(15,vi p),(16,vi q),(17,vi xp)],[.dead,.arr N 1 3 (a.map vi),.arr N 1 3 (r.map vi)]⟩) ?_ ?_
 ·simp only [go_sem,p0,p1,gap]
  exact ⟨_,WkE.kp,rfl⟩
 refine CwpE.cut (st:=⟨[(3,vints turn),(9,.ptr [vints L]),(10,vints A),(11,vints R),(12,.own 1 N 0 N),(13,.own 2 N 0 N),(14,vi i),(15,vi p),(16,vi q),(17,vi xp)],[.dead,.arr N 1 3 ((a.set p xq).map vi),.arr N 1 3 (r.map vi)]⟩) ?_ ?_
 ·simp only [go_sem,p0,p1,q0,q1,gap,gaq,ma1]
  exact ⟨_,WkE.kp,rfl⟩
 refine CwpE.cut (st:=⟨[(3,vints turn),(9,.ptr [vints L]),(10,vints A),(11,vints R),(12,.own 1 N 0 N),(13,.own 2 N 0 N),(14,vi i),(15,vi p),(16,vi q)],[.dead,.arr N 1 3 (A2.map vi),.arr N 1 3 (r.map vi)]⟩) ?_ ?_
 ·rw [ea]
  simp only [go_sem,q0,q1,gq2,ma2]
  exact ⟨_,WkE.kp,rfl⟩
 refine CwpE.cut (st:=⟨[(3,vints turn),(9,.ptr [vints L]),(10,vints A),(11,vints R),(12,.own 1 N 0 N),(13,.own 2 N 0 N),(14,vi i),(15,vi p),(16,vi q),(17,vi yp)],[.dead,.arr N 1 3 (A2.map vi),.arr N 1 3 (r.map vi)]⟩) ?_ ?_
 ·simp only [go_sem,p0,p1,grp]
  exact ⟨_,WkE.kp,rfl⟩
 refine CwpE.cut (st:=⟨[(3,vints turn),(9,.ptr [vints L]),(10,vints A),(11,vints R),(12,.own 1 N 0 N),(13,.own 2 N 0 N),(14,vi i),(15,vi p),(16,vi q),(17,vi yp)],[.dead,.arr N 1 3 (A2.map vi),.arr N 1 3 ((r.set p yq).map vi)]⟩) ?_ ?_
 ·simp only [go_sem,p0,p1,q0,q1,grp,grq,mr1]
  exact ⟨_,WkE.kp,rfl⟩
 refine CwpE.vc ?_
 rw [er]
 simp only [go_sem,q0,q1,gq3,mr2]
 exact ⟨_,WkE.kp,rfl⟩
end Go.Proofs.Ytdadmhahbeehhaa
