/- Lemmas used by True. -/
import Derived.Test.YtdadmhahbeehhaaJa
import Derived.Test.YtdadmhahbeehhaaJb
import Derived.Test.YtdadmhahbeehhaaJc
import Derived.Test.YtdadmhahbeehhaaJd
import Derived.Test.YtdadmhahbeehhaaJe
import Derived.Test.YtdadmhahbeehhaaJf
import Derived.Test.YtdadmhahbeehhaaJg
import Derived.Test.YtdadmhahbeehhaaJj
import Derived.Test.YtdadmhahbeehhaaJk
import Derived.Test.YtdadmhahbeehhaaJp
import Derived.Test.YtdadmhahbeehhaaJq
set_option linter.unusedSimpArgs false
set_option linter.unusedVariables false
set_option linter.unusedSectionVars false
set_option maxRecDepth 100000
namespace A42
theorem lv_of {L:List Int} {k:Nat} (h:k<L.length):lv L (k:Int)=L[k]:=by simp [lv,h]
end A42
namespace Go.Proofs.Ytdadmhahbeehhaa
open Go.RowKit Dak A42
theorem Given_s (L:List Int) (lev:Int) (out:List Int) (hr:∀ x ∈ out,0<=x/\x<L.length) (hl:out.length<=1000000):Ctr Try.lprog 21 [vints L,vi lev,vints out] (vints (givenL L lev out)):=by
 refine specC f21 (by simp) fun F0 w0=>given_c L lev out hr hl (CwpE.vc ?_)
 simp only [go_sem]
 exact snapInts 0 out.length (givenL L lev out) rfl (given_len L lev out).symm
end Go.Proofs.Ytdadmhahbeehhaa
namespace A42
theorem con_truth {L:List Int} {c x k:Int}:con L x (k,if lv L k<=c then 1 else 0)=false ↔ (lv L k<=c ↔ lv L k<=x):=by
 unfold con
 by_cases h:lv L k<=c <;> by_cases h2:lv L k<=x <;> simp [h,h2]
theorem cnt_truth {L:List Int} {c x:Int} {out:List Int}:cnt L (truth L c out) x=0 ↔ ∀ k ∈ out,(lv L k<=c ↔ lv L k<=x):=by
 unfold cnt truth
 rw [List.countP_eq_zero]
 simp only [List.forall_mem_map]
 refine forall_congr' fun k=>imp_congr_right fun hk=>?_
 rw [Bool.not_eq_true]
 exact con_truth
theorem truth_len (L:List Int) (c:Int) (out:List Int):(truth L c out).length=out.length:=by simp [truth]
theorem RunI.le {L out:List Int} (h:RunI L out):out.length<=L.length:=nodup_le L.length out h.nodup h.rng
structure True_ (L:List Int) (c:Int) (out:List Int) (f l:Int):Prop where
 f1 : -1<=f
 l9:l<=9
 fc:f<=c
 cl:c<=l
 fk:∀ k ∈ out,(lv L k<=c ↔ lv L k<=f)
 lk:∀ k ∈ out,(lv L k<=c ↔ lv L k<=l)
 in_:∀ x,-1<=x->x<=9->(∀ k ∈ out,(lv L k<=c ↔ lv L k<=x))->f<=x/\x<=l
theorem true_of {L:List Int} {c:Int} {out:List Int} (h:RunI L out) (c1 : -1<=c) (c9:c<=9):True_ L c out (shown L (truth L c out)).1 (shown L (truth L c out)).2:=by
 have hl:(truth L c out).length<=L.length:=by rw [truth_len];exact h.le
 have hs:=shown_spec hl
 have hb:=shown_bd hl
 generalize shown L (truth L c out)=s at hs hb
 generalize (sh3 L (truth L c out)).2.2=best at hs
 obtain ⟨f,l⟩:=s
 dsimp only at hs hb ⊢
 have hc:cnt L (truth L c out) c=0:=cnt_truth.2 fun k _=>Iff.rfl
 have hb0:best=0:=by have:=hs.le c c1 c9;omega
 subst hb0
 have hi:=hs.in_ c c1 c9 hc
 exact ⟨hb.1,hb.2.2,hi.1,hi.2,cnt_truth.1 hs.fc,cnt_truth.1 hs.lc,fun x h1 h2 h3=>hs.in_ x h1 h2 (cnt_truth.2 h3)⟩
theorem true_level {L:List Int} {c:Int} {out:List Int} (h:RunI L out) (c1 : -1<=c) (c9:c<=9):∃ mid off:Int,LevelM L out (givenL L c out)=(mid,off,0)/\(-9<=mid/\mid<=9/\0<=off/\off<=20)/\c-mid<=off/\mid-c<=off/\((shown L (truth L c out)).2<=(shown L (truth L c out)).1->mid=c/\off=0):=by
 have ht:=true_of h c1 c9
 have hz:=given_zip L c out
 have hok:okAns L out (givenL L c out)=true:=ok_iff.2 ⟨(given_len L c out).symm,by rw [hz];exact h.ok c⟩
 unfold LevelM
 rw [if_pos hok,hz]
 generalize shown L (truth L c out)=s at ht
 obtain ⟨f,l⟩:=s
 have a1:=ht.f1
 have a2:=ht.l9
 have a3:=ht.fc
 have a4:=ht.cl
 dsimp only at a1 a2 a3 a4 ⊢
 have hm:floorM (f+l)=(f+l+18) / 2-9:=by
  unfold floorM
  rw [Int.tdiv_eq_ediv_of_nonneg (by omega)]
 refine ⟨_,_,rfl,?_,?_,?_,?_⟩ <;> omega
theorem next_far {L:List Int} {ps:List PI} {x:Int} (h:nextM L ps=some x):∀ y:Int,0<=y->y<L.length->isIn ps y=false->far L (shown L ps) x<=far L (shown L ps) y:=by
 intro y h0 h1 h2
 unfold nextM at h
 split at h
 ·cases h
 ·obtain rfl:=Option.some.inj h
  have:=minF_le (L:=L) (s:=shown L ps) (mem_left.2 ⟨⟨h0,h1⟩,h2⟩)
  rw [cmp_neg] at this
  omega
def Each (L:List Int):Prop:=∀ t:Int,0<=t->t<=9->∃ y:Int,0<=y/\y<L.length/\lv L y=t
theorem half {L:List Int} {c:Int} {out:List Int} (hE:Each L) (h:RunI L out) (c1 : -1<=c) (c9:c<=9) (hl:out.length<L.length) {x:Int} (hx:nextM L (truth L c out)=some x) (h2:RunI L (out++[x])) {f l f' l':Int} (hs:shown L (truth L c out)=(f,l)) (hs':shown L (truth L c (out++[x]))=(f',l')):2*(l'-f')<=l-f:=by
 have ht:=true_of h c1 c9
 have ht':=true_of h2 c1 c9
 have hf:=next_far hx
 rw [hs] at ht hf
 rw [hs'] at ht'
 dsimp only at ht ht'
 have hsub:∀ y,-1<=y->y<=9->(∀ k ∈ out++[x],(lv L k<=c ↔ lv L k<=y))->f<=y/\y<=l:=fun y y1 y2 hy=>ht.in_ y y1 y2 fun k hk=>hy k (List.mem_append_left _ hk)
 have e1:=hsub f' ht'.f1 (by have:=ht'.fc;omega) ht'.fk
 have e2:=hsub l' (by have:=ht'.cl;omega) ht'.l9 ht'.lk
 have a1:=ht'.fk x (by simp)
 have a2:=ht'.lk x (by simp)
 have b1:=ht.fc
 have b2:=ht.cl
 have b3:=ht'.fc
 have b4:=ht'.cl
 have b5:=ht.f1
 have b6:=ht.l9
 by_cases hfl:l<=f
 ·omega
 obtain ⟨y,y0,y1,hy⟩:=hE ((f+l+1) / 2) (by omega) (by omega)
 have hun:isIn (truth L c out) y=false:=by
  cases hi:isIn (truth L c out) y with
  | false=>rfl
  | true =>
   have hm:=isIn_iff.1 hi
   rw [truth_keys] at hm
   have k1:=ht.fk y hm
   have k2:=ht.lk y hm
   rw [hy] at k1 k2
   have q:((f+l+1) / 2<=f) ↔ ((f+l+1) / 2<=l):=k1.symm.trans k2
   omega
 have hfx:=hf y y0 y1 hun
 unfold far at hfx
 rw [hy] at hfx
 dsimp only at hfx
 generalize lv L x=v at a1 a2 hfx
 by_cases hv:v<=c
 ·have:=a1.1 hv
  omega
 ·have:¬ v<=l':=fun e=>hv (a2.2 e)
  omega
theorem half_wd {L:List Int} {c:Int} {out:List Int} (hE:Each L) (h:RunI L out) (c1 : -1<=c) (c9:c<=9) (hl:out.length<L.length) {x:Int} (hx:nextM L (truth L c out)=some x) (h2:RunI L (out++[x])):2*wd L c (out++[x])<=wd L c out:=by
 obtain ⟨s,hs⟩:∃ s,shown L (truth L c out)=s:=⟨_,rfl⟩
 obtain ⟨s',hs'⟩:∃ s,shown L (truth L c (out++[x]))=s:=⟨_,rfl⟩
 obtain ⟨f,l⟩:=s
 obtain ⟨f',l'⟩:=s'
 have:=half hE h c1 c9 hl hx h2 hs hs'
 unfold wd
 rw [hs,hs']
 exact this
theorem halve {a b w:Int} (h:2*a<=b) (k:b<=w):a<=w / 2:=by omega
theorem double {z w:Int} (h:z<=w / 2):z*2<=w:=by omega
theorem runGo_snoc (L:List Int) (c:Int) {x:Int} {out:List Int} (h:nextM L (truth L c out)=some x) (k:Nat):runGo L c (k+1) out=runGo L c k (out++[x]):=by rw [runGo,h];rfl
theorem runGo_width {L:List Int} {c:Int} (hE:Each L) (c1 : -1<=c) (c9:c<=9) (k:Nat):∀ (w:Int) (out:List Int),RunI L out->out.length+k<=L.length->wd L c out<=w->wd L c (runGo L c k out)*2 ^ k<=w:=by
 induction k with
 | zero =>
  intro w out h hl hw
  rw [runGo,Int.pow_zero,Int.mul_one];exact hw
 | succ k ih =>
  intro w out h hl hw
  have hll:out.length<L.length:=by clear hw;omega
  obtain ⟨x,h1,h2,h3,h4,h5⟩:=h.step c hll
  have hlen:(out++[x]).length+k<=L.length:=by rw [List.length_append,List.length_singleton];clear hw;omega
  have hh:=half_wd hE h c1 c9 hll h1 h5
  have ih:=ih (w / 2) (out++[x]) h5 hlen (halve hh hw)
  rw [runGo_snoc L c h1]
  generalize wd L c (runGo L c k (out++[x]))=z at ih ⊢
  rw [Int.pow_succ,<-Int.mul_assoc]
  exact double ih
theorem four {L:List Int} {c:Int} (hE:Each L) (hv:validB L=true) (hL:4<=L.length) (c1 : -1<=c) (c9:c<=9):(shown L (truth L c (runGo L c 4 []))).2<=(shown L (truth L c (runGo L c 4 []))).1:=by
 have hI:RunI L []:=⟨hv,by simp,by simp⟩
 have hb:=shown_bd (L:=L) (ps:=truth L c []) (by simp [truth])
 have h10:wd L c []<=10:=by
  unfold wd
  generalize shown L (truth L c [])=s at hb
  omega
 have:=runGo_width hE c1 c9 4 10 [] hI (by simpa using hL) h10
 have e:((2:Int) ^ 4)=16:=rfl
 rw [e] at this
 unfold wd at this
 generalize (shown L (truth L c (runGo L c 4 [])))=s at this ⊢
 omega
def bank10 (r:Int):List Int:=(List.range 10).map fun i:Nat=>((i:Int)*3+r) % 10
theorem each_dec:∀ r:Nat,r<10->∀ t:Nat,t<10->∃ i:Nat,i<10/\(i*3+r) % 10=t:=by decide
theorem each_f10 {r:Int} (h0:0<=r) (h1:r<10) (e:List Int):Each (bank10 r++e):=by
 intro t t0 t9
 obtain ⟨i,hi,he⟩:=each_dec r.toNat (by omega) t.toNat (by omega)
 refine ⟨(i:Int),by omega,by simp [bank10];omega,?_⟩
 have hlen:i<(bank10 r).length:=by simp [bank10];exact hi
 rw [lv_of (by rw [List.length_append];omega),List.getElem_append_left hlen]
 simp only [bank10,List.getElem_map,List.getElem_range]
 omega
theorem valid_f10 {r:Int} (h0:0<=r) {e:List Int} (hl:e.length<=11) (he:∀ x ∈ e,0<=x/\x<=9):validB (bank10 r++e)=true:=by
 refine valid_iff.2 ⟨by simp [bank10];omega,fun x hx=>?_⟩
 rcases List.mem_append.1 hx with hx | hx
 ·obtain ⟨i,_,rfl⟩:=List.mem_map.1 hx
  omega
 ·exact he x hx
end A42
namespace Go.Proofs.Ytdadmhahbeehhaa
open Go.RowKit Dak A42
def f10K (r:Int) (k:Nat):List Int:=(List.range k).map fun i:Nat=>((i:Int)*3+r) % 10
theorem f10K_step (r:Int) (k:Nat):f10K r (k+1)=f10K r k++[((k:Int)*3+r) % 10]:=by simp [f10K,List.range_succ]
theorem f10K_len (r:Int) (k:Nat):(f10K r k).length=k:=by simp [f10K]
set_option maxHeartbeats 4000000 in
theorem AdaptiveTrue_s (l:List Int) (level n:Int) (more:List Int) (hl:∀ x ∈ l,I64 x) (h1:I64 level) (h2:I64 n) (hm:∀ x ∈ more,I64 x):Ctr Try.lprog 6 [vints l,vi level,vi n,vints more] (vb true):=by
 have hlen:=levels_len l
 have hv:=levels_valid l
 have hLe:=Levels_s l hl
 generalize levelsM l=L at *
 have bc:=aroundL_bd level 11 (by omega)
 have hAc:=Around_s level 11 h1 ⟨by omega,by omega⟩
 obtain ⟨c,hc⟩:∃ c,aroundL level 11-1=c:=⟨_,rfl⟩
 have c1 : -1<=c:=by omega
 have c9:c<=9:=by omega
 have wc:IntKind.i64.wrap (aroundL level 11-1)=c:=by rw [wrap_id (by omega) (by omega)];exact hc
 have hIc:I64 c:=⟨by omega,by omega⟩
 generalize aroundL level 11=ac at *
 have bn:=aroundL_bd n ((L.length:Int)+1) (by omega)
 have hAn:=Around_s n ((L.length:Int)+1) h2 ⟨by omega,by omega⟩
 have wl:IntKind.i64.wrap ((L.length:Int)+1)=(L.length:Int)+1:=wrap_id (by omega) (by omega)
 obtain ⟨N,hN⟩:∃ N:Nat,aroundL n ((L.length:Int)+1)=N:=⟨(aroundL n ((L.length:Int)+1)).toNat,by omega⟩
 rw [hN] at hAn bn
 have hNl:N<=L.length:=by omega
 obtain ⟨r1,r2,r3⟩:=run_ok hv c1 c9 hNl
 have hRun:=Run_s L c N (by omega) hIc ⟨by omega,by omega⟩
 rw [r1] at hRun
 obtain ⟨mid,off,hlv,⟨q1,q2,q3,q4⟩,q5,q6,_⟩:=true_level r2 c1 c9
 generalize runGo L c N []=A at *
 have hAb:∀ x ∈ A,I64 x:=fun x hx=>by have:=r2.rng x hx;exact ⟨by omega,by omega⟩
 have hSo:=Some_s L A (by omega) hAb
 rw [some_eq r2.nodup r2.rng] at hSo
 have hGi:=Given_s L c A r2.rng (by omega)
 have hGl:=given_len L c A
 have hLv:=Level_s L A (givenL L c A) (by omega) (by omega) (by omega)
 rw [hlv] at hLv
 generalize givenL L c A=G at hGi hLv hGl
 have w5:IntKind.i64.wrap (c-mid)=c-mid:=wrap_id (by omega) (by omega)
 have w6:IntKind.i64.wrap (mid-c)=mid-c:=wrap_id (by omega) (by omega)
 have q5':¬ off<c-mid:=by omega
 have q6':¬ off<mid-c:=by omega
 refine specC f6 (by simp) fun F0 w0=>?_
 unfold c6
 refine CwpE.cut (st:=⟨[(0,vints l),(1,vi level),(2,vi n),(3,vints more)],[]⟩) ?_ ?_
 ·simp only [go_sem]
  exact ⟨_,WkE.kp,rfl⟩
 refine CwpE.cut (st:=⟨[(0,vints l),(2,vi n),(3,vints more),(9,vi c)],[]⟩) ?_ ?_
 ·simp only [go_sem]
  refine callT hAc rfl ?_
  simp only [go_sem,wc]
  exact ⟨_,WkE.kp,rfl⟩
 refine CwpE.cut (st:=⟨[(2,vi n),(3,vints more),(9,vi c),(10,.ptr [vints L])],[.dead]⟩) ?_ ?_
 ·simp only [go_sem]
  refine callT hLe rfl ?_
  simp only [go_sem]
  refine ⟨_,(WkE.freezeS 10 0 1 1 30 [vbank L] _ (.ptr [vints L]) (by omega) rfl rfl (.ref _ _ _ _ _ _ rfl rfl fun i h1 h2=>by match i,h1 with | 0,_=>exact .tree _ rfl)).trans (WkE.keep ?_),rfl⟩
  simp only [go_sem];try trivial
 refine CwpE.cut (st:=⟨[(3,vints more),(9,vi c),(10,.ptr [vints L]),(11,vints A),(12,vi 0)],[.dead]⟩) ?_ ?_
 ·simp only [go_sem,List.length_map,wl]
  refine callT hAn rfl ?_
  simp only [go_sem]
  refine callT hRun rfl ?_
  simp only [go_sem]
  exact ⟨_,WkE.kp,rfl⟩
 refine CwpE.cut (st:=⟨[(3,vints more),(9,vi c),(10,.ptr [vints L]),(11,vints A)],[.dead]⟩) ?_ ?_
 ·simp only [go_sem]
  refine callT hSo rfl ?_
  simp only [go_sem,List.length_map]
  exact ⟨_,WkE.kp,rfl⟩
 refine CwpE.cut (st:=⟨[(3,vints more),(9,vi c),(13,vi mid),(14,vi off),(15,vi 0)],[.dead]⟩) ?_ ?_
 ·simp only [go_sem]
  refine callT hGi rfl ?_
  simp only [go_sem]
  refine callT hLv rfl ?_
  simp only [go_sem]
  exact ⟨_,WkE.kp,rfl⟩
 refine CwpE.cut (st:=⟨[(3,vints more),(9,vi c)],[.dead]⟩) ?_ ?_
 ·simp only [go_sem,w5,w6,q5',q6']
  exact ⟨_,WkE.kp,rfl⟩
 clear hlv hLv hGi hGl hSo hAb hRun r1 r2 r3 hAn bn wl hLe hv q1 q2 q3 q4 q5 q6 w5 w6 q5' q6' hlen hNl hN
 refine CwpE.cut (st:=⟨[(3,vints more),(9,vi c),(16,.own 1 0 0 0)],[.dead,.arr 0 1 3 []]⟩) ?_ ?_
 ·simp only [go_sem]
  exact ⟨_,(WkE.nil 16 1 3 (by omega) rfl).trans (WkE.kp),rfl⟩
 have hr:=atL_bd more 0 10 (by omega)
 have hAt:=At_s more 0 10 hm ⟨by omega,by omega⟩
 generalize atL more 0 10=r at hr hAt
 refine CwpE.step (fun s=>s=⟨[(3,vints more),(9,vi c),(16,.own 1 10 0 10)],[.dead,.arr 10 1 3 ((bank10 r).map vi)]⟩) ?_ ?_
 ·simp only [go_sem]
  refine loopX 0 (fun m s=>∃ k:Nat,m=10-k/\k<=10/\s=⟨[(3,vints more),(9,vi c),(16,.own 1 k 0 k),(17,vi k)],[.dead,.arr k 1 3 ((f10K r k).map vi)]⟩)
   (fun s=>s=⟨[(3,vints more),(9,vi c),(16,.own 1 10 0 10)],[.dead,.arr 10 1 3 ((bank10 r).map vi)]⟩) 10 ⟨[(3,vints more),(9,vi c),(16,.own 1 0 0 0),(17,vi (0:Nat))],[.dead,.arr 0 1 3 []]⟩ (WkE.kp) ⟨0,rfl,by omega,rfl⟩ ?_ ?_
  rotate_left
  ·rintro s rfl
   simp only [go_sem]
   exact ⟨_,.refl _ _,rfl⟩
  rintro m s ⟨k,rfl,hk,rfl⟩
  have hlk:((f10K r k).map vi).length=k:=by rw [List.length_map,f10K_len]
  by_cases hlt:k<10
  rotate_left
  ·obtain rfl:k=10:=by omega
   have e10:((10:Nat):Int)=10:=rfl
   rw [e10]
   simp only [go_sem,Int.lt_irrefl]
   exact ⟨⟨[(3,vints more),(9,vi c),(16,.own 1 10 0 10)],[.dead,.arr 10 1 3 ((bank10 r).map vi)]⟩,WkE.kp,rfl⟩
  have g1:(k:Int)<10:=by omega
  have w1:=wrap_s k (by omega)
  have w2:IntKind.i64.wrap ((k:Int)*3)=(k:Int)*3:=wrap_id (by omega) (by omega)
  have w3:IntKind.i64.wrap ((k:Int)*3+r)=(k:Int)*3+r:=wrap_id (by omega) (by omega)
  have w4:((k:Int)*3+r).tmod 10=((k:Int)*3+r) % 10:=Int.tmod_eq_emod_of_nonneg (by omega)
  have w5:IntKind.i64.wrap (((k:Int)*3+r) % 10)=((k:Int)*3+r) % 10:=wrap_id (by omega) (by omega)
  have z10:¬ (10:Int)=0:=by omega
  have qa:(k+1)*8<=140737488355328:=by omega
  have hst:=f10K_step r k
  have hap:(f10K r k).map vi++[vi (((k:Int)*3+r) % 10)]=(f10K r (k+1)).map vi:=by rw [hst];simp
  simp only [go_sem,g1,w2]
  refine callF hAt (.cons (.tree _ rfl) (.cons (.tree _ rfl) (.cons (.tree _ rfl) .nil))) rfl ?_
  simp only [go_sem,hlk,qa,w1,w3,w4,z10]
  rw [hap]
  exact ⟨10-(k+1),_,by omega,WkE.kp,k+1,rfl,by omega,rfl⟩
 rintro _ rfl
 refine CwpE.step (fun s=>∃ e:List Int,(∀ x ∈ e,0<=x/\x<=9)/\e.length<=11/\s=⟨[(9,vi c),(16,.own 1 (10+e.length) 0 (10+e.length))],[.dead,.arr (10+e.length) 1 3 ((bank10 r++e).map vi)]⟩) ?_ ?_
 ·simp only [go_sem]
  refine loopX 2 (fun m s=>∃ (k:Nat) (e:List Int),m=12-k/\1<=k/\k<=12/\(∀ x ∈ e,0<=x/\x<=9)/\e.length+1=k/\s=⟨[(3,vints more),(9,vi c),(16,.own 1 (10+e.length) 0 (10+e.length)),(18,vi k)],[.dead,.arr (10+e.length) 1 3 ((bank10 r++e).map vi)]⟩)
   (fun s=>∃ e:List Int,(∀ x ∈ e,0<=x/\x<=9)/\e.length<=11/\s=⟨[(9,vi c),(16,.own 1 (10+e.length) 0 (10+e.length))],[.dead,.arr (10+e.length) 1 3 ((bank10 r++e).map vi)]⟩) 11 ⟨[(3,vints more),(9,vi c),(16,.own 1 10 0 10),(18,vi (1:Nat))],[.dead,.arr 10 1 3 ((bank10 r).map vi)]⟩ (WkE.kp) ⟨1,[],rfl,by omega,by omega,by simp,rfl,by simp⟩ ?_ ?_
  rotate_left
  ·rintro s ⟨e,h1,h2,rfl⟩
   simp only [go_sem]
   exact ⟨_,.refl _ _,e,h1,h2,rfl⟩
  rintro m s ⟨k,e,rfl,k1,k2,he,hel,rfl⟩
  have exit:∀ env,Agree env [(9,vi c),(16,.own 1 (10+e.length) 0 (10+e.length))]->∃ s',WkE 157 ⟨env,[.dead,.arr (10+e.length) 1 3 ((bank10 r++e).map vi)]⟩ s'/\∃ e:List Int,(∀ x ∈ e,0<=x/\x<=9)/\e.length<=11/\s'=⟨[(9,vi c),(16,.own 1 (10+e.length) 0 (10+e.length))],[.dead,.arr (10+e.length) 1 3 ((bank10 r++e).map vi)]⟩ :=
   fun env h=>⟨_,WkE.keep h,e,he,by omega,rfl⟩
  by_cases g1:k<more.length
  rotate_left
  ·have g1':¬ (k:Int)<(more.length:Int):=by omega
   simp only [go_sem,g1',List.length_map]
   exact exit _ (by simp only [go_sem];try trivial)
  have g1':(k:Int)<(more.length:Int):=by omega
  by_cases g2:k<12
  rotate_left
  ·have g2':¬ (k:Int)<12:=by omega
   simp only [go_sem,g1',g2',List.length_map]
   exact exit _ (by simp only [go_sem];try trivial)
  have g2':(k:Int)<12:=by omega
  have k0:(0:Int)<=(k:Int):=by omega
  have w1:=wrap_s k (by omega)
  have hmk:=mget g1
  have hAr:=Around_s more[k] 10 (hm _ (List.getElem_mem g1)) ⟨by omega,by omega⟩
  have bAr:=aroundL_bd more[k] 10 (by omega)
  generalize more[k]=x at hmk hAr bAr
  generalize aroundL x 10=y at hAr bAr
  have hlk:((bank10 r++e).map vi).length=10+e.length:=by simp [bank10]
  have hap:(bank10 r++e).map vi++[vi y]=(bank10 r++(e++[y])).map vi:=by simp
  have qa:(10+e.length+1)*8<=140737488355328:=by omega
  have hel2:10+e.length+1=10+(e++[y]).length:=by simp;omega
  simp only [go_sem,g1',g2',k0,hmk,List.length_map]
  refine callF hAr (.cons (.tree _ rfl) (.cons (.tree _ rfl) .nil)) rfl ?_
  simp only [go_sem,hlk,qa,w1]
  rw [hap,hel2]
  refine ⟨12-(k+1),_,by omega,WkE.kp,k+1,e++[y],rfl,by omega,by omega,fun z hz=>?_,by simp;omega,rfl⟩
  rcases List.mem_append.1 hz with hz | hz
  ·exact he z hz
  ·obtain rfl:=List.mem_singleton.1 hz;omega
 rintro _ ⟨e,he,hel,rfl⟩
 have hFl:(bank10 r++e).length=10+e.length:=by simp [bank10]
 have hFv:=valid_f10 hr.1 hel he
 have hFe:=each_f10 hr.1 hr.2 e
 generalize bank10 r++e=F at hFl hFv hFe
 obtain ⟨K,hK⟩:∃ K,10+e.length=K:=⟨_,rfl⟩
 rw [hK] at hFl
 rw [hK]
 have hKb:K<=21:=by omega
 have hK4:4<=F.length:=by omega
 clear he hel hK e hAt hr
 refine CwpE.wk (s':=⟨[(9,vi c),(16,vints F)],[.dead,.dead]⟩) ((WkE.freezeS 16 1 K 1 3 (F.map vi) (.own 1 K 0 K) (vints F) (by omega) rfl rfl (snapInts 1 K F rfl hFl.symm)).trans (WkE.kp)) ?_
 obtain ⟨r1,r2,r3⟩:=run_ok (N:=4) hFv c1 c9 hK4
 have hRun:=Run_s F c 4 (by omega) hIc ⟨by omega,by omega⟩
 have r1':RunM F c 4=(runGo F c 4 [],0):=r1
 rw [r1'] at hRun
 obtain ⟨mid,off,hlv,_,_,_,hex⟩:=true_level r2 c1 c9
 obtain ⟨rfl,rfl⟩:=hex (four hFe hFv hK4 c1 c9)
 generalize runGo F mid 4 []=A at *
 have hAb:∀ x ∈ A,I64 x:=fun x hx=>by have:=r2.rng x hx;exact ⟨by omega,by omega⟩
 have hSo:=Some_s F A (by omega) hAb
 rw [some_eq r2.nodup r2.rng] at hSo
 have hGi:=Given_s F mid A r2.rng (by omega)
 have hGl:=given_len F mid A
 have hLv:=Level_s F A (givenL F mid A) (by omega) (by omega) (by omega)
 rw [hlv] at hLv
 generalize givenL F mid A=G at hGi hLv hGl
 have a4:((A.length:Int)=4)=True:=eq_true (by omega)
 refine CwpE.cut (st:=⟨[(9,vi mid),(16,vints F),(19,vints A),(20,vi 0)],[.dead,.dead]⟩) ?_ ?_
 ·simp only [go_sem]
  refine callT hRun rfl ?_
  simp only [go_sem]
  exact ⟨_,WkE.kp,rfl⟩
 refine CwpE.cut (st:=⟨[(9,vi mid),(16,vints F),(19,vints A)],[.dead,.dead]⟩) ?_ ?_
 ·simp only [go_sem,List.length_map,a4]
  refine callT hSo rfl ?_
  simp only [go_sem,List.length_map,a4]
  exact ⟨_,WkE.kp,rfl⟩
 refine CwpE.cut (st:=⟨[(9,vi mid),(13,vi mid),(14,vi 0),(15,vi 0)],[.dead,.dead]⟩) ?_ ?_
 ·simp only [go_sem]
  refine callT hGi rfl ?_
  simp only [go_sem]
  refine callT hLv rfl ?_
  simp only [go_sem]
  exact ⟨_,WkE.kp,rfl⟩
 refine CwpE.vc ?_
 simp only [go_sem]
 refine callT lives_s rfl ?_
 simp only [go_sem]
 exact .tree _ rfl
end Go.Proofs.Ytdadmhahbeehhaa
