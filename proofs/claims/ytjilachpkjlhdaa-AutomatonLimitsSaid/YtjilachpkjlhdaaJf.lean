/- Lemmas used by all laws. -/
import Derived.Test.YtjilachpkjlhdaaJa
import Derived.Test.YtjilachpkjlhdaaJb
import Derived.Test.YtjilachpkjlhdaaJc
import Derived.Test.YtjilachpkjlhdaaJd
import Derived.Test.YtjilachpkjlhdaaJe
set_option linter.unusedSimpArgs false
set_option linter.unusedVariables false
set_option linter.unusedSectionVars false
set_option maxRecDepth 100000
namespace Go.Proofs.Ytjilachpkjlhdaa
open Go.RowKit Dak P5
set_option maxHeartbeats 2000000 in
theorem alive_s (gr:Gr) (h0:GrOk gr) (hn2:gr.acc.length<=257) (hm:(auOf gr).ed.length<=100000):Ctr Try.prog 82 [vau (auOf gr)] (vbools (liveM gr)):=by
 obtain ⟨a,ha⟩:∃ a,auOf gr=a:=⟨_,rfl⟩
 have hacc:gr.acc=a.acc:=by rw [<-ha];rfl
 obtain ⟨s,hsa⟩:∃ s,s=a.acc:=⟨_,rfl⟩
 have hs:s.length=a.acc.length:=by rw [hsa]
 have hcs:=live_is gr
 rw [hacc,<-hsa,hs] at hcs
 have hn1:=h0.n
 rw [hacc] at hn1 hn2
 have hmem:∀ {e:Edg},e ∈ a.ed ↔ ∃ i x:Nat,i<a.acc.length/\x<gr.sy/\¬ gto gr i x<0/\e=((i:Int),(x:Int),gto gr i x):=fun {e}=>by rw [<-ha,mem_auOf h0];exact Iff.rfl
 have hed:∀ e ∈ a.ed,(0<=e.1/\e.1<a.acc.length)/\(0<=e.2.2/\e.2.2<a.acc.length):=fun e he=>by
  obtain ⟨i,x,hi,_,hx,rfl⟩:=hmem.1 he
  have:=h0.hi i x
  rw [hacc] at this
  exact ⟨⟨by simp,by simpa using hi⟩,by simp only;omega,by simp only;omega⟩
 have hrr:∀ e ∈ a.ed,rrel gr e.2.2.toNat e.1.toNat=true:=fun e he=>by
  obtain ⟨i,x,hi,_,hx,rfl⟩:=hmem.1 he
  exact rrel_iff.2 ⟨x,by simp only [Int.toNat_natCast];omega⟩
 have closed:∀ t:List Bool,t.length=a.acc.length->(∀ i,bt s i=true->bt t i=true)->(∀ i,bt t i=true->bt (liveM gr) i=true)->(∀ e ∈ a.ed,bt t e.2.2.toNat=true->bt t e.1.toNat=true)->t=liveM gr:=fun t htl hsub hsnd hcl=>by
  refine bt_ext (by rw [htl,hcs.len]) fun j _=>⟨hsnd j,fun hj=>?_⟩
  refine hcs.least (fun j=>bt t j=true) hsub (fun i j hi hr _ hjn=>?_) j hj
  obtain ⟨x,hx⟩:=rrel_iff.1 hr
  have h2:x<gr.sy:=by
   by_cases h3:x<gr.sy
   ·exact h3
   ·exfalso
    have h4:=rowAt_len h0 (i:=j) (by rw [hacc];exact hjn)
    rw [gto_row,List.getD_eq_getElem?_getD,List.getElem?_eq_none (by omega)] at hx
    simp only [Option.getD_none] at hx
    omega
  have:=hcl ((j:Int),(x:Int),gto gr j x) (hmem.2 ⟨j,x,hjn,h2,by omega,rfl⟩) (by simp only [hx,Int.toNat_natCast];exact hi)
  simpa using this
 have hsl:s.length=a.acc.length:=hs
 rw [ha] at hm ⊢
 refine specC f82 (by simp) fun F0 w0=>?_
 obtain ⟨n,hn⟩:∃ n,a.acc.length=n:=⟨_,rfl⟩
 unfold c82
 refine CwpE.cut (st:=⟨[(1,.ref 0 1 0 0)],[oB a]⟩) ?_ ?_
 ·simp only [go_sem]
  exact ⟨_,WkE.kp,rfl⟩
 refine CwpE.cut (st:=⟨[(1,.ref 0 1 0 0),(3,.own 1 0 0 0)],[oB a,.arr 0 1 4 []]⟩) ?_ ?_
 ·simp only [go_sem]
  exact ⟨_,(WkE.nil 3 1 4 (by omega) rfl).trans (WkE.kp),rfl⟩
 refine CwpE.cut (st:=⟨[(1,.ref 0 1 0 0),(3,.own 1 n 0 n)],[oB a,.arr n 1 4 (s.map vb)]⟩) ?_ ?_
 ·have q1:n*1<=140737488355328:=by omega
  have q2:(0+n)*1<=140737488355328:=by omega
  rw [hn] at hs
  simp only [go_sem,<-hsa,List.length_map,hs,q1,Nat.zero_add]
  exact ⟨_,WkE.kp,rfl⟩
 refine CwpE.step (fun z=>z=⟨[(3,.own 1 n 0 n)],[oB a,.arr n 1 4 ((liveM gr).map vb)]⟩) ?_ ?_
 rotate_left
 ·rintro _ rfl
  refine CwpE.vc ?_
  simp only [go_sem]
  refine .own 1 n 0 n 1 4 _ _ rfl (by rw [List.length_map,hcs.len];omega) (by rw [List.length_map,hcs.len,hn]) fun i hi=>?_
  simp only [Nat.zero_add,List.getElem_map]
  exact .tree _ rfl
 simp only [go_sem]
 refine loopX 0 (fun m z=>∃ (t:List Bool) (g:Bool),m=2*(n-cnt t)+g.toNat/\t.length=n/\(∀ i,bt s i=true->bt t i=true)/\(∀ i,bt t i=true->bt (liveM gr) i=true)/\(g=false->t=liveM gr)/\z=⟨[(1,.ref 0 1 0 0),(3,.own 1 n 0 n),(4,vb g)],[oB a,.arr n 1 4 (t.map vb)]⟩)
  (fun z=>z=⟨[(3,.own 1 n 0 n)],[oB a,.arr n 1 4 ((liveM gr).map vb)]⟩) (2*(n-cnt s)+1)
  ⟨[(1,.ref 0 1 0 0),(3,.own 1 n 0 n),(4,vb true)],[oB a,.arr n 1 4 (s.map vb)]⟩ (WkE.kp)
  ⟨s,true,rfl,by omega,fun _ h=>h,hcs.sub,fun h=>(by cases h),rfl⟩ ?_ ?_
 rotate_left
 ·rintro z rfl
  simp only [go_sem]
  exact ⟨_,.refl _ _,rfl⟩
 rintro m z ⟨t,g,rfl,htl,hsub,hsnd,hg,rfl⟩
 cases g with
 | false =>
  rw [hg rfl]
  simp only [go_sem]
  exact ⟨_,WkE.kp,rfl⟩
 | true =>
  simp only [go_sem]
  have hct:cnt t<=n:=by have:=cnt_le t;omega
  refine loopX 2 (fun m z=>∃ (k:Nat) (u:List Bool) (g:Bool),m=a.ed.length-k/\k<=a.ed.length/\u.length=n/\(∀ i,bt t i=true->bt u i=true)/\(∀ i,bt u i=true->bt (liveM gr) i=true) /\
   (g=true->cnt t<cnt u)/\(g=false->u=t/\∀ e ∈ a.ed.take k,bt t e.2.2.toNat=true->bt t e.1.toNat=true) /\
   z=⟨[(1,.ref 0 1 0 0),(3,.own 1 n 0 n),(4,vb g),(5,vi k)],[oB a,.arr n 1 4 (u.map vb)]⟩)
   (fun z=>∃ (u:List Bool) (g:Bool),u.length=n/\(∀ i,bt t i=true->bt u i=true)/\(∀ i,bt u i=true->bt (liveM gr) i=true)/\(g=true->cnt t<cnt u)/\(g=false->u=t/\u=liveM gr) /\
    z=⟨[(1,.ref 0 1 0 0),(3,.own 1 n 0 n),(4,vb g)],[oB a,.arr n 1 4 (u.map vb)]⟩) a.ed.length
   ⟨[(1,.ref 0 1 0 0),(3,.own 1 n 0 n),(4,vb false),(5,vi (0:Nat))],[oB a,.arr n 1 4 (t.map vb)]⟩ (WkE.kp)
   ⟨0,t,false,by omega,by omega,htl,fun _ h=>h,hsnd,fun h=>(by cases h),fun _=>⟨rfl,fun e he=>(by simp at he)⟩,rfl⟩ ?_ ?_
  rotate_left
  ·rintro z ⟨u,g,hul,h1,h2,h3,h4,rfl⟩
   simp only [go_sem]
   have hcu:cnt u<=n:=by have:=cnt_le u;omega
   refine ⟨2*(n-cnt u)+g.toNat,_,?_,.refl _ _,u,g,rfl,hul,fun i hi=>h1 i (hsub i hi),h2,fun e=>(h4 e).2,rfl⟩
   cases g with
   | true=>have:=h3 rfl;simp only [Bool.toNat_true];omega
   | false=>rw [(h4 rfl).1];simp only [Bool.toNat_false,Bool.toNat_true];omega
  rintro m z ⟨k,u,g,rfl,hk,hul,h1,h2,h3,h4,rfl⟩
  by_cases hlt:k<a.ed.length
  rotate_left
  ·have gk:¬ (k:Int)<(a.ed.length:Int):=by omega
   simp only [go_sem,gk,List.length_map]
   refine ⟨_,WkE.kp,u,g,hul,h1,h2,h3,fun e=>?_,rfl⟩
   obtain ⟨e1,e2⟩:=h4 e
   refine ⟨e1,closed u (by omega) (by rw [e1];exact hsub) h2 ?_⟩
   rw [List.take_of_length_le (by omega)] at e2
   rw [e1];exact e2
  have g1:(k:Int)<(a.ed.length:Int):=by omega
  have g0:(0:Int)<=(k:Int):=by omega
  have w1:=wrap_s k (by omega)
  have hmeme:a.ed[k] ∈ a.ed:=List.getElem_mem hlt
  have hee:=hed _ hmeme
  have hrre:=hrr _ hmeme
  have heg:=edge_get hlt
  have htk:=List.take_succ_eq_append_getElem hlt
  generalize a.ed[k]=e at hmeme hee hrre heg htk
  obtain ⟨e1,e2,e3⟩:=e
  simp only at hee hrre
  obtain ⟨p,rfl⟩:∃ p:Nat,e1=(p:Int):=⟨e1.toNat,by omega⟩
  obtain ⟨r,rfl⟩:∃ r:Nat,e3=(r:Int):=⟨e3.toNat,by omega⟩
  have p0:(0:Int)<=(p:Int):=by omega
  have p1:(p:Int)<(n:Int):=by omega
  have r0:(0:Int)<=(r:Int):=by omega
  have r1:(r:Int)<(n:Int):=by omega
  have hup:=bt_get (s:=u) (k:=p) (by omega)
  have hur:=bt_get (s:=u) (k:=r) (by omega)
  have same:¬ (bt u r=true/\bt u p=false)->∀ st,WkE 42 st ⟨[(1,.ref 0 1 0 0),(3,.own 1 n 0 n),(4,vb g),(5,vi (k+1:Nat))],[oB a,.arr n 1 4 (u.map vb)]⟩ ->
   ∃ m z,m<a.ed.length-k/\WkE 42 st z/\∃ (k':Nat) (u:List Bool) (g:Bool),m=a.ed.length-k'/\k'<=a.ed.length/\u.length=n/\(∀ i,bt t i=true->bt u i=true)/\(∀ i,bt u i=true->bt (liveM gr) i=true) /\
   (g=true->cnt t<cnt u)/\(g=false->u=t/\∀ e ∈ a.ed.take k',bt t e.2.2.toNat=true->bt t e.1.toNat=true) /\
   z=⟨[(1,.ref 0 1 0 0),(3,.own 1 n 0 n),(4,vb g),(5,vi k')],[oB a,.arr n 1 4 (u.map vb)]⟩:=by
   intro hno st hst
   refine ⟨a.ed.length-(k+1),_,by omega,hst,k+1,u,g,rfl,by omega,hul,h1,h2,h3,fun e=>⟨(h4 e).1,fun x hx hx2=>?_⟩,rfl⟩
   rw [htk] at hx
   rcases List.mem_append.1 hx with hx | hx
   ·exact (h4 e).2 x hx hx2
   ·rw [List.mem_singleton] at hx
    subst hx
    rw [<- (h4 e).1] at hx2 ⊢
    simp only [Int.toNat_natCast] at hx2 ⊢
    cases hr:bt u p with
    | true=>rfl
    | false=>exact absurd ⟨hx2,hr⟩ hno
  have inn:([oB a,AObj.arr n 1 4 (u.map vb)].all fun o=>o.innO 2)=true:=Bool.and_eq_true_iff.2 ⟨rfl,Bool.and_eq_true_iff.2 ⟨inn_map (fun _=>rfl),rfl⟩⟩
  cases b2:bt u r with
  | false =>
   rw [b2] at hur
   have hs1:=same fun h=>by rw [b2] at h;cases h.1
   simp only [go_sem,g1,g0,heg,hur,r0,r1,w1,List.length_map,Int.toNat_natCast]
   exact hs1 _ (WkE.round (by simp only [go_sem]) rfl inn rfl)
  | true =>
   rw [b2] at hur
   cases b3:bt u p with
   | true =>
    rw [b3] at hup
    have hs1:=same fun h=>by rw [b3] at h;cases h.2
    simp only [go_sem,g1,g0,heg,hup,hur,p0,p1,r0,r1,w1,List.length_map,Int.toNat_natCast]
    exact hs1 _ (WkE.round (by simp only [go_sem]) rfl inn rfl)
   | false =>
    rw [b3] at hup
    have hpb:∀ j,bt (putS u p) j=(decide (j=p) || bt u j):=fun j=>putS_bt (by omega)
    have hc:=cnt_put (s:=u) (k:=p) (by omega) b3
    have hct':cnt t<=cnt u:=cnt_sub (by omega) h1
    simp only [go_sem,g1,g0,heg,hup,hur,p0,p1,r0,r1,w1,bt_set,List.length_map,Int.toNat_natCast]
    refine ⟨a.ed.length-(k+1),⟨[(1,.ref 0 1 0 0),(3,.own 1 n 0 n),(4,vb true),(5,vi (k+1:Nat))],[oB a,.arr n 1 4 ((putS u p).map vb)]⟩,by omega,WkE.round (by simp only [go_sem]) rfl (Bool.and_eq_true_iff.2 ⟨rfl,Bool.and_eq_true_iff.2 ⟨inn_map (fun _=>rfl),rfl⟩⟩) rfl,k+1,putS u p,true,rfl,by omega,by rw [putS_len,hul],fun i hi=>by rw [hpb,h1 i hi,Bool.or_true],fun i hi=>?_,fun _=>by omega,fun h=>(by cases h),rfl⟩
    rw [hpb] at hi
    simp only [Bool.or_eq_true,decide_eq_true_eq] at hi
    rcases hi with rfl | hi
    ·simp only [Int.toNat_natCast] at hrre
     exact hcs.clo r i (h2 r b2) hrre (by omega)
    ·exact h2 i hi
theorem acceptsGo_cons {a:Au} {x:Int} {w:List Int} {s:List Bool}:acceptsGo a (x::w) s=if x<0 \/ a.sy<=x then false else acceptsGo a w (afterA a s x):=rfl
theorem int_get {l:List Int} {k:Nat} (h:k<l.length):(l.map vi)[k]? = some (vi l[k]):=by rw [List.getElem?_map,List.getElem?_eq_getElem h];rfl
theorem set_get {l:List (List Bool)} {k:Nat} (h:k<l.length):(l.map vbools)[k]? = some (vbools l[k]):=by rw [List.getElem?_map,List.getElem?_eq_getElem h];rfl
set_option maxHeartbeats 2000000 in
theorem rAccepts_s (a:Au) (hz:SzA a) (w:List Int) (hw:w.length<=100000):Ctr Try.prog 17 [vau a,vints w] (vb (acceptsM a w)):=by
 refine specC f17 (by simp) fun F0 w0=>?_
 have hval:=rValid_s a hz
 unfold c17
 refine CwpE.cut (st:=⟨[(1,vints w),(2,.ref 0 1 0 0)],[oB a]⟩) ?_ ?_
 ·simp only [go_sem]
  exact ⟨_,WkE.kp,rfl⟩
 by_cases hv:validM a=0
 rotate_left
 ·refine CwpE.step (fun _=>False) ?_ (fun _ h=>h.elim)
  have:acceptsM a w=false:=by rw [acceptsM,if_neg hv]
  rw [this]
  simp only [go_sem]
  refine callT hval rfl ?_
  simp only [go_sem,hv]
  exact .tree _ rfl
 have hres:acceptsM a w=acceptsGo a w (firstA a):=by rw [acceptsM,if_pos hv]
 rw [hres]
 have hV:=valid_VA.1 hv
 refine CwpE.cut (st:=⟨[(1,vints w),(2,.ref 0 1 0 0)],[oB a]⟩) ?_ ?_
 ·rw [hv] at hval
  simp only [go_sem]
  refine callT hval rfl ?_
  simp only [go_sem]
  exact ⟨_,WkE.kp,rfl⟩
 refine CwpE.cut (st:=⟨[(1,vints w),(2,.ref 0 1 0 0),(5,vbools (firstA a))],[oB a]⟩) ?_ ?_
 ·simp only [go_sem]
  refine callT (First_s a hV) rfl ?_
  simp only [go_sem]
  exact ⟨_,WkE.kp,rfl⟩
 refine CwpE.step (fun z=>∃ s:List Bool,s.length=a.acc.length/\acceptsGo a w (firstA a)=meets s a.acc/\z=⟨[(2,.ref 0 1 0 0),(5,vbools s)],[oB a]⟩) ?_ ?_
 rotate_left
 ·rintro _ ⟨s,hsl,hs,rfl⟩
  rw [hs]
  have hn:=hV.n
  refine CwpE.vc ?_
  simp only [go_sem]
  refine callT (accepting_s a s hsl (by omega)) rfl ?_
  simp only [go_sem]
  exact .tree _ rfl
 simp only [go_sem]
 refine loopX 0 (fun m z=>∃ (k:Nat) (s:List Bool),m=w.length-k/\k<=w.length/\s.length=a.acc.length/\acceptsGo a w (firstA a)=acceptsGo a (w.drop k) s/\z=⟨[(1,vints w),(2,.ref 0 1 0 0),(5,vbools s),(6,vi k)],[oB a]⟩)
  (fun z=>∃ s:List Bool,s.length=a.acc.length/\acceptsGo a w (firstA a)=meets s a.acc/\z=⟨[(2,.ref 0 1 0 0),(5,vbools s)],[oB a]⟩) w.length
  ⟨[(1,vints w),(2,.ref 0 1 0 0),(5,vbools (firstA a)),(6,vi (0:Nat))],[oB a]⟩ (WkE.kp) ⟨0,firstA a,by omega,by omega,firstA_len a,rfl,rfl⟩ ?_ ?_
 rotate_left
 ·rintro z ⟨s,h1,h2,rfl⟩
  simp only [go_sem]
  exact ⟨_,.refl _ _,s,h1,h2,rfl⟩
 rintro m z ⟨k,s,rfl,hk,hsl,hs,rfl⟩
 by_cases hlt:k<w.length
 rotate_left
 ·have gk:¬ (k:Int)<(w.length:Int):=by omega
  rw [List.drop_eq_nil_of_le (by omega)] at hs
  simp only [go_sem,gk,List.length_map]
  exact ⟨_,WkE.kp,s,hsl,hs,rfl⟩
 have g1:(k:Int)<(w.length:Int):=by omega
 have g0:(0:Int)<=(k:Int):=by omega
 have w1:=wrap_s k (by omega)
 have hg:=int_get hlt
 rw [List.drop_eq_getElem_cons hlt,acceptsGo_cons] at hs
 generalize w[k]=x at hg hs
 by_cases b1:x<0
 ·rw [hs,if_pos (.inl b1)]
  simp only [go_sem,g1,g0,hg,b1,List.length_map,Int.toNat_natCast]
  exact .tree _ rfl
 by_cases b2:a.sy<=x
 ·rw [hs,if_pos (.inr b2)]
  simp only [go_sem,g1,g0,hg,b1,b2,List.length_map,Int.toNat_natCast]
  exact .tree _ rfl
 rw [if_neg (by omega)] at hs
 simp only [go_sem,g1,g0,hg,b1,b2,List.length_map,Int.toNat_natCast]
 refine callT (After_s a hV s hsl x) rfl ?_
 simp only [go_sem,w1]
 exact ⟨w.length-(k+1),⟨[(1,vints w),(2,.ref 0 1 0 0),(5,vbools (afterA a s x)),(6,vi (k+1:Nat))],[oB a]⟩,by omega,WkE.kp,k+1,afterA a s x,rfl,by omega,afterA_len _ _ _,hs,rfl⟩
set_option maxHeartbeats 2000000 in
theorem Accepts_s (a:Au) (hz:SzA a) (w:List Int) (hw:w.length<=100000):Ctr Try.prog 16 [vau a,vints w] (vb (acceptsM a w)):=by
 refine specC f16 (by simp) fun F0 w0=>?_
 have hval:=Valid_s a hz
 unfold c16
 refine CwpE.cut (st:=⟨[(1,vints w),(2,.ref 0 1 0 0)],[oA a]⟩) ?_ ?_
 ·simp only [go_sem]
  exact ⟨_,WkE.kp,rfl⟩
 by_cases hv:validM a=0
 rotate_left
 ·refine CwpE.step (fun _=>False) ?_ (fun _ h=>h.elim)
  have:acceptsM a w=false:=by rw [acceptsM,if_neg hv]
  rw [this]
  simp only [go_sem]
  refine callT hval rfl ?_
  simp only [go_sem,hv]
  exact .tree _ rfl
 have hres:acceptsM a w=acceptsGo a w (firstA a):=by rw [acceptsM,if_pos hv]
 rw [hres]
 have hV:=valid_VA.1 hv
 have hn:=hV.n
 refine CwpE.cut (st:=⟨[(1,vints w),(2,.ref 0 1 0 0)],[oA a]⟩) ?_ ?_
 ·rw [hv] at hval
  simp only [go_sem]
  refine callT hval rfl ?_
  simp only [go_sem]
  exact ⟨_,WkE.kp,rfl⟩
 refine CwpE.cut (st:=⟨[(1,vints w),(2,.ref 0 1 0 0),(5,vmach a)],[oA a]⟩) ?_ ?_
 ·simp only [go_sem]
  refine callT (newMachine_s a hV) rfl ?_
  simp only [go_sem]
  exact ⟨_,WkE.kp,rfl⟩
 refine CwpE.cut (st:=⟨[(1,vints w),(2,.ref 0 1 0 0),(5,vmach a),(6,.ref 1 1 0 0)],[oA a,.arr 1 4 79 [vset (firstA a)]]⟩) ?_ ?_
 ·simp only [go_sem]
  exact ⟨_,WkE.kp,rfl⟩
 refine CwpE.step (fun z=>∃ s:List Bool,s.length=a.acc.length/\acceptsGo a w (firstA a)=meets s a.acc/\z=⟨[(5,vmach a),(6,.ref 1 1 0 0)],[oA a,.arr 1 4 79 [vset s]]⟩) ?_ ?_
 rotate_left
 ·rintro _ ⟨s,hsl,hs,rfl⟩
  rw [hs]
  refine CwpE.vc ?_
  simp only [go_sem]
  refine callT (meets_s s a.acc (by omega)) rfl ?_
  simp only [go_sem]
  exact .tree _ rfl
 simp only [go_sem,List.length_map]
 refine loopX 0 (fun m z=>∃ (k:Nat) (s:List Bool),m=w.length-k/\k<=w.length/\s.length=a.acc.length/\acceptsGo a w (firstA a)=acceptsGo a (w.drop k) s/\z=⟨[(2,.ref 0 1 0 0),(5,vmach a),(6,.ref 1 1 0 0),(18,vints w),(19,vi w.length),(20,vi k)],[oA a,.arr 1 4 79 [vset s]]⟩)
  (fun z=>∃ s:List Bool,s.length=a.acc.length/\acceptsGo a w (firstA a)=meets s a.acc/\z=⟨[(5,vmach a),(6,.ref 1 1 0 0)],[oA a,.arr 1 4 79 [vset s]]⟩) w.length
  ⟨[(2,.ref 0 1 0 0),(5,vmach a),(6,.ref 1 1 0 0),(18,vints w),(19,vi w.length),(20,vi (0:Nat))],[oA a,.arr 1 4 79 [vset (firstA a)]]⟩ (WkE.kp) ⟨0,firstA a,by omega,by omega,firstA_len a,rfl,rfl⟩ ?_ ?_
 rotate_left
 ·rintro z ⟨s,h1,h2,rfl⟩
  simp only [go_sem]
  exact ⟨_,.refl _ _,s,h1,h2,rfl⟩
 rintro m z ⟨k,s,rfl,hk,hsl,hs,rfl⟩
 by_cases hlt:k<w.length
 rotate_left
 ·have gk:¬ (k:Int)<(w.length:Int):=by omega
  rw [List.drop_eq_nil_of_le (by omega)] at hs
  simp only [go_sem,gk]
  exact ⟨_,WkE.kp,s,hsl,hs,rfl⟩
 have g1:(k:Int)<(w.length:Int):=by omega
 have g0:(0:Int)<=(k:Int):=by omega
 have w1:=wrap_s k (by omega)
 have hg:=int_get hlt
 rw [List.drop_eq_getElem_cons hlt,acceptsGo_cons] at hs
 generalize w[k]=x at hg hs
 by_cases b1:x<0
 ·rw [hs,if_pos (.inl b1)]
  simp only [go_sem,g1,g0,hg,b1,Int.toNat_natCast]
  exact .tree _ rfl
 by_cases b2:a.sy<=x
 ·rw [hs,if_pos (.inr b2)]
  simp only [go_sem,g1,g0,hg,b1,b2,Int.toNat_natCast]
  exact .tree _ rfl
 rw [if_neg (by omega)] at hs
 obtain ⟨y,rfl⟩:∃ y:Nat,x=(y:Int):=⟨x.toNat,by omega⟩
 simp only [go_sem,g1,g0,hg,b1,b2,Int.toNat_natCast]
 refine callT (after_s a hV s y (by omega)) rfl ?_
 simp only [go_sem,w1]
 exact ⟨w.length-(k+1),⟨[(2,.ref 0 1 0 0),(5,vmach a),(6,.ref 1 1 0 0),(18,vints w),(19,vi w.length),(20,vi (k+1:Nat))],[oA a,.arr 1 4 79 [vset (afterA a s (y:Int))]]⟩,by omega,WkE.kp,k+1,afterA a s (y:Int),rfl,by omega,afterA_len _ _ _,hs,rfl⟩
def findM (L:List (List Bool)) (s:List Bool):Int:=if posF L s<L.length then (posF L s:Int) else -1
theorem findM_at {L:List (List Bool)} {s:List Bool} {i:Nat} (hi:i<L.length) (h:L[i]=s) (hb:∀ j (hj:j<i),L[j]'(by omega) ≠ s):findM L s=i:=by
 have h1:posF L s<L.length:=posF_mem.2 (by rw [<-h];exact List.getElem_mem hi)
 have h2:=posF_get h1
 have h3:posF L s=i:=by
  rcases Nat.lt_trichotomy (posF L s) i with h4 | h4 | h4
  ·exact absurd h2 (hb _ h4)
  ·exact h4
  ·exfalso
   have:∀ (L:List (List Bool)) (i:Nat) (hi:i<L.length),L[i]=s->posF L s<=i:=by
    intro L
    induction L with
    | nil=>intro i hi;simp at hi
    | cons x L ih =>
     intro i hi h
     rw [posF]
     split
     ·omega
     ·cases i with
      | zero=>rename_i hx;exact absurd h hx
      | succ i=>have:=ih i (by simpa using hi) (by simpa using h);omega
   have:=this L i hi h
   omega
 rw [findM,if_pos h1,h3]
theorem findM_no {L:List (List Bool)} {s:List Bool} (h:∀ j (hj:j<L.length),L[j] ≠ s):findM L s = -1:=by
 rw [findM,if_neg]
 intro h1
 exact h _ h1 (posF_get h1)
theorem take_bt {s t:List Bool} {k:Nat} (hs:k<s.length) (ht:k<t.length) (h:s.take k=t.take k) (hb:bt s k=bt t k):s.take (k+1)=t.take (k+1):=by
 refine takeS_eq h hs ht ?_
 rw [bt,bt,List.getD_eq_getElem?_getD,List.getD_eq_getElem?_getD,List.getElem?_eq_getElem hs,List.getElem?_eq_getElem ht] at hb
 exact hb
set_option maxHeartbeats 2000000 in
theorem find_s (L:List (List Bool)) (s:List Bool) (hl:L.length<=100000) (hs:s.length<=100000) (hL:∀ t ∈ L,t.length=s.length):Ctr Try.prog 64 [vsets L,vbools s] (vi (findM L s)):=by
 refine specC f64 (by simp) fun F0 w0=>?_
 unfold c64
 refine CwpE.cut (st:=⟨[(0,vsets L),(1,vbools s)],[]⟩) ?_ ?_
 ·simp only [go_sem]
  exact ⟨_,WkE.kp,rfl⟩
 refine CwpE.vc ?_
 simp only [go_sem]
 refine loopX 0 (fun m z=>∃ i:Nat,m=L.length-i/\i<=L.length/\(∀ j (hj:j<L.length),j<i->L[j] ≠ s)/\z=⟨[(0,vsets L),(1,vbools s),(5,vi i)],[]⟩)
  (fun z=>findM L s = -1/\z=⟨[],[]⟩) L.length
  ⟨[(0,vsets L),(1,vbools s),(5,vi (0:Nat))],[]⟩ (WkE.kp) ⟨0,by omega,by omega,fun j _ h=>absurd h (by omega),rfl⟩ ?_ ?_
 rotate_left
 ·rintro z ⟨h,rfl⟩
  rw [h]
  simp only [go_sem]
  exact .tree _ rfl
 rintro m z ⟨i,rfl,hi,hne,rfl⟩
 by_cases hlt:i<L.length
 rotate_left
 ·have gk:¬ (i:Int)<(L.length:Int):=by omega
  simp only [go_sem,gk,List.length_map]
  exact ⟨⟨[],[]⟩,WkE.keep trivial,findM_no fun j hj=>hne j hj (by omega),rfl⟩
 have g1:(i:Int)<(L.length:Int):=by omega
 have g0:(0:Int)<=(i:Int):=by omega
 have w1:=wrap_s i (by omega)
 have hg:=set_get hlt
 have htl:=hL _ (List.getElem_mem hlt)
 obtain ⟨t,ht⟩:∃ t,L[i]=t:=⟨_,rfl⟩
 rw [ht] at hg htl
 simp only [go_sem,g1,List.length_map]
 refine loopX 2 (fun m z=>∃ (k:Nat) (b:Bool),m=s.length-k/\k<=s.length/\(b=true->t.take k=s.take k)/\(b=false->t ≠ s)/\z=⟨[(0,vsets L),(1,vbools s),(5,vi i),(6,vb b),(7,vi k)],[]⟩)
  (fun z=>z=⟨[(0,vsets L),(1,vbools s),(5,vi i),(6,vb (decide (t=s)))],[]⟩) s.length
  ⟨[(0,vsets L),(1,vbools s),(5,vi i),(6,vb true),(7,vi (0:Nat))],[]⟩ (WkE.kp) ⟨0,true,by omega,by omega,fun _=>rfl,fun h=>(by cases h),rfl⟩ ?_ ?_
 rotate_left
 ·rintro z rfl
  by_cases e:t=s
  ·rw [findM_at hlt (by rw [ht,e]) (fun j hj=>hne j (by omega) hj)]
   simp only [go_sem,e]
   exact .tree _ rfl
  ·simp only [go_sem,e,w1]
   refine ⟨L.length-(i+1),⟨[(0,vsets L),(1,vbools s),(5,vi (i+1:Nat))],[]⟩,by omega,WkE.kp,i+1,rfl,by omega,fun j hj hji=>?_,rfl⟩
   by_cases e2:j=i
   ·subst e2;rw [ht];exact e
   ·exact hne j hj (by omega)
 rintro m z ⟨k,b,rfl,hk,hb1,hb2,rfl⟩
 by_cases hlk:k<s.length
 rotate_left
 ·have gk:¬ (k:Int)<(s.length:Int):=by omega
  have hd:decide (t=s)=b:=by
   cases b with
   | false=>exact decide_eq_false (hb2 rfl)
   | true =>
    have:=hb1 rfl
    rw [List.take_of_length_le (by omega),List.take_of_length_le (by omega)] at this
    exact decide_eq_true this
  simp only [go_sem,gk,List.length_map]
  exact ⟨⟨[(0,vsets L),(1,vbools s),(5,vi i),(6,vb b)],[]⟩,WkE.kp,by rw [hd]⟩
 have k1:(k:Int)<(s.length:Int):=by omega
 have k0:(0:Int)<=(k:Int):=by omega
 have w2:=wrap_s k (by omega)
 cases b with
 | false =>
  have hd:decide (t=s)=false:=decide_eq_false (hb2 rfl)
  simp only [go_sem,k1,List.length_map]
  exact ⟨⟨[(0,vsets L),(1,vbools s),(5,vi i),(6,vb false)],[]⟩,WkE.kp,by rw [hd]⟩
 | true =>
  have h1:=bt_get (s:=s) (k:=k) hlk
  have h2:=bt_get (s:=t) (k:=k) (by omega)
  simp only [go_sem,g0,k1,k0,hg,h1,h2,w2,List.length_map,Int.toNat_natCast]
  refine ⟨s.length-(k+1),⟨[(0,vsets L),(1,vbools s),(5,vi i),(6,vb (bt t k == bt s k)),(7,vi (k+1:Nat))],[]⟩,by omega,WkE.kp,k+1,_,rfl,by omega,fun h=>take_bt (by omega) hlk (hb1 rfl) (by simpa using h),fun h e=>?_,rfl⟩
  rw [e] at h
  simp at h
end Go.Proofs.Ytjilachpkjlhdaa
namespace Dak
open Go Go.RowKit
variable [Globs]
variable {P : Program} {F0 : FD} {w0 : World} {n : Nat}
def BS (P:Program) (d:Nat) (e:TypeId) (size:Nat) (ps:List Operand) (csb:List COper) (K:St->Prop) (st:St):Prop :=
 (ps.all fun x=>(St.ev st.tmps x).fits && (St.ev st.tmps x).cells.length == size && (St.ev st.tmps x).isT)=true /\
  ∃ st2,Wk ⟨St.put st.tmps (some d) (.own st.objs.length ps.length 0 ps.length),st.objs++[AObj.arr ps.length size e (ps.map (St.ev st.tmps))]⟩ st2/\Rops P csb K st2
theorem rops_ok3 (ops:Array Oper) {K:St->Prop} (d:Nat) (e:TypeId) (size:Nat) (ps:List Operand) (csb:List COper) (hlt:e<2000000000) (hsz:ps.length*size<=2 ^ 24):∀ (l:List Oper) (csa:List COper) (k:Nat),(∀ j,l[j]? = ops[k+j]?)->l.mapM (compO P ops)=some (csa++⟨some d,none,.bslice e size ps⟩::csb)->∀ (st:St) (a:Act) (w:World),Sim F0 w0 st a w->Rops P csa (BS P d e size ps csb K) st ->
 wpOps P ops (Lift F0 w0 fun e st=>e = .normal/\K st) (List.range' k l.length) a w
 | [],[],k,hl,hm,st,a,w,hsim,h=>by simp at hm
 | o::l,[],k,hl,hm,st,a,w,hsim,h=>by
  simp only [List.mapM_cons,Option.bind_eq_bind,Option.bind_eq_some_iff,Option.pure_def,Option.some.injEq,List.nil_append,List.cons.injEq] at hm
  obtain ⟨c,hc,cs',hcs,rfl,rfl⟩:=hm
  have h0:ops[k]? = some o:=by simpa using (hl 0).symm
  have hl':∀ j,l[j]? = ops[k+1+j]?:=fun j=>by have:=hl (j+1);simpa [Nat.add_assoc,Nat.add_comm 1 j] using this
  simp only [List.length_cons,List.range'_succ,wpOps,h0]
  simp only [compO,Option.bind_eq_some_iff] at hc
  obtain ⟨op,hop,hc⟩:=hc
  have hg:o.guard=none:=by
   cases hg:o.guard with
   | none=>rfl
   | some q =>
    obtain ⟨j,want⟩:=q
    rw [hg] at hc
    simp only [Option.map_eq_some_iff,COper.mk.injEq] at hc
    obtain ⟨t,_,_,h2,_⟩:=hc
    cases h2
  rw [hg] at hc
  simp only [Option.some.injEq,COper.mk.injEq,true_and] at hc
  obtain ⟨hdst,rfl⟩:=hc
  have hcomp:comp1 P o=some (.bslice e size ps):=by
   rcases compB_cases hop with h | h
   ·exact h
   ·cases h
  have hw:Region.wanted o (yielded ops a.tmps)=true:=by unfold Region.wanted;rw [hg]
  rw [hw,if_pos rfl]
  obtain ⟨hall,st2,hwk,h2⟩:=h
  refine .inl (step_bsliceO (P:=P) (K:=fun st'=>∃ st2,Wk st' st2/\Rops P cs' K st2) hlt hcomp hsim hall hsz (by rw [hdst];exact ⟨st2,hwk,h2⟩) ?_)
  rintro st' a' w' ⟨st2,hwk,h2⟩ hs'
  exact rops_ok ops l cs' (k+1) hl' hcs st2 a' w' (hwk _ _ _ _ hs') h2
 | [],c::csa,k,hl,hm,st,a,w,hsim,h=>by simp at hm
 | o::l,c::csa,k,hl,hm,st,a,w,hsim,h=>by
  simp only [List.mapM_cons,Option.bind_eq_bind,Option.bind_eq_some_iff,Option.pure_def,Option.some.injEq,List.cons_append,List.cons.injEq] at hm
  obtain ⟨c,hc,cs',hcs,rfl,rfl⟩:=hm
  have h0:ops[k]? = some o:=by simpa using (hl 0).symm
  have hl':∀ j,l[j]? = ops[k+1+j]?:=fun j=>by have:=hl (j+1);simpa [Nat.add_assoc,Nat.add_comm 1 j] using this
  have ih:=rops_ok3 ops (K:=K) d e size ps csb hlt hsz l csa (k+1) hl' hcs
  simp only [List.length_cons,List.range'_succ,wpOps,h0]
  simp only [compO,Option.bind_eq_some_iff] at hc
  obtain ⟨op,hop,hc⟩:=hc
  cases hg:o.guard with
  | none =>
   rw [hg] at hc
   simp only [Option.some.injEq] at hc
   subst hc
   have hw:Region.wanted o (yielded ops a.tmps)=true:=by unfold Region.wanted;rw [hg]
   rw [hw,if_pos rfl]
   simp only [Rops] at h
   exact .inl (rstep_ok (P:=P) (c:=⟨o.dst,none,op⟩) (.ofB hop) rfl hsim h fun st' a' w' hK hs=>ih st' a' w' hs hK)
  | some q =>
   obtain ⟨j,want⟩:=q
   rw [hg] at hc
   simp only [Option.map_eq_some_iff] at hc
   obtain ⟨t,htt,rfl⟩:=hc
   simp only [Rops] at h
   split at h
   ·rename_i b hb
    have hbv:boolOf (a.tmps.getD t undef)=b:=by
     obtain ⟨hd,L,g,hs,ht⟩:=hsim
     exact gdB_ok (ev_ok (objs:=st.objs) g.gl hs ht (.tmp t)) hb
    have hw:=wanted_of hg htt hbv
    by_cases e:b=some want
    ·subst e
     rw [hw];simp only [beq_self_eq_true,if_true]
     exact .inl (rstep_ok (P:=P) (c:=⟨o.dst,some (t,want),op⟩) (.ofB hop) rfl hsim (h.1 rfl) fun st' a' w' hK hs=>ih st' a' w' hs hK)
    ·rw [hw,if_neg (by simpa using e)]
     refine ih _ _ _ ?_ (h.2 e)
     obtain ⟨hd,L,g,hs,ht⟩:=hsim
     exact sim_put hd hs ht g (.refl _ _ _) _ (.tree (.val _))
   ·exact h.elim
theorem CwpE.regionC {csa csb:List COper} {d:Nat} {e:TypeId} {size:Nat} {ps:List Operand} {Q:Exit->Est->Prop} {s:Est} (hd:d<n) (hsz:ps.length*size<=2 ^ 24)
 (h:RopsE P n csa (fun s1=>(ps.all fun x=>(evE s1.env x).fits && (evE s1.env x).cells.length == size && (evE s1.env x).isT)=true /\
  ∃ s2,WkE n ⟨putE s1.env (some d) (.own s1.objs.length ps.length 0 ps.length),s1.objs++[AObj.arr ps.length size e (ps.map (evE s1.env))]⟩ s2/\RopsE P n csb (Q .normal) s2) s) (hlt:e<2000000000:=by decide):CwpE P F0 w0 n (.region (csa++⟨some d,none,.bslice e size ps⟩::csb)) Q s:=by
 intro hk F1 w1 m r rn code hc hro a w hs
 cases code with
 | region id ops dr =>
  cases dr with
  | false =>
   simp only [compC,Option.map_eq_some_iff,CCode.region.injEq] at hc
   obtain ⟨cs',hcs,rfl⟩:=hc
   refine wpIn_mono (wpIn_region (ops_in (calm_of hcs) lift_in _ _ _ ?_)) (Q:=Lift F1 w1 fun e st=>e = .normal/\LiftE n (Q .normal) st) ?_
   ·have:=rops_ok3 (F0:=F1) (w0:=w1) (K:=LiftE n (Q .normal)) ops d e size ps csb hlt hsz ops.toList csa 0 (fun j=>by simp) hcs (s.toSt n) a w hs ?_
    ·rw [<-List.range_eq_range'] at this
     simpa using this
    ·have h1:=ropsE_ok (P:=P) csa s hk h
     refine vc_mono (F0:=F0) (w0:=w0) (.region csa) (Q:=fun _=>LiftE n (fun s1=>(ps.all fun x=>(evE s1.env x).fits && (evE s1.env x).cells.length == size && (evE s1.env x).isT)=true /\
      ∃ s2,WkE n ⟨putE s1.env (some d) (.own s1.objs.length ps.length 0 ps.length),s1.objs++[AObj.arr ps.length size e (ps.map (evE s1.env))]⟩ s2/\RopsE P n csb (Q .normal) s2)) (Q':=fun _ st1=>BS P d e size ps csb (LiftE n (Q .normal)) st1) _ ?_ h1
     rintro _ st ⟨s1,⟨hall,s2,hwk,h2⟩,hk1,rfl⟩
     have hk':KeysOk n (putE s1.env (some d) (.own s1.objs.length ps.length 0 ps.length)):=keys_put hk1 (show okD n (some d) from hd) _
     refine ⟨?_,s2.toSt n,?_,ropsE_ok _ _ (hwk hk').1 h2⟩
     ·simp only [Est.toSt,ev_toT hk1];exact hall
     ·have:=(hwk hk').2
      simp only [Est.toSt,ev_toT hk1] at this ⊢
      rw [put_toT (show okD n (some d) from hd)]
      exact this
   ·rintro e a' w' ⟨st',⟨rfl,hq⟩,hs'⟩;exact .mk hq hs'
  | true=>rcases compC_reg hc with ⟨h,_⟩ | ⟨_,_,h⟩ | ⟨_,_,_,h⟩ <;> cases h
 | _=>simp [compC,Option.bind_eq_some_iff] at hc
end Dak
namespace P5
section
variable {K : Type} [DecidableEq K]
theorem rowGo_snoc (next:Nat->Option K) (x:Nat):∀ (xs:List Nat) (l:List K),rowGo next (xs++[x]) l=match next x with
  | none=>((rowGo next xs l).1++[-1],(rowGo next xs l).2)
  | some t=>((rowGo next xs l).1++[((posF (rowGo next xs l).2 t:Nat):Int)],addK (rowGo next xs l).2 t)
 | [],l=>by
  show rowGo next [x] l=_
  rw [rowGo,rowGo,rowGo]
  cases next x with
  | none=>rfl
  | some t=>rfl
 | y::xs,l=>by
  rw [List.cons_append,rowGo,rowGo]
  cases hy:next y with
  | none =>
   simp only
   rw [rowGo_snoc next x xs l]
   cases next x with
   | none=>rfl
   | some t=>rfl
  | some u =>
   simp only
   rw [rowGo_snoc next x xs (addK l u)]
   cases next x with
   | none=>rfl
   | some t=>rfl
theorem rowGo_range (next:Nat->Option K) (x:Nat) (l:List K):rowGo next (List.range (x+1)) l=match next x with
  | none=>((rowGo next (List.range x) l).1++[-1],(rowGo next (List.range x) l).2)
  | some t=>((rowGo next (List.range x) l).1++[((posF (rowGo next (List.range x) l).2 t:Nat):Int)],addK (rowGo next (List.range x) l).2 t):=by
 rw [List.range_succ,rowGo_snoc]
theorem rowGo_app (next:Nat->Option K):∀ (xs ys:List Nat) (l:List K),(rowGo next (xs++ys) l).2=(rowGo next ys (rowGo next xs l).2).2
 | [],_,_=>rfl
 | x::xs,ys,l=>by
  rw [List.cons_append,rowGo,rowGo]
  cases next x with
  | none=>exact rowGo_app next xs ys l
  | some t=>exact rowGo_app next xs ys _
theorem rowGo_part (next:Nat->Option K) {x sy:Nat} (h:x<=sy) (l:List K):(rowGo next (List.range x) l).2 <+: (rowGo next (List.range sy) l).2:=by
 have e:List.range sy=List.range x++(List.range (sy-x)).map (x+·):=by
  rw [<-List.range_add];congr 1;omega
 rw [e,rowGo_app]
 exact rowGo_pre next _ _
theorem rowGo_all (next:Nat->Option K) (p:K->Prop) (hn:∀ x t,next x=some t->p t):∀ (xs:List Nat) (l:List K),(∀ k ∈ l,p k)->∀ k ∈ (rowGo next xs l).2,p k
 | [],_,h=>h
 | x::xs,l,h=>by
  rw [rowGo]
  cases hx:next x with
  | none=>exact rowGo_all next p hn xs l h
  | some t =>
   refine rowGo_all next p hn xs _ fun k hk=>?_
   unfold addK at hk
   split at hk
   ·exact h k hk
   ·rcases List.mem_append.1 hk with hk | hk
    ·exact h k hk
    ·rw [List.mem_singleton.1 hk];exact hn x t hx
theorem addK_len_le (l:List K) (t:K):l.length<=(addK l t).length/\(addK l t).length<=l.length+1:=by
 unfold addK
 split <;> simp
theorem bfsGo_step {M sy f:Nat} {next:K->Nat->Option K} {l:List K} {rows:List (List Int)} (h:rows.length<l.length):bfsGo M next sy (f+1) l rows=if M<(rowGo (next l[rows.length]) (List.range sy) l).2.length then none else bfsGo M next sy f (rowGo (next l[rows.length]) (List.range sy) l).2 (rows++[(rowGo (next l[rows.length]) (List.range sy) l).1]):=by
 rw [bfsGo,dif_pos h]
theorem bfsGo_end {M sy:Nat} {next:K->Nat->Option K} {l:List K} {rows:List (List Int)} (h:¬ rows.length<l.length) (f:Nat):bfsGo M next sy f l rows=some (l,rows):=by
 cases f with
 | zero=>rfl
 | succ f=>rw [bfsGo,dif_neg h]
end
end P5
namespace Go.Proofs.Ytjilachpkjlhdaa
open Go.RowKit Dak P5
abbrev vae (r:Au × Int):AV:=.tup [vau r.1,vi r.2]
def resB {K:Type} (y:Nat) (acc:K->Bool):Option (List K × List (List Int))->Au × Int
 | none=>(nilA,4)
 | some r=>(⟨y,r.1.map acc,edAll 0 r.2⟩,0)
theorem findM_pos (L:List (List Bool)) (t:List Bool):(findM L t<0/\t ∉ L/\posF L t=L.length) \/ (findM L t=posF L t/\posF L t<L.length):=by
 unfold findM
 by_cases h:posF L t<L.length
 ·rw [if_pos h];exact .inr ⟨rfl,h⟩
 ·rw [if_neg h]
  have h1:t ∉ L:=fun h'=>h (posF_mem.2 h')
  exact .inl ⟨by omega,h1,posF_new h1⟩
def objsS (o0:AObj) (et sz:Nat) (sy:Int) (L:List AV) (A:List Bool) (E:List Edg):List AObj :=
 [o0,.arr 1 3 26 [.agg [vi 0,.val (.slice none 0 0),.val (.slice none 0 0)]],.arr L.length sz et L,.arr 1 3 26 [.agg [vi sy,.own 4 A.length 0 A.length,.own 5 E.length 0 E.length]],.arr A.length 1 4 (A.map vb),.arr E.length 3 71 (E.map vedge)]
theorem objsS_eq (o0:AObj) (et sz:Nat) (sy:Int) (L:List AV) (A:List Bool) (E:List Edg):objsS o0 et sz sy L A E =
 [o0,.arr 1 3 26 [.agg [vi 0,.val (.slice none 0 0),.val (.slice none 0 0)]],.arr L.length sz et L,.arr 1 3 26 [.agg [vi sy,.own 4 A.length 0 A.length,.own 5 E.length 0 E.length]],.arr A.length 1 4 (A.map vb),.arr E.length 3 71 (E.map vedge)]:=rfl
theorem objsS_snap (sy:Int) (A:List Bool) (E:List Edg) (objs:List AObj) (p q:Nat) (hp:p=A.length) (hq:q=E.length) (h4:objs[4]? = some (.arr p 1 4 (A.map vb))) (h5:objs[5]? = some (.arr q 3 71 (E.map vedge))) :
 Snap objs (.agg [vi sy,.own 4 p 0 p,.own 5 q 0 q]) (vau ⟨sy,A,E⟩):=by
 subst hp hq
 refine .agg _ _ rfl fun i h1 h2=>?_
 match i,h1,h2 with
 | 0,_,_=>exact .tree _ rfl
 | 1,_,_ =>
  refine .own 4 A.length 0 A.length 1 4 _ _ h4 (by simp) (by simp) fun q hq=>?_
  simp only [Nat.zero_add]
  exact .tree _ (List.all_eq_true.1 (isT_map (fun _=>rfl) _) _ (List.getElem_mem _))
 | 2,_,_ =>
  refine .own 5 E.length 0 E.length 3 71 _ _ h5 (by simp) (by simp) fun q hq=>?_
  simp only [Nat.zero_add]
  exact .tree _ (List.all_eq_true.1 (isT_map (fun _=>rfl) _) _ (List.getElem_mem _))
theorem snap_tup2 {objs:List AObj} {a b c d:AV} (h:Snap objs a b) (k:Snap objs c d):Snap objs (.tup [a,c]) (.tup [b,d]):=by
 refine .tup _ _ rfl fun i h1 h2=>?_
 match i,h1,h2 with
 | 0,_,_=>exact h
 | 1,_,_=>exact k
theorem nil_snap {objs:List AObj}:Snap objs (.agg [vi 0,.val (.slice none 0 0),.val (.slice none 0 0)]) (vau nilA):=by
 refine .agg _ _ rfl fun i h1 h2=>?_
 match i,h1,h2 with
 | 0,_,_=>exact .tree _ rfl
 | 1,_,_=>exact .nil 1
 | 2,_,_=>exact .nil 3
theorem edRow_len (i:Int):∀ (r:List Int) (x:Nat),(edRow i x r).length<=r.length
 | [],_=>Nat.le_refl _
 | t::r,x=>by
  rw [edRow]
  have:=edRow_len i r (x+1)
  split <;> simp only [List.length_cons] <;> omega
theorem edAll_len {m:Nat}:∀ (rs:List (List Int)) (i:Nat),(∀ r ∈ rs,r.length<=m)->(edAll i rs).length<=rs.length*m
 | [],_,_=>by simp [edAll]
 | r::rs,i,h=>by
  rw [edAll,List.length_append,List.length_cons,Nat.add_mul,Nat.one_mul]
  have h1:=edAll_len rs (i+1) (fun r hr=>h r (by simp [hr]))
  have h2:=edRow_len (i:Int) r 0
  have h3:=h r (by simp)
  omega
set_option maxHeartbeats 4000000 in
theorem Sets_s (a:Au) (hv:VA a):Ctr Try.prog 51 [vau a] (vae (resB a.sy.toNat (fun s=>meets s a.acc) (bfs 256 (nextA a) a.sy.toNat (firstA a)))):=by
 obtain ⟨⟨hsy1,hsy2⟩,⟨hn1,hn2⟩,hm,hed⟩:=id hv
 refine specC f51 (by simp) fun F0 w0=>?_
 obtain ⟨n,hn⟩:∃ n,a.acc.length=n:=⟨_,rfl⟩
 obtain ⟨y,hy⟩:∃ y:Nat,a.sy=(y:Int):=⟨a.sy.toNat,by omega⟩
 have hyT:a.sy.toNat=y:=by omega
 obtain ⟨B,hB⟩:∃ B,bfs 256 (nextA a) y (firstA a)=B:=⟨_,rfl⟩
 rw [hyT,hB]
 unfold c51
 refine CwpE.cut (st:=⟨[(1,.ref 0 1 0 0),(2,.ref 1 1 0 0)],[oB a,.arr 1 3 26 [.agg [vi 0,.val (.slice none 0 0),.val (.slice none 0 0)]]]⟩) ?_ ?_
 ·simp only [go_sem]
  exact ⟨_,WkE.kp,rfl⟩
 refine CwpE.seqJ (fun st=>st=⟨[(1,.ref 0 1 0 0),(2,.ref 1 1 0 0),(4,.own 2 1 0 1)],[oB a,.arr 1 3 26 [.agg [vi 0,.val (.slice none 0 0),.val (.slice none 0 0)]],.arr 1 1 23 [vbools (firstA a)]]⟩) ?_ ?_
 ·refine CwpE.regionC (csa:=[⟨some 11,none,.load true 3 (T 1)⟩,⟨some 12,none,.call (.func 44) [T 11]⟩]) (csb:=[⟨some 4,none,.mov (T 13)⟩]) (by omega) (by decide) ?_
  simp only [go_sem]
  refine callT (First_s a hv) rfl ?_
  simp only [go_sem]
  refine ⟨_,WkE.keep (env':=[(1,.ref 0 1 0 0),(2,.ref 1 1 0 0),(13,.own 2 1 0 1)]) (by simp only [go_sem];try rfl),?_⟩
  simp only [go_sem]
  exact ⟨_,WkE.kp,rfl⟩
 rintro _ rfl
 refine CwpE.cut (st:=⟨[(1,.ref 0 1 0 0),(2,.ref 1 1 0 0),(4,.own 2 1 0 1),(5,.ref 3 1 0 0)],objsS (oB a) 23 1 a.sy ([firstA a].map vbools) [] []⟩) ?_ ?_
 ·simp only [go_sem]
  refine ⟨_,(WkE.nilCell 3 1 3 0 1 1 4 26 _ (.agg [vi a.sy,.val (.slice none 0 0),.val (.slice none 0 0)]) rfl rfl rfl).trans ((WkE.nilCell 3 1 3 0 2 3 71 26 _ (.agg [vi a.sy,.own 4 0 0 0,.val (.slice none 0 0)]) rfl rfl rfl).trans (WkE.kp)),rfl⟩
 refine CwpE.step (fun z=>∃ (L:List (List Bool)) (rows:List (List Int)),B=some (L,rows)/\z=⟨[(2,.ref 1 1 0 0),(5,.ref 3 1 0 0)],objsS (oB a) 23 1 a.sy (L.map vbools) (L.map fun s=>meets s a.acc) (edAll 0 rows)⟩) ?_ ?_
 rotate_left
 ·rintro _ ⟨L,rows,hBs,rfl⟩
  rw [hBs]
  refine CwpE.vc ?_
  have hres:resB y (fun s=>meets s a.acc) (some (L,rows))=(⟨a.sy,L.map fun s=>meets s a.acc,edAll 0 rows⟩,0):=by rw [hy];rfl
  rw [hres]
  rw [objsS_eq]
  simp only [go_sem]
  exact snap_tup2 (objsS_snap a.sy _ _ _ L.length (edAll 0 rows).length (by simp) rfl rfl rfl) (.tree _ rfl)
 simp only [go_sem]
 have hB0:B=bfsGo 256 (nextA a) y 257 [firstA a] []:=by rw [<-hB];rfl
 have ha3:∀ L:List (List Bool),(∀ t ∈ L,t.length=n)->∀ k ∈ L,k.length=a.acc.length:=fun L h k hk=>by rw [hn];exact h k hk
 refine loopX 0 (fun m z=>∃ (i:Nat) (L:List (List Bool)) (rows:List (List Int)),m=257-i/\rows.length=i/\i<=L.length/\L.length<=256/\(∀ t ∈ L,t.length=n)/\(∀ r ∈ rows,r.length=y)/\B=bfsGo 256 (nextA a) y (257-i) L rows /\
  z=⟨[(1,.ref 0 1 0 0),(2,.ref 1 1 0 0),(4,.own 2 L.length 0 L.length),(5,.ref 3 1 0 0),(6,vi i)],objsS (oB a) 23 1 a.sy (L.map vbools) ((L.take i).map fun s=>meets s a.acc) (edAll 0 rows)⟩)
  (fun z=>∃ (L:List (List Bool)) (rows:List (List Int)),B=some (L,rows)/\z=⟨[(2,.ref 1 1 0 0),(5,.ref 3 1 0 0)],objsS (oB a) 23 1 a.sy (L.map vbools) (L.map fun s=>meets s a.acc) (edAll 0 rows)⟩) 257
  ⟨[(1,.ref 0 1 0 0),(2,.ref 1 1 0 0),(4,.own 2 1 0 1),(5,.ref 3 1 0 0),(6,vi (0:Nat))],objsS (oB a) 23 1 a.sy ([firstA a].map vbools) [] []⟩ (WkE.kp)
  ⟨0,[firstA a],[],rfl,rfl,by simp,by simp,fun t ht=>by rw [List.mem_singleton.1 ht,firstA_len,hn],fun r hr=>by simp at hr,hB0,rfl⟩ ?_ ?_
 rotate_left
 ·rintro z ⟨L,rows,h1,rfl⟩
  simp only [go_sem]
  exact ⟨_,.refl _ _,L,rows,h1,rfl⟩
 rintro m z ⟨i,L,rows,rfl,hri,hiL,hL,hLn,hrl,hBi,rfl⟩
 by_cases hlt:i<L.length
 rotate_left
 ·have gk:¬ (i:Int)<(L.length:Int):=by omega
  rw [bfsGo_end (by omega)] at hBi
  rw [objsS_eq]
  simp only [go_sem,gk,List.length_map]
  refine ⟨⟨[(2,.ref 1 1 0 0),(5,.ref 3 1 0 0)],objsS (oB a) 23 1 a.sy (L.map vbools) (L.map fun s=>meets s a.acc) (edAll 0 rows)⟩,?_,L,rows,hBi,rfl⟩
  rw [List.take_of_length_le (by omega),objsS_eq]
  simp only [List.length_map]
  exact WkE.kp
 have hf:257-i=(257-(i+1))+1:=by omega
 rw [hf,bfsGo_step (by omega)] at hBi
 have hnx:nextA a L[rows.length]=nextA a L[i]:=by simp only [hri]
 rw [hnx] at hBi
 have g1:(i:Int)<(L.length:Int):=by omega
 have g0:(0:Int)<=(i:Int):=by omega
 have wi:=wrap_s i (by omega)
 have hLi:=set_get hlt
 have hLin:=hLn _ (List.getElem_mem hlt)
 have hedl:=edAll_len rows 0 (m:=y) (fun r hr=>Nat.le_of_eq (hrl r hr))
 have hedb:(edAll 0 rows).length<=16384:=Nat.le_trans hedl (Nat.le_trans (Nat.mul_le_mul (show rows.length<=256 by omega) (show y<=64 by omega)) (by omega))
 have hacc:=accepting_s a L[i] (by omega) (by omega)
 have hAl:((L.take i).map fun s=>meets s a.acc).length=i:=by simp;omega
 have hA1:((L.take i).map fun s=>meets s a.acc)++[meets L[i] a.acc]=(L.take (i+1)).map fun s=>meets s a.acc:=by
  rw [List.take_succ_eq_append_getElem hlt,List.map_append];rfl
 have qa:(i+1)*1<=140737488355328:=by omega
 obtain ⟨nx,hnxe⟩:∃ nx,nextA a L[i]=nx:=⟨_,rfl⟩
 rw [hnxe] at hBi
 have nxv:∀ x,nx x=if anyA a L[i] (x:Int) then some (afterA a L[i] (x:Int)) else none:=fun x=>by rw [<-hnxe];rfl
 have nxn:∀ x t,nx x=some t->t.length=n:=fun x t h=>by
  rw [nxv] at h
  split at h
  ·rw [<-Option.some.inj h,afterA_len,hn]
  ·cases h
 have hpart:∀ x,x<=y->((rowGo nx (List.range x) L).2).length<=((rowGo nx (List.range y) L).2).length:=fun x hx=>(rowGo_part nx hx L).length_le
 have hkeep:∀ x (h:i<((rowGo nx (List.range x) L).2).length),((rowGo nx (List.range x) L).2)[i]=L[i]:=fun x h=>((rowGo_pre nx (List.range x) L).getElem hlt).symm
 have hLxn:∀ x,∀ t ∈ (rowGo nx (List.range x) L).2,t.length=n:=fun x=>rowGo_all nx (fun t=>t.length=n) nxn _ _ hLn
 generalize hq:L[i]=q at hLi hLin hacc hA1 nxv hkeep
 rw [objsS_eq]
 simp only [go_sem,g1,g0,hLi,List.length_map,hAl,Int.toNat_natCast]
 refine callT hacc rfl ?_
 simp only [go_sem,hAl,qa]
 have hAe:((L.take i).map fun s=>meets s a.acc).map vb++[vb (meets q a.acc)]=((L.take (i+1)).map fun s=>meets s a.acc).map vb:=by
  rw [<-hA1,List.map_append];rfl
 have hAl1:((L.take (i+1)).map fun s=>meets s a.acc).length=i+1:=by simp;omega
 rw [hAe]
 obtain ⟨A1,hA1e⟩:∃ A1,((L.take (i+1)).map fun s=>meets s a.acc)=A1:=⟨_,rfl⟩
 rw [hA1e] at hAl1 ⊢
 obtain ⟨E0,hE0⟩:∃ E0,edAll 0 rows=E0:=⟨_,rfl⟩
 rw [hE0] at hedb ⊢
 refine loopX 2 (fun m z=>∃ x:Nat,m=y-x/\x<=y/\((rowGo nx (List.range x) L).2).length<=256 /\
  z=⟨[(1,.ref 0 1 0 0),(2,.ref 1 1 0 0),(4,.own 2 ((rowGo nx (List.range x) L).2).length 0 ((rowGo nx (List.range x) L).2).length),(5,.ref 3 1 0 0),(6,vi i),(7,vi x)],objsS (oB a) 23 1 a.sy (((rowGo nx (List.range x) L).2).map vbools) A1 (E0++edRow (i:Int) 0 (rowGo nx (List.range x) L).1)⟩)
  (fun z=>((rowGo nx (List.range y) L).2).length<=256 /\
   z=⟨[(1,.ref 0 1 0 0),(2,.ref 1 1 0 0),(4,.own 2 ((rowGo nx (List.range y) L).2).length 0 ((rowGo nx (List.range y) L).2).length),(5,.ref 3 1 0 0),(6,vi i)],objsS (oB a) 23 1 a.sy (((rowGo nx (List.range y) L).2).map vbools) A1 (E0++edRow (i:Int) 0 (rowGo nx (List.range y) L).1)⟩) y
  ⟨[(1,.ref 0 1 0 0),(2,.ref 1 1 0 0),(4,.own 2 L.length 0 L.length),(5,.ref 3 1 0 0),(6,vi i),(7,vi (0:Nat))],objsS (oB a) 23 1 a.sy (L.map vbools) A1 (E0++edRow (i:Int) 0 [])⟩ ?_ ⟨0,by omega,by omega,hL,rfl⟩ ?_ ?_
 ·have e0:E0++edRow (i:Int) 0 []=E0:=by rw [edRow,List.append_nil]
  rw [e0,objsS_eq]
  simp only [List.length_map,hAl1]
  exact WkE.kp
 rotate_left
 ·rintro z ⟨h256,rfl⟩
  simp only [go_sem,wi]
  refine ⟨257-(i+1),⟨[(1,.ref 0 1 0 0),(2,.ref 1 1 0 0),(4,.own 2 ((rowGo nx (List.range y) L).2).length 0 ((rowGo nx (List.range y) L).2).length),(5,.ref 3 1 0 0),(6,vi (i+1:Nat))],objsS (oB a) 23 1 a.sy (((rowGo nx (List.range y) L).2).map vbools) A1 (E0++edRow (i:Int) 0 (rowGo nx (List.range y) L).1)⟩,by omega,WkE.kp,i+1,(rowGo nx (List.range y) L).2,rows++[(rowGo nx (List.range y) L).1],rfl,by simp [hri],?_,h256,hLxn y,?_,?_,?_⟩
  ·have:=(rowGo_pre nx (List.range y) L).length_le;omega
  ·intro r hr
   rcases List.mem_append.1 hr with hr | hr
   ·exact hrl r hr
   ·rw [List.mem_singleton.1 hr,rowGo_len,List.length_range]
  ·rw [hBi,if_neg (by omega)]
  ·have e1:edAll 0 (rows++[(rowGo nx (List.range y) L).1])=E0++edRow (i:Int) 0 (rowGo nx (List.range y) L).1:=by rw [edAll_snoc,hE0,hri,Nat.zero_add]
   have e2:((rowGo nx (List.range y) L).2.take (i+1)).map (fun s=>meets s a.acc)=A1:=by
    obtain ⟨r,hr⟩:=rowGo_pre nx (List.range y) L
    rw [<-hr,List.take_append_of_le_length (by omega),hA1e]
   rw [e1,e2]
 rintro m z ⟨x,rfl,hx,hL256,rfl⟩
 by_cases hxy:x<y
 rotate_left
 ·obtain rfl:x=y:=by omega
  have gk:¬ (x:Int)<a.sy:=by omega
  rw [objsS_eq]
  simp only [go_sem,gk]
  refine ⟨⟨[(1,.ref 0 1 0 0),(2,.ref 1 1 0 0),(4,.own 2 ((rowGo nx (List.range x) L).2).length 0 ((rowGo nx (List.range x) L).2).length),(5,.ref 3 1 0 0),(6,vi i)],objsS (oB a) 23 1 a.sy (((rowGo nx (List.range x) L).2).map vbools) A1 (E0++edRow (i:Int) 0 (rowGo nx (List.range x) L).1)⟩,?_,hL256,by rw [objsS_eq];simp only [List.length_map,List.length_append]⟩
  rw [objsS_eq]
  simp only [List.length_map,List.length_append]
  exact WkE.kp
 have hp1:=hpart (x+1) (by omega)
 have hlenx:L.length<=((rowGo nx (List.range x) L).2).length:=(rowGo_pre nx (List.range x) L).length_le
 have hrx:((rowGo nx (List.range x) L).1).length=x:=by rw [rowGo_len,List.length_range]
 have hee:=edRow_len (i:Int) (rowGo nx (List.range x) L).1 0
 have hrr:=rowGo_range nx x L
 have hkx:=hkeep x (by omega)
 have hnx':=hLxn x
 obtain ⟨Lx,hLx⟩:∃ Lx,(rowGo nx (List.range x) L).2=Lx:=⟨_,rfl⟩
 obtain ⟨rx,hrxe⟩:∃ rx,(rowGo nx (List.range x) L).1=rx:=⟨_,rfl⟩
 have hnx2:=nxv x
 obtain ⟨L1,hL1⟩:∃ L1,(rowGo nx (List.range (x+1)) L).2=L1:=⟨_,rfl⟩
 obtain ⟨r1,hr1⟩:∃ r1,(rowGo nx (List.range (x+1)) L).1=r1:=⟨_,rfl⟩
 simp only [hLx,hrxe,hL1] at hp1 hlenx hrx hee hrr hkx hnx' hL256 ⊢
 have gx:(x:Int)<a.sy:=by omega
 have wx:=wrap_s x (by omega)
 have gi:(i:Int)<(Lx.length:Int):=by omega
 have hLxi:(Lx.map vbools)[i]? = some (vbools q):=by rw [set_get (by omega),hkx]
 have hAf:=After_s a hv q (by omega) (x:Int)
 have hel:(E0++edRow (i:Int) 0 rx).length<=16384+64:=by rw [List.length_append];omega
 obtain ⟨E1,hE1⟩:∃ E1,E0++edRow (i:Int) 0 rx=E1:=⟨_,rfl⟩
 rw [hE1] at hel
 rw [hE1,objsS_eq (oB a) 23 1 a.sy (Lx.map vbools) A1 E1]
 simp only [go_sem,gx,gi,g0,hLxi,List.length_map,Int.toNat_natCast]
 refine callT hAf rfl ?_
 have fin:∀ (st:Est) (L2:List (List Bool)) (r2:List Int),L1=L2->r1=r2->L2.length<=256->WkE 77 st ⟨[(1,.ref 0 1 0 0),(2,.ref 1 1 0 0),(4,.own 2 L2.length 0 L2.length),(5,.ref 3 1 0 0),(6,vi i),(7,vi (x+1:Nat))],objsS (oB a) 23 1 a.sy (L2.map vbools) A1 (E0++edRow (i:Int) 0 r2)⟩ ->
  ∃ m s',m<y-x/\WkE 77 st s'/\∃ x:Nat,m=y-x/\x<=y/\((rowGo nx (List.range x) L).2).length<=256 /\
  s'=⟨[(1,.ref 0 1 0 0),(2,.ref 1 1 0 0),(4,.own 2 ((rowGo nx (List.range x) L).2).length 0 ((rowGo nx (List.range x) L).2).length),(5,.ref 3 1 0 0),(6,vi i),(7,vi x)],objsS (oB a) 23 1 a.sy (((rowGo nx (List.range x) L).2).map vbools) A1 (E0++edRow (i:Int) 0 (rowGo nx (List.range x) L).1)⟩:=by
  rintro st L2 r2 rfl rfl h256 hst
  exact ⟨y-(x+1),_,by omega,hst,x+1,rfl,by omega,by rw [hL1];exact h256,by rw [hL1,hr1]⟩
 cases hany:anyA a q (x:Int) with
 | false =>
  rw [hany] at hnx2
  simp only [Bool.false_eq_true,if_false] at hnx2
  rw [hnx2] at hrr
  simp only [hL1,hr1,Prod.ext_iff] at hrr
  simp only [go_sem,wx]
  have e1:edRow (i:Int) 0 (rx++[-1])=edRow (i:Int) 0 rx:=by rw [edRow_snoc,if_pos (by omega),List.append_nil]
  refine fin _ Lx (rx++[-1]) hrr.2 hrr.1 hL256 ?_
  rw [e1,hE1,objsS_eq]
  simp only [List.length_map]
  exact WkE.kp
 | true =>
  rw [hany] at hnx2
  simp only [if_true] at hnx2
  obtain ⟨t,ht⟩:∃ t,afterA a q (x:Int)=t:=⟨_,rfl⟩
  have htl:t.length=n:=by rw [<-ht,afterA_len,hn]
  rw [ht] at hnx2 ⊢
  rw [hnx2] at hrr
  simp only [hL1,hr1,Prod.ext_iff] at hrr
  have e1:∀ p:Nat,edRow (i:Int) 0 (rx++[(p:Int)])=edRow (i:Int) 0 rx++[((i:Int),(x:Int),(p:Int))]:=fun p=>by
   rw [edRow_snoc,if_neg (by omega),Nat.zero_add,hrx]
  have hfd:=find_s Lx t (by omega) (by omega) (fun s hs=>by rw [hnx' s hs,htl])
  have qe:(E1.length+1)*24<=140737488355328:=by omega
  have hE2:∀ p:Nat,E0++edRow (i:Int) 0 (rx++[(p:Int)])=E1++[((i:Int),(x:Int),(p:Int))]:=fun p=>by rw [e1,<-List.append_assoc,hE1]
  simp only [go_sem]
  refine callF hfd (.cons (.own 2 Lx.length 0 Lx.length 1 23 (Lx.map vbools) (Lx.map vbools) rfl (by simp) (by simp) fun q hq=>by
   simp only [Nat.zero_add]
   exact .tree _ (List.all_eq_true.1 (isT_map (fun _=>rfl) _) _ (List.getElem_mem _))) (.cons (.tree _ rfl) .nil)) rfl ?_
  rcases findM_pos Lx t with ⟨hf1,hf2,hf3⟩ | ⟨hf1,hf2⟩
  ·have hk1:addK Lx t=Lx++[t]:=by rw [addK,if_neg (by omega)]
   rw [hk1,hf3] at hrr
   have ql:(Lx.length+1)*24<=140737488355328:=by omega
   have hm1:Lx.map vbools++[vbools t]=(Lx++[t]).map vbools:=by rw [List.map_append];rfl
   by_cases h256:256<(Lx.length+1)
   ·have hBn:B=none:=by
     rw [hBi,if_pos]
     rw [hrr.2] at hp1
     simp only [List.length_append,List.length_singleton] at hp1
     omega
    have g256:(256:Int)<((Lx.length+1:Nat):Int):=by omega
    rw [hBn]
    simp only [go_sem,hf1,ql,g256]
    exact snap_tup2 nil_snap (.tree _ rfl)
   ·have g256:¬ (256:Int)<((Lx.length+1:Nat):Int):=by omega
    simp only [go_sem,hf1,ql,g256,qe,wx]
    refine fin _ (Lx++[t]) (rx++[(Lx.length:Int)]) hrr.2 hrr.1 (by simp;omega) ?_
    rw [hE2,objsS_eq]
    simp only [List.length_map,List.length_append,List.length_singleton,List.map_append,List.map_cons,List.map_nil]
    exact WkE.kp
  ·have hk1:addK Lx t=Lx:=by rw [addK,if_pos hf2]
   rw [hk1] at hrr
   have hnl:¬ ((posF Lx t:Nat):Int)<0:=by omega
   have g256:¬ (256:Int)<(Lx.length:Int):=by omega
   rw [hf1]
   simp only [go_sem,hnl,g256,qe,wx]
   refine fin _ Lx (rx++[(posF Lx t:Int)]) hrr.2 hrr.1 hL256 ?_
   rw [hE2,objsS_eq]
   simp only [List.length_map,List.length_append,List.length_singleton,List.map_append,List.map_cons,List.map_nil]
   exact WkE.kp
structure DetA (a:Au) (n y:Nat):Prop where
 hn:a.acc.length=n
 hy:a.sy=(y:Int)
 nb:n<=1000
 yb:y<=1000
 m:a.ed.length<=100000
 ed:∀ e ∈ a.ed,(0<=e.1/\e.1<n)/\(0<=e.2.1/\e.2.1<y)
abbrev orow (y:Nat) (r:List Int):AObj:=.arr y 1 3 (r.map vi)
abbrev objsT (a:Au) (n:Nat) (M:List AV) (R:List AObj):List AObj:=[oB a,.arr n 1 22 M]++R
theorem map_rep (y:Nat) (v:Int):(List.replicate y v).map vi=rg y fun _=>vi v:=by rw [List.map_replicate,rg_rep]
set_option maxHeartbeats 4000000 in
theorem table_s (a:Au) (n y:Nat) (h:DetA a n y):Ctr Try.prog 71 [vau a] (vrows (tabM a)):=by
 obtain ⟨hn,hy,hnb,hyb,hm,hed⟩:=h
 refine specC f71 (by simp) fun F0 w0=>?_
 have hyT:a.sy.toNat=y:=by omega
 have htab:tabM a=tabGo (tab0 n y) a.ed:=by rw [tabM,hn,hyT]
 rw [htab]
 unfold c71
 refine CwpE.cut (st:=⟨[(1,.ref 0 1 0 0)],[oB a]⟩) ?_ ?_
 ·simp only [go_sem]
  exact ⟨_,WkE.kp,rfl⟩
 have q0:(0:Int)<=(n:Int):=by omega
 have q2:((24:Nat):Int)*(n:Int)<=281474976710656:=by omega
 have q3:(n:Int)<=9223372036854775807:=by omega
 have y0:(0:Int)<=a.sy:=by omega
 have y2:((8:Nat):Int)*a.sy<=281474976710656:=by omega
 have y3:a.sy<=9223372036854775807:=by omega
 obtain ⟨Mk,hMk⟩:∃ Mk:Nat->List AV,Mk=fun k=>rg n fun q=>if q<k then .own (q+2) y 0 y else nilV:=⟨_,rfl⟩
 obtain ⟨Rk,hRk⟩:∃ Rk:Nat->List AObj,Rk=fun k=>rg k fun _=>orow y (List.replicate y (-1)):=⟨_,rfl⟩
 have hM0:(rg n fun _=>nilV)=Mk 0:=by rw [hMk];exact rg_congr fun q _=>by rw [if_neg (by omega)]
 have hR0:([]:List AObj)=Rk 0:=by rw [hRk];rfl
 refine CwpE.cut (st:=⟨[(1,.ref 0 1 0 0),(3,.own 1 n 0 n)],objsT a n (Mk 0) (Rk 0)⟩) ?_ ?_
 ·rw [<-hM0,<-hR0]
  simp only [go_sem,List.length_map,hn,q0,q2,q3,Int.le_refl,Int.toNat_natCast,rg_rep]
  exact ⟨_,WkE.kp,rfl⟩
 refine CwpE.step (fun z=>z=⟨[(1,.ref 0 1 0 0),(3,.own 1 n 0 n)],objsT a n (Mk n) (Rk n)⟩) ?_ ?_
 ·simp only [go_sem]
  refine loopX 0 (fun m z=>∃ i:Nat,m=n-i/\i<=n/\z=⟨[(1,.ref 0 1 0 0),(3,.own 1 n 0 n),(4,vi i)],objsT a n (Mk i) (Rk i)⟩)
   (fun z=>z=⟨[(1,.ref 0 1 0 0),(3,.own 1 n 0 n)],objsT a n (Mk n) (Rk n)⟩) n
   ⟨[(1,.ref 0 1 0 0),(3,.own 1 n 0 n),(4,vi (0:Nat))],objsT a n (Mk 0) (Rk 0)⟩ (WkE.kp) ⟨0,by omega,by omega,rfl⟩ ?_ ?_
  rotate_left
  ·rintro z rfl
   simp only [go_sem]
   exact ⟨_,.refl _ _,rfl⟩
  rintro m z ⟨i,rfl,hi,rfl⟩
  by_cases hlt:i<n
  rotate_left
  ·obtain rfl:i=n:=by omega
   simp only [go_sem,Int.lt_irrefl]
   exact ⟨_,WkE.kp,rfl⟩
  have g1:(i:Int)<(n:Int):=by omega
  have g0:(0:Int)<=(i:Int):=by omega
  have wi:=wrap_s i (by omega)
  have hMg:(Mk i)[i]? = some nilV:=by rw [hMk];simp only;rw [rg_get hlt,if_neg (by omega)]
  have hMn:(Mk i).set i (.own (i+2) y 0 y)=Mk (i+1):=by
   rw [hMk]
   simp only
   rw [rg_set]
   refine rg_congr fun p _=>?_
   by_cases h:p=i
   ·rw [if_pos h,if_pos (by omega),h]
   ·rw [if_neg h]
    by_cases h2:p<i
    ·rw [if_pos h2,if_pos (by omega)]
    ·rw [if_neg h2,if_neg (by omega)]
  have hRn:Rk i++[orow y (List.replicate y (-1))]=Rk (i+1):=by
   rw [hRk]
   simp only
   rw [rg_succ]
  have hRl:(Rk i).length=i:=by rw [hRk];exact rg_len _ _
  obtain ⟨M1,hM1⟩:∃ M1,Mk (i+1)=M1:=⟨_,rfl⟩
  obtain ⟨R1,hR1⟩:∃ R1,Rk (i+1)=R1:=⟨_,rfl⟩
  rw [hM1] at hMn
  rw [hR1] at hRn
  have hM1g:M1[i]? = some (.own (i+2) y 0 y):=by rw [<-hMn,List.getElem?_set_self];have:=(List.getElem?_eq_some_iff.1 hMg).1;exact this
  generalize Mk i=M at hMg hMn ⊢
  generalize Rk i=R at hRn hRl ⊢
  have hR2:∀ o,(R++[o])[i]? = some o:=fun o=>by rw [<-hRl];simp
  have hRs:∀ o x,(R++[o]).set i x=R++[x]:=fun o x=>by rw [<-hRl];simp
  simp only [go_sem,g1,g0,hMg,y0,y2,y3,hyT,hRl,hR2,Int.le_refl,Int.toNat_natCast,rg_rep]
  obtain ⟨D,hD⟩:∃ D:Nat->Nat->AV,D=fun x p=>if p<x then vi (-1) else vi 0:=⟨_,rfl⟩
  refine loopX 2 (fun m z=>∃ x:Nat,m=y-x/\x<=y/\z=⟨[(1,.ref 0 1 0 0),(3,.own 1 n 0 n),(4,vi i),(5,vi x)],objsT a n M1 (R++[.arr y 1 3 (rg y (D x))])⟩)
   (fun z=>z=⟨[(1,.ref 0 1 0 0),(3,.own 1 n 0 n),(4,vi i)],objsT a n M1 (R++[.arr y 1 3 (rg y (D y))])⟩) y
   ⟨[(1,.ref 0 1 0 0),(3,.own 1 n 0 n),(4,vi i),(5,vi (0:Nat))],objsT a n M1 (R++[.arr y 1 3 (rg y (D 0))])⟩ ?_ ⟨0,by omega,by omega,rfl⟩ ?_ ?_
  ·have e:rg y (D 0)=rg y fun _=>vi 0:=rg_congr fun p _=>by rw [hD];simp only;rw [if_neg (by omega)]
   rw [e,<-hMn]
   exact WkE.kp
  rotate_left
  ·rintro z rfl
   have e:(.arr y 1 3 (rg y (D y)):AObj)=orow y (List.replicate y (-1)):=by
    rw [orow,map_rep]
    congr 1
    exact rg_congr fun p hp=>by rw [hD];simp only;rw [if_pos hp]
   rw [e,hRn]
   simp only [go_sem,wi]
   exact ⟨n-(i+1),⟨[(1,.ref 0 1 0 0),(3,.own 1 n 0 n),(4,vi (i+1:Nat))],objsT a n M1 R1⟩,by omega,WkE.kp,i+1,rfl,by omega,by rw [hM1,hR1];rfl⟩
  rintro m z ⟨x,rfl,hx,rfl⟩
  by_cases hxy:x<y
  rotate_left
  ·obtain rfl:x=y:=by omega
   have gk:¬ (x:Int)<a.sy:=by omega
   simp only [go_sem,gk]
   exact ⟨_,WkE.kp,rfl⟩
  have gx:(x:Int)<a.sy:=by omega
  have gx0:(0:Int)<=(x:Int):=by omega
  have gx1:(x:Int)<(y:Int):=by omega
  have wx:=wrap_s x (by omega)
  have hDx:(rg y (D x))[x]? = some (D x x):=rg_get hxy _
  have hDv:D x x=vi 0:=by rw [hD];simp
  rw [hDv] at hDx
  have hDs:(rg y (D x)).set x (vi (-1))=rg y (D (x+1)):=by
   rw [rg_set]
   refine rg_congr fun p _=>?_
   rw [hD]
   simp only
   by_cases h:p=x
   ·rw [if_pos h,if_pos (by omega)]
   ·rw [if_neg h]
    by_cases h2:p<x
    ·rw [if_pos h2,if_pos (by omega)]
    ·rw [if_neg h2,if_neg (by omega)]
  simp only [go_sem,gx,gx0,gx1,g0,g1,hM1g,hR2,hRs,hDx,hDs,wx,Int.toNat_natCast]
  exact ⟨y-(x+1),⟨[(1,.ref 0 1 0 0),(3,.own 1 n 0 n),(4,vi i),(5,vi (x+1:Nat))],objsT a n M1 (R++[.arr y 1 3 (rg y (D (x+1)))])⟩,by omega,WkE.kp,x+1,rfl,by omega,rfl⟩
 rintro _ rfl
 obtain ⟨Mf,hMf⟩:∃ Mf,(rg n fun q=>AV.own (q+2) y 0 y)=Mf:=⟨_,rfl⟩
 have hMe:Mk n=Mf:=by rw [hMk,<-hMf];exact rg_congr fun q hq=>by rw [if_pos hq]
 have hMq:∀ q,q<n->Mf[q]? = some (.own (q+2) y 0 y):=fun q hq=>by rw [<-hMf,rg_get hq]
 have hMl:Mf.length=n:=by rw [<-hMf,rg_len]
 obtain ⟨T,hT⟩:∃ T:Nat->List (List Int),T=fun k=>tabGo (tab0 n y) (a.ed.take k):=⟨_,rfl⟩
 have hTok:∀ k,TabOk (T k) n y:=fun k=>by
  rw [hT]
  exact tabGo_ok (tab0_ok n y) fun e he=>by have:=hed e (List.mem_of_mem_take he);omega
 have hRe:Rk n=(T 0).map (orow y):=by
  rw [hRk,hT]
  simp only [List.take_zero,tabGo,tab0,List.map_replicate]
  exact (rg_rep n _).symm
 rw [hMe,hRe]
 have hTn:∀ k (hk:k<a.ed.length),T (k+1)=setT (T k) a.ed[k].1.toNat a.ed[k].2.1.toNat a.ed[k].2.2:=fun k hk=>by
  rw [hT]
  simp only
  rw [List.take_succ_eq_append_getElem hk]
  have:∀ (l:List Edg) (t:List (List Int)) (e:Edg),tabGo t (l++[e])=setT (tabGo t l) e.1.toNat e.2.1.toNat e.2.2:=by
   intro l
   induction l with
   | nil=>intro t e;rfl
   | cons x l ih=>intro t e;exact ih _ _
  exact this _ _ _
 refine CwpE.step (fun z=>z=⟨[(3,.own 1 n 0 n)],objsT a n Mf ((T a.ed.length).map (orow y))⟩) ?_ ?_
 ·simp only [go_sem]
  refine loopX 4 (fun m z=>∃ k:Nat,m=a.ed.length-k/\k<=a.ed.length/\z=⟨[(1,.ref 0 1 0 0),(3,.own 1 n 0 n),(6,vi k)],objsT a n Mf ((T k).map (orow y))⟩)
   (fun z=>z=⟨[(3,.own 1 n 0 n)],objsT a n Mf ((T a.ed.length).map (orow y))⟩) a.ed.length
   ⟨[(1,.ref 0 1 0 0),(3,.own 1 n 0 n),(6,vi (0:Nat))],objsT a n Mf ((T 0).map (orow y))⟩ (WkE.kp) ⟨0,by omega,by omega,rfl⟩ ?_ ?_
  rotate_left
  ·rintro z rfl
   simp only [go_sem]
   exact ⟨_,.refl _ _,rfl⟩
  rintro m z ⟨k,rfl,hk,rfl⟩
  by_cases hlt:k<a.ed.length
  rotate_left
  ·obtain rfl:k=a.ed.length:=by omega
   simp only [go_sem,Int.lt_irrefl,List.length_map]
   exact ⟨_,WkE.kp,rfl⟩
  have g1:(k:Int)<(a.ed.length:Int):=by omega
  have g0:(0:Int)<=(k:Int):=by omega
  have w1:=wrap_s k (by omega)
  have hee:=hed _ (List.getElem_mem hlt)
  have heg:=edge_get hlt
  have htn:=hTn k hlt
  generalize a.ed[k]=e at hee heg htn
  obtain ⟨e1,e2,e3⟩:=e
  simp only at hee htn
  obtain ⟨p,rfl⟩:∃ p:Nat,e1=(p:Int):=⟨e1.toNat,by omega⟩
  obtain ⟨x,rfl⟩:∃ x:Nat,e2=(x:Int):=⟨e2.toNat,by omega⟩
  simp only [Int.toNat_natCast] at htn
  have hpn:p<n:=by omega
  have hxy:x<y:=by omega
  have p0:(0:Int)<=(p:Int):=by omega
  have p1:(p:Int)<(n:Int):=by omega
  have x0:(0:Int)<=(x:Int):=by omega
  have x1:(x:Int)<(y:Int):=by omega
  have hok:=hTok k
  obtain ⟨t1,ht1⟩:∃ t1,T (k+1)=t1:=⟨_,rfl⟩
  rw [ht1] at htn
  generalize T k=t at htn hok ⊢
  have hrow:t[p]? = some (t.getD p []):=by
   rw [List.getD_eq_getElem?_getD,List.getElem?_eq_getElem (by rw [hok.len];exact hpn)];rfl
  have hrl:=hok.getD hpn
  obtain ⟨row,hrw⟩:∃ row,t.getD p []=row:=⟨_,rfl⟩
  rw [hrw] at hrow hrl
  have htn':t1=t.set p (row.set x e3):=by rw [htn,setT,hrw]
  have hRp:(t.map (orow y))[p]? = some (orow y row):=by rw [List.getElem?_map,hrow];rfl
  have hrx:∃ v,(row.map vi)[x]? = some (vi v):=⟨_,int_get (by omega)⟩
  obtain ⟨v,hrx⟩:=hrx
  have hRs:(t.map (orow y)).set p (.arr y 1 3 ((row.map vi).set x (vi e3)))=t1.map (orow y):=by
   rw [htn',List.map_set,orow,List.map_set]
  simp only [go_sem,g1,g0,heg,hMq p hpn,hRp,hrx,hRs,p0,p1,x0,x1,w1,List.length_map,Int.toNat_natCast]
  exact ⟨a.ed.length-(k+1),⟨[(1,.ref 0 1 0 0),(3,.own 1 n 0 n),(6,vi (k+1:Nat))],objsT a n Mf (t1.map (orow y))⟩,by omega,WkE.kp,k+1,rfl,by omega,by rw [ht1];rfl⟩
 rintro _ rfl
 have hfin:T a.ed.length=tabGo (tab0 n y) a.ed:=by rw [hT];simp only;rw [List.take_length]
 have hok:=hTok a.ed.length
 rw [<-hfin]
 generalize T a.ed.length=t at hok ⊢
 refine CwpE.vc ?_
 simp only [go_sem]
 refine .own 1 n 0 n 1 22 Mf _ rfl (by omega) (by rw [List.length_map,hok.len]) fun q hq=>?_
 rw [List.length_map,hok.len] at hq
 have e1:Mf[0+q]'(by omega) = .own (q+2) y 0 y:=by
  have:=hMq q hq
  rw [List.getElem?_eq_getElem (by omega)] at this
  simpa using Option.some.inj this
 have hqt:q<t.length:=by rw [hok.len];exact hq
 have hrl:=hok.row _ (List.getElem_mem hqt)
 rw [e1,List.getElem_map]
 refine .own (q+2) y 0 y 1 3 (t[q].map vi) _ ?_ (by simp [hrl]) (by simp [hrl]) fun x hx=>?_
 ·simp only [List.getElem?_cons_succ]
  rw [List.getElem?_map,List.getElem?_eq_getElem hqt];rfl
 ·simp only [Nat.zero_add]
  exact .tree _ (List.all_eq_true.1 (isT_map (fun _=>rfl) _) _ (List.getElem_mem _))
def kx (g:Gr) (c:List Int) (i x:Nat):Int:=if gto g i x<0 then -1 else cg c (gto g i x).toNat
theorem key_eq {g:Gr} (h:GrOk g) {c:List Int} {i j:Nat} (hi:i<g.acc.length) (hj:j<g.acc.length):keyM g c i=keyM g c j ↔ cg c i=cg c j/\∀ x,x<g.sy->kx g c i x=kx g c j x:=by
 unfold keyM
 rw [List.cons_eq_cons]
 constructor
 ·rintro ⟨h1,h2⟩
  refine ⟨h1,fun x hx=>?_⟩
  have e:∀ i,i<g.acc.length->((P5.rowAt g i).map fun t=>if t<0 then -1 else cg c t.toNat)[x]? = some (kx g c i x):=fun i hi=>by
   have hl:=rowAt_len h hi
   rw [List.getElem?_map,List.getElem?_eq_getElem (by omega),rowAt_get];rfl
  have:=e i hi
  rw [h2,e j hj] at this
  exact (Option.some.inj this).symm
 ·rintro ⟨h1,h2⟩
  refine ⟨h1,List.ext_getElem (by simp [rowAt_len h hi,rowAt_len h hj]) fun x hx hx2=>?_⟩
  rw [List.length_map,rowAt_len h hi] at hx
  simp only [List.getElem_map,rowAt_get]
  exact h2 x hx
theorem row_get {g:Gr} (h:GrOk g) {i:Nat} (hi:i<g.acc.length):(g.to.map vints)[i]? = some (vints (P5.rowAt g i)):=by
 have hi2:i<g.to.length:=by rw [h.len];exact hi
 rw [List.getElem?_map,List.getElem?_eq_getElem hi2,P5.rowAt,List.getD_eq_getElem?_getD,List.getElem?_eq_getElem hi2];rfl
theorem gto_get {g:Gr} (h:GrOk g) {i x:Nat} (hi:i<g.acc.length) (hx:x<g.sy):((P5.rowAt g i).map vi)[x]? = some (vi (gto g i x)):=by
 rw [List.getElem?_map,List.getElem?_eq_getElem (by rw [rowAt_len h hi];exact hx),rowAt_get];rfl
theorem cg_get {c:List Int} {i:Nat} (h:i<c.length):(c.map vi)[i]? = some (vi (cg c i)):=by
 rw [List.getElem?_map,List.getElem?_eq_getElem h,cg,List.getD_eq_getElem?_getD,List.getElem?_eq_getElem h];rfl
set_option maxHeartbeats 4000000 in
theorem alike_s (g:Gr) (h:GrOk g) (hyb:g.sy<=1000) (c:List Int) (hc:c.length=g.acc.length) (hcb:g.acc.length<=1000) (i j:Nat) (hi:i<g.acc.length) (hj:j<g.acc.length):Ctr Try.prog 83 [vints c,vrows g.to,vi i,vi j] (vb (decide (keyM g c i=keyM g c j))):=by
 refine specC f83 (by simp) fun F0 w0=>?_
 have hk:=key_eq h (c:=c) hi hj
 have i0:(0:Int)<=(i:Int):=by omega
 have j0:(0:Int)<=(j:Int):=by omega
 have hci:=cg_get (c:=c) (i:=i) (by omega)
 have hcj:=cg_get (c:=c) (i:=j) (by omega)
 have hri:=row_get h hi
 have hrj:=row_get h hj
 have hli:=rowAt_len h hi
 unfold c83
 refine CwpE.cut (st:=⟨[(0,vints c),(1,vrows g.to),(2,vi i),(3,vi j)],[]⟩) ?_ ?_
 ·simp only [go_sem]
  exact ⟨_,WkE.kp,rfl⟩
 by_cases he:cg c i=cg c j
 rotate_left
 ·refine CwpE.step (fun _=>False) ?_ (fun _ h=>h.elim)
  have:decide (keyM g c i=keyM g c j)=false:=decide_eq_false fun e=>he (hk.1 e).1
  rw [this]
  simp only [go_sem,i0,j0,hci,hcj,he,Int.toNat_natCast]
  exact .tree _ rfl
 refine CwpE.cut (st:=⟨[(0,vints c),(1,vrows g.to),(2,vi i),(3,vi j)],[]⟩) ?_ ?_
 ·simp only [go_sem,i0,j0,hci,hcj,he,Int.toNat_natCast]
  exact ⟨_,WkE.kp,rfl⟩
 refine CwpE.vc ?_
 simp only [go_sem]
 refine loopX 0 (fun m z=>∃ x:Nat,m=g.sy-x/\x<=g.sy/\(∀ p,p<x->kx g c i p=kx g c j p)/\z=⟨[(0,vints c),(1,vrows g.to),(2,vi i),(3,vi j),(9,vi x)],[]⟩)
  (fun z=>keyM g c i=keyM g c j/\z=⟨[],[]⟩) g.sy
  ⟨[(0,vints c),(1,vrows g.to),(2,vi i),(3,vi j),(9,vi (0:Nat))],[]⟩ (WkE.kp) ⟨0,by omega,by omega,fun p hp=>absurd hp (by omega),rfl⟩ ?_ ?_
 rotate_left
 ·rintro z ⟨h1,rfl⟩
  have:decide (keyM g c i=keyM g c j)=true:=decide_eq_true h1
  rw [this]
  simp only [go_sem]
  exact .tree _ rfl
 rintro m z ⟨x,rfl,hx,hp,rfl⟩
 by_cases hlt:x<g.sy
 rotate_left
 ·have gk:¬ (x:Int)<(g.sy:Int):=by omega
  simp only [go_sem,i0,hri,gk,hli,List.length_map,Int.toNat_natCast]
  exact ⟨⟨[],[]⟩,WkE.keep trivial,hk.2 ⟨he,fun p hpy=>hp p (by omega)⟩,rfl⟩
 have g1:(x:Int)<(g.sy:Int):=by omega
 have x0:(0:Int)<=(x:Int):=by omega
 have wx:=wrap_s x (by omega)
 have hgi:=gto_get h hi hlt
 have hgj:=gto_get h hj hlt
 have hbi:=h.lo i x
 have hbj:=h.lo j x
 have hui:=h.hi i x
 have huj:=h.hi j x
 have next:kx g c i x=kx g c j x->∀ p,p<x+1->kx g c i p=kx g c j p:=fun e p hp1=>by
  by_cases h2:p=x
  ·subst h2;exact e
  ·exact hp p (by omega)
 have no:kx g c i x ≠ kx g c j x->decide (keyM g c i=keyM g c j)=false:=fun e=>decide_eq_false fun e2=>e ((hk.1 e2).2 x hlt)
 by_cases b1:0<=gto g i x
 ·by_cases b2:0<=gto g j x
  ·have ki:kx g c i x=cg c (gto g i x).toNat:=by rw [kx,if_neg (by omega)]
   have kj:kx g c j x=cg c (gto g j x).toNat:=by rw [kx,if_neg (by omega)]
   have ci:=cg_get (c:=c) (i:=(gto g i x).toNat) (by omega)
   have cj:=cg_get (c:=c) (i:=(gto g j x).toNat) (by omega)
   by_cases e:(cg c (gto g i x).toNat:Int)=cg c (gto g j x).toNat
   ·simp only [go_sem,g1,x0,i0,j0,hri,hrj,hli,hgi,hgj,b1,b2,ci,cj,e,wx,List.length_map,Int.toNat_natCast]
    exact ⟨g.sy-(x+1),⟨[(0,vints c),(1,vrows g.to),(2,vi i),(3,vi j),(9,vi (x+1:Nat))],[]⟩,by omega,WkE.kp,x+1,rfl,by omega,next (by rw [ki,kj,e]),rfl⟩
   ·rw [no (by rw [ki,kj];exact e)]
    simp only [go_sem,g1,x0,i0,j0,hri,hrj,hli,hgi,hgj,b1,b2,ci,cj,e,List.length_map,Int.toNat_natCast]
    exact .tree _ rfl
  ·have ki:kx g c i x=cg c (gto g i x).toNat:=by rw [kx,if_neg (by omega)]
   have kj:kx g c j x = -1:=by rw [kx,if_pos (by omega)]
   have ci:=cg_get (c:=c) (i:=(gto g i x).toNat) (by omega)
   by_cases e:(cg c (gto g i x).toNat:Int) = -1
   ·simp only [go_sem,g1,x0,i0,j0,hri,hrj,hli,hgi,hgj,b1,b2,ci,e,wx,List.length_map,Int.toNat_natCast]
    exact ⟨g.sy-(x+1),⟨[(0,vints c),(1,vrows g.to),(2,vi i),(3,vi j),(9,vi (x+1:Nat))],[]⟩,by omega,WkE.kp,x+1,rfl,by omega,next (by rw [ki,kj,e]),rfl⟩
   ·rw [no (by rw [ki,kj];exact e)]
    simp only [go_sem,g1,x0,i0,j0,hri,hrj,hli,hgi,hgj,b1,b2,ci,e,List.length_map,Int.toNat_natCast]
    exact .tree _ rfl
 ·by_cases b2:0<=gto g j x
  ·have ki:kx g c i x = -1:=by rw [kx,if_pos (by omega)]
   have kj:kx g c j x=cg c (gto g j x).toNat:=by rw [kx,if_neg (by omega)]
   have cj:=cg_get (c:=c) (i:=(gto g j x).toNat) (by omega)
   by_cases e:(-1:Int)=cg c (gto g j x).toNat
   ·simp only [go_sem,g1,x0,i0,j0,hri,hrj,hli,hgi,hgj,b1,b2,cj,e,wx,List.length_map,Int.toNat_natCast]
    exact ⟨g.sy-(x+1),⟨[(0,vints c),(1,vrows g.to),(2,vi i),(3,vi j),(9,vi (x+1:Nat))],[]⟩,by omega,WkE.kp,x+1,rfl,by omega,next (by rw [ki,kj,e]),rfl⟩
   ·rw [no (by rw [ki,kj];exact e)]
    simp only [go_sem,g1,x0,i0,j0,hri,hrj,hli,hgi,hgj,b1,b2,cj,e,List.length_map,Int.toNat_natCast]
    exact .tree _ rfl
  ·have ki:kx g c i x = -1:=by rw [kx,if_pos (by omega)]
   have kj:kx g c j x = -1:=by rw [kx,if_pos (by omega)]
   simp only [go_sem,Int.reduceNeg,g1,x0,i0,j0,hri,hrj,hli,hgi,hgj,b1,b2,wx,List.length_map,Int.toNat_natCast]
   exact ⟨g.sy-(x+1),⟨[(0,vints c),(1,vrows g.to),(2,vi i),(3,vi j),(9,vi (x+1:Nat))],[]⟩,by omega,WkE.kp,x+1,rfl,by omega,next (by rw [ki,kj]),rfl⟩
abbrev lmask (g:Gr) (i:Nat):Bool:=bt (liveM g) i
abbrev nums (n:Nat) (rr:List Int) (i:Nat) (v:Int):List AV:=rg n fun q=>vi (if q<i then rr.getD q 0 else if q=i then v else 0)
theorem nums_set {n:Nat} {rr:List Int} {i:Nat} {v w:Int}:(nums n rr i v).set i (vi w)=nums n rr i w:=by
 rw [rg_set]
 refine rg_congr fun p _=>?_
 by_cases h:p=i
 ·rw [if_pos h,if_neg (by omega),if_pos h]
 ·rw [if_neg h,if_neg h,if_neg h]
theorem nums_snoc {n:Nat} {rr:List Int} {i:Nat} {v:Int} (h:rr.length=i):nums n rr i v=nums n (rr++[v]) (i+1) 0:=by
 refine rg_congr fun p _=>?_
 by_cases h1:p<i
 ·rw [if_pos h1,if_pos (by omega),List.getD_eq_getElem?_getD,List.getD_eq_getElem?_getD,List.getElem?_append_left (by omega)]
 ·rw [if_neg h1]
  by_cases h2:p=i
  ·subst h2
   rw [if_pos rfl,if_pos (by omega),List.getD_eq_getElem?_getD,<-h,List.getElem?_concat_length];rfl
  ·rw [if_neg h2,if_neg (by omega)]
   split <;> rfl
theorem nums_zero (n:Nat):nums n [] 0 0=rg n fun _=>vi 0:=rg_congr fun p _=>by rw [if_neg (by omega)];split <;> rfl
theorem nums_all {n:Nat} {rr:List Int} (h:rr.length=n):nums n rr n 0=rr.map vi:=by
 apply List.ext_getElem?
 intro j
 by_cases hj:j<n
 ·rw [rg_get hj,if_pos hj,List.getElem?_map,List.getElem?_eq_getElem (by omega),List.getD_eq_getElem?_getD,List.getElem?_eq_getElem (by omega)];rfl
 ·rw [List.getElem?_eq_none (by rw [rg_len];omega),List.getElem?_eq_none (by rw [List.length_map];omega)]
theorem nums_get {n:Nat} {rr:List Int} {i:Nat} {v:Int} (h:i<n):(nums n rr i v)[i]? = some (vi v):=by
 rw [rg_get h,if_neg (by omega),if_pos rfl]
theorem accI_list (g:Gr) (m:Nat->Bool) (k:Nat) (hk:k<=g.acc.length):((accI g m).take (k+1))=(accI g m).take k++(if k<g.acc.length then [if m k then (if bt g.acc k then 1 else 0) else -1] else []):=by
 by_cases h:k<g.acc.length
 ·have hl:k<(accI g m).length:=by simp [accI];exact h
  rw [if_pos h,List.take_succ_eq_append_getElem hl]
  congr 2
  have:=accI_get (m:=m) h
  rw [cg,List.getD_eq_getElem?_getD,List.getElem?_eq_getElem hl] at this
  exact this
 ·rw [if_neg h,List.append_nil,List.take_of_length_le (by simp [accI];omega),List.take_of_length_le (by simp [accI];omega)]
theorem wk_list3 {m n:Nat} {env env':List (Nat × AV)} {objs:List AObj} (o:AObj) (k:Nat) (l:List Int) (hkn:k<m) (h:lk env k = .own 1 n 0 n) (hid:objs[1]? = some (.arr n 1 3 (l.map vi))) (hl:l.length=n) (hO:objs.take 1=[o]) (ho:o.innO 1=true) (hA:Agree ((k,vints l)::env) env') (he:(env'.all fun p=>p.2.inn 1)=true):WkE m ⟨env,objs⟩ ⟨env',[o]⟩:=by
 have e1:((l.map vi).drop 0).take n=l.map vi:=by rw [List.drop_zero,List.take_of_length_le (by simp [hl])]
 have h2:=WkE.freeze (n:=m) (env:=env) (objs:=objs) k 1 n 0 n 1 3 (l.map vi) hkn h hid (by simp [hl]) (isT_map (fun _=>rfl) _)
 rw [e1] at h2
 refine h2.trans (WkE.round hA he ?_ ?_)
 ·simp only [List.all_cons,List.all_nil,Bool.and_true,List.length_cons,List.length_nil];exact ho
 ·simp only [List.length_cons,List.length_nil]
  rw [List.take_set_of_le (by omega),hO]
set_option maxHeartbeats 4000000 in
theorem rclasses_s (g:Gr) (h:GrOk g) (hnb:g.acc.length<=257) (hyb:g.sy<=1000) (hm:(auOf g).ed.length<=100000):Ctr Try.prog 77 [vau (auOf g),vrows g.to] (vints (classesR g)):=by
 refine specC f77 (by simp) fun F0 w0=>?_
 obtain ⟨n,hn⟩:∃ n,g.acc.length=n:=⟨_,rfl⟩
 obtain ⟨a,ha⟩:∃ a,auOf g=a:=⟨_,rfl⟩
 have hacc:a.acc=g.acc:=by rw [<-ha];rfl
 have hal:=alive_s g h hnb hm
 rw [ha] at hal ⊢
 have hll:=live_len g
 have q0:(0:Int)<=(n:Int):=by omega
 have q2:((8:Nat):Int)*(n:Int)<=281474976710656:=by omega
 have q3:(n:Int)<=9223372036854775807:=by omega
 have hal1:a.acc.length=n:=by rw [hacc,hn]
 unfold c77
 refine CwpE.cut (st:=⟨[(1,vrows g.to),(2,.ref 0 1 0 0)],[oB a]⟩) ?_ ?_
 ·simp only [go_sem]
  exact ⟨_,WkE.kp,rfl⟩
 refine CwpE.cut (st:=⟨[(1,vrows g.to),(2,.ref 0 1 0 0),(5,vbools (liveM g))],[oB a]⟩) ?_ ?_
 ·simp only [go_sem]
  refine callT hal rfl ?_
  simp only [go_sem]
  exact ⟨_,WkE.kp,rfl⟩
 refine CwpE.cut (st:=⟨[(1,vrows g.to),(2,.ref 0 1 0 0),(5,vbools (liveM g)),(6,.own 1 n 0 n)],[oB a,.arr n 1 3 (nums n ((accI g (lmask g)).take 0) 0 0)]⟩) ?_ ?_
 ·rw [List.take_zero,nums_zero]
  simp only [go_sem,List.length_map,hal1,q0,q2,q3,Int.le_refl,Int.toNat_natCast,rg_rep]
  exact ⟨_,WkE.kp,rfl⟩
 refine CwpE.step (fun z=>z=⟨[(1,vrows g.to),(2,.ref 0 1 0 0),(5,vbools (liveM g)),(6,vints (accI g (lmask g)))],[oB a]⟩) ?_ ?_
 ·simp only [go_sem]
  refine loopX 0 (fun m z=>∃ k:Nat,m=n-k/\k<=n/\z=⟨[(1,vrows g.to),(2,.ref 0 1 0 0),(5,vbools (liveM g)),(6,.own 1 n 0 n),(7,vi k)],[oB a,.arr n 1 3 (nums n ((accI g (lmask g)).take k) k 0)]⟩)
   (fun z=>z=⟨[(1,vrows g.to),(2,.ref 0 1 0 0),(5,vbools (liveM g)),(6,vints (accI g (lmask g)))],[oB a]⟩) n
   ⟨[(1,vrows g.to),(2,.ref 0 1 0 0),(5,vbools (liveM g)),(6,.own 1 n 0 n),(7,vi (0:Nat))],[oB a,.arr n 1 3 (nums n ((accI g (lmask g)).take 0) 0 0)]⟩ (WkE.kp) ⟨0,by omega,by omega,rfl⟩ ?_ ?_
  rotate_left
  ·rintro z rfl
   simp only [go_sem]
   exact ⟨_,.refl _ _,rfl⟩
  rintro m z ⟨k,rfl,hk,rfl⟩
  have hil:(accI g (lmask g)).length=n:=by simp [accI,hn]
  by_cases hlt:k<n
  rotate_left
  ·obtain rfl:k=n:=by omega
   rw [List.take_of_length_le (by omega),nums_all hil]
   simp only [go_sem,Int.lt_irrefl]
   exact ⟨_,wk_list3 (oB a) 6 (accI g (lmask g)) (by omega) rfl rfl hil rfl rfl (by simp only [go_sem];try rfl) rfl,rfl⟩
  have g1:(k:Int)<(n:Int):=by omega
  have g0:(0:Int)<=(k:Int):=by omega
  have w1:=wrap_s k (by omega)
  have hlg:=bt_get (s:=liveM g) (k:=k) (by omega)
  have hag:=bt_get (s:=a.acc) (k:=k) (by omega)
  have hst:=accI_list g (lmask g) k (by omega)
  rw [if_pos (by omega)] at hst
  have htl:((accI g (lmask g)).take k).length=k:=by rw [List.length_take,hil];omega
  have hgo:∀ v,v=(if lmask g k then (if bt g.acc k then 1 else 0) else -1:Int)->nums n ((accI g (lmask g)).take k) k v=nums n ((accI g (lmask g)).take (k+1)) (k+1) 0:=fun v hv=>by
   rw [hst,<-hv,nums_snoc htl]
  have hng:∀ v,(nums n ((accI g (lmask g)).take k) k v)[k]? = some (vi v):=fun v=>nums_get hlt
  have hns:∀ v w,(nums n ((accI g (lmask g)).take k) k v).set k (vi w)=nums n ((accI g (lmask g)).take k) k w:=fun v w=>nums_set
  have fin:∀ st v,v=(if lmask g k then (if bt g.acc k then 1 else 0) else -1:Int)->WkE 100 st ⟨[(1,vrows g.to),(2,.ref 0 1 0 0),(5,vbools (liveM g)),(6,.own 1 n 0 n),(7,vi (k+1:Nat))],[oB a,.arr n 1 3 (nums n ((accI g (lmask g)).take k) k v)]⟩ ->
   ∃ m z,m<n-k/\WkE 100 st z/\∃ k:Nat,m=n-k/\k<=n/\z=⟨[(1,vrows g.to),(2,.ref 0 1 0 0),(5,vbools (liveM g)),(6,.own 1 n 0 n),(7,vi k)],[oB a,.arr n 1 3 (nums n ((accI g (lmask g)).take k) k 0)]⟩:=fun st v hv hst=>by
   rw [hgo v hv] at hst
   exact ⟨n-(k+1),_,by omega,hst,k+1,rfl,by omega,rfl⟩
  generalize nums n ((accI g (lmask g)).take k) k=N at hng hns fin ⊢
  cases hb:bt (liveM g) k with
  | false =>
   rw [hb] at hlg
   simp only [go_sem,g1,g0,hlg,hng,hns,w1,Int.toNat_natCast]
   exact fin _ (-1) (by rw [lmask,hb];rfl) (WkE.kp)
  | true =>
   rw [hb] at hlg
   cases hc:bt a.acc k with
   | false =>
    rw [hc] at hag
    rw [hacc] at hc
    simp only [go_sem,g1,g0,hlg,hag,hng,hns,w1,Int.toNat_natCast]
    exact fin _ 0 (by rw [lmask,hb,hc];rfl) (WkE.kp)
   | true =>
    rw [hc] at hag
    rw [hacc] at hc
    simp only [go_sem,g1,g0,hlg,hag,hng,hns,w1,Int.toNat_natCast]
    exact fin _ 1 (by rw [lmask,hb,hc];rfl) (WkE.kp)
 rintro _ rfl
 have hcl:classesR g=clsR g (lmask g) (n+1) (accI g (lmask g)) 0:=by rw [classesR,hn]
 rw [hcl]
 have hR0:=accI_ref g (lmask g)
 have hmask:Mask g (lmask g):=⟨fun i w hw=>lang_live h w i hw,fun i x _ _ _ ht=>live_lang ht⟩
 generalize accI g (lmask g)=c0 at hR0 ⊢
 obtain ⟨RS,hRS⟩:∃ RS,clsR g (lmask g) (n+1) c0 0=RS:=⟨_,rfl⟩
 rw [hRS]
 refine CwpE.vc ?_
 simp only [go_sem]
 refine loopX 2 (fun m z=>∃ (c:List Int) (many:Nat),Ref g (lmask g) c many/\n-many<m/\clsR g (lmask g) m c many=RS/\z=⟨[(1,vrows g.to),(5,vbools (liveM g)),(6,vints c),(8,vi many)],[oB a]⟩)
  (fun _=>False) (n+1) ⟨[(1,vrows g.to),(5,vbools (liveM g)),(6,vints c0),(8,vi (0:Nat))],[oB a]⟩ (WkE.kp) ⟨c0,0,hR0,by omega,hRS,rfl⟩ ?_ (fun _ h=>h.elim)
 rintro m z ⟨c,many,hRef,hmn,hRc,rfl⟩
 obtain ⟨f,rfl⟩:∃ f,m=f+1:=⟨m-1,by omega⟩
 have hcl:=hRef.len
 rw [hn] at hcl
 have hle:=step_le hRef
 rw [clsR] at hRc
 obtain ⟨nx,hnx⟩:∃ nx,maskO g (lmask g) c=nx:=⟨_,rfl⟩
 have hnxv:∀ i,nx i=if lmask g i then some (keyM g c i) else none:=fun i=>by rw [<-hnx];rfl
 have hstep:clsStep g (lmask g) c=rowGo nx (List.range n) []:=by rw [clsStep,hnx,hn]
 have hsr:=step_ref h hmask hRef
 rw [hstep] at hRc hle hsr
 obtain ⟨RR,hRR⟩:∃ RR:Nat->List Int,RR=fun i=>(rowGo nx (List.range i) []).1:=⟨_,rfl⟩
 obtain ⟨KS,hKS⟩:∃ KS:Nat->List (List Int),KS=fun i=>(rowGo nx (List.range i) []).2:=⟨_,rfl⟩
 have hRRl:∀ i,(RR i).length=i:=fun i=>by rw [hRR];simp only;rw [rowGo_len,List.length_range]
 have hKn:∀ i,(KS i).Nodup:=fun i=>by rw [hKS];exact rowGo_nodup _ _ _ (by simp)
 have hKle:∀ i,i<=n->(KS i).length<=257:=fun i hi=>by
  have h1:=(rowGo_part nx hi ([]:List (List Int))).length_le
  rw [hKS]
  simp only
  omega
 have hnone:∀ i,lmask g i=false->RR (i+1)=RR i++[-1]/\KS (i+1)=KS i:=fun i hi=>by
  have:=rowGo_range nx i ([]:List (List Int))
  rw [hnxv,hi] at this
  simp only [Bool.false_eq_true,if_false] at this
  rw [hRR,hKS]
  simp only
  rw [this]
  exact ⟨rfl,rfl⟩
 have hsome:∀ i,lmask g i=true->RR (i+1)=RR i++[((posF (KS i) (keyM g c i):Nat):Int)]/\KS (i+1)=addK (KS i) (keyM g c i):=fun i hi=>by
  have:=rowGo_range nx i ([]:List (List Int))
  rw [hnxv,hi] at this
  simp only [if_true] at this
  rw [hRR,hKS]
  simp only
  rw [this]
  exact ⟨rfl,rfl⟩
 have hRn:RR n=(rowGo nx (List.range n) []).1:=by rw [hRR]
 have hKn':KS n=(rowGo nx (List.range n) []).2:=by rw [hKS]
 have hK0:KS 0=[]:=by rw [hKS];rfl
 have hR0':RR 0=[]:=by rw [hRR];rfl
 rw [<-hRn,<-hKn'] at hRc hsr
 rw [<-hKn'] at hle
 clear hRR hKS hstep
 simp only [go_sem,List.length_map,hcl,q0,q2,q3,Int.le_refl,Int.toNat_natCast,rg_rep]
 refine loopX 4 (fun m z=>∃ (i:Nat) (F:List Nat),m=n-i/\i<=n/\F.map (keyM g c)=KS i/\(∀ p ∈ F,p<n) /\
  z=⟨[(1,vrows g.to),(5,vbools (liveM g)),(6,vints c),(8,vi many),(9,.own 1 n 0 n),(10,.own 2 F.length 0 F.length),(11,vi i)],[oB a,.arr n 1 3 (nums n (RR i) i 0),.arr F.length 1 3 (F.map fun (p:Nat)=>vi p)]⟩)
  (fun z=>∃ F:List Nat,F.map (keyM g c)=KS n/\z=⟨[(1,vrows g.to),(5,vbools (liveM g)),(8,vi many),(9,.own 1 n 0 n),(10,.own 2 F.length 0 F.length)],[oB a,.arr n 1 3 ((RR n).map vi),.arr F.length 1 3 (F.map fun (p:Nat)=>vi p)]⟩) n
  ⟨[(1,vrows g.to),(5,vbools (liveM g)),(6,vints c),(8,vi many),(9,.own 1 n 0 n),(10,.own 2 0 0 0),(11,vi (0:Nat))],[oB a,.arr n 1 3 (nums n (RR 0) 0 0),.arr 0 1 3 []]⟩ ?_ ⟨0,[],by omega,by omega,by rw [hK0];rfl,fun p hp=>by simp at hp,rfl⟩ ?_ ?_
 ·rw [hR0',nums_zero]
  exact (WkE.nil 10 1 3 (by omega) rfl).trans (WkE.kp)
 rotate_left
 ·rintro z ⟨F,hF,rfl⟩
  have hFl:F.length=(KS n).length:=by rw [<-hF,List.length_map]
  by_cases he:(KS n).length=many
  ·rw [if_pos he] at hRc
   have heI:(F.length:Int)=(many:Int):=by omega
   rw [<-hRc]
   simp only [go_sem,heI]
   refine .own 1 n 0 n 1 3 _ _ rfl (by simp [hRRl]) (by simp [hRRl]) fun q hq=>?_
   simp only [Nat.zero_add]
   exact .tree _ (List.all_eq_true.1 (isT_map (fun _=>rfl) _) _ (List.getElem_mem _))
  ·rw [if_neg he] at hRc
   have heI:¬ (F.length:Int)=(many:Int):=by omega
   simp only [go_sem,heI]
   refine ⟨f,⟨[(1,vrows g.to),(5,vbools (liveM g)),(6,vints (RR n)),(8,vi (KS n).length)],[oB a]⟩,by omega,?_,RR n,(KS n).length,hsr,by omega,hRc,rfl⟩
   rw [<-hFl]
   exact wk_list3 (oB a) 6 (RR n) (by omega) rfl rfl (hRRl n) rfl rfl (by simp only [go_sem];try rfl) rfl
 rintro m z ⟨i,F,rfl,hi,hF,hFb,rfl⟩
 by_cases hlt:i<n
 rotate_left
 ·obtain rfl:i=n:=by omega
  rw [nums_all (hRRl i)]
  simp only [go_sem,hcl,Int.lt_irrefl,List.length_map]
  exact ⟨_,WkE.kp,F,hF,rfl⟩
 have g1:(i:Int)<(n:Int):=by omega
 have g0:(0:Int)<=(i:Int):=by omega
 have w1:=wrap_s i (by omega)
 have hlg:=bt_get (s:=liveM g) (k:=i) (by omega)
 have hFl:F.length=(KS i).length:=by rw [<-hF,List.length_map]
 have hFb2:=hKle i (by omega)
 have hng:∀ v,(nums n (RR i) i v)[i]? = some (vi v):=fun v=>nums_get hlt
 have hns:∀ v w,(nums n (RR i) i v).set i (vi w)=nums n (RR i) i w:=fun v w=>nums_set
 have hsn:∀ v,RR (i+1)=RR i++[v]->nums n (RR i) i v=nums n (RR (i+1)) (i+1) 0:=fun v hv=>by rw [hv,nums_snoc (hRRl i)]
 obtain ⟨N,hN⟩:∃ N,nums n (RR i) i=N:=⟨_,rfl⟩
 rw [hN] at hng hns hsn ⊢
 cases hb:bt (liveM g) i with
 | false =>
  rw [hb] at hlg
  obtain ⟨h1,h2⟩:=hnone i hb
  simp only [go_sem,g1,g0,hcl,hlg,hng,hns,w1,List.length_map,Int.toNat_natCast]
  exact ⟨n-(i+1),⟨[(1,vrows g.to),(5,vbools (liveM g)),(6,vints c),(8,vi many),(9,.own 1 n 0 n),(10,.own 2 F.length 0 F.length),(11,vi (i+1:Nat))],[oB a,.arr n 1 3 (N (-1)),.arr F.length 1 3 (F.map fun (p:Nat)=>vi p)]⟩,by omega,WkE.kp,i+1,F,rfl,by omega,by rw [h2,hF],hFb,by rw [hsn _ h1]⟩
 | true =>
  rw [hb] at hlg
  obtain ⟨h1,h2⟩:=hsome i hb
  have hKi:=hKn i
  obtain ⟨pos,hpos⟩:∃ pos,posF (KS i) (keyM g c i)=pos:=⟨_,rfl⟩
  rw [hpos] at h1
  simp only [go_sem,g1,g0,hcl,hlg,hng,hns,List.length_map,Int.toNat_natCast]
  refine loopX 6 (fun m z=>∃ k:Nat,m=F.length-k/\k<=F.length /\
   z=⟨[(1,vrows g.to),(5,vbools (liveM g)),(6,vints c),(8,vi many),(9,.own 1 n 0 n),(10,.own 2 F.length 0 F.length),(11,vi i),(12,vi k)],[oB a,.arr n 1 3 (N (if pos<k then pos else -1)),.arr F.length 1 3 (F.map fun (p:Nat)=>vi p)]⟩)
   (fun z=>z=⟨[(1,vrows g.to),(5,vbools (liveM g)),(6,vints c),(8,vi many),(9,.own 1 n 0 n),(10,.own 2 F.length 0 F.length),(11,vi i)],[oB a,.arr n 1 3 (N (if pos<F.length then pos else -1)),.arr F.length 1 3 (F.map fun (p:Nat)=>vi p)]⟩) F.length
   ⟨[(1,vrows g.to),(5,vbools (liveM g)),(6,vints c),(8,vi many),(9,.own 1 n 0 n),(10,.own 2 F.length 0 F.length),(11,vi i),(12,vi (0:Nat))],[oB a,.arr n 1 3 (N (-1)),.arr F.length 1 3 (F.map fun (p:Nat)=>vi p)]⟩ (WkE.kp) ⟨0,by omega,by omega,by rw [if_neg (by omega)]⟩ ?_ ?_
  rotate_left
  ·rintro z rfl
   have hpl:=posF_le (KS i) (keyM g c i)
   rw [hpos] at hpl
   by_cases hk:pos<F.length
   ·rw [if_pos hk]
    have hnl:¬ ((pos:Nat):Int)<0:=by omega
    simp only [go_sem,g1,g0,hng,hnl,w1,Int.toNat_natCast]
    refine ⟨n-(i+1),⟨[(1,vrows g.to),(5,vbools (liveM g)),(6,vints c),(8,vi many),(9,.own 1 n 0 n),(10,.own 2 F.length 0 F.length),(11,vi (i+1:Nat))],[oB a,.arr n 1 3 (N pos),.arr F.length 1 3 (F.map fun (p:Nat)=>vi p)]⟩,by omega,WkE.kp,i+1,F,rfl,by omega,?_,hFb,by rw [hsn _ h1]⟩
    rw [h2,addK,hpos,if_pos (by omega),hF]
   ·rw [if_neg hk]
    have hpe:pos=F.length:=by omega
    have hneg:(-1:Int)<0:=by omega
    have qf:(F.length+1)*8<=140737488355328:=by omega
    simp only [go_sem,g1,g0,hng,hns,hneg,w1,qf,Int.toNat_natCast]
    have hm1:(F.map fun (p:Nat)=>vi p)++[vi i]=(F++[i]).map fun (p:Nat)=>vi p:=by rw [List.map_append];rfl
    refine ⟨n-(i+1),⟨[(1,vrows g.to),(5,vbools (liveM g)),(6,vints c),(8,vi many),(9,.own 1 n 0 n),(10,.own 2 (F++[i]).length 0 (F++[i]).length),(11,vi (i+1:Nat))],[oB a,.arr n 1 3 (N pos),.arr (F++[i]).length 1 3 ((F++[i]).map fun (p:Nat)=>vi p)]⟩,by omega,?_,i+1,F++[i],rfl,by omega,?_,?_,by rw [hsn _ h1]⟩
    ·rw [hpe]
     simp only [List.length_append,List.length_singleton,List.map_append,List.map_cons,List.map_nil]
     exact WkE.kp
    ·rw [h2,addK,hpos,if_neg (by omega),List.map_append,hF];rfl
    ·intro p hp
     rcases List.mem_append.1 hp with hp | hp
     ·exact hFb p hp
     ·rw [List.mem_singleton.1 hp];exact hlt
  rintro m z ⟨k,rfl,hk,rfl⟩
  by_cases hkF:k<F.length
  rotate_left
  ·obtain rfl:k=F.length:=by omega
   simp only [go_sem,Int.lt_irrefl]
   exact ⟨_,WkE.kp,rfl⟩
  have k1:(k:Int)<(F.length:Int):=by omega
  have k0:(0:Int)<=(k:Int):=by omega
  have wk:=wrap_s k (by omega)
  have hFg:(F.map fun (p:Nat)=>vi p)[k]? = some (vi (F[k]:Nat)):=by rw [List.getElem?_map,List.getElem?_eq_getElem hkF];rfl
  have hFk:=hFb _ (List.getElem_mem hkF)
  have hkey:keyM g c F[k]=(KS i)[k]'(by omega):=by simp only [<-hF,List.getElem_map]
  have hak:=alike_s g h hyb c (by omega) (by omega) i F[k] (by omega) (by omega)
  have hdec:decide (keyM g c i=keyM g c F[k])=decide (pos=k):=by
   rw [decide_eq_decide,hkey,<-hpos]
   constructor
   ·intro e
    rw [e];exact posF_nodup hKi k (by omega)
   ·intro e
    have hlt2:posF (KS i) (keyM g c i)<(KS i).length:=by omega
    rw [<-posF_get hlt2]
    simp only [e]
  rw [hdec] at hak
  generalize F[k]=p at hFg hak
  simp only [go_sem,k1,k0,hFg,Int.toNat_natCast]
  refine callT hak rfl ?_
  by_cases hpk:pos=k
  ·simp only [go_sem,hpk,g1,g0,hng,hns,wk,Int.toNat_natCast]
   refine ⟨F.length-(k+1),⟨[(1,vrows g.to),(5,vbools (liveM g)),(6,vints c),(8,vi many),(9,.own 1 n 0 n),(10,.own 2 F.length 0 F.length),(11,vi i),(12,vi (k+1:Nat))],[oB a,.arr n 1 3 (N k),.arr F.length 1 3 (F.map fun (p:Nat)=>vi p)]⟩,by omega,WkE.kp,k+1,rfl,by omega,by rw [if_pos (by omega)]⟩
  ·simp only [go_sem,hpk,wk]
   refine ⟨F.length-(k+1),⟨[(1,vrows g.to),(5,vbools (liveM g)),(6,vints c),(8,vi many),(9,.own 1 n 0 n),(10,.own 2 F.length 0 F.length),(11,vi i),(12,vi (k+1:Nat))],[oB a,.arr n 1 3 (N (if pos<k then pos else -1)),.arr F.length 1 3 (F.map fun (p:Nat)=>vi p)]⟩,by omega,WkE.kp,k+1,rfl,by omega,?_⟩
   have:(pos<k+1) ↔ (pos<k):=by omega
   simp only [this]
end Go.Proofs.Ytjilachpkjlhdaa
namespace P5
theorem lrow_snoc (g:Gr) (c:List Int) (s x:Nat):∀ (xs l:List Nat),lrow g c s (xs++[x]) l =
 (let r:=lrow g c s xs l;let t:=gto g s x
  if t<0 \/ cg c t.toNat<0 then (r.1++[-1],r.2) else
  let p:=posF (r.2.map (cg c)) (cg c t.toNat)
  (r.1++[(p:Int)],if p<r.2.length then r.2 else r.2++[t.toNat]))
 | [],l=>by
  show lrow g c s [x] l=_
  rw [lrow,lrow,lrow]
  dsimp only
  split <;> rfl
 | y::xs,l=>by
  rw [List.cons_append,lrow,lrow]
  dsimp only
  by_cases h:gto g s y<0 \/ cg c (gto g s y).toNat<0
  ·rw [if_pos h,if_pos h,lrow_snoc g c s x xs l]
   dsimp only
   split <;> rfl
  ·rw [if_neg h,if_neg h,lrow_snoc g c s x xs _]
   dsimp only
   split <;> rfl
theorem lrow_range (g:Gr) (c:List Int) (s x:Nat) (l:List Nat):lrow g c s (List.range (x+1)) l =
 (let r:=lrow g c s (List.range x) l;let t:=gto g s x
  if t<0 \/ cg c t.toNat<0 then (r.1++[-1],r.2) else
  let p:=posF (r.2.map (cg c)) (cg c t.toNat)
  (r.1++[(p:Int)],if p<r.2.length then r.2 else r.2++[t.toNat])):=by
 rw [List.range_succ,lrow_snoc]
theorem lrow_len (g:Gr) (c:List Int) (s:Nat):∀ (xs l:List Nat),(lrow g c s xs l).1.length=xs.length
 | [],_=>rfl
 | x::xs,l=>by
  rw [lrow]
  dsimp only
  split
  ·simp [lrow_len g c s xs l]
  ·simp [lrow_len g c s xs]
theorem lrow_pre (g:Gr) (c:List Int) (s:Nat):∀ (xs l:List Nat),l <+: (lrow g c s xs l).2
 | [],_=>List.prefix_rfl
 | x::xs,l=>by
  rw [lrow]
  dsimp only
  split
  ·exact lrow_pre g c s xs l
  ·refine List.IsPrefix.trans ?_ (lrow_pre g c s xs _)
   split
   ·exact List.prefix_rfl
   ·exact List.prefix_append _ _
structure Reps (g:Gr) (c:List Int) (l:List Nat):Prop where
 nodup:(l.map (cg c)).Nodup
 lt:∀ p ∈ l,p<g.acc.length
theorem Reps.le {g:Gr} {c:List Int} {l:List Nat} (h:Reps g c l):l.length<=g.acc.length:=by
 have:=sub_len (S:=(List.range g.acc.length).map (cg c)) h.nodup fun k hk=>by
  obtain ⟨p,hp,rfl⟩:=List.mem_map.1 hk
  exact List.mem_map.2 ⟨p,List.mem_range.2 (h.lt p hp),rfl⟩
 simpa using this
theorem Reps.add {g:Gr} (hg:GrOk g) {c:List Int} {l:List Nat} (h:Reps g c l) {s x:Nat} (ht:¬ gto g s x<0) :
 Reps g c (if posF (l.map (cg c)) (cg c (gto g s x).toNat)<l.length then l else l++[(gto g s x).toNat]):=by
 by_cases hp:posF (l.map (cg c)) (cg c (gto g s x).toNat)<l.length
 ·rw [if_pos hp];exact h
 ·rw [if_neg hp]
  refine ⟨?_,fun p hp2=>?_⟩
  ·have hn:cg c (gto g s x).toNat ∉ l.map (cg c):=fun hm=>hp (by have:=posF_lt hm;simpa using this)
   rw [List.map_append,List.nodup_append]
   refine ⟨h.nodup,by simp,fun a ha b hb=>?_⟩
   simp only [List.map_cons,List.map_nil,List.mem_singleton] at hb
   subst hb
   rintro rfl
   exact hn ha
  ·rcases List.mem_append.1 hp2 with h2 | h2
   ·exact h.lt p h2
   ·rw [List.mem_singleton.1 h2];exact gto_lt hg ht
theorem lrow_reps {g:Gr} (hg:GrOk g) {c:List Int} {s:Nat}:∀ (xs:List Nat) {l:List Nat},Reps g c l->Reps g c (lrow g c s xs l).2
 | [],_,h=>h
 | x::xs,l,h=>by
  rw [lrow]
  dsimp only
  split
  ·exact lrow_reps hg xs h
  ·rename_i ht
   exact lrow_reps hg xs (h.add hg (x:=x) (s:=s) fun e=>ht (.inl e))
theorem lgo_step {g:Gr} {c:List Int} {f:Nat} {l:List Nat} {rows:List (List Int)} (h:rows.length<l.length):lgo g c (f+1) l rows=lgo g c f (lrow g c l[rows.length] (List.range g.sy) l).2 (rows++[(lrow g c l[rows.length] (List.range g.sy) l).1]):=by
 rw [lgo,dif_pos h]
theorem lgo_end {g:Gr} {c:List Int} {l:List Nat} {rows:List (List Int)} (h:¬ rows.length<l.length) (f:Nat):lgo g c f l rows=(l,rows):=by
 cases f with
 | zero=>rfl
 | succ f=>rw [lgo,dif_neg h]
end P5
namespace Go.Proofs.Ytjilachpkjlhdaa
open Go.RowKit Dak P5
abbrev vn (p:Nat):AV:=vi p
def objsL (o0:AObj) (sy:Int) (L:List Nat) (A:List Bool) (E:List Edg):List AObj :=
 [o0,.arr 1 3 26 [.agg [vi 0,.val (.slice none 0 0),.val (.slice none 0 0)]],.arr 1 3 26 [.agg [vi sy,.own 4 A.length 0 A.length,.own 5 E.length 0 E.length]],.arr L.length 1 3 (L.map vn),.arr A.length 1 4 (A.map vb),.arr E.length 3 71 (E.map vedge)]
theorem objsL_eq (o0:AObj) (sy:Int) (L:List Nat) (A:List Bool) (E:List Edg):objsL o0 sy L A E =
 [o0,.arr 1 3 26 [.agg [vi 0,.val (.slice none 0 0),.val (.slice none 0 0)]],.arr 1 3 26 [.agg [vi sy,.own 4 A.length 0 A.length,.own 5 E.length 0 E.length]],.arr L.length 1 3 (L.map vn),.arr A.length 1 4 (A.map vb),.arr E.length 3 71 (E.map vedge)]:=rfl
theorem vn_get {L:List Nat} {k:Nat} (h:k<L.length):(L.map vn)[k]? = some (vi (L[k]:Nat)):=by rw [List.getElem?_map,List.getElem?_eq_getElem h];rfl
theorem edl (g:Gr) (h:GrOk g):(auOf g).ed.length<=g.acc.length*g.sy:=by
 have:=edAll_len g.to 0 (m:=g.sy) fun r hr=>Nat.le_of_eq (h.row r hr)
 rw [h.len] at this
 exact this
set_option maxHeartbeats 4000000 in
theorem rLeast_s (g:Gr) (h:GrOk g) (hnb:g.acc.length<=257) (hyb:g.sy<=64):Ctr Try.prog 53 [vau (auOf g)] (vau (auOf (leastR g))):=by
 have hml:(auOf g).ed.length<=100000:=Nat.le_trans (edl g h) (Nat.le_trans (Nat.mul_le_mul hnb hyb) (by omega))
 have htb:=table_s (auOf g) g.acc.length g.sy ⟨rfl,rfl,by omega,by omega,hml,fun e he=>by
  obtain ⟨i,x,hi,hx,_,rfl⟩:=(mem_auOf h).1 he
  simp only
  omega⟩
 have htg:tabM (auOf g)=g.to:=congrArg Gr.to (tab_auOf h)
 rw [htg] at htb
 have hcs:=rclasses_s g h hnb (by omega) hml
 refine specC f53 (by simp) fun F0 w0=>?_
 obtain ⟨n,hn⟩:∃ n,g.acc.length=n:=⟨_,rfl⟩
 obtain ⟨y,hy⟩:∃ y,g.sy=y:=⟨_,rfl⟩
 obtain ⟨a,ha⟩:∃ a,auOf g=a:=⟨_,rfl⟩
 have hacc:a.acc=g.acc:=by rw [<-ha];rfl
 have hasy:a.sy=(y:Int):=by rw [<-ha,<-hy];rfl
 have hcl:(classesR g).length=n:=by rw [(classesR_is h).len,hn]
 obtain ⟨LG,hLG⟩:∃ LG,lgo g (classesR g) 258 [0] []=LG:=⟨_,rfl⟩
 have hres:auOf (leastR g)=⟨(y:Int),LG.1.map (bt g.acc),edAll 0 LG.2⟩:=by rw [leastR,leastG,hLG,auOf,hy]
 have hrep0:Reps g (classesR g) [0]:=⟨by simp,fun p hp=>by rw [List.mem_singleton.1 hp];have:=h.n;omega⟩
 rw [hres]
 rw [ha] at htb hcs ⊢
 generalize classesR g=c at hcs hcl hLG hrep0
 unfold c53
 refine CwpE.cut (st:=⟨[(1,.ref 0 1 0 0),(2,.ref 1 1 0 0)],[oB a,.arr 1 3 26 [.agg [vi 0,.val (.slice none 0 0),.val (.slice none 0 0)]]]⟩) ?_ ?_
 ·simp only [go_sem]
  exact ⟨_,WkE.kp,rfl⟩
 refine CwpE.cut (st:=⟨[(1,.ref 0 1 0 0),(2,.ref 1 1 0 0),(3,vrows g.to)],[oB a,.arr 1 3 26 [.agg [vi 0,.val (.slice none 0 0),.val (.slice none 0 0)]]]⟩) ?_ ?_
 ·simp only [go_sem]
  refine callT htb rfl ?_
  simp only [go_sem]
  exact ⟨_,WkE.kp,rfl⟩
 refine CwpE.cut (st:=⟨[(1,.ref 0 1 0 0),(2,.ref 1 1 0 0),(3,vrows g.to),(4,vints c)],[oB a,.arr 1 3 26 [.agg [vi 0,.val (.slice none 0 0),.val (.slice none 0 0)]]]⟩) ?_ ?_
 ·simp only [go_sem]
  refine callT hcs rfl ?_
  simp only [go_sem]
  exact ⟨_,WkE.kp,rfl⟩
 refine CwpE.cut (st:=⟨[(1,.ref 0 1 0 0),(2,.ref 1 1 0 0),(3,vrows g.to),(4,vints c),(5,.ref 2 1 0 0)],[oB a,.arr 1 3 26 [.agg [vi 0,.val (.slice none 0 0),.val (.slice none 0 0)]],.arr 1 3 26 [.agg [vi y,.val (.slice none 0 0),.val (.slice none 0 0)]]]⟩) ?_ ?_
 ·simp only [go_sem,hasy]
  exact ⟨_,WkE.kp,rfl⟩
 refine CwpE.seqJ (fun st=>st=⟨[(1,.ref 0 1 0 0),(2,.ref 1 1 0 0),(3,vrows g.to),(4,vints c),(5,.ref 2 1 0 0),(6,.own 3 1 0 1)],objsL (oB a) y [0] [] []⟩) ?_ ?_
 ·refine CwpE.regionB 1 (by omega) rfl (by decide) ?_
  simp only [go_sem]
  refine ⟨_,(WkE.nilCell 2 1 3 0 1 1 4 26 _ (.agg [vi y,.val (.slice none 0 0),.val (.slice none 0 0)]) rfl rfl rfl).trans ((WkE.nilCell 2 1 3 0 2 3 71 26 _ (.agg [vi y,.own 4 0 0 0,.val (.slice none 0 0)]) rfl rfl rfl).trans (WkE.keep (env':=[(1,.ref 0 1 0 0),(2,.ref 1 1 0 0),(3,vrows g.to),(4,vints c),(5,.ref 2 1 0 0),(6,.own 3 1 0 1)]) (by simp only [go_sem];try rfl))),?_⟩
  simp only [go_sem]
  exact ⟨_,WkE.kp,rfl⟩
 rintro _ rfl
 refine CwpE.step (fun z=>∃ L rows,LG=(L,rows)/\z=⟨[(2,.ref 1 1 0 0),(5,.ref 2 1 0 0)],objsL (oB a) y L (L.map (bt g.acc)) (edAll 0 rows)⟩) ?_ ?_
 rotate_left
 ·rintro _ ⟨L,rows,hBs,rfl⟩
  rw [hBs]
  refine CwpE.vc ?_
  rw [objsL_eq]
  simp only [go_sem]
  exact objsS_snap y _ _ _ L.length (edAll 0 rows).length (by simp) rfl rfl rfl
 simp only [go_sem]
 refine loopX 0 (fun m z=>∃ (i:Nat) (L:List Nat) (rows:List (List Int)),m=258-i/\rows.length=i/\i<=L.length/\Reps g c L/\(∀ r ∈ rows,r.length=y)/\LG=lgo g c (258-i) L rows /\
  z=⟨[(1,.ref 0 1 0 0),(2,.ref 1 1 0 0),(3,vrows g.to),(4,vints c),(5,.ref 2 1 0 0),(6,.own 3 L.length 0 L.length),(7,vi i)],objsL (oB a) y L ((L.take i).map (bt g.acc)) (edAll 0 rows)⟩)
  (fun z=>∃ L rows,LG=(L,rows)/\z=⟨[(2,.ref 1 1 0 0),(5,.ref 2 1 0 0)],objsL (oB a) y L (L.map (bt g.acc)) (edAll 0 rows)⟩) 258
  ⟨[(1,.ref 0 1 0 0),(2,.ref 1 1 0 0),(3,vrows g.to),(4,vints c),(5,.ref 2 1 0 0),(6,.own 3 1 0 1),(7,vi (0:Nat))],objsL (oB a) y [0] [] []⟩ (WkE.kp)
  ⟨0,[0],[],rfl,rfl,by simp,hrep0,fun r hr=>by simp at hr,hLG.symm,rfl⟩ ?_ ?_
 rotate_left
 ·rintro z ⟨L,rows,h1,rfl⟩
  simp only [go_sem]
  exact ⟨_,.refl _ _,L,rows,h1,rfl⟩
 rintro m z ⟨i,L,rows,rfl,hri,hiL,hrep,hrl,hBi,rfl⟩
 have hLle:=hrep.le
 by_cases hlt:i<L.length
 rotate_left
 ·have gk:¬ (i:Int)<(L.length:Int):=by omega
  rw [lgo_end (by omega)] at hBi
  rw [objsL_eq]
  simp only [go_sem,gk,List.length_map]
  refine ⟨⟨[(2,.ref 1 1 0 0),(5,.ref 2 1 0 0)],objsL (oB a) y L (L.map (bt g.acc)) (edAll 0 rows)⟩,?_,L,rows,hBi,rfl⟩
  rw [List.take_of_length_le (by omega),objsL_eq]
  simp only [List.length_map]
  exact WkE.kp
 have hf:258-i=(258-(i+1))+1:=by omega
 rw [hf,lgo_step (by omega)] at hBi
 have hnx:L[rows.length]=L[i]:=by simp only [hri]
 rw [hnx,hy] at hBi
 have g1:(i:Int)<(L.length:Int):=by omega
 have g0:(0:Int)<=(i:Int):=by omega
 have wi:=wrap_s i (by omega)
 have hLi:=vn_get hlt
 have hLin:=hrep.lt _ (List.getElem_mem hlt)
 have hedl:=edAll_len rows 0 (m:=y) (fun r hr=>Nat.le_of_eq (hrl r hr))
 have hedb:(edAll 0 rows).length<=16448:=Nat.le_trans hedl (Nat.le_trans (Nat.mul_le_mul (show rows.length<=257 by omega) (show y<=64 by omega)) (by omega))
 have hAl:((L.take i).map (bt g.acc)).length=i:=by simp;omega
 have hA1:((L.take i).map (bt g.acc))++[bt g.acc L[i]]=(L.take (i+1)).map (bt g.acc):=by
  rw [List.take_succ_eq_append_getElem hlt,List.map_append];rfl
 have qa:(i+1)*1<=140737488355328:=by omega
 have hkeep:∀ x (h:i<((lrow g c L[i] (List.range x) L).2).length),((lrow g c L[i] (List.range x) L).2)[i]=L[i]:=fun x h=>((lrow_pre g c L[i] (List.range x) L).getElem hlt).symm
 have hLxr:∀ x,Reps g c (lrow g c L[i] (List.range x) L).2:=fun x=>lrow_reps h _ hrep
 obtain ⟨s,hs⟩:∃ s,L[i]=s:=⟨_,rfl⟩
 rw [hs] at hBi hLi hLin hA1
 simp only [hs] at hkeep hLxr
 have s0:(0:Int)<=(s:Int):=by omega
 have hsa:=bt_get (s:=a.acc) (k:=s) (by rw [hacc];exact hLin)
 rw [hacc] at hsa
 rw [objsL_eq]
 have hAe:((L.take i).map (bt g.acc)).map vb++[vb (bt g.acc s)]=((L.take (i+1)).map (bt g.acc)).map vb:=by
  rw [<-hA1,List.map_append];rfl
 have hAl1:((L.take (i+1)).map (bt g.acc)).length=i+1:=by simp;omega
 obtain ⟨A0,hA0⟩:∃ A0,((L.take i).map (bt g.acc))=A0:=⟨_,rfl⟩
 obtain ⟨A1,hA1e⟩:∃ A1,((L.take (i+1)).map (bt g.acc))=A1:=⟨_,rfl⟩
 rw [hA0] at hAl hAe
 rw [hA1e] at hAl1 hAe
 rw [hA0]
 obtain ⟨E0,hE0⟩:∃ E0,edAll 0 rows=E0:=⟨_,rfl⟩
 rw [hE0] at hedb ⊢
 simp only [go_sem,g1,g0,hLi,s0,hacc,hsa,hAl,qa,hAe,List.length_map,Int.toNat_natCast]
 obtain ⟨LX,hLX⟩:∃ LX:Nat->List Nat,LX=fun x=>(lrow g c s (List.range x) L).2:=⟨_,rfl⟩
 obtain ⟨RX,hRX⟩:∃ RX:Nat->List Int,RX=fun x=>(lrow g c s (List.range x) L).1:=⟨_,rfl⟩
 have hRXl:∀ x,(RX x).length=x:=fun x=>by rw [hRX];simp only;rw [lrow_len,List.length_range]
 have hLX0:LX 0=L:=by rw [hLX];rfl
 have hRX0:RX 0=[]:=by rw [hRX];rfl
 have hLXr:∀ x,Reps g c (LX x):=fun x=>by rw [hLX];exact hLxr x
 have hLXp:∀ x,L <+: LX x:=fun x=>by rw [hLX];exact lrow_pre g c s _ L
 have hLXk:∀ x (h:i<(LX x).length),(LX x)[i]=s:=fun x h=>by
  have:=((hLXp x).getElem hlt)
  rw [<-this,hs]
 have hskip:∀ x,(gto g s x<0 \/ cg c (gto g s x).toNat<0)->LX (x+1)=LX x/\RX (x+1)=RX x++[-1]:=fun x hx=>by
  rw [hLX,hRX]
  dsimp only
  rw [lrow_range]
  dsimp only
  rw [if_pos hx]
  exact ⟨rfl,rfl⟩
 have htake:∀ x,¬ (gto g s x<0 \/ cg c (gto g s x).toNat<0)->LX (x+1)=(if posF ((LX x).map (cg c)) (cg c (gto g s x).toNat)<(LX x).length then LX x else LX x++[(gto g s x).toNat])/\RX (x+1)=RX x++[((posF ((LX x).map (cg c)) (cg c (gto g s x).toNat):Nat):Int)]:=fun x hx=>by
  rw [hLX,hRX]
  dsimp only
  rw [lrow_range]
  dsimp only
  rw [if_neg hx]
  exact ⟨rfl,rfl⟩
 have hLXy:(lrow g c s (List.range y) L).2=LX y:=by rw [hLX]
 have hRXy:(lrow g c s (List.range y) L).1=RX y:=by rw [hRX]
 rw [hLXy,hRXy] at hBi
 clear hLX hRX hkeep hLxr
 refine loopX 2 (fun m z=>∃ x:Nat,m=y-x/\x<=y /\
  z=⟨[(1,.ref 0 1 0 0),(2,.ref 1 1 0 0),(3,vrows g.to),(4,vints c),(5,.ref 2 1 0 0),(6,.own 3 (LX x).length 0 (LX x).length),(7,vi i),(8,vi s),(9,vi x)],objsL (oB a) y (LX x) A1 (E0++edRow (i:Int) 0 (RX x))⟩)
  (fun z=>z=⟨[(1,.ref 0 1 0 0),(2,.ref 1 1 0 0),(3,vrows g.to),(4,vints c),(5,.ref 2 1 0 0),(6,.own 3 (LX y).length 0 (LX y).length),(7,vi i)],objsL (oB a) y (LX y) A1 (E0++edRow (i:Int) 0 (RX y))⟩) y
  ⟨[(1,.ref 0 1 0 0),(2,.ref 1 1 0 0),(3,vrows g.to),(4,vints c),(5,.ref 2 1 0 0),(6,.own 3 (LX 0).length 0 (LX 0).length),(7,vi i),(8,vi s),(9,vi (0:Nat))],objsL (oB a) y (LX 0) A1 (E0++edRow (i:Int) 0 (RX 0))⟩ ?_ ⟨0,by omega,by omega,rfl⟩ ?_ ?_
 ·rw [hLX0,hRX0,edRow,List.append_nil,objsL_eq,hAl1]
  exact WkE.kp
 rotate_left
 ·rintro z rfl
  simp only [go_sem,wi]
  refine ⟨258-(i+1),⟨[(1,.ref 0 1 0 0),(2,.ref 1 1 0 0),(3,vrows g.to),(4,vints c),(5,.ref 2 1 0 0),(6,.own 3 (LX y).length 0 (LX y).length),(7,vi (i+1:Nat))],objsL (oB a) y (LX y) A1 (E0++edRow (i:Int) 0 (RX y))⟩,by omega,WkE.kp,i+1,LX y,rows++[RX y],rfl,by simp [hri],?_,hLXr y,?_,hBi,?_⟩
  ·have:=(hLXp y).length_le;omega
  ·intro r hr
   rcases List.mem_append.1 hr with hr | hr
   ·exact hrl r hr
   ·rw [List.mem_singleton.1 hr,hRXl]
  ·have e1:edAll 0 (rows++[RX y])=E0++edRow (i:Int) 0 (RX y):=by rw [edAll_snoc,hE0,hri,Nat.zero_add]
   have e2:((LX y).take (i+1)).map (bt g.acc)=A1:=by
    obtain ⟨r,hr⟩:=hLXp y
    rw [<-hr,List.take_append_of_le_length (by omega),hA1e]
   rw [e1,e2]
 rintro m z ⟨x,rfl,hx,rfl⟩
 by_cases hxy:x<y
 rotate_left
 ·obtain rfl:x=y:=by omega
  rw [objsL_eq]
  simp only [go_sem,hasy,Int.lt_irrefl]
  refine ⟨⟨[(1,.ref 0 1 0 0),(2,.ref 1 1 0 0),(3,vrows g.to),(4,vints c),(5,.ref 2 1 0 0),(6,.own 3 (LX x).length 0 (LX x).length),(7,vi i)],objsL (oB a) x (LX x) A1 (E0++edRow (i:Int) 0 (RX x))⟩,?_,by rw [objsL_eq];simp only [List.length_append]⟩
  rw [objsL_eq]
  simp only [List.length_append]
  exact WkE.kp
 have gx:(x:Int)<(y:Int):=by omega
 have x0:(0:Int)<=(x:Int):=by omega
 have wx:=wrap_s x (by omega)
 have hrow:=row_get h hLin
 have hgt:=gto_get h hLin (show x<g.sy by omega)
 have hrl:=rowAt_len h hLin
 have hee:=edRow_len (i:Int) (RX x) 0
 rw [hRXl] at hee
 have hel:(E0++edRow (i:Int) 0 (RX x)).length<=16448+64:=by rw [List.length_append];omega
 have e1:∀ p:Nat,edRow (i:Int) 0 (RX x++[(p:Int)])=edRow (i:Int) 0 (RX x)++[((i:Int),(x:Int),(p:Int))]:=fun p=>by
  rw [edRow_snoc,if_neg (by omega),Nat.zero_add,hRXl]
 have e0:edRow (i:Int) 0 (RX x++[-1])=edRow (i:Int) 0 (RX x):=by rw [edRow_snoc,if_pos (by omega),List.append_nil]
 have hsk:=hskip x
 have htk:=htake x
 have hhi:=h.hi s x
 have hrepx:=hLXr x
 have hlex:=hrepx.le
 obtain ⟨E1,hE1⟩:∃ E1,E0++edRow (i:Int) 0 (RX x)=E1:=⟨_,rfl⟩
 rw [hE1] at hel ⊢
 obtain ⟨Lx,hLx⟩:∃ Lx,LX x=Lx:=⟨_,rfl⟩
 rw [hLx] at hsk htk hrepx hlex ⊢
 have hLxi:i<Lx.length:=by rw [<-hLx];have:=(hLXp x).length_le;omega
 have fin:∀ (st:Est) (L2:List Nat) (E2:List Edg),LX (x+1)=L2->E0++edRow (i:Int) 0 (RX (x+1))=E2->WkE 102 st ⟨[(1,.ref 0 1 0 0),(2,.ref 1 1 0 0),(3,vrows g.to),(4,vints c),(5,.ref 2 1 0 0),(6,.own 3 L2.length 0 L2.length),(7,vi i),(8,vi s),(9,vi (x+1:Nat))],objsL (oB a) y L2 A1 E2⟩ ->
  ∃ m s',m<y-x/\WkE 102 st s'/\∃ x:Nat,m=y-x/\x<=y /\
  s'=⟨[(1,.ref 0 1 0 0),(2,.ref 1 1 0 0),(3,vrows g.to),(4,vints c),(5,.ref 2 1 0 0),(6,.own 3 (LX x).length 0 (LX x).length),(7,vi i),(8,vi s),(9,vi x)],objsL (oB a) y (LX x) A1 (E0++edRow (i:Int) 0 (RX x))⟩:=by
  rintro st L2 E2 rfl rfl hst
  exact ⟨y-(x+1),_,by omega,hst,x+1,rfl,by omega,rfl⟩
 obtain ⟨t,ht⟩:∃ t,gto g s x=t:=⟨_,rfl⟩
 rw [ht] at hsk htk hhi hgt
 rw [objsL_eq (oB a) y Lx A1 E1]
 by_cases b1:t<0
 ·obtain ⟨h1,h2⟩:=hsk (.inl b1)
  simp only [go_sem,hasy,gx,s0,x0,hrow,hgt,b1,wx,Int.toNat_natCast]
  refine fin _ Lx E1 h1 (by rw [h2,e0,hE1]) ?_
  rw [objsL_eq]
  exact WkE.kp
 have b0:0<=t:=by omega
 have hct:=cg_get (c:=c) (i:=t.toNat) (by omega)
 by_cases b2:cg c t.toNat<0
 ·obtain ⟨h1,h2⟩:=hsk (.inr b2)
  simp only [go_sem,hasy,gx,s0,x0,hrow,hgt,b1,b0,hct,b2,wx,Int.toNat_natCast]
  refine fin _ Lx E1 h1 (by rw [h2,e0,hE1]) ?_
  rw [objsL_eq]
  exact WkE.kp
 obtain ⟨h1,h2⟩:=htk (fun e=>e.elim b1 b2)
 obtain ⟨pos,hpos⟩:∃ pos,posF (Lx.map (cg c)) (cg c t.toNat)=pos:=⟨_,rfl⟩
 rw [hpos] at h1 h2
 have hple:=posF_le (Lx.map (cg c)) (cg c t.toNat)
 rw [hpos,List.length_map] at hple
 have qe:(E1.length+1)*24<=140737488355328:=by omega
 have ql:(Lx.length+1)*8<=140737488355328:=by omega
 have tcast:((t.toNat:Nat):Int)=t:=by omega
 simp only [go_sem,hasy,gx,s0,x0,hrow,hgt,b1,b0,hct,b2,Int.toNat_natCast]
 refine loopX 4 (fun m z=>∃ k:Nat,m=Lx.length-k/\k<=Lx.length /\
  z=⟨[(1,.ref 0 1 0 0),(2,.ref 1 1 0 0),(3,vrows g.to),(4,vints c),(5,.ref 2 1 0 0),(6,.own 3 Lx.length 0 Lx.length),(7,vi i),(8,vi s),(9,vi x),(10,vi t),(11,vi (if pos<k then pos else -1)),(12,vi k)],objsL (oB a) y Lx A1 E1⟩)
  (fun z=>z=⟨[(1,.ref 0 1 0 0),(2,.ref 1 1 0 0),(3,vrows g.to),(4,vints c),(5,.ref 2 1 0 0),(6,.own 3 Lx.length 0 Lx.length),(7,vi i),(8,vi s),(9,vi x),(10,vi t),(11,vi (if pos<Lx.length then pos else -1))],objsL (oB a) y Lx A1 E1⟩) Lx.length
  ⟨[(1,.ref 0 1 0 0),(2,.ref 1 1 0 0),(3,vrows g.to),(4,vints c),(5,.ref 2 1 0 0),(6,.own 3 Lx.length 0 Lx.length),(7,vi i),(8,vi s),(9,vi x),(10,vi t),(11,vi (-1)),(12,vi (0:Nat))],objsL (oB a) y Lx A1 E1⟩ ?_ ⟨0,by omega,by omega,by rw [if_neg (by omega)]⟩ ?_ ?_
 ·rw [objsL_eq]
  exact WkE.kp
 rotate_left
 ·rintro z rfl
  rw [objsL_eq (oB a) y Lx A1 E1]
  by_cases hk:pos<Lx.length
  ·rw [if_pos hk] at h1 ⊢
   have hnl:¬ ((pos:Nat):Int)<0:=by omega
   simp only [go_sem,hnl,qe,wx]
   refine fin _ Lx (E1++[((i:Int),(x:Int),(pos:Int))]) h1 (by rw [h2,e1,<-List.append_assoc,hE1]) ?_
   rw [objsL_eq]
   simp only [List.length_append,List.length_singleton,List.map_append,List.map_cons,List.map_nil]
   exact WkE.kp
  ·have hpe:pos=Lx.length:=by omega
   rw [if_neg hk] at h1 ⊢
   have hneg:(-1:Int)<0:=by omega
   simp only [go_sem,hneg,qe,ql,wx]
   refine fin _ (Lx++[t.toNat]) (E1++[((i:Int),(x:Int),(pos:Int))]) h1 (by rw [h2,e1,<-List.append_assoc,hE1]) ?_
   rw [objsL_eq,hpe]
   simp only [List.length_append,List.length_singleton,List.map_append,List.map_cons,List.map_nil,vn,tcast]
   exact WkE.kp
 rintro m z ⟨k,rfl,hk,rfl⟩
 by_cases hkF:k<Lx.length
 rotate_left
 ·obtain rfl:k=Lx.length:=by omega
  rw [objsL_eq (oB a) y Lx A1 E1]
  simp only [go_sem,Int.lt_irrefl]
  refine ⟨⟨[(1,.ref 0 1 0 0),(2,.ref 1 1 0 0),(3,vrows g.to),(4,vints c),(5,.ref 2 1 0 0),(6,.own 3 Lx.length 0 Lx.length),(7,vi i),(8,vi s),(9,vi x),(10,vi t),(11,vi (if pos<Lx.length then pos else -1))],objsL (oB a) y Lx A1 E1⟩,?_,?_⟩
  ·rw [objsL_eq]
   exact WkE.kp
  ·rw [objsL_eq]
 have k1:(k:Int)<(Lx.length:Int):=by omega
 have k0:(0:Int)<=(k:Int):=by omega
 have wk:=wrap_s k (by omega)
 have hFg:=vn_get hkF
 have hFk:=hrepx.lt _ (List.getElem_mem hkF)
 have hdec:(cg c Lx[k]=cg c t.toNat) ↔ pos=k:=by
  rw [<-hpos]
  constructor
  ·intro e
   rw [<-e]
   have:=posF_nodup hrepx.nodup k (by simpa using hkF)
   rw [List.getElem_map] at this
   exact this
  ·intro e
   have hlt2:posF (Lx.map (cg c)) (cg c t.toNat)<(Lx.map (cg c)).length:=by rw [List.length_map];omega
   have:=posF_get hlt2
   simp only [e,List.getElem_map] at this
   exact this
 have hcp:=cg_get (c:=c) (i:=Lx[k]) (by omega)
 generalize Lx[k]=p at hFg hdec hcp
 have p0:(0:Int)<=(p:Int):=by omega
 rw [objsL_eq (oB a) y Lx A1 E1]
 by_cases hpk:pos=k
 ·have he:=hdec.2 hpk
  simp only [go_sem,k1,k0,p0,b0,hFg,hcp,hct,he,wk,Int.toNat_natCast]
  refine ⟨Lx.length-(k+1),⟨[(1,.ref 0 1 0 0),(2,.ref 1 1 0 0),(3,vrows g.to),(4,vints c),(5,.ref 2 1 0 0),(6,.own 3 Lx.length 0 Lx.length),(7,vi i),(8,vi s),(9,vi x),(10,vi t),(11,vi k),(12,vi (k+1:Nat))],objsL (oB a) y Lx A1 E1⟩,by omega,?_,k+1,rfl,by omega,by rw [hpk,if_pos (by omega)];rfl⟩
  rw [objsL_eq]
  exact WkE.kp
 ·have he:=mt hdec.1 hpk
  simp only [go_sem,k1,k0,p0,b0,hFg,hcp,hct,he,wk,Int.toNat_natCast]
  have hiff:(pos<k+1) ↔ (pos<k):=by omega
  refine ⟨Lx.length-(k+1),⟨[(1,.ref 0 1 0 0),(2,.ref 1 1 0 0),(3,vrows g.to),(4,vints c),(5,.ref 2 1 0 0),(6,.own 3 Lx.length 0 Lx.length),(7,vi i),(8,vi s),(9,vi x),(10,vi t),(11,vi (if pos<k then pos else -1)),(12,vi (k+1:Nat))],objsL (oB a) y Lx A1 E1⟩,by omega,?_,k+1,rfl,by omega,by simp only [hiff];rfl⟩
  rw [objsL_eq]
  exact WkE.kp
abbrev nil3:AV:=.agg [vi 0,.val (.slice none 0 0),.val (.slice none 0 0)]
set_option maxHeartbeats 1000000 in
theorem checked_s (a:Au) (hz:SzA a):Ctr Try.prog 52 [vau a] (vae (if validM a=0 then (a,0) else (nilA,4))):=by
 refine specC f52 (by simp) fun F0 w0=>?_
 have hv:=rValid_s a hz
 unfold c52
 refine CwpE.cut (st:=⟨[(1,.ref 0 1 0 0),(2,.ref 1 1 0 0),(3,vi 0)],[oB a,.arr 1 3 26 [nil3]]⟩) ?_ ?_
 ·simp only [go_sem]
  exact ⟨_,WkE.kp,rfl⟩
 by_cases h0:validM a=0
 ·rw [if_pos h0]
  rw [h0] at hv
  refine CwpE.vc ?_
  simp only [go_sem]
  refine callT hv rfl ?_
  simp only [go_sem]
  exact snap_tup2 (.tree _ rfl) (.tree _ rfl)
 ·rw [if_neg h0]
  refine CwpE.vc ?_
  simp only [go_sem]
  refine callT hv rfl ?_
  simp only [go_sem,h0]
  exact snap_tup2 nil_snap (.tree _ rfl)
theorem szA_of {g:Gr} (h:GrOk g) (hn:g.acc.length<=257) (hy:g.sy<=64):SzA (auOf g) :=
 ⟨by show g.acc.length<=100000;omega,Nat.le_trans (edl g h) (Nat.le_trans (Nat.mul_le_mul hn hy) (by omega))⟩
theorem szA_va {a:Au} (hv:VA a):SzA a:=⟨by have:=hv.n;omega,by have:=hv.m;omega⟩
set_option maxHeartbeats 1000000 in
theorem rFixed_s (a:Au) (hz:SzA a):Ctr Try.prog 23 [vau a] (vae (fixedM a)):=by
 refine specC f23 (by simp) fun F0 w0=>?_
 have hval:=rValid_s a hz
 unfold c23
 refine CwpE.cut (st:=⟨[(1,.ref 0 1 0 0),(2,.ref 1 1 0 0),(3,vi 0)],[oB a,.arr 1 3 26 [nil3]]⟩) ?_ ?_
 ·simp only [go_sem]
  exact ⟨_,WkE.kp,rfl⟩
 refine CwpE.cut (st:=⟨[(1,.ref 0 1 0 0),(2,.ref 1 1 0 0),(3,vi 0),(4,vi (validM a))],[oB a,.arr 1 3 26 [nil3]]⟩) ?_ ?_
 ·simp only [go_sem]
  refine callT hval rfl ?_
  simp only [go_sem]
  exact ⟨_,WkE.kp,rfl⟩
 by_cases h0:validM a=0
 rotate_left
 ·refine CwpE.step (fun _=>False) ?_ (fun _ h=>h.elim)
  have:fixedM a=(nilA,validM a):=by rw [fixedM,if_neg h0]
  rw [this]
  simp only [go_sem,h0]
  exact snap_tup2 nil_snap (.tree _ rfl)
 have hV:=valid_VA.1 h0
 have hS:=Sets_s a hV
 refine CwpE.cut (st:=⟨[(1,.ref 0 1 0 0),(2,.ref 1 1 0 0),(3,vi 0)],[oB a,.arr 1 3 26 [nil3]]⟩) ?_ ?_
 ·simp only [go_sem,h0]
  exact ⟨_,WkE.kp,rfl⟩
 have hfix:fixedM a=match setsM a with | none=>(nilA,4) | some g=>checkedM (leastR g):=by rw [fixedM,if_pos h0];rfl
 rw [hfix]
 cases hs:setsM a with
 | none =>
  have hb:bfs 256 (nextA a) a.sy.toNat (firstA a)=none:=by
   rw [setsM] at hs
   exact Option.map_eq_none_iff.1 hs
  rw [hb] at hS
  refine CwpE.vc ?_
  simp only [go_sem]
  refine callT hS rfl ?_
  simp only [resB,go_sem,↓reduceIte,Nat.reduceLT,Nat.reduceEqDiff,Nat.reduceAdd,Int.reduceEq]
  exact snap_tup2 nil_snap (.tree _ rfl)
 | some g =>
  obtain ⟨r,hb,hg⟩:∃ r,bfs 256 (nextA a) a.sy.toNat (firstA a)=some r/\grOf a.sy.toNat (fun s=>meets s a.acc) r.1 r.2=g:=by
   rw [setsM] at hs
   exact Option.map_eq_some_iff.1 hs
  obtain ⟨hok,hn,hsy,_⟩:=setsM_ok hs
  have hy:=hV.sy
  rw [hb] at hS
  have hr:resB a.sy.toNat (fun s=>meets s a.acc) (some r)=(auOf g,0):=by rw [<-hg];rfl
  rw [hr] at hS
  obtain ⟨l1,l2,_⟩:=leastR_lang hok (by omega)
  have hL:=rLeast_s g hok (by omega) (by omega)
  have hsl:(leastR g).sy=g.sy:=rfl
  have hC:=checked_s (auOf (leastR g)) (szA_of l1 (by omega) (by omega))
  have hck:(if validM (auOf (leastR g))=0 then (auOf (leastR g),0) else (nilA,4))=checkedM (leastR g):=rfl
  rw [hck] at hC
  dsimp only
  generalize checkedM (leastR g)=R at hC ⊢
  refine CwpE.vc ?_
  simp only [go_sem]
  refine callT hS rfl ?_
  simp only [go_sem]
  refine callT hL rfl ?_
  simp only [go_sem]
  refine callT hC rfl ?_
  simp only [go_sem]
  exact snap_tup2 (.tree _ rfl) (.tree _ rfl)
abbrev vgr (g:Gr):AV:=.agg [vi g.sy,vbools g.acc,vrows g.to]
abbrev oG (g:Gr):AObj:=.arr 1 3 97 [vgr g]
def hitB (cur:List Bool) (t:Int):Bool:=decide (0<=t) && bt cur t.toNat
theorem live1_s (cur:List Bool) (t:Int) (ht:t<cur.length):Ctr Try.prog 87 [vi t,.ptr [vbools cur]] (vb (hitB cur t)):=by
 refine specE f87 (by simp) fun F0 w0=>?_
 by_cases h:0<=t
 ·have hg:=bt_get (s:=cur) (k:=t.toNat) (by omega)
  have:hitB cur t=bt cur t.toNat:=by simp [hitB,h]
  rw [this]
  simp only [c87,go_sem,↓reduceIte,reduceCtorEq,Nat.reduceLT,Nat.reduceEqDiff,h,hg]
  exact .tree _ rfl
 ·have:hitB cur t=false:=by simp [hitB,h]
  rw [this]
  simp only [c87,go_sem,↓reduceIte,reduceCtorEq,Nat.reduceLT,Nat.reduceEqDiff,h]
  exact .tree _ rfl
theorem shift_map {α : Type} {f : α->AV} {k:Nat} (h:∀ x,AV.shift k (f x)=f x) (l:List α):(l.map f).map (AV.shift k)=l.map f:=by
 rw [List.map_map];exact List.map_congr_left fun x _=>h x
theorem hit_any {g:Gr} (h:GrOk g) {cur:List Bool} {j:Nat}:(P5.rowAt g j).any (hitB cur)=true ↔ ∃ i,bt cur i=true/\rrel g i j=true:=by
 unfold rrel
 simp only [List.any_eq_true,hitB,Bool.and_eq_true,decide_eq_true_eq]
 constructor
 ·rintro ⟨t,ht,h1,h2⟩
  exact ⟨t.toNat,h2,t,ht,by omega⟩
 ·rintro ⟨i,h1,t,ht,rfl⟩
  exact ⟨_,ht,by omega,by simpa using h1⟩
set_option maxHeartbeats 2000000 in
theorem live_s (g:Gr) (h0:GrOk g) (hn2:g.acc.length<=257) (hyb:g.sy<=1000):Ctr Try.prog 81 [vgr g] (vbools (liveM g)):=by
 have hcs:=live_is g
 have hn1:=h0.n
 have closed:∀ t:List Bool,t.length=g.acc.length->(∀ i,bt g.acc i=true->bt t i=true)->(∀ i,bt t i=true->bt (liveM g) i=true)->(∀ j,j<g.acc.length->(P5.rowAt g j).any (hitB t)=true->bt t j=true)->t=liveM g:=fun t htl hsub hsnd hcl=>by
  refine bt_ext (by rw [htl,hcs.len]) fun j _=>⟨hsnd j,fun hj=>?_⟩
  exact hcs.least (fun j=>bt t j=true) hsub (fun i j hi hr _ hjn=>hcl j hjn ((hit_any h0).2 ⟨i,hi,hr⟩)) j hj
 refine specC f81 (by simp) fun F0 w0=>?_
 obtain ⟨n,hn⟩:∃ n,g.acc.length=n:=⟨_,rfl⟩
 have hto:g.to.length=n:=by rw [h0.len,hn]
 unfold c81
 refine CwpE.cut (st:=⟨[(1,.ref 0 1 0 0)],[oG g]⟩) ?_ ?_
 ·simp only [go_sem]
  exact ⟨_,WkE.kp,rfl⟩
 refine CwpE.cut (st:=⟨[(1,.ref 0 1 0 0),(3,.ref 2 1 0 0)],[oG g,.arr n 1 4 (g.acc.map vb),.arr 1 1 23 [.own 1 n 0 n]]⟩) ?_ ?_
 ·simp only [go_sem]
  refine callNew (Clone67_n g.acc (by omega)) (.cons (.tree _ rfl) .nil) ?_
  simp only [go_sem,AV.shift,AV.shift1,AObj.shiftO,Nat.zero_add,shift_map (f:=vb) (fun _=>rfl),hn]
  exact ⟨_,WkE.kp,rfl⟩
 refine CwpE.step (fun z=>z=⟨[(3,.ref 2 1 0 0)],[oG g,.arr n 1 4 ((liveM g).map vb),.arr 1 1 23 [.own 1 n 0 n]]⟩) ?_ ?_
 rotate_left
 ·rintro _ rfl
  refine CwpE.vc ?_
  simp only [go_sem]
  refine .own 1 n 0 n 1 4 _ _ rfl (by rw [List.length_map,hcs.len];omega) (by rw [List.length_map,hcs.len,hn]) fun i hi=>?_
  simp only [Nat.zero_add,List.getElem_map]
  exact .tree _ rfl
 simp only [go_sem]
 refine loopX 0 (fun m z=>∃ (t:List Bool) (b:Bool),m=2*(n-cnt t)+b.toNat/\t.length=n/\(∀ i,bt g.acc i=true->bt t i=true)/\(∀ i,bt t i=true->bt (liveM g) i=true)/\(b=false->t=liveM g)/\z=⟨[(1,.ref 0 1 0 0),(3,.ref 2 1 0 0),(4,vb b)],[oG g,.arr n 1 4 (t.map vb),.arr 1 1 23 [.own 1 n 0 n]]⟩)
  (fun z=>z=⟨[(3,.ref 2 1 0 0)],[oG g,.arr n 1 4 ((liveM g).map vb),.arr 1 1 23 [.own 1 n 0 n]]⟩) (2*(n-cnt g.acc)+1)
  ⟨[(1,.ref 0 1 0 0),(3,.ref 2 1 0 0),(4,vb true)],[oG g,.arr n 1 4 (g.acc.map vb),.arr 1 1 23 [.own 1 n 0 n]]⟩ (WkE.kp)
  ⟨g.acc,true,rfl,hn,fun _ h=>h,hcs.sub,fun h=>(by cases h),rfl⟩ ?_ ?_
 rotate_left
 ·rintro z rfl
  simp only [go_sem]
  exact ⟨_,.refl _ _,rfl⟩
 rintro m z ⟨t,b,rfl,htl,hsub,hsnd,hb,rfl⟩
 cases b with
 | false =>
  rw [hb rfl]
  simp only [go_sem]
  exact ⟨_,WkE.kp,rfl⟩
 | true =>
  simp only [go_sem,List.length_map,hto]
  have hct:cnt t<=n:=by have:=cnt_le t;omega
  refine loopX 2 (fun m z=>∃ (k:Nat) (u:List Bool) (b:Bool),m=n-k/\k<=n/\u.length=n/\(∀ i,bt t i=true->bt u i=true)/\(∀ i,bt u i=true->bt (liveM g) i=true) /\
   (b=true->cnt t<cnt u)/\(b=false->u=t/\∀ j,j<k->(P5.rowAt g j).any (hitB t)=true->bt t j=true) /\
   z=⟨[(1,.ref 0 1 0 0),(3,.ref 2 1 0 0),(4,vb b),(12,vrows g.to),(13,vi n),(14,vi k)],[oG g,.arr n 1 4 (u.map vb),.arr 1 1 23 [.own 1 n 0 n]]⟩)
   (fun z=>∃ (u:List Bool) (b:Bool),u.length=n/\(∀ i,bt t i=true->bt u i=true)/\(∀ i,bt u i=true->bt (liveM g) i=true)/\(b=true->cnt t<cnt u)/\(b=false->u=t/\u=liveM g) /\
    z=⟨[(1,.ref 0 1 0 0),(3,.ref 2 1 0 0),(4,vb b)],[oG g,.arr n 1 4 (u.map vb),.arr 1 1 23 [.own 1 n 0 n]]⟩) n
   ⟨[(1,.ref 0 1 0 0),(3,.ref 2 1 0 0),(4,vb false),(12,vrows g.to),(13,vi n),(14,vi (0:Nat))],[oG g,.arr n 1 4 (t.map vb),.arr 1 1 23 [.own 1 n 0 n]]⟩ (WkE.kp)
   ⟨0,t,false,by omega,by omega,htl,fun _ h=>h,hsnd,fun h=>(by cases h),fun _=>⟨rfl,fun j hj=>absurd hj (by omega)⟩,rfl⟩ ?_ ?_
  rotate_left
  ·rintro z ⟨u,b,hul,h1,h2,h3,h4,rfl⟩
   simp only [go_sem]
   have hcu:cnt u<=n:=by have:=cnt_le u;omega
   refine ⟨2*(n-cnt u)+b.toNat,_,?_,.refl _ _,u,b,rfl,hul,fun i hi=>h1 i (hsub i hi),h2,fun e=>(h4 e).2,rfl⟩
   cases b with
   | true=>have:=h3 rfl;simp only [Bool.toNat_true];omega
   | false=>rw [(h4 rfl).1];simp only [Bool.toNat_false,Bool.toNat_true];omega
  rintro m z ⟨k,u,b,rfl,hk,hul,h1,h2,h3,h4,rfl⟩
  by_cases hlt:k<n
  rotate_left
  ·obtain rfl:k=n:=by omega
   simp only [go_sem,Int.lt_irrefl]
   refine ⟨_,WkE.kp,u,b,hul,h1,h2,h3,fun e=>?_,rfl⟩
   obtain ⟨e1,e2⟩:=h4 e
   refine ⟨e1,closed u (by omega) (by rw [e1];exact hsub) h2 fun j hj hh=>?_⟩
   rw [e1] at hh ⊢
   exact e2 j (by omega) hh
  have g1:(k:Int)<(n:Int):=by omega
  have g0:(0:Int)<=(k:Int):=by omega
  have w1:=wrap_s k (by omega)
  have hrow:=row_get h0 (i:=k) (by omega)
  have huk:=bt_get (s:=u) (k:=k) (by omega)
  have hrl:=rowAt_len h0 (i:=k) (by omega)
  have hcon:=ContainsFunc86_s 87 [.ptr [vbools u]] rfl (hitB u) (P5.rowAt g k) (by omega) fun x hx=>live1_s u x (by
   obtain ⟨y,hy,rfl⟩:=List.getElem_of_mem hx
   rw [rowAt_get hy]
   have:=h0.hi k y
   omega)
  cases b3:bt u k with
  | true =>
   rw [b3] at huk
   simp only [go_sem,g1,g0,hrow,huk,w1,Int.toNat_natCast]
   refine ⟨n-(k+1),⟨[(1,.ref 0 1 0 0),(3,.ref 2 1 0 0),(4,vb b),(12,vrows g.to),(13,vi n),(14,vi (k+1:Nat))],[oG g,.arr n 1 4 (u.map vb),.arr 1 1 23 [.own 1 n 0 n]]⟩,by omega,WkE.kp,k+1,u,b,rfl,by omega,hul,h1,h2,h3,fun e=>⟨(h4 e).1,fun j hj hh=>?_⟩,rfl⟩
   by_cases e2:j=k
   ·subst e2;rw [<- (h4 e).1];exact b3
   ·exact (h4 e).2 j (by omega) hh
  | false =>
   rw [b3] at huk
   simp only [go_sem,g1,g0,hrow,huk,Int.toNat_natCast]
   refine callF hcon (.cons (.tree _ rfl) (.cons (snap_clo (.cons (.ref 2 1 0 0 [.own 1 n 0 n] [vbools u] rfl rfl fun i h1 h2=>?_) .nil)) .nil)) rfl ?_
   ·have e:i=0:=by simp only [List.length_singleton] at h1;omega
    subst e
    refine .own 1 n 0 n 1 4 (u.map vb) (u.map vb) rfl (by simp [hul]) (by simp [hul]) fun q hq=>?_
    simp only [Nat.zero_add]
    exact .tree _ (List.all_eq_true.1 (isT_map (fun _=>rfl) _) _ (List.getElem_mem _))
   cases ha:(P5.rowAt g k).any (hitB u) with
   | false =>
    simp only [go_sem,w1]
    refine ⟨n-(k+1),⟨[(1,.ref 0 1 0 0),(3,.ref 2 1 0 0),(4,vb b),(12,vrows g.to),(13,vi n),(14,vi (k+1:Nat))],[oG g,.arr n 1 4 (u.map vb),.arr 1 1 23 [.own 1 n 0 n]]⟩,by omega,WkE.kp,k+1,u,b,rfl,by omega,hul,h1,h2,h3,fun e=>⟨(h4 e).1,fun j hj hh=>?_⟩,rfl⟩
    by_cases e2:j=k
    ·subst e2;rw [(h4 e).1,hh] at ha;cases ha
    ·exact (h4 e).2 j (by omega) hh
   | true =>
    have hpb:∀ j,bt (putS u k) j=(decide (j=k) || bt u j):=fun j=>putS_bt (by omega)
    have hc:=cnt_put (s:=u) (k:=k) (by omega) b3
    have hct':cnt t<=cnt u:=cnt_sub (by omega) h1
    simp only [go_sem,g1,g0,huk,w1,bt_set,Int.toNat_natCast]
    refine ⟨n-(k+1),⟨[(1,.ref 0 1 0 0),(3,.ref 2 1 0 0),(4,vb true),(12,vrows g.to),(13,vi n),(14,vi (k+1:Nat))],[oG g,.arr n 1 4 ((putS u k).map vb),.arr 1 1 23 [.own 1 n 0 n]]⟩,by omega,WkE.kp,k+1,putS u k,true,rfl,by omega,by rw [putS_len,hul],fun i hi=>by rw [hpb,h1 i hi,Bool.or_true],fun i hi=>?_,fun _=>by omega,fun h=>(by cases h),rfl⟩
    rw [hpb] at hi
    simp only [Bool.or_eq_true,decide_eq_true_eq] at hi
    rcases hi with rfl | hi
    ·obtain ⟨j,hj,hr⟩:=(hit_any h0).1 ha
     exact hcs.clo j i (h2 j hj) hr (by omega)
    ·exact h2 i hi
abbrev objsX (g:Gr) (n:Nat) (M:List AV) (R:List AObj):List AObj:=[oG g,.arr 1 3 97 [nil3],.arr n 1 22 M]++R
theorem row_rg {g:Gr} (h:GrOk g) {i:Nat} (hi:i<g.acc.length):(P5.rowAt g i).map vi=rg g.sy fun p=>vi (gto g i p):=by
 apply List.ext_getElem?
 intro j
 by_cases hj:j<g.sy
 ·rw [gto_get h hi hj,rg_get hj]
 ·rw [List.getElem?_eq_none (by rw [List.length_map,rowAt_len h hi];omega),List.getElem?_eq_none (by rw [rg_len];omega)]
set_option maxHeartbeats 4000000 in
theorem trim_s (g:Gr) (h:GrOk g) (hnb:g.acc.length<=257) (hyb:g.sy<=1000):Ctr Try.prog 75 [vgr g] (vgr (trimM g)):=by
 have hlv:=live_s g h hnb hyb
 have hll:=live_len g
 have hok:=trim_ok h
 have hcl:∀ i,(hi:i<g.acc.length)->CtrN Try.prog 47 [vints (P5.rowAt g i)] (.own 0 g.sy 0 g.sy) [.arr g.sy 1 3 (rg g.sy fun p=>vi (gto g i p))]:=fun i hi=>by
  have:=Clone47_n (P5.rowAt g i) (by rw [rowAt_len h hi];omega)
  rw [rowAt_len h hi] at this
  rw [<-row_rg h hi]
  exact this
 refine specC f75 (by simp) fun F0 w0=>?_
 obtain ⟨n,hn⟩:∃ n,g.acc.length=n:=⟨_,rfl⟩
 obtain ⟨y,hy⟩:∃ y,g.sy=y:=⟨_,rfl⟩
 have hto:g.to.length=n:=by rw [h.len,hn]
 have hrow:=fun i (hi:i<n)=>row_get h (i:=i) (by omega)
 have hrl:=fun i (hi:i<n)=>rowAt_len h (i:=i) (by omega)
 have hgt:=fun i x (hi:i<n) (hx:x<y)=>gto_get h (i:=i) (x:=x) (by omega) (by omega)
 rw [hn] at hcl hll
 rw [hy] at hrl
 simp only [hy] at hcl
 have q0:(0:Int)<=(n:Int):=by omega
 have q2:((24:Nat):Int)*(n:Int)<=281474976710656:=by omega
 have q3:(n:Int)<=9223372036854775807:=by omega
 obtain ⟨Mk,hMk⟩:∃ Mk:Nat->List AV,Mk=fun k=>rg n fun q=>if q<k then .own (q+3) y 0 y else nilV:=⟨_,rfl⟩
 obtain ⟨Rk,hRk⟩:∃ Rk:Nat->List AObj,Rk=fun k=>rg k fun i=>.arr y 1 3 (rg y fun p=>vi (trimT g (gto g i p))):=⟨_,rfl⟩
 have hM0:(rg n fun _=>nilV)=Mk 0:=by rw [hMk];exact rg_congr fun q _=>by rw [if_neg (by omega)]
 have hR0:([]:List AObj)=Rk 0:=by rw [hRk];rfl
 unfold c75
 refine CwpE.cut (st:=⟨[(1,.ref 0 1 0 0),(2,.ref 1 1 0 0)],[oG g,.arr 1 3 97 [nil3]]⟩) ?_ ?_
 ·simp only [go_sem]
  exact ⟨_,WkE.kp,rfl⟩
 refine CwpE.cut (st:=⟨[(1,.ref 0 1 0 0),(2,.ref 1 1 0 0),(3,vbools (liveM g))],[oG g,.arr 1 3 97 [nil3]]⟩) ?_ ?_
 ·simp only [go_sem]
  refine callT hlv rfl ?_
  simp only [go_sem]
  exact ⟨_,WkE.kp,rfl⟩
 refine CwpE.cut (st:=⟨[(1,.ref 0 1 0 0),(2,.ref 1 1 0 0),(3,vbools (liveM g)),(4,.own 2 n 0 n)],objsX g n (Mk 0) (Rk 0)⟩) ?_ ?_
 ·rw [<-hM0,<-hR0]
  simp only [go_sem,List.length_map,hto,q0,q2,q3,Int.le_refl,Int.toNat_natCast,rg_rep]
  exact ⟨_,WkE.kp,rfl⟩
 refine CwpE.step (fun z=>z=⟨[(1,.ref 0 1 0 0),(2,.ref 1 1 0 0),(4,.own 2 n 0 n)],objsX g n (Mk n) (Rk n)⟩) ?_ ?_
 ·simp only [go_sem,List.length_map,hto]
  refine loopX 0 (fun m z=>∃ i:Nat,m=n-i/\i<=n/\z=⟨[(1,.ref 0 1 0 0),(2,.ref 1 1 0 0),(3,vbools (liveM g)),(4,.own 2 n 0 n),(16,vrows g.to),(17,vi n),(18,vi i)],objsX g n (Mk i) (Rk i)⟩)
   (fun z=>z=⟨[(1,.ref 0 1 0 0),(2,.ref 1 1 0 0),(4,.own 2 n 0 n)],objsX g n (Mk n) (Rk n)⟩) n
   ⟨[(1,.ref 0 1 0 0),(2,.ref 1 1 0 0),(3,vbools (liveM g)),(4,.own 2 n 0 n),(16,vrows g.to),(17,vi n),(18,vi (0:Nat))],objsX g n (Mk 0) (Rk 0)⟩ (WkE.kp) ⟨0,by omega,by omega,rfl⟩ ?_ ?_
  rotate_left
  ·rintro z rfl
   simp only [go_sem]
   exact ⟨_,.refl _ _,rfl⟩
  rintro m z ⟨i,rfl,hi,rfl⟩
  by_cases hlt:i<n
  rotate_left
  ·obtain rfl:i=n:=by omega
   simp only [go_sem,Int.lt_irrefl]
   exact ⟨_,WkE.kp,rfl⟩
  have g1:(i:Int)<(n:Int):=by omega
  have g0:(0:Int)<=(i:Int):=by omega
  have wi:=wrap_s i (by omega)
  have hMg:(Mk i)[i]? = some nilV:=by rw [hMk];simp only;rw [rg_get hlt,if_neg (by omega)]
  have hMn:(Mk i).set i (.own (i+3) y 0 y)=Mk (i+1):=by
   rw [hMk]
   simp only
   rw [rg_set]
   refine rg_congr fun p _=>?_
   by_cases h:p=i
   ·rw [if_pos h,if_pos (by omega),h]
   ·rw [if_neg h]
    by_cases h2:p<i
    ·rw [if_pos h2,if_pos (by omega)]
    ·rw [if_neg h2,if_neg (by omega)]
  have hRn:Rk i++[.arr y 1 3 (rg y fun p=>vi (trimT g (gto g i p)))]=Rk (i+1):=by
   rw [hRk]
   simp only
   rw [rg_succ]
  have hRl:(Rk i).length=i:=by rw [hRk];exact rg_len _ _
  obtain ⟨M1,hM1⟩:∃ M1,Mk (i+1)=M1:=⟨_,rfl⟩
  obtain ⟨R1,hR1⟩:∃ R1,Rk (i+1)=R1:=⟨_,rfl⟩
  rw [hM1] at hMn
  rw [hR1] at hRn
  have hM1g:M1[i]? = some (.own (i+3) y 0 y):=by rw [<-hMn,List.getElem?_set_self];have:=(List.getElem?_eq_some_iff.1 hMg).1;exact this
  generalize Mk i=M at hMg hMn ⊢
  generalize Rk i=R at hRn hRl ⊢
  have hR2:∀ o,(R++[o])[i]? = some o:=fun o=>by rw [<-hRl];simp
  have hRs:∀ o x,(R++[o]).set i x=R++[x]:=fun o x=>by rw [<-hRl];simp
  have hri:=hrow i hlt
  have hli:=hrl i hlt
  simp only [go_sem,g1,g0,hri,Int.toNat_natCast]
  refine callNew (hcl i hlt) (.cons (.tree _ rfl) .nil) ?_
  obtain ⟨D,hD⟩:∃ D:Nat->Nat->AV,D=fun x p=>if p<x then vi (trimT g (gto g i p)) else vi (gto g i p):=⟨_,rfl⟩
  have hsh:(rg y fun p=>vi (gto g i p)).map (AV.shift (R.length+1+1+1))=rg y (D 0):=by
   rw [rg_mapA]
   exact rg_congr fun p _=>by rw [hD];simp only;rw [if_neg (by omega)];rfl
  rw [hRl] at hsh
  simp only [go_sem,AV.shift,AV.shift1,AObj.shiftO,Nat.zero_add,hRl,hsh,g1,g0,hMg,hR2,hli,List.length_map,Int.toNat_natCast]
  refine loopX 2 (fun m z=>∃ x:Nat,m=y-x/\x<=y/\z=⟨[(1,.ref 0 1 0 0),(2,.ref 1 1 0 0),(3,vbools (liveM g)),(4,.own 2 n 0 n),(5,vi i),(16,vrows g.to),(17,vi n),(18,vi i),(28,vints (P5.rowAt g i)),(29,vi y),(30,vi x)],objsX g n M1 (R++[.arr y 1 3 (rg y (D x))])⟩)
   (fun z=>z=⟨[(1,.ref 0 1 0 0),(2,.ref 1 1 0 0),(3,vbools (liveM g)),(4,.own 2 n 0 n),(16,vrows g.to),(17,vi n),(18,vi i)],objsX g n M1 (R++[.arr y 1 3 (rg y (D y))])⟩) y
   ⟨[(1,.ref 0 1 0 0),(2,.ref 1 1 0 0),(3,vbools (liveM g)),(4,.own 2 n 0 n),(5,vi i),(16,vrows g.to),(17,vi n),(18,vi i),(28,vints (P5.rowAt g i)),(29,vi y),(30,vi (0:Nat))],objsX g n M1 (R++[.arr y 1 3 (rg y (D 0))])⟩ ?_ ⟨0,by omega,by omega,rfl⟩ ?_ ?_
  ·rw [<-hMn]
   exact WkE.kp
  rotate_left
  ·rintro z rfl
   have e:(.arr y 1 3 (rg y (D y)):AObj) = .arr y 1 3 (rg y fun p=>vi (trimT g (gto g i p))):=by
    congr 1
    exact rg_congr fun p hp=>by rw [hD];simp only;rw [if_pos hp]
   rw [e,hRn]
   simp only [go_sem,wi]
   exact ⟨n-(i+1),⟨[(1,.ref 0 1 0 0),(2,.ref 1 1 0 0),(3,vbools (liveM g)),(4,.own 2 n 0 n),(16,vrows g.to),(17,vi n),(18,vi (i+1:Nat))],objsX g n M1 R1⟩,by omega,WkE.kp,i+1,rfl,by omega,by rw [hM1,hR1];rfl⟩
  rintro m z ⟨x,rfl,hx,rfl⟩
  by_cases hxy:x<y
  rotate_left
  ·obtain rfl:x=y:=by omega
   simp only [go_sem,Int.lt_irrefl]
   exact ⟨_,WkE.kp,rfl⟩
  have gx1:(x:Int)<(y:Int):=by omega
  have gx0:(0:Int)<=(x:Int):=by omega
  have wx:=wrap_s x (by omega)
  have hgx:=hgt i x hlt hxy
  have hDs:∀ v,v=trimT g (gto g i x)->(rg y (D x)).set x (vi v)=rg y (D (x+1)):=fun v hv=>by
   rw [rg_set]
   refine rg_congr fun p _=>?_
   rw [hD]
   simp only
   by_cases h:p=x
   ·rw [if_pos h,if_pos (by omega),hv,h]
   ·rw [if_neg h]
    by_cases h2:p<x
    ·rw [if_pos h2,if_pos (by omega)]
    ·rw [if_neg h2,if_neg (by omega)]
  have hDx:(rg y (D x))[x]? = some (vi (gto g i x)):=by
   rw [rg_get hxy,hD];simp only;rw [if_neg (by omega)]
  have hsame:trimT g (gto g i x)=gto g i x->rg y (D x)=rg y (D (x+1)):=fun e=>by
   refine rg_congr fun p _=>?_
   rw [hD]
   simp only
   by_cases h2:p<x
   ·rw [if_pos h2,if_pos (by omega)]
   ·rw [if_neg h2]
    by_cases h3:p=x
    ·rw [if_pos (by omega),h3,e]
    ·rw [if_neg (by omega)]
  have hhi:=h.hi i x
  obtain ⟨t,ht⟩:∃ t,gto g i x=t:=⟨_,rfl⟩
  rw [ht] at hgx hDs hDx hsame hhi
  by_cases b1:0<=t
  rotate_left
  ·have e:=hsame (by rw [trimT,if_neg (by omega)])
   simp only [go_sem,gx1,gx0,hgx,b1,wx,Int.toNat_natCast]
   exact ⟨y-(x+1),⟨[(1,.ref 0 1 0 0),(2,.ref 1 1 0 0),(3,vbools (liveM g)),(4,.own 2 n 0 n),(5,vi i),(16,vrows g.to),(17,vi n),(18,vi i),(28,vints (P5.rowAt g i)),(29,vi y),(30,vi (x+1:Nat))],objsX g n M1 (R++[.arr y 1 3 (rg y (D x))])⟩,by omega,WkE.kp,x+1,rfl,by omega,by rw [e];rfl⟩
  have hlt':=bt_get (s:=liveM g) (k:=t.toNat) (by omega)
  cases hb:bt (liveM g) t.toNat with
  | true =>
   rw [hb] at hlt'
   have e:=hsame (by rw [trimT,if_neg (by rw [hb];simp)])
   simp only [go_sem,gx1,gx0,hgx,b1,hlt',wx,Int.toNat_natCast]
   exact ⟨y-(x+1),⟨[(1,.ref 0 1 0 0),(2,.ref 1 1 0 0),(3,vbools (liveM g)),(4,.own 2 n 0 n),(5,vi i),(16,vrows g.to),(17,vi n),(18,vi i),(28,vints (P5.rowAt g i)),(29,vi y),(30,vi (x+1:Nat))],objsX g n M1 (R++[.arr y 1 3 (rg y (D x))])⟩,by omega,WkE.kp,x+1,rfl,by omega,by rw [e];rfl⟩
  | false =>
   rw [hb] at hlt'
   have hD1:=hDs (-1) (by rw [trimT,if_pos ⟨b1,hb⟩])
   simp only [go_sem,gx1,gx0,g1,g0,hgx,b1,hlt',hM1g,hR2,hRs,hDx,hD1,wx,Int.toNat_natCast]
   exact ⟨y-(x+1),⟨[(1,.ref 0 1 0 0),(2,.ref 1 1 0 0),(3,vbools (liveM g)),(4,.own 2 n 0 n),(5,vi i),(16,vrows g.to),(17,vi n),(18,vi i),(28,vints (P5.rowAt g i)),(29,vi y),(30,vi (x+1:Nat))],objsX g n M1 (R++[.arr y 1 3 (rg y (D (x+1)))])⟩,by omega,WkE.kp,x+1,rfl,by omega,rfl⟩
 rintro _ rfl
 have hMq:∀ q,q<n->(Mk n)[q]? = some (.own (q+3) y 0 y):=fun q hq=>by rw [hMk];simp only;rw [rg_get hq,if_pos hq]
 have hMl:(Mk n).length=n:=by rw [hMk];exact rg_len _ _
 have hRq:∀ q,q<n->(Rk n)[q]? = some (.arr y 1 3 ((P5.rowAt (trimM g) q).map vi)):=fun q hq=>by
  rw [hRk]
  simp only
  have hsy:(trimM g).sy=y:=hy
  rw [rg_get hq,row_rg hok (by show q<g.acc.length;omega),hsy]
  congr 2
  exact rg_congr fun p _=>by rw [trim_to]
 have hrl2:∀ q,q<n->(P5.rowAt (trimM g) q).length=y:=fun q hq=>by rw [rowAt_len hok (by show q<g.acc.length;omega)];exact hy
 generalize Mk n=M at *
 generalize Rk n=R at *
 refine CwpE.vc ?_
 simp only [go_sem]
 refine .agg _ _ rfl fun i h1 h2=>?_
 match i,h1,h2 with
 | 0,_,_=>exact .tree _ rfl
 | 1,_,_=>exact .tree _ rfl
 | 2,_,_ =>
  have htl:(trimM g).to.length=n:=by rw [hok.len];exact hn
  show Snap _ (.own 2 n 0 n) (.list 1 ((trimM g).to.map vints))
  refine .own 2 n 0 n 1 22 M _ rfl (by omega) (by rw [List.length_map,htl]) fun q hq=>?_
  rw [List.length_map,htl] at hq
  have e1:M[0+q]'(by omega) = .own (q+3) y 0 y:=by
   have:=hMq q hq
   rw [List.getElem?_eq_getElem (by omega)] at this
   simpa using Option.some.inj this
  have e2:((trimM g).to.map vints)[q]'(by rw [List.length_map,htl];exact hq)=vints (P5.rowAt (trimM g) q):=by
   have:=row_get hok (i:=q) (by show q<g.acc.length;omega)
   rw [List.getElem?_eq_getElem (by rw [List.length_map,htl];exact hq)] at this
   exact Option.some.inj this
  rw [e1,e2]
  refine .own (q+3) y 0 y 1 3 ((P5.rowAt (trimM g) q).map vi) _ ?_ (by simp [hrl2 q hq]) (by simp [hrl2 q hq]) fun x hx=>?_
  ·simp only [List.getElem?_cons_succ]
   exact hRq q hq
  ·simp only [Nat.zero_add]
   exact .tree _ (List.all_eq_true.1 (isT_map (fun _=>rfl) _) _ (List.getElem_mem _))
abbrev vge (r:Gr × Int):AV:=.tup [vgr r.1,vi r.2]
abbrev nilG:Gr:=⟨0,[],[]⟩
def resE {K:Type} (y:Nat) (acc:K->Bool):Option (List K × List (List Int))->Gr × Int
 | none=>(nilG,4)
 | some r=>(grOf y acc r.1 r.2,0)
def nextE {K:Type} (raw:K->Nat->K × Bool) (k:K) (x:Nat):Option K:=if (raw k x).2=true then some (raw k x).1 else none
def keyS (s:List Bool):MK:=.a [wdi s 0,wdi s 1,wdi s 2,wdi s 3]
def keyP (p:PI):MK:=.a [p.1,p.2]
theorem keyS_inj {s t:List Bool} (hl:s.length=t.length) (h2:s.length<=256) (h:keyS s=keyS t):s=t:=by
 simp only [keyS,MK.a.injEq,List.cons.injEq,and_true] at h
 obtain ⟨h0,h1,h3,h4⟩:=h
 have key:∀ k,wdi s k=wdi t k->wdv s k=wdv t k:=fun k e=>by
  unfold wdi at e
  exact BitVec.eq_of_toNat_eq (Int.ofNat.inj e)
 refine words_ext hl h2 fun k hk=>?_
 match k,hk with
 | 0,_=>exact key 0 h0
 | 1,_=>exact key 1 h1
 | 2,_=>exact key 2 h3
 | 3,_=>exact key 3 h4
theorem keyP_inj {s t:PI} (h:keyP s=keyP t):s=t:=by
 simp only [keyP,MK.a.injEq,List.cons.injEq,and_true] at h
 exact Prod.ext h.1 h.2
theorem rowGo_lb {K:Type} [DecidableEq K] (nx:Nat->Option K) (L:List K):∀ x,(rowGo nx (List.range x) L).2.length<=L.length+x
 | 0=>Nat.le_refl _
 | x+1=>by
  have ih:=rowGo_lb nx L x
  rw [rowGo_range]
  cases nx x with
  | none=>exact Nat.le_succ_of_le ih
  | some t=>exact Nat.le_trans (addK_len_le _ _).2 (Nat.succ_le_succ ih)
def Numb {K:Type} [DecidableEq K] (ok:K->Prop) (key:K->MK) (ks:List (MK × Value)) (L:List K):Prop:=∀ t,ok t->kget ks (key t)=if posF L t<L.length then some (.int .i64 (posF L t:Nat)) else none
theorem Numb.one {K:Type} [DecidableEq K] {ok:K->Prop} {key:K->MK} (hinj:∀ s t,ok s->ok t->key s=key t->s=t) {k:K} (hk:ok k):Numb ok key [(key k,.int .i64 0)] [k]:=by
 intro t ht
 rw [kget_cons,kget_nil]
 by_cases h:t=k
 ·subst h
  rw [if_pos rfl]
  have:posF [t] t=0:=by simp [posF]
  rw [if_pos (by rw [this];simp),this];rfl
 ·rw [if_neg (fun e=>h (hinj _ _ ht hk e)),if_neg]
  intro h2
  exact h (List.mem_singleton.1 (posF_mem.1 h2))
theorem Numb.add {K:Type} [DecidableEq K] {ok:K->Prop} {key:K->MK} (hinj:∀ s t,ok s->ok t->key s=key t->s=t) {ks:List (MK × Value)} {L:List K} {k:K} (hk:ok k) (h:Numb ok key ks L) (hn:k ∉ L) :
 Numb ok key (kset ks (key k) (.int .i64 (L.length:Nat))) (L++[k]):=by
 intro t ht
 rw [kget_kset]
 by_cases e:t=k
 ·subst e
  rw [if_pos rfl,posF_snoc hn,if_pos (by simp)]
 ·rw [if_neg (fun e2=>e (hinj _ _ ht hk e2)),h t ht]
  by_cases hm:t ∈ L
  ·rw [posF_app_left hm,if_pos (posF_lt hm),if_pos (by have:=posF_lt hm;simp;omega)]
  ·rw [if_neg (fun h2=>hm (posF_mem.1 h2)),if_neg]
   intro h2
   rcases List.mem_append.1 (posF_mem.1 h2) with h3 | h3
   ·exact hm h3
   ·exact e (List.mem_singleton.1 h3)
def partR (y:Nat) (r:List Int):List Int:=rg y fun p=>r.getD p 0
theorem partR_len (y:Nat) (r:List Int):(partR y r).length=y:=rg_len _ _
theorem partR_nil (y:Nat):List.replicate y (vi 0)=(partR y []).map vi:=by
 rw [rg_rep,partR,rg,rg,List.map_map]
 exact List.map_congr_left fun p _=>by simp
theorem partR_set {y x:Nat} {r:List Int} (hr:r.length=x) (v:Int):((partR y r).map vi).set x (vi v)=(partR y (r++[v])).map vi:=by
 have e:(partR y r).map vi=rg y fun p=>vi (r.getD p 0):=by rw [partR,rg,rg,List.map_map];rfl
 have e2:(partR y (r++[v])).map vi=rg y fun p=>vi ((r++[v]).getD p 0):=by rw [partR,rg,rg,List.map_map];rfl
 rw [e,e2,rg_set]
 refine rg_congr fun p hp=>?_
 subst hr
 by_cases h:p=r.length
 ·subst h;simp
 ·rw [if_neg h]
  by_cases h2:p<r.length
  ·rw [List.getD_eq_getElem?_getD,List.getD_eq_getElem?_getD,List.getElem?_append_left h2]
  ·rw [List.getD_eq_getElem?_getD,List.getD_eq_getElem?_getD,List.getElem?_eq_none (by omega),List.getElem?_eq_none (by simp;omega)]
theorem partR_full {y:Nat} {r:List Int} (hr:r.length=y):partR y r=r:=by
 apply List.ext_getElem?
 intro j
 by_cases h:j<y
 ·rw [partR,rg_get h,List.getD_eq_getElem?_getD,List.getElem?_eq_getElem (by omega)];rfl
 ·rw [List.getElem?_eq_none (by rw [partR_len];omega),List.getElem?_eq_none (by omega)]
theorem gr_snap (y:Nat) (A:List Bool) (R:List (List Int)) (objs:List AObj) (p q:Nat) (hp:p=A.length) (hq:q=R.length) (h5:objs[5]? = some (.arr p 1 4 (A.map vb))) (h6:objs[6]? = some (.arr q 1 22 (R.map vints))) :
 Snap objs (.agg [vi y,.own 5 p 0 p,.own 6 q 0 q]) (vgr ⟨y,A,R⟩):=by
 subst hp hq
 refine .agg _ _ rfl fun i h1 h2=>?_
 match i,h1,h2 with
 | 0,_,_=>exact .tree _ rfl
 | 1,_,_ =>
  refine .own 5 A.length 0 A.length 1 4 _ _ h5 (by simp) (by simp) fun q hq=>?_
  simp only [Nat.zero_add]
  exact .tree _ (List.all_eq_true.1 (isT_map (fun _=>rfl) _) _ (List.getElem_mem _))
 | 2,_,_ =>
  refine .own 6 R.length 0 R.length 1 22 _ _ h6 (by simp) (by simp) fun q hq=>?_
  simp only [Nat.zero_add]
  exact .tree _ (List.all_eq_true.1 (isT_map (fun _=>rfl) _) _ (List.getElem_mem _))
theorem nilG_snap {objs:List AObj}:Snap objs nil3 (vgr nilG):=by
 refine .agg _ _ rfl fun i h1 h2=>?_
 match i,h1,h2 with
 | 0,_,_=>exact .tree _ rfl
 | 1,_,_=>exact .nil 1
 | 2,_,_=>exact .nil 1
def objsexplA (ox:AObj) (y:Nat) (ks:List (MK × Value)) (L:List AV) (A:List Bool) (R:List (List Int)) (T:List AObj):List AObj :=
 [ox,.arr 1 3 97 [nil3],.arr 1 3 97 [.agg [vi y,.own 5 A.length 0 A.length,.own 6 R.length 0 R.length]],.arr 1 1 (mapT+11) [.val (mapV ks)],.arr L.length 4 79 L,.arr A.length 1 4 (A.map vb),.arr R.length 1 22 (R.map vints)]++T
theorem objsexplA_eq (ox:AObj) (y:Nat) (ks:List (MK × Value)) (L:List AV) (A:List Bool) (R:List (List Int)) (T:List AObj):objsexplA ox y ks L A R T =
 [ox,.arr 1 3 97 [nil3],.arr 1 3 97 [.agg [vi y,.own 5 A.length 0 A.length,.own 6 R.length 0 R.length]],.arr 1 1 (mapT+11) [.val (mapV ks)],.arr L.length 4 79 L,.arr A.length 1 4 (A.map vb),.arr R.length 1 22 (R.map vints)]++T:=rfl
theorem objsexplA_drop {m:Nat} {env env':List (Nat × AV)} (k0:(List Bool)) (y:Nat) (ks:List (MK × Value)) (L:List (List Bool)) (A:List Bool) (R:List (List Int)) (T T':List AObj) (hA:Agree env env') (he:(env'.all fun p=>p.2.inn (7+T.length))=true) (hT:(T.all fun o=>o.innO (7+T.length))=true) :
 WkE m ⟨env,objsexplA (.arr 1 4 79 [vset k0]) y ks (L.map vset) A R (T++T')⟩ ⟨env',objsexplA (.arr 1 4 79 [vset k0]) y ks (L.map vset) A R T⟩:=by
 have hl:(objsexplA (.arr 1 4 79 [vset k0]) y ks (L.map vset) A R T).length=7+T.length:=by rw [objsexplA_eq,List.length_append];rfl
 refine WkE.round hA (by rw [hl];exact he) ?_ ?_
 ·rw [hl,objsexplA_eq,List.all_append,Bool.and_eq_true]
  refine ⟨?_,hT⟩
  have h1:((L.map vset).all (AV.inn (7+T.length)))=true:=inn_map fun _=>rfl
  have h2:((A.map vb).all (AV.inn (7+T.length)))=true:=inn_map fun _=>rfl
  have h3:((R.map vints).all (AV.inn (7+T.length)))=true:=inn_map fun _=>rfl
  simp [AObj.innO,h1,h2,h3,AV.inn,AV.inn1]
  omega
 ·rw [hl,objsexplA_eq,objsexplA_eq,<-List.append_assoc]
  exact List.take_left' (by rw [List.length_append];rfl)
set_option maxHeartbeats 8000000 in
theorem explA_s (ok:(List Bool)->Prop) (hinj:∀ s t,ok s->ok t->keyS s=keyS t->s=t) (fa fn:AV) (first:(List Bool)) (y:Nat) (hy:y<=64) (acc:(List Bool)->Bool) (raw:(List Bool)->Nat->(List Bool) × Bool) (hf0:ok first)
 (hr:∀ k x,ok k->x<y->(raw k x).2=true->ok (raw k x).1)
 (ha:∀ k,ok k->∀ objs,CallOk Try.prog objs fa [vset k] (vb (acc k)))
 (hn:∀ k x,ok k->x<y->∀ objs,CallOk Try.prog objs fn [vset k,vi (x:Int)] (.tup [vset (raw k x).1,vb (raw k x).2]))
 (hfi:∀ k,fa.inn k=true/\fn.inn k=true) :
 Ctr Try.prog 48 [vset first,vi y,fa,fn] (vge (resE y acc (bfs 256 (nextE raw) y first))):=by
 refine specC f48 (by simp) fun F0 w0=>?_
 obtain ⟨B,hB⟩:∃ B,bfs 256 (nextE raw) y first=B:=⟨_,rfl⟩
 rw [hB]
 unfold c48
 refine CwpE.cut (st:=⟨[(1,vi y),(2,fa),(3,fn),(4,.ref 0 1 0 0),(8,.ref 1 1 0 0)],[.arr 1 4 79 [vset first],.arr 1 3 97 [nil3]]⟩) ?_ ?_
 ·simp only [go_sem]
  exact ⟨_,WkE.kp,rfl⟩
 refine CwpE.cut (st:=⟨[(1,vi y),(2,fa),(3,fn),(4,.ref 0 1 0 0),(8,.ref 1 1 0 0),(10,.ref 2 1 0 0)],[.arr 1 4 79 [vset first],.arr 1 3 97 [nil3],.arr 1 3 97 [.agg [vi y,nilV,nilV]]]⟩) ?_ ?_
 ·simp only [go_sem]
  exact ⟨_,WkE.kp,rfl⟩
 refine CwpE.cut (st:=⟨[(1,vi y),(2,fa),(3,fn),(4,.ref 0 1 0 0),(8,.ref 1 1 0 0),(10,.ref 2 1 0 0),(11,.mref 3 1)],[.arr 1 4 79 [vset first],.arr 1 3 97 [nil3],.arr 1 3 97 [.agg [vi y,nilV,nilV]],.arr 1 1 (mapT+11) [.val (mapV [(keyS first,.int .i64 0)])]]⟩) ?_ ?_
 ·simp only [go_sem]
  exact ⟨_,WkE.kp,rfl⟩
 refine CwpE.seqJ (fun z=>∃ (ks:List (MK × Value)) (L:List ((List Bool))) (rows:List (List Int)),B=some (L,rows)/\z=⟨[(1,vi y),(2,fa),(3,fn),(8,.ref 1 1 0 0),(10,.ref 2 1 0 0),(11,.mref 3 1),(12,.own 4 (L).length 0 (L).length)],objsexplA (.arr 1 4 79 [vset first]) y ks (L.map vset) (L.map acc) (rows) []⟩) ?_ ?_
 rotate_left
 ·rintro _ ⟨ks,L,rows,hBs,rfl⟩
  rw [hBs]
  refine CwpE.vc ?_
  rw [objsexplA_eq]
  simp only [go_sem]
  exact snap_tup2 (gr_snap y (L.map acc) rows _ _ _ (by simp) rfl rfl rfl) (.tree _ rfl)
 refine CwpE.seqJ (fun st=>st=⟨[(1,vi y),(2,fa),(3,fn),(8,.ref 1 1 0 0),(10,.ref 2 1 0 0),(11,.mref 3 1),(12,.own 4 ([first]).length 0 ([first]).length)],objsexplA (.arr 1 4 79 [vset first]) y [(keyS first,.int .i64 0)] ([first].map vset) ([]) ([]) []⟩) ?_ ?_
 ·refine CwpE.regionC (csa:=[⟨some 25,none,.load true 4 (T 4)⟩]) (csb:=[⟨some 12,none,.mov (T 26)⟩]) (by omega) (by decide) ?_
  simp only [go_sem]
  refine ⟨_,.refl _ _,?_⟩
  simp only [go_sem]
  exact ⟨_,(WkE.nilCell 2 1 3 0 1 1 4 97 _ (.agg [vi y,nilV,nilV]) rfl rfl rfl).trans ((WkE.nilCell 2 1 3 0 2 1 22 97 _ (.agg [vi y,.own 5 0 0 0,nilV]) rfl rfl rfl).trans (WkE.kp)),rfl⟩
 rintro _ rfl
 refine CwpE.vc ?_
 simp only [go_sem]
 have hB0:B=bfsGo 256 (nextE raw) y 257 [first] []:=by rw [<-hB];rfl
 refine loopX 0 (fun m z=>∃ (i:Nat) (ks:List (MK × Value)) (L:List ((List Bool))) (rows:List (List Int)),m=257-i/\rows.length=i/\i<=L.length/\L.length<=256/\(∀ t ∈ L,ok t)/\(∀ r ∈ rows,r.length=y)/\Numb ok keyS ks L/\B=bfsGo 256 (nextE raw) y (257-i) L rows /\
  z=⟨[(1,vi y),(2,fa),(3,fn),(8,.ref 1 1 0 0),(10,.ref 2 1 0 0),(11,.mref 3 1),(12,.own 4 (L).length 0 (L).length)],objsexplA (.arr 1 4 79 [vset first]) y ks (L.map vset) ((L.take i).map acc) (rows) []⟩)
  (fun z=>∃ (ks:List (MK × Value)) (L:List ((List Bool))) (rows:List (List Int)),B=some (L,rows)/\z=⟨[(1,vi y),(2,fa),(3,fn),(8,.ref 1 1 0 0),(10,.ref 2 1 0 0),(11,.mref 3 1),(12,.own 4 (L).length 0 (L).length)],objsexplA (.arr 1 4 79 [vset first]) y ks (L.map vset) (L.map acc) (rows) []⟩) 257
  ⟨[(1,vi y),(2,fa),(3,fn),(8,.ref 1 1 0 0),(10,.ref 2 1 0 0),(11,.mref 3 1),(12,.own 4 ([first]).length 0 ([first]).length)],objsexplA (.arr 1 4 79 [vset first]) y [(keyS first,.int .i64 0)] ([first].map vset) ([]) ([]) []⟩ (.refl _ _)
  ⟨0,_,[first],[],rfl,rfl,by simp,by simp,fun t ht=>by rw [List.mem_singleton.1 ht];exact hf0,fun r hr=>by simp at hr,Numb.one hinj hf0,hB0,rfl⟩ ?_ ?_
 rotate_left
 ·rintro z ⟨ks,L,rows,h1,rfl⟩
  simp only [go_sem]
  exact ⟨_,.refl _ _,ks,L,rows,h1,rfl⟩
 rintro m z ⟨i,ks,L,rows,rfl,hri,hiL,hL,hLn,hrl,hks,hBi,rfl⟩
 by_cases hlt:i<L.length
 rotate_left
 ·have gk:¬ (rows.length:Int)<(L.length:Int):=by omega
  rw [bfsGo_end (by omega)] at hBi
  have htk:L.take i=L:=List.take_of_length_le (by omega)
  rw [htk,objsexplA_eq]
  simp only [go_sem,gk,List.length_map]
  refine ⟨_,?_,ks,L,rows,hBi,rfl⟩
  rw [objsexplA_eq]
  simp only [List.length_map]
  exact WkE.kp
 have hf:257-i=(257-(i+1))+1:=by omega
 rw [hf,bfsGo_step (by omega)] at hBi
 have hnx:nextE raw L[rows.length]=nextE raw L[i]:=by simp only [hri]
 rw [hnx] at hBi
 obtain ⟨q,hq⟩:∃ q,L[i]=q:=⟨_,rfl⟩
 have hqo:ok q:=by rw [<-hq];exact hLn _ (List.getElem_mem hlt)
 have g1:(rows.length:Int)<(L.length:Int):=by omega
 have g0:(0:Int)<=(rows.length:Int):=by omega
 have hLi:(L.map vset)[rows.length]? = some (vset q):=by rw [List.getElem?_map,List.getElem?_eq_getElem (by omega)];simp only [hri,hq];rfl
 rw [hq] at hBi
 obtain ⟨nx,hnxe⟩:∃ nx,nextE raw q=nx:=⟨_,rfl⟩
 rw [hnxe] at hBi
 have nxv:∀ x,nx x=if (raw q x).2=true then some (raw q x).1 else none:=fun x=>by rw [<-hnxe];rfl
 have hAl:((L.take i).map acc).length=i:=by simp;omega
 have hA1:((L.take i).map acc)++[acc q]=(L.take (i+1)).map acc:=by
  rw [List.take_succ_eq_append_getElem hlt,List.map_append,hq];rfl
 obtain ⟨A,hAe⟩:∃ A,(L.take i).map acc=A:=⟨_,rfl⟩
 rw [hAe] at hAl hA1 ⊢
 have hacc:=ha q hqo
 have q0:(0:Int)<=(y:Int):=by omega
 have q2:((8:Nat):Int)*(y:Int)<=281474976710656:=by omega
 have q3:(y:Int)<=9223372036854775807:=by omega
 rw [objsexplA_eq]
 simp only [go_sem,g1,g0,hLi,List.length_map,q0,q2,q3,Int.le_refl,Int.toNat_natCast,rg_rep]
 refine loopX 2 (fun m z=>∃ (x:Nat) (ks:List (MK × Value)),m=y-x/\x<=y/\Numb ok keyS ks (rowGo nx (List.range x) L).2/\(∀ t ∈ (rowGo nx (List.range x) L).2,ok t) /\
  z=⟨[(1,vi y),(2,fa),(3,fn),(8,.ref 1 1 0 0),(10,.ref 2 1 0 0),(11,.mref 3 1),(12,.own 4 ((rowGo nx (List.range x) L).2).length 0 ((rowGo nx (List.range x) L).2).length),(13,.ref 7 1 0 0),(14,.own 8 y 0 y),(42,vi y),(43,vi x)],objsexplA (.arr 1 4 79 [vset first]) y ks (((rowGo nx (List.range x) L).2).map vset) (A) (rows) [.arr 1 4 79 [vset q],.arr y 1 3 ((partR y (rowGo nx (List.range x) L).1).map vi)]⟩)
  (fun z=>∃ (ks:List (MK × Value)),Numb ok keyS ks (rowGo nx (List.range y) L).2/\(∀ t ∈ (rowGo nx (List.range y) L).2,ok t) /\
   z=⟨[(1,vi y),(2,fa),(3,fn),(8,.ref 1 1 0 0),(10,.ref 2 1 0 0),(11,.mref 3 1),(12,.own 4 ((rowGo nx (List.range y) L).2).length 0 ((rowGo nx (List.range y) L).2).length),(13,.ref 7 1 0 0),(14,vints (rowGo nx (List.range y) L).1)],objsexplA (.arr 1 4 79 [vset first]) y ks (((rowGo nx (List.range y) L).2).map vset) (A) (rows) [.arr 1 4 79 [vset q]]⟩) y
  ⟨[(1,vi y),(2,fa),(3,fn),(8,.ref 1 1 0 0),(10,.ref 2 1 0 0),(11,.mref 3 1),(12,.own 4 (L).length 0 (L).length),(13,.ref 7 1 0 0),(14,.own 8 y 0 y),(42,vi y),(43,vi (0:Nat))],objsexplA (.arr 1 4 79 [vset first]) y ks ((L).map vset) (A) (rows) [.arr 1 4 79 [vset q],.arr y 1 3 ((partR y []).map vi)]⟩ ?_ ⟨0,ks,by omega,by omega,hks,hLn,rfl⟩ ?_ ?_
 ·rw [objsexplA_eq]
  have e0:(rg y fun _=>vi 0)=(partR y []).map vi:=by rw [<-partR_nil,rg_rep]
  rw [<-e0]
  simp only [List.length_map]
  exact WkE.kp
 rotate_left
 ·rintro z ⟨ks1,hk1,ho1,rfl⟩
  have hr1l:((rowGo nx (List.range y) L).1).length=y:=by rw [rowGo_len,List.length_range]
  have hpre:=rowGo_pre nx (List.range y) L
  obtain ⟨L1,hL1⟩:∃ L1,(rowGo nx (List.range y) L).2=L1:=⟨_,rfl⟩
  obtain ⟨r1,hr1⟩:∃ r1,(rowGo nx (List.range y) L).1=r1:=⟨_,rfl⟩
  rw [hL1] at hk1 ho1 hBi hpre ⊢
  rw [hr1] at hr1l hBi ⊢
  rw [objsexplA_eq]
  by_cases h256:256<L1.length
  ·have hBn:B=none:=by rw [hBi,if_pos h256]
   have g256:(256:Int)<(L1.length:Int):=by omega
   rw [hBn]
   simp only [go_sem,g256,List.length_map]
   exact snap_tup2 nilG_snap (.tree _ rfl)
  have g256:¬ (256:Int)<(L1.length:Int):=by omega
  rw [if_neg h256] at hBi
  have qa:(A.length+1)*1<=140737488355328:=by omega
  have qr:(rows.length+1)*24<=140737488355328:=by omega
  simp only [go_sem,g256,List.length_map,qr]
  obtain ⟨A1,hA1e⟩:∃ A1,(L.take (i+1)).map acc=A1:=⟨_,rfl⟩
  rw [hA1e] at hA1
  have fin:∀ st,WkE 99 st ⟨[(1,vi y),(2,fa),(3,fn),(8,.ref 1 1 0 0),(10,.ref 2 1 0 0),(11,.mref 3 1),(12,.own 4 (L1).length 0 (L1).length)],objsexplA (.arr 1 4 79 [vset first]) y ks1 (L1.map vset) A1 (rows++[r1]) []⟩->∃ m s',m<257-i/\WkE 99 st s'/\∃ (i:Nat) (ks:List (MK × Value)) (L:List (List Bool)) (rows:List (List Int)),m=257-i/\rows.length=i/\i<=L.length/\L.length<=256/\(∀ t ∈ L,ok t)/\(∀ r ∈ rows,r.length=y)/\Numb ok keyS ks L/\B=bfsGo 256 (nextE raw) y (257-i) L rows /\
   s'=⟨[(1,vi y),(2,fa),(3,fn),(8,.ref 1 1 0 0),(10,.ref 2 1 0 0),(11,.mref 3 1),(12,.own 4 (L).length 0 (L).length)],objsexplA (.arr 1 4 79 [vset first]) y ks (L.map vset) ((L.take i).map acc) (rows) []⟩:=by
   intro st hst
   refine ⟨257-(i+1),_,by omega,hst,i+1,ks1,L1,rows++[r1],rfl,by simp [hri],?_,by omega,ho1,?_,hk1,hBi,?_⟩
   ·have:=hpre.length_le;omega
   ·intro r hr
    rcases List.mem_append.1 hr with hr | hr
    ·exact hrl r hr
    ·rw [List.mem_singleton.1 hr,hr1l]
   ·have e2:(L1.take (i+1)).map acc=A1:=by
     obtain ⟨r,hr⟩:=hpre
     rw [<-hr,List.take_append_of_le_length (by omega),hA1e]
    rw [e2]
  have hA1m:A.map vb++[vb (acc q)]=A1.map vb:=by rw [<-hA1,List.map_append];rfl
  have hA1l:A1.length=A.length+1:=by rw [<-hA1];simp
  have fin2:∀ env,Agree env [(1,vi y),(2,fa),(3,fn),(8,.ref 1 1 0 0),(10,.ref 2 1 0 0),(11,.mref 3 1),(12,.own 4 L1.length 0 L1.length)]->WkE 99 ⟨env,[.arr 1 4 79 [vset first],.arr 1 3 97 [nil3],.arr 1 3 97 [.agg [vi y,.own 5 (A.length+1) 0 (A.length+1),.own 6 (rows.length+1) 0 (rows.length+1)]],.arr 1 1 (mapT+11) [.val (mapV ks1)],.arr L1.length 4 79 (L1.map vset),.arr (A.length+1) 1 4 (A.map vb++[vb (acc q)]),.arr (rows.length+1) 1 22 (rows.map vints++[vints r1]),.arr 1 4 79 [vset q]]⟩ ⟨[(1,vi y),(2,fa),(3,fn),(8,.ref 1 1 0 0),(10,.ref 2 1 0 0),(11,.mref 3 1),(12,.own 4 (L1).length 0 (L1).length)],objsexplA (.arr 1 4 79 [vset first]) y ks1 (L1.map vset) A1 (rows++[r1]) []⟩:=by
   intro env henv
   have:=objsexplA_drop (m:=99) (env:=env) (env':=[(1,vi y),(2,fa),(3,fn),(8,.ref 1 1 0 0),(10,.ref 2 1 0 0),(11,.mref 3 1),(12,.own 4 L1.length 0 L1.length)]) first y ks1 L1 A1 (rows++[r1]) [] [.arr 1 4 79 [vset q]] henv (by simp only [List.all_cons,List.all_nil,(hfi _).1,(hfi _).2];rfl) rfl
   rw [objsexplA_eq] at this
   simp only [hA1l,<-hA1m,List.length_append,List.map_append,List.length_map,List.length_singleton,List.map_cons,List.map_nil] at this
   exact this
  refine ⟨?_,?_⟩
  ·refine callOk (hacc _) ?_
   simp only [go_sem,qa,List.length_map]
   exact ⟨⟨fin _ (fin2 _ (by simp only [go_sem])),fin _ (fin2 _ (by simp only [go_sem]))⟩,fin _ (fin2 _ (by simp only [go_sem]))⟩
  ·refine callOk (hacc _) ?_
   simp only [go_sem,qa,List.length_map]
   exact fin _ (fin2 _ (by simp only [go_sem]))
 rintro m z ⟨x,ks,rfl,hx,hks,hLo,rfl⟩
 by_cases hxy:x<y
 rotate_left
 ·obtain rfl:y=x:=by omega
  have hrl1:((rowGo nx (List.range y) L).1).length=y:=by rw [rowGo_len,List.length_range]
  obtain ⟨L1,hL1⟩:∃ L1,(rowGo nx (List.range y) L).2=L1:=⟨_,rfl⟩
  obtain ⟨r1,hr1⟩:∃ r1,(rowGo nx (List.range y) L).1=r1:=⟨_,rfl⟩
  rw [hL1] at hks hLo ⊢
  rw [hr1] at hrl1 ⊢
  rw [objsexplA_eq]
  simp only [go_sem,Int.lt_irrefl,partR_full hrl1]
  refine ⟨_,?_,ks,hks,hLo,rfl⟩
  have hz:=WkE.freeze (n:=99) (env:=[(1,vi y),(2,fa),(3,fn),(8,.ref 1 1 0 0),(10,.ref 2 1 0 0),(11,.mref 3 1),(12,.own 4 L1.length 0 L1.length),(13,.ref 7 1 0 0),(14,.own 8 y 0 y),(42,vi y),(43,vi y)]) (objs:=objsexplA (.arr 1 4 79 [vset first]) y ks (L1.map vset) A rows [.arr 1 4 79 [vset q],.arr y 1 3 (r1.map vi)]) 14 8 y 0 y 1 3 (r1.map vi) (by omega) rfl rfl (by simp [hrl1]) (isT_map (fun _=>rfl) _)
  have e1:((r1.map vi).drop 0).take y=r1.map vi:=by rw [List.drop_zero,List.take_of_length_le (by simp [hrl1])]
  rw [e1] at hz
  have hd:=objsexplA_drop (m:=99) (env:=(14,vints r1)::[(1,vi y),(2,fa),(3,fn),(8,.ref 1 1 0 0),(10,.ref 2 1 0 0),(11,.mref 3 1),(12,.own 4 L1.length 0 L1.length),(13,.ref 7 1 0 0),(14,.own 8 y 0 y),(42,vi y),(43,vi y)]) (env':=[(1,vi y),(2,fa),(3,fn),(8,.ref 1 1 0 0),(10,.ref 2 1 0 0),(11,.mref 3 1),(12,.own 4 L1.length 0 L1.length),(13,.ref 7 1 0 0),(14,vints r1)]) first y ks L1 A rows [.arr 1 4 79 [vset q]] [.dead] (by simp only [go_sem];try rfl) (by simp only [List.all_cons,List.all_nil,(hfi _).1,(hfi _).2];rfl) rfl
  have hzd:=hz.trans hd
  simp only [objsexplA_eq,List.length_map,List.cons_append,List.nil_append] at hzd ⊢
  refine WkE.trans (WkE.keep ?_) hzd
  simp only [go_sem];try rfl
 have hrx:((rowGo nx (List.range x) L).1).length=x:=by rw [rowGo_len,List.length_range]
 have hpx:=(rowGo_pre nx (List.range x) L).length_le
 have hrr:=rowGo_range nx x L
 have hlb:=rowGo_lb nx L x
 obtain ⟨Lx,hLx⟩:∃ Lx,(rowGo nx (List.range x) L).2=Lx:=⟨_,rfl⟩
 obtain ⟨rx,hrxe⟩:∃ rx,(rowGo nx (List.range x) L).1=rx:=⟨_,rfl⟩
 obtain ⟨L1,hL1⟩:∃ L1,(rowGo nx (List.range (x+1)) L).2=L1:=⟨_,rfl⟩
 obtain ⟨r1,hr1⟩:∃ r1,(rowGo nx (List.range (x+1)) L).1=r1:=⟨_,rfl⟩
 have hnx2:=nxv x
 simp only [hLx,hrxe] at hks hLo hrx hrr hpx hlb ⊢
 have gx:(x:Int)<(y:Int):=by omega
 have gx0:(0:Int)<=(x:Int):=by omega
 have wx:=wrap_s x (by omega)
 have hstep:=hn q x hqo hxy
 have hset:∀ v,((partR y rx).map vi).set x (vi v)=(partR y (rx++[v])).map vi:=fun v=>partR_set hrx v
 have hplen:=partR_len y rx
 obtain ⟨u0,hget⟩:∃ u0,((partR y rx).map vi)[x]? = some (vi u0):=⟨_,by rw [List.getElem?_map,List.getElem?_eq_getElem (by omega)];rfl⟩
 have fin:∀ (st:Est) (ks2:List (MK × Value)) (L2:List (List Bool)) (r2:List Int),L1=L2->r1=r2->Numb ok keyS ks2 L2->(∀ t ∈ L2,ok t)->WkE 99 st ⟨[(1,vi y),(2,fa),(3,fn),(8,.ref 1 1 0 0),(10,.ref 2 1 0 0),(11,.mref 3 1),(12,.own 4 (L2).length 0 (L2).length),(13,.ref 7 1 0 0),(14,.own 8 y 0 y),(42,vi y),(43,vi (x+1:Nat))],objsexplA (.arr 1 4 79 [vset first]) y ks2 (L2.map vset) (A) (rows) [.arr 1 4 79 [vset q],.arr y 1 3 ((partR y r2).map vi)]⟩ ->
  ∃ m s',m<y-x/\WkE 99 st s'/\∃ (x:Nat) (ks:List (MK × Value)),m=y-x/\x<=y/\Numb ok keyS ks (rowGo nx (List.range x) L).2/\(∀ t ∈ (rowGo nx (List.range x) L).2,ok t) /\
  s'=⟨[(1,vi y),(2,fa),(3,fn),(8,.ref 1 1 0 0),(10,.ref 2 1 0 0),(11,.mref 3 1),(12,.own 4 ((rowGo nx (List.range x) L).2).length 0 ((rowGo nx (List.range x) L).2).length),(13,.ref 7 1 0 0),(14,.own 8 y 0 y),(42,vi y),(43,vi x)],objsexplA (.arr 1 4 79 [vset first]) y ks (((rowGo nx (List.range x) L).2).map vset) (A) (rows) [.arr 1 4 79 [vset q],.arr y 1 3 ((partR y (rowGo nx (List.range x) L).1).map vi)]⟩:=by
  rintro st ks2 L2 r2 rfl rfl h1 h2 hst
  exact ⟨y-(x+1),_,by omega,hst,x+1,ks2,rfl,by omega,by rw [hL1];exact h1,by rw [hL1];exact h2,by rw [hL1,hr1]⟩
 have fin2:∀ env objs9 (ks2:List (MK × Value)) (L2:List (List Bool)) (r2:List Int),Agree env [(1,vi y),(2,fa),(3,fn),(8,.ref 1 1 0 0),(10,.ref 2 1 0 0),(11,.mref 3 1),(12,.own 4 L2.length 0 L2.length),(13,.ref 7 1 0 0),(14,.own 8 y 0 y),(42,vi y),(43,vi (x+1:Nat))]->WkE 99 ⟨env,[.arr 1 4 79 [vset first],.arr 1 3 97 [nil3],.arr 1 3 97 [.agg [vi y,.own 5 A.length 0 A.length,.own 6 rows.length 0 rows.length]],.arr 1 1 (mapT+11) [.val (mapV ks2)],.arr L2.length 4 79 (L2.map vset),.arr A.length 1 4 (A.map vb),.arr rows.length 1 22 (rows.map vints),.arr 1 4 79 [vset q],.arr y 1 3 ((partR y r2).map vi),objs9]⟩ ⟨[(1,vi y),(2,fa),(3,fn),(8,.ref 1 1 0 0),(10,.ref 2 1 0 0),(11,.mref 3 1),(12,.own 4 (L2).length 0 (L2).length),(13,.ref 7 1 0 0),(14,.own 8 y 0 y),(42,vi y),(43,vi (x+1:Nat))],objsexplA (.arr 1 4 79 [vset first]) y ks2 (L2.map vset) (A) (rows) [.arr 1 4 79 [vset q],.arr y 1 3 ((partR y r2).map vi)]⟩:=by
  intro env o9 ks2 L2 r2 henv
  have h1:(((partR y r2).map vi).all (AV.inn 9))=true:=inn_map fun _=>rfl
  have:=objsexplA_drop (m:=99) (env:=env) (env':=[(1,vi y),(2,fa),(3,fn),(8,.ref 1 1 0 0),(10,.ref 2 1 0 0),(11,.mref 3 1),(12,.own 4 L2.length 0 L2.length),(13,.ref 7 1 0 0),(14,.own 8 y 0 y),(42,vi y),(43,vi (x+1:Nat))]) first y ks2 L2 A rows [.arr 1 4 79 [vset q],.arr y 1 3 ((partR y r2).map vi)] [o9] henv (by simp only [List.all_cons,List.all_nil,(hfi _).1,(hfi _).2];rfl) (Bool.and_eq_true_iff.2 ⟨rfl,Bool.and_eq_true_iff.2 ⟨h1,rfl⟩⟩)
  simp only [objsexplA_eq,List.length_map,List.cons_append,List.nil_append] at this ⊢
  exact this
 rw [objsexplA_eq]
 simp only [go_sem,gx]
 refine callOk (hstep _) ?_
 cases hok:(raw q x).2 with
 | false =>
  simp only [hok,Bool.false_eq_true,if_false] at hnx2
  rw [hnx2] at hrr
  simp only [hL1,hr1,Prod.ext_iff] at hrr
  simp only [go_sem,gx,gx0,hget,hset,wx,Int.toNat_natCast]
  refine fin _ ks Lx (rx++[-1]) hrr.2 hrr.1 hks hLo (fin2 _ _ _ _ _ ?_)
  simp only [go_sem];try rfl
 | true =>
  simp only [hok,if_true] at hnx2
  have hto:=hr q x hqo hxy hok
  obtain ⟨t,ht⟩:∃ t,(raw q x).1=t:=⟨_,rfl⟩
  rw [ht] at hnx2 hto ⊢
  rw [hnx2] at hrr
  simp only [hL1,hr1,Prod.ext_iff] at hrr
  have hk:=hks t hto
  by_cases hm:posF Lx t<Lx.length
  ·rw [if_pos hm] at hk
   have hk':kget ks (.a [wdi t 0,wdi t 1,wdi t 2,wdi t 3])=some (.int .i64 (posF Lx t:Nat)):=hk
   have hk1:addK Lx t=Lx:=by rw [addK,if_pos hm]
   rw [hk1] at hrr
   simp only [go_sem,gx,gx0,hget,hset,wx,hk',Int.toNat_natCast,Option.getD_some,Option.isSome_some]
   refine fin _ ks Lx (rx++[(posF Lx t:Int)]) hrr.2 hrr.1 hks hLo (fin2 _ _ _ _ _ ?_)
   simp only [go_sem];try rfl
  ·rw [if_neg hm] at hk
   have hk':kget ks (.a [wdi t 0,wdi t 1,wdi t 2,wdi t 3])=none:=hk
   have hnm:t ∉ Lx:=fun h=>hm (posF_mem.2 h)
   have hk1:addK Lx t=Lx++[t]:=by rw [addK,if_neg hm]
   rw [hk1,posF_new hnm] at hrr
   have qL:(Lx.length+1)*32<=140737488355328:=by omega
   have hm1:Lx.map vset++[vset t]=(Lx++[t]).map vset:=by rw [List.map_append];rfl
   have hl1:(Lx++[t]).length=Lx.length+1:=by simp
   simp only [go_sem,gx,gx0,hget,hset,wx,hk',List.length_map,Int.toNat_natCast,Option.getD_none,Option.isSome_none,qL]
   have h2:=fun env o9 h=>fin2 env o9 (kset ks (keyS t) (.int .i64 (Lx.length:Nat))) (Lx++[t]) (rx++[(Lx.length:Int)]) h
   rw [hl1] at h2
   rw [<-hm1] at h2
   refine fin _ (kset ks (keyS t) (.int .i64 (Lx.length:Nat))) (Lx++[t]) (rx++[(Lx.length:Int)]) hrr.2 hrr.1 (hks.add hinj hto hnm) ?_ ?_
   ·intro u hu
    rcases List.mem_append.1 hu with hu | hu
    ·exact hLo u hu
    ·rw [List.mem_singleton.1 hu];exact hto
   ·rw [hl1,<-hm1]
    exact h2 _ _ (by simp only [go_sem];try rfl)
def kb:List Int->List Int
 | []=>[]
 | c::l=>IntKind.u8.wrap (c.fdiv 256)::IntKind.u8.wrap c::kb l
theorem kb_snoc (c:Int):∀ l,kb (l++[c])=kb l++[IntKind.u8.wrap (c.fdiv 256),IntKind.u8.wrap c]
 | []=>rfl
 | d::l=>by rw [List.cons_append,kb,kb,kb_snoc c l];rfl
theorem kb_len:∀ l,(kb l).length=2*l.length
 | []=>rfl
 | c::l=>by rw [kb,List.length_cons,List.length_cons,List.length_cons,kb_len l];omega
def keyB (l:List Int):MK:=.s (bytesOf ((kb l).map vc))
theorem byte_inj {m n:Int} (h1:0<=m) (h2:m<256) (h3:0<=n) (h4:n<256) (h:UInt8.ofNat m.toNat=UInt8.ofNat n.toNat):m=n:=by
 have h5:=congrArg UInt8.toNat h
 rw [UInt8.toNat_ofNat',UInt8.toNat_ofNat'] at h5
 omega
theorem kb_inj:∀ (l m:List Int),l.length=m.length->(∀ c ∈ l,-1<=c/\c<32768)->(∀ c ∈ m,-1<=c/\c<32768)->(kb l).map (fun n=>UInt8.ofNat n.toNat)=(kb m).map (fun n=>UInt8.ofNat n.toNat)->l=m
 | [],[],_,_,_,_=>rfl
 | c::l,d::m,hl,h1,h2,h=>by
  simp only [kb,List.map_cons,List.cons.injEq] at h
  obtain ⟨e1,e2,e3⟩:=h
  have hc:=h1 c (by simp)
  have hd:=h2 d (by simp)
  have f:∀ x:Int,x.fdiv 256=x / 256:=fun x=>Int.fdiv_eq_ediv_of_nonneg x (by omega)
  rw [f,f] at e1
  have w:∀ x,IntKind.u8.wrap x=x % 256:=fun x=>by rw [IntKind.wrap_u8]
  rw [w,w] at e1 e2
  have a1:=byte_inj (by omega) (by omega) (by omega) (by omega) e1
  have a2:=byte_inj (by omega) (by omega) (by omega) (by omega) e2
  have e:c=d:=by omega
  rw [e,kb_inj l m (by simpa using hl) (fun c hc=>h1 c (by simp [hc])) (fun c hc=>h2 c (by simp [hc])) e3]
theorem bytesOf_vc (l:List Int):bytesOf (l.map vc)=⟨(l.map fun n=>UInt8.ofNat n.toNat).toArray⟩:=by
 unfold bytesOf
 rw [List.map_map]
 rfl
def KeyOk (y:Nat) (l:List Int):Prop:=l.length=y/\∀ c ∈ l,-1<=c/\c<32768
theorem keyB_inj (y:Nat):∀ s t,KeyOk y s->KeyOk y t->keyB s=keyB t->s=t:=by
 intro s t hs ht h
 simp only [keyB,MK.s.injEq,bytesOf_vc,ByteArray.mk.injEq] at h
 refine kb_inj s t (by rw [hs.1,ht.1]) hs.2 ht.2 ?_
 have:=congrArg Array.toList h
 simpa using this
theorem all_tt {α : Type}:∀ l:List α,(l.all fun _=>true)=true
 | []=>rfl
 | x::l=>by rw [List.all_cons,all_tt l];rfl
theorem n8:¬ (8:Int)<0:=by omega
theorem p8:(2 ^ min 8 64:Int)=256:=rfl
abbrev tmask (_:Nat):Bool:=true
theorem tmask_mask {g:Gr} (ht:∀ i x,¬ gto g i x<0->∃ w,lang g w (gto g i x).toNat=true):Mask g tmask:=⟨fun _ _ _=>rfl,fun i x _ _ h0 _=>ht i x h0⟩
def accP (g:Gr) (n k:Nat):List AV:=rg n fun q=>vi (if q<k/\bt g.acc q=true then 1 else 0)
theorem accP_zero (g:Gr) (n:Nat):(rg n fun _=>vi 0)=accP g n 0:=rg_congr fun q _=>by rw [if_neg (by omega)]
theorem accP_f {g:Gr} {n k:Nat} (h:bt g.acc k=false):accP g n k=accP g n (k+1):=rg_congr fun q _=>by
 by_cases e:q=k
 ·subst e;simp only [h,Bool.false_eq_true,and_false,if_false]
 ·have:q<k ↔ q<k+1:=by omega
  simp only [this]
theorem accP_t {g:Gr} {n k:Nat} (h:bt g.acc k=true):(accP g n k).set k (vi 1)=accP g n (k+1):=by
 rw [accP,rg_set]
 refine rg_congr fun q _=>?_
 by_cases e:q=k
 ·subst e;simp only [h,and_true,Nat.lt_add_one,if_true]
 ·rw [if_neg e]
  have:q<k ↔ q<k+1:=by omega
  simp only [this]
theorem accP_get {g:Gr} {n k:Nat} (h:k<n):∃ u,(accP g n k)[k]? = some (vi u):=⟨_,rg_get h _⟩
theorem accP_all {g:Gr} {n:Nat} (h:g.acc.length=n):accP g n n=(accI g tmask).map vi:=by
 apply List.ext_getElem?
 intro j
 by_cases hj:j<n
 ·rw [accP,rg_get hj,accI,List.getElem?_map,List.getElem?_map,List.getElem?_range (by omega)]
  simp [hj]
 ·rw [List.getElem?_eq_none (by rw [accP,rg_len];omega),List.getElem?_eq_none (by simp [accI];omega)]
def deadP (lv:List Bool) (c:List Int) (n k:Nat):List AV:=rg n fun q=>vi (if q<k/\bt lv q=false then -1 else cg c q)
theorem deadP_zero {lv:List Bool} {c:List Int} {n:Nat} (h:c.length=n):c.map vi=deadP lv c n 0:=by
 apply List.ext_getElem?
 intro j
 by_cases hj:j<n
 ·rw [deadP,rg_get hj,cg_get (by omega),if_neg (by omega)]
 ·rw [List.getElem?_eq_none (by rw [List.length_map];omega),List.getElem?_eq_none (by rw [deadP,rg_len];omega)]
theorem deadP_t {lv:List Bool} {c:List Int} {n k:Nat} (h:bt lv k=true):deadP lv c n k=deadP lv c n (k+1):=rg_congr fun q _=>by
 by_cases e:q=k
 ·subst e;simp only [h,Bool.true_eq_false,and_false,if_false]
 ·have:q<k ↔ q<k+1:=by omega
  simp only [this]
theorem deadP_f {lv:List Bool} {c:List Int} {n k:Nat} (h:bt lv k=false):(deadP lv c n k).set k (vi (-1))=deadP lv c n (k+1):=by
 rw [deadP,rg_set]
 refine rg_congr fun q _=>?_
 by_cases e:q=k
 ·subst e;simp only [h,and_true,Nat.lt_add_one,if_true]
 ·rw [if_neg e]
  have:q<k ↔ q<k+1:=by omega
  simp only [this]
theorem deadP_get {lv:List Bool} {c:List Int} {n k:Nat} (h:k<n):∃ u,(deadP lv c n k)[k]? = some (vi u):=⟨_,rg_get h _⟩
theorem deadP_all (lv:List Bool) (c:List Int) (n:Nat):deadP lv c n n=((List.range n).map fun i=>if bt lv i=true then cg c i else -1).map vi:=by
 rw [List.map_map]
 refine List.map_congr_left fun q hq=>?_
 have:=List.mem_range.1 hq
 show vi _=vi _
 cases h:bt lv q <;> simp only [this,h,and_true,and_false,Bool.true_eq_false,Bool.false_eq_true,if_true,if_false]
theorem ren_two (g:Gr) (n:Nat) (l:List Int) (o1 o2:AObj):Ren (fun k=>if k=0 then 0 else 3) [oG g,.arr n 1 3 (l.map vi)] [oG g,o1,o2,.arr n 1 3 (l.map vi)]:=by
 refine ⟨fun i j hi hj e=>?_,fun i g' s e xs h=>?_⟩
 ·have b:∀ k,isArr [oG g,.arr n 1 3 (l.map vi)] k=true->k<2:=fun k hk=>by
   obtain ⟨_,_,_,_,h⟩:=isArr_some hk
   have:=(List.getElem?_eq_some_iff.1 h).1
   simpa using this
  have h1:=b i hi
  have h2:=b j hj
  have e:(if i=0 then 0 else 3)=(if j=0 then 0 else 3):=e
  split at e <;> split at e <;> omega
 ·match i,h with
  | 0,h =>
   simp only [List.getElem?_cons_zero,Option.some.injEq,AObj.arr.injEq] at h
   obtain ⟨rfl,rfl,rfl,rfl⟩:=h
   rfl
  | 1,h =>
   simp only [List.getElem?_cons_succ,List.getElem?_cons_zero,Option.some.injEq,AObj.arr.injEq] at h
   obtain ⟨rfl,rfl,rfl,rfl⟩:=h
   rw [List.map_map]
   rfl
  | i+2,h=>simp at h
set_option maxHeartbeats 4000000 in
theorem classes_s (g:Gr) (h:GrOk g) (hnb:g.acc.length<=257) (hyb:g.sy<=1000) (ht:∀ i x,¬ gto g i x<0->∃ w,lang g w (gto g i x).toNat=true):Ctr Try.prog 76 [vgr g] (vints (classesP g)):=by
 refine specC f76 (by simp) fun F0 w0=>?_
 obtain ⟨n,hn⟩:∃ n,g.acc.length=n:=⟨_,rfl⟩
 have hlv:=live_s g h hnb hyb
 have hll:=live_len g
 have hto:g.to.length=n:=by rw [h.len,hn]
 have q0:(0:Int)<=(n:Int):=by omega
 have q2:((8:Nat):Int)*(n:Int)<=281474976710656:=by omega
 have q3:(n:Int)<=9223372036854775807:=by omega
 unfold c76
 refine CwpE.cut (st:=⟨[(1,.ref 0 1 0 0)],[oG g]⟩) ?_ ?_
 ·simp only [go_sem]
  exact ⟨_,WkE.kp,rfl⟩
 refine CwpE.cut (st:=⟨[(1,.ref 0 1 0 0),(3,.own 1 n 0 n)],[oG g,.arr n 1 3 (accP g n 0)]⟩) ?_ ?_
 ·rw [<-accP_zero]
  simp only [go_sem,List.length_map,hto,q0,q2,q3,Int.le_refl,Int.toNat_natCast,rg_rep]
  exact ⟨_,WkE.kp,rfl⟩
 refine CwpE.step (fun z=>z=⟨[(1,.ref 0 1 0 0),(3,.own 1 n 0 n)],[oG g,.arr n 1 3 ((accI g tmask).map vi)]⟩) ?_ ?_
 ·simp only [go_sem,List.length_map,hn]
  refine loopX 0 (fun m z=>∃ k:Nat,m=n-k/\k<=n/\z=⟨[(1,.ref 0 1 0 0),(3,.own 1 n 0 n),(24,vbools g.acc),(25,vi n),(26,vi k)],[oG g,.arr n 1 3 (accP g n k)]⟩)
   (fun z=>z=⟨[(1,.ref 0 1 0 0),(3,.own 1 n 0 n)],[oG g,.arr n 1 3 ((accI g tmask).map vi)]⟩) n
   ⟨[(1,.ref 0 1 0 0),(3,.own 1 n 0 n),(24,vbools g.acc),(25,vi n),(26,vi (0:Nat))],[oG g,.arr n 1 3 (accP g n 0)]⟩ (WkE.kp) ⟨0,by omega,by omega,rfl⟩ ?_ ?_
  rotate_left
  ·rintro z rfl
   simp only [go_sem]
   exact ⟨_,.refl _ _,rfl⟩
  rintro m z ⟨k,rfl,hk,rfl⟩
  by_cases hlt:k<n
  rotate_left
  ·obtain rfl:k=n:=by omega
   rw [accP_all hn]
   simp only [go_sem,Int.lt_irrefl]
   exact ⟨_,WkE.kp,rfl⟩
  have g1:(k:Int)<(n:Int):=by omega
  have g0:(0:Int)<=(k:Int):=by omega
  have w1:=wrap_s k (by omega)
  have hag:=bt_get (s:=g.acc) (k:=k) (by omega)
  obtain ⟨u0,hu⟩:=accP_get (g:=g) hlt
  cases hc:bt g.acc k with
  | false =>
   rw [hc] at hag
   have e1:=accP_f (n:=n) hc
   simp only [go_sem,g1,g0,hag,w1,Int.toNat_natCast]
   refine ⟨n-(k+1),⟨[(1,.ref 0 1 0 0),(3,.own 1 n 0 n),(24,vbools g.acc),(25,vi n),(26,vi (k+1:Nat))],[oG g,.arr n 1 3 (accP g n (k+1))]⟩,by omega,?_,k+1,rfl,by omega,rfl⟩
   rw [<-e1]
   exact WkE.kp
  | true =>
   rw [hc] at hag
   have e1:=accP_t (n:=n) hc
   simp only [go_sem,g1,g0,hag,hu,e1,w1,Int.toNat_natCast]
   exact ⟨n-(k+1),⟨[(1,.ref 0 1 0 0),(3,.own 1 n 0 n),(24,vbools g.acc),(25,vi n),(26,vi (k+1:Nat))],[oG g,.arr n 1 3 (accP g n (k+1))]⟩,by omega,WkE.kp,k+1,rfl,by omega,rfl⟩
 rintro _ rfl
 have hcP:classesP g=(List.range n).map fun i=>if bt (liveM g) i then cg (clsP g tmask (n+1) (accI g tmask) 0) i else -1:=by rw [classesP,hn]
 rw [hcP]
 refine CwpE.cut (st:=⟨[(1,.ref 0 1 0 0),(3,.own 1 n 0 n),(6,vi (0:Nat))],[oG g,.arr n 1 3 ((accI g tmask).map vi)]⟩) ?_ ?_
 ·simp only [go_sem]
  exact ⟨_,WkE.kp,rfl⟩
 have hR0:=accI_ref g tmask
 have hmask:=tmask_mask ht
 have hb0:∀ i,i<n->cg (accI g tmask) i<32768:=fun i hi=>by rw [accI_get (by omega)];split <;> (try split) <;> omega
 generalize accI g tmask=c0 at hR0 hb0 ⊢
 obtain ⟨RS,hRS⟩:∃ RS,clsP g tmask (n+1) c0 0=RS:=⟨_,rfl⟩
 rw [hRS]
 refine CwpE.step (fun z=>RS.length=n/\z=⟨[(1,.ref 0 1 0 0),(3,.own 1 n 0 n)],[oG g,.arr n 1 3 (RS.map vi)]⟩) ?_ ?_
 rotate_left
 ·rintro _ ⟨hRSl,rfl⟩
  obtain ⟨lv,hlve⟩:∃ lv,liveM g=lv:=⟨_,rfl⟩
  rw [hlve] at hlv hll ⊢
  refine CwpE.step (fun z=>z=⟨[(3,.own 1 n 0 n)],[oG g,.arr n 1 3 (deadP lv RS n n)]⟩) ?_ ?_
  rotate_left
  ·rintro _ rfl
   refine CwpE.vc ?_
   rw [deadP_all]
   simp only [go_sem]
   refine .own 1 n 0 n 1 3 _ _ rfl (by simp) (by simp) fun q hq=>?_
   simp only [Nat.zero_add]
   exact .tree _ (List.all_eq_true.1 (isT_map (fun _=>rfl) _) _ (List.getElem_mem _))
  rw [deadP_zero (lv:=lv) hRSl]
  simp only [go_sem]
  refine callT hlv rfl ?_
  have hlvn:lv.length=n:=by omega
  simp only [go_sem,List.length_map,hlvn]
  refine loopX 8 (fun m z=>∃ k:Nat,m=n-k/\k<=n/\z=⟨[(3,.own 1 n 0 n),(109,vbools lv),(110,vi n),(111,vi k)],[oG g,.arr n 1 3 (deadP lv RS n k)]⟩)
   (fun z=>z=⟨[(3,.own 1 n 0 n)],[oG g,.arr n 1 3 (deadP lv RS n n)]⟩) n
   ⟨[(3,.own 1 n 0 n),(109,vbools lv),(110,vi n),(111,vi (0:Nat))],[oG g,.arr n 1 3 (deadP lv RS n 0)]⟩ (WkE.kp) ⟨0,by omega,by omega,rfl⟩ ?_ ?_
  rotate_left
  ·rintro z rfl
   simp only [go_sem]
   exact ⟨_,.refl _ _,rfl⟩
  rintro m z ⟨k,rfl,hk,rfl⟩
  by_cases hlt:k<n
  rotate_left
  ·obtain rfl:k=n:=by omega
   simp only [go_sem,Int.lt_irrefl]
   exact ⟨_,WkE.kp,rfl⟩
  have g1:(k:Int)<(n:Int):=by omega
  have g0:(0:Int)<=(k:Int):=by omega
  have w1:=wrap_s k (by omega)
  have hag:=bt_get (s:=lv) (k:=k) (by omega)
  obtain ⟨u0,hu⟩:=deadP_get (lv:=lv) (c:=RS) hlt
  cases hc:bt lv k with
  | true =>
   rw [hc] at hag
   have e1:=deadP_t (c:=RS) (n:=n) hc
   simp only [go_sem,g1,g0,hag,w1,Int.toNat_natCast]
   refine ⟨n-(k+1),⟨[(3,.own 1 n 0 n),(109,vbools lv),(110,vi n),(111,vi (k+1:Nat))],[oG g,.arr n 1 3 (deadP lv RS n (k+1))]⟩,by omega,?_,k+1,rfl,by omega,rfl⟩
   rw [<-e1]
   exact WkE.kp
  | false =>
   rw [hc] at hag
   have e1:=deadP_f (c:=RS) (n:=n) hc
   simp only [go_sem,g1,g0,hag,hu,e1,w1,Int.toNat_natCast]
   exact ⟨n-(k+1),⟨[(3,.own 1 n 0 n),(109,vbools lv),(110,vi n),(111,vi (k+1:Nat))],[oG g,.arr n 1 3 (deadP lv RS n (k+1))]⟩,by omega,WkE.kp,k+1,rfl,by omega,rfl⟩
 simp only [go_sem]
 refine loopX 2 (fun m z=>∃ (c:List Int) (many:Nat),Ref g tmask c many/\(∀ i,i<n->cg c i<32768)/\n-many<m/\clsP g tmask m c many=RS/\z=⟨[(1,.ref 0 1 0 0),(3,.own 1 n 0 n),(6,vi many)],[oG g,.arr n 1 3 (c.map vi)]⟩)
  (fun z=>RS.length=n/\z=⟨[(1,.ref 0 1 0 0),(3,.own 1 n 0 n)],[oG g,.arr n 1 3 (RS.map vi)]⟩) (n+1) ⟨[(1,.ref 0 1 0 0),(3,.own 1 n 0 n),(6,vi (0:Nat))],[oG g,.arr n 1 3 (c0.map vi)]⟩ (.refl _ _) ⟨c0,0,hR0,hb0,by omega,hRS,rfl⟩ ?_ ?_
 rotate_left
 ·rintro z ⟨hl,rfl⟩
  simp only [go_sem]
  exact ⟨_,.refl _ _,hl,rfl⟩
 rintro m z ⟨c,many,hRef,hcb,hmn,hRc,rfl⟩
 obtain ⟨f,rfl⟩:∃ f,m=f+1:=⟨m-1,by omega⟩
 have hcl:=hRef.len
 rw [hn] at hcl
 have hle:=step_le hRef
 rw [clsP] at hRc
 obtain ⟨nx,hnx⟩:∃ nx,maskO g tmask c=nx:=⟨_,rfl⟩
 have hnxv:∀ i,nx i=some (keyM g c i):=fun i=>by rw [<-hnx];rfl
 have hstep:clsStep g tmask c=rowGo nx (List.range n) []:=by rw [clsStep,hnx,hn]
 have hsr:=step_ref h hmask hRef
 rw [hstep] at hRc hle hsr
 obtain ⟨RR,hRR⟩:∃ RR:Nat->List Int,RR=fun i=>(rowGo nx (List.range i) []).1:=⟨_,rfl⟩
 obtain ⟨KS,hKS⟩:∃ KS:Nat->List (List Int),KS=fun i=>(rowGo nx (List.range i) []).2:=⟨_,rfl⟩
 have hRRl:∀ i,(RR i).length=i:=fun i=>by rw [hRR];simp only;rw [rowGo_len,List.length_range]
 have hKle:∀ i,i<=n->(KS i).length<=257:=fun i hi=>by
  have h1:=(rowGo_part nx hi ([]:List (List Int))).length_le
  rw [hKS]
  simp only
  omega
 have hsome:∀ i,RR (i+1)=RR i++[((posF (KS i) (keyM g c i):Nat):Int)]/\KS (i+1)=addK (KS i) (keyM g c i):=fun i=>by
  have:=rowGo_range nx i ([]:List (List Int))
  rw [hnxv] at this
  rw [hRR,hKS]
  simp only
  rw [this]
  exact ⟨rfl,rfl⟩
 have hRRq:∀ k i,i<k->∃ u,(RR k)[i]? = some u/\u=((posF (KS i) (keyM g c i):Nat):Int):=fun k=>by
  induction k with
  | zero=>intro i hi;omega
  | succ k ih =>
   intro i hi
   rw [(hsome k).1]
   by_cases e:i=k
   ·subst e
    exact ⟨_,by rw [List.getElem?_append_right (by rw [hRRl];exact Nat.le_refl _),hRRl,Nat.sub_self];rfl,rfl⟩
   ·obtain ⟨u,h1,h2⟩:=ih i (by omega)
    exact ⟨u,by rw [List.getElem?_append_left (by rw [hRRl];omega)];exact h1,h2⟩
 have hRRp:∀ i (hi:i<n),(RR n)[i]'(by rw [hRRl];exact hi)=((posF (KS i) (keyM g c i):Nat):Int):=fun i hi=>by
  obtain ⟨u,h1,h2⟩:=hRRq n i hi
  rw [List.getElem?_eq_getElem (by rw [hRRl];exact hi)] at h1
  rw [Option.some.inj h1,h2]
 have hRn:RR n=(rowGo nx (List.range n) []).1:=by rw [hRR]
 have hKn':KS n=(rowGo nx (List.range n) []).2:=by rw [hKS]
 have hK0:KS 0=[]:=by rw [hKS];rfl
 have hR0':RR 0=[]:=by rw [hRR];rfl
 rw [<-hRn,<-hKn'] at hRc hsr
 rw [<-hKn'] at hle
 clear hRR hKS hstep
 simp only [go_sem,List.length_map,hto,q0,q2,q3,Int.le_refl,Int.toNat_natCast,rg_rep]
 obtain ⟨y,hy⟩:∃ y,g.sy=y:=⟨_,rfl⟩
 have hKok:∀ i,i<n->KeyOk (y+1) (keyM g c i):=fun i hi=>by
  refine ⟨by rw [keyM,List.length_cons,List.length_map,rowAt_len h (by omega),hy],fun d hd=>?_⟩
  have hc0:∀ j,j<n->-1<=cg c j/\cg c j<32768:=fun j hj=>⟨by have:=hRef.pos j (by omega) rfl;omega,hcb j hj⟩
  rcases List.mem_cons.1 hd with rfl | hd
  ·exact hc0 i hi
  ·obtain ⟨t,ht,rfl⟩:=List.mem_map.1 hd
   split
   ·omega
   ·rename_i h0
    obtain ⟨x,hx,rfl⟩:=List.getElem_of_mem ht
    rw [rowAt_get hx] at h0 ⊢
    exact hc0 _ (by have:=gto_lt h h0;omega)
 refine loopX 4 (fun m z=>∃ (i:Nat) (ks:List (MK × Value)),m=n-i/\i<=n/\Numb (KeyOk (y+1)) keyB ks (KS i)/\(∀ l ∈ KS i,KeyOk (y+1) l)/\ks.length=(KS i).length /\
  z=⟨[(1,.ref 0 1 0 0),(3,.own 1 n 0 n),(6,vi many),(7,.mref 2 1),(8,.own 3 n 0 n),(41,vrows g.to),(42,vi n),(43,vi i)],[oG g,.arr n 1 3 (c.map vi),.arr 1 1 (mapT+1) [.val (mapV ks)],.arr n 1 3 (nums n (RR i) i 0)]⟩)
  (fun z=>∃ ks:List (MK × Value),ks.length=(KS n).length/\z=⟨[(1,.ref 0 1 0 0),(3,.own 1 n 0 n),(6,vi many),(7,.mref 2 1),(8,.own 3 n 0 n)],[oG g,.arr n 1 3 (c.map vi),.arr 1 1 (mapT+1) [.val (mapV ks)],.arr n 1 3 ((RR n).map vi)]⟩) n
  ⟨[(1,.ref 0 1 0 0),(3,.own 1 n 0 n),(6,vi many),(7,.mref 2 1),(8,.own 3 n 0 n),(41,vrows g.to),(42,vi n),(43,vi (0:Nat))],[oG g,.arr n 1 3 (c.map vi),.arr 1 1 (mapT+1) [.val (mapV [])],.arr n 1 3 (nums n (RR 0) 0 0)]⟩ ?_ ⟨0,[],by omega,by omega,?_,by rw [hK0];simp,by rw [hK0];rfl,rfl⟩ ?_ ?_
 ·rw [hR0',nums_zero]
  exact WkE.kp
 ·intro t _
  rw [hK0]
  rfl
 rotate_left
 ·rintro z ⟨ks,hkl,rfl⟩
  by_cases he:(KS n).length=many
  ·rw [if_pos he] at hRc
   have heI:(ks.length:Int)=(many:Int):=by omega
   simp only [go_sem,heI]
   refine ⟨_,?_,by rw [<-hRc];exact hcl,rfl⟩
   rw [<-hRc]
   have hin:((c.map vi).all (AV.inn 2))=true:=inn_map fun _=>rfl
   exact WkE.round (by simp only [go_sem];try rfl) rfl (Bool.and_eq_true_iff.2 ⟨rfl,Bool.and_eq_true_iff.2 ⟨hin,rfl⟩⟩) rfl
  ·rw [if_neg he] at hRc
   have heI:¬ (ks.length:Int)=(many:Int):=by omega
   simp only [go_sem,heI]
   rw [hkl]
   refine ⟨f,⟨[(1,.ref 0 1 0 0),(3,.own 1 n 0 n),(6,vi (KS n).length)],[oG g,.arr n 1 3 ((RR n).map vi)]⟩,by omega,?_,RR n,(KS n).length,hsr,?_,by omega,hRc,rfl⟩
   ·refine WkE.rename (fun k=>if k=0 then 0 else 3) (ren_two _ _ _ _ _) (by simp [AObj.inRO,AV.inR,AV.inR1]) ?_
    exact ⟨rfl,rfl,rfl,rfl,rfl,rfl,trivial⟩
   ·intro i hi
    obtain ⟨h1,_⟩:=hsome i
    have hb:=hKle (i+1) (by omega)
    have hpl:=posF_le (KS i) (keyM g c i)
    have hle2:=hKle i (by omega)
    have e1:(RR n)[i]'(by rw [hRRl];exact hi)=((posF (KS i) (keyM g c i):Nat):Int):=hRRp i hi
    rw [cg,List.getD_eq_getElem?_getD,List.getElem?_eq_getElem (by rw [hRRl];exact hi),e1]
    show ((posF (KS i) (keyM g c i):Nat):Int)<32768
    omega
 rintro m z ⟨i,ks,rfl,hi,hks,hKo,hkl,rfl⟩
 by_cases hlt:i<n
 rotate_left
 ·obtain rfl:i=n:=by omega
  rw [nums_all (hRRl i)]
  simp only [go_sem,Int.lt_irrefl]
  exact ⟨_,WkE.kp,ks,hkl,rfl⟩
 have g1:(i:Int)<(n:Int):=by omega
 have g0:(0:Int)<=(i:Int):=by omega
 have w1:=wrap_s i (by omega)
 have hrow:=row_get h (i:=i) (by omega)
 have hrl:=rowAt_len h (i:=i) (by omega)
 have hcg:=cg_get (c:=c) (i:=i) (by omega)
 simp only [go_sem,g1,g0,hrow,hcg,List.length_map,Int.toNat_natCast,n8,p8]
 obtain ⟨ts,hts⟩:∃ ts:List Int,(P5.rowAt g i).map (fun t=>if t<0 then -1 else cg c t.toNat)=ts:=⟨_,rfl⟩
 have hkM:keyM g c i=cg c i::ts:=by rw [keyM,hts]
 have htl:ts.length=y:=by rw [<-hts,List.length_map,hrl,hy]
 rw [hy] at hrl
 obtain ⟨KB,hKB⟩:∃ KB:Nat->List Int,KB=fun p=>kb (cg c i::ts.take p):=⟨_,rfl⟩
 have hKB0:(KB 0).map vc=[vc (IntKind.u8.wrap ((cg c i).fdiv 256)),vc (IntKind.u8.wrap (cg c i))]:=by rw [hKB];rfl
 have hKBl:∀ p,p<=y->(KB p).length=2*p+2:=fun p hp=>by rw [hKB];simp only;rw [kb_len,List.length_cons,List.length_take];omega
 have hKBs:∀ p (hp:p<y),(KB p).map vc++[vc (IntKind.u8.wrap ((ts[p]'(by omega)).fdiv 256)),vc (IntKind.u8.wrap (ts[p]'(by omega)))]=(KB (p+1)).map vc:=fun p hp=>by
  rw [hKB]
  simp only
  rw [List.take_succ_eq_append_getElem (by omega),<-List.cons_append,kb_snoc,List.map_append]
  rfl
 have hKBy:keyB (keyM g c i) = .s (bytesOf ((KB y).map vc)):=by rw [hkM,keyB,hKB];simp only;rw [List.take_of_length_le (by omega)]
 clear hKB
 rw [<-hKB0]
 refine loopX 6 (fun m z=>∃ p:Nat,m=y-p/\p<=y /\
  z=⟨[(1,.ref 0 1 0 0),(3,.own 1 n 0 n),(6,vi many),(7,.mref 2 1),(8,.own 3 n 0 n),(9,vi i),(11,.own 4 (2*p+2) 0 (2*p+2)),(41,vrows g.to),(42,vi n),(43,vi i),(60,vints (P5.rowAt g i)),(61,vi y),(62,vi p)],[oG g,.arr n 1 3 (c.map vi),.arr 1 1 (mapT+1) [.val (mapV ks)],.arr n 1 3 (nums n (RR i) i 0),.arr (2*p+2) 1 5 ((KB p).map vc)]⟩)
  (fun z=>z=⟨[(1,.ref 0 1 0 0),(3,.own 1 n 0 n),(6,vi many),(7,.mref 2 1),(8,.own 3 n 0 n),(9,vi i),(11,.own 4 (2*y+2) 0 (2*y+2)),(41,vrows g.to),(42,vi n),(43,vi i)],[oG g,.arr n 1 3 (c.map vi),.arr 1 1 (mapT+1) [.val (mapV ks)],.arr n 1 3 (nums n (RR i) i 0),.arr (2*y+2) 1 5 ((KB y).map vc)]⟩) y
  ⟨[(1,.ref 0 1 0 0),(3,.own 1 n 0 n),(6,vi many),(7,.mref 2 1),(8,.own 3 n 0 n),(9,vi i),(11,.own 4 (2*0+2) 0 (2*0+2)),(41,vrows g.to),(42,vi n),(43,vi i),(60,vints (P5.rowAt g i)),(61,vi y),(62,vi (0:Nat))],[oG g,.arr n 1 3 (c.map vi),.arr 1 1 (mapT+1) [.val (mapV ks)],.arr n 1 3 (nums n (RR i) i 0),.arr (2*0+2) 1 5 ((KB 0).map vc)]⟩ ?_ ⟨0,by omega,by omega,rfl⟩ ?_ ?_
 ·rw [<-hrl]
  exact WkE.kp
 rotate_left
 ·rintro z rfl
  have hKyl:=hKBl y (by omega)
  have htk:((KB y).map vc).take (2*y+2)=(KB y).map vc:=List.take_of_length_le (by rw [List.length_map,hKyl];omega)
  have hget:=nums_get (n:=n) (rr:=RR i) (i:=i) (v:=0) hlt
  have hns:∀ w,(nums n (RR i) i 0).set i (vi w)=nums n (RR i) i w:=fun w=>nums_set
  obtain ⟨h1,h2⟩:=hsome i
  have hk:=hks _ (hKok i hlt)
  rw [hKBy] at hk
  have hin:∀ ks' v,([oG g,.arr n 1 3 (c.map vi),.arr 1 1 (mapT+1) [.val (mapV ks')],.arr n 1 3 (nums n (RR i) i v)].all fun o=>o.innO 4)=true:=fun ks' v =>
   Bool.and_eq_true_iff.2 ⟨rfl,Bool.and_eq_true_iff.2 ⟨inn_map fun _=>rfl,Bool.and_eq_true_iff.2 ⟨rfl,Bool.and_eq_true_iff.2 ⟨rg_all fun q _=>rfl,rfl⟩⟩⟩⟩
  have fin:∀ env ks' v o5,RR (i+1)=RR i++[v]->Numb (KeyOk (y+1)) keyB ks' (KS (i+1))->ks'.length=(KS (i+1)).length->(∀ l ∈ KS (i+1),KeyOk (y+1) l)->Agree env [(1,.ref 0 1 0 0),(3,.own 1 n 0 n),(6,vi many),(7,.mref 2 1),(8,.own 3 n 0 n),(41,vrows g.to),(42,vi n),(43,vi (i+1:Nat))] ->
   ∃ m z,m<n-i/\WkE 123 ⟨env,[oG g,.arr n 1 3 (c.map vi),.arr 1 1 (mapT+1) [.val (mapV ks')],.arr n 1 3 (nums n (RR i) i v),o5]⟩ z/\∃ (i:Nat) (ks:List (MK × Value)),m=n-i/\i<=n/\Numb (KeyOk (y+1)) keyB ks (KS i)/\(∀ l ∈ KS i,KeyOk (y+1) l)/\ks.length=(KS i).length /\
   z=⟨[(1,.ref 0 1 0 0),(3,.own 1 n 0 n),(6,vi many),(7,.mref 2 1),(8,.own 3 n 0 n),(41,vrows g.to),(42,vi n),(43,vi i)],[oG g,.arr n 1 3 (c.map vi),.arr 1 1 (mapT+1) [.val (mapV ks)],.arr n 1 3 (nums n (RR i) i 0)]⟩:=by
   intro env ks' v o5 hv hn1 hl1 hk1 hA
   refine ⟨n-(i+1),_,by omega,WkE.round hA rfl (hin ks' v) rfl,i+1,ks',rfl,by omega,hn1,hk1,hl1,?_⟩
   rw [nums_snoc (hRRl i),<-hv]
  by_cases hm:posF (KS i) (keyM g c i)<(KS i).length
  ·rw [if_pos hm] at hk
   have ha:KS (i+1)=KS i:=by rw [h2,addK,if_pos hm]
   simp only [go_sem,g1,g0,htk,hk,hget,hns,w1,Int.toNat_natCast,List.length_map,hKyl,List.all_map,Function.comp_def,all_tt,Option.getD_some,Option.isSome_some]
   exact fin _ _ _ _ h1 (by rw [ha];exact hks) (by rw [ha];exact hkl) (by rw [ha];exact hKo) (by simp only [go_sem];try rfl)
  ·rw [if_neg hm] at hk
   have hnm:keyM g c i ∉ KS i:=fun hh=>hm (posF_mem.2 hh)
   have ha:KS (i+1)=KS i++[keyM g c i]:=by rw [h2,addK,if_neg hm]
   rw [posF_new hnm,<-hkl] at h1
   have hadd:=hks.add (keyB_inj (y+1)) (hKok i hlt) hnm
   rw [<-ha,<-hkl,hKBy] at hadd
   simp only [go_sem,g1,g0,htk,hk,hget,hns,w1,Int.toNat_natCast,List.length_map,hKyl,List.all_map,Function.comp_def,all_tt,Option.getD_none,Option.isSome_none]
   exact fin _ _ _ _ h1 hadd (by rw [kset_len,hk,ha,hkl];simp) (fun l hl=>by
    rw [ha] at hl
    rcases List.mem_append.1 hl with hl | hl
    ·exact hKo l hl
    ·rw [List.mem_singleton.1 hl];exact hKok i hlt) (by simp only [go_sem];try rfl)
 rintro m z ⟨p,rfl,hp,rfl⟩
 by_cases hpy:p<y
 rotate_left
 ·obtain rfl:y=p:=by omega
  simp only [go_sem,Int.lt_irrefl]
  exact ⟨_,WkE.kp,rfl⟩
 have p1:(p:Int)<(y:Int):=by omega
 have p0:(0:Int)<=(p:Int):=by omega
 have wp:=wrap_s p (by omega)
 have hgt:=gto_get h (i:=i) (x:=p) (by omega) (by omega)
 have hKs:=hKBs p hpy
 have hKpl:=hKBl p (by omega)
 have htp:ts[p]'(by omega)=if gto g i p<0 then -1 else cg c (gto g i p).toNat:=by
  simp only [<-hts,List.getElem_map]
  rw [rowAt_get]
 rw [htp] at hKs
 have qk:(2*p+2+2)*1<=140737488355328:=by omega
 have e2:2*p+2+2=2*(p+1)+2:=by omega
 have fin:∀ env o6,Agree env [(1,.ref 0 1 0 0),(3,.own 1 n 0 n),(6,vi many),(7,.mref 2 1),(8,.own 3 n 0 n),(9,vi i),(11,.own 4 (2*p+2+2) 0 (2*p+2+2)),(41,vrows g.to),(42,vi n),(43,vi i),(60,vints (P5.rowAt g i)),(61,vi y),(62,vi (p+1:Nat))] ->
  ∃ m z,m<y-p/\WkE 123 ⟨env,[oG g,.arr n 1 3 (c.map vi),.arr 1 1 (mapT+1) [.val (mapV ks)],.arr n 1 3 (nums n (RR i) i 0),.arr (2*p+2+2) 1 5 ((KB (p+1)).map vc),o6]⟩ z/\∃ p:Nat,m=y-p/\p<=y /\
  z=⟨[(1,.ref 0 1 0 0),(3,.own 1 n 0 n),(6,vi many),(7,.mref 2 1),(8,.own 3 n 0 n),(9,vi i),(11,.own 4 (2*p+2) 0 (2*p+2)),(41,vrows g.to),(42,vi n),(43,vi i),(60,vints (P5.rowAt g i)),(61,vi y),(62,vi p)],[oG g,.arr n 1 3 (c.map vi),.arr 1 1 (mapT+1) [.val (mapV ks)],.arr n 1 3 (nums n (RR i) i 0),.arr (2*p+2) 1 5 ((KB p).map vc)]⟩:=by
  intro env o6 hA
  rw [e2] at hA ⊢
  refine ⟨y-(p+1),_,by omega,WkE.round hA rfl ?_ rfl,p+1,rfl,by omega,rfl⟩
  exact Bool.and_eq_true_iff.2 ⟨rfl,Bool.and_eq_true_iff.2 ⟨inn_map fun _=>rfl,Bool.and_eq_true_iff.2 ⟨rfl,Bool.and_eq_true_iff.2 ⟨rg_all fun q _=>rfl,Bool.and_eq_true_iff.2 ⟨inn_map fun _=>rfl,rfl⟩⟩⟩⟩⟩
 by_cases hneg:gto g i p<0
 ·rw [if_pos hneg] at hKs
  have hge:¬ (0:Int)<=gto g i p:=by omega
  simp only [go_sem,p1,p0,hgt,hge,List.length_map,Int.toNat_natCast,n8,p8,hKs,hKpl,qk,wp]
  exact fin _ _ (by simp only [go_sem];try rfl)
 ·rw [if_neg hneg] at hKs
  have hge:(0:Int)<=gto g i p:=by omega
  have hlt2:=gto_lt h hneg
  have hlt3:gto g i p<(n:Int):=by omega
  have hcg2:=cg_get (c:=c) (i:=(gto g i p).toNat) (by omega)
  simp only [go_sem,p1,p0,hgt,hge,hlt3,hcg2,List.length_map,Int.toNat_natCast,n8,p8,hKs,hKpl,qk,wp]
  exact fin _ _ (by simp only [go_sem];try rfl)
def objsQ (o0:AObj) (sy:Int) (ks:List (MK × Value)) (L:List Nat) (A:List Bool) (E:List Edg):List AObj :=
 [o0,.arr 1 3 34 [nil3],.arr 1 1 (mapT+0) [.val (mapV ks)],.arr 1 3 34 [.agg [vi sy,.own 5 A.length 0 A.length,.own 6 E.length 0 E.length]],.arr L.length 1 3 (L.map vn),.arr A.length 1 4 (A.map vb),.arr E.length 3 72 (E.map vedge)]
theorem objsQ_eq (o0:AObj) (sy:Int) (ks:List (MK × Value)) (L:List Nat) (A:List Bool) (E:List Edg):objsQ o0 sy ks L A E =
 [o0,.arr 1 3 34 [nil3],.arr 1 1 (mapT+0) [.val (mapV ks)],.arr 1 3 34 [.agg [vi sy,.own 5 A.length 0 A.length,.own 6 E.length 0 E.length]],.arr L.length 1 3 (L.map vn),.arr A.length 1 4 (A.map vb),.arr E.length 3 72 (E.map vedge)]:=rfl
theorem objsQ_snap (sy:Int) (A:List Bool) (E:List Edg) (objs:List AObj) (p q:Nat) (hp:p=A.length) (hq:q=E.length) (h4:objs[5]? = some (.arr p 1 4 (A.map vb))) (h5:objs[6]? = some (.arr q 3 72 (E.map vedge))) :
 Snap objs (.agg [vi sy,.own 5 p 0 p,.own 6 q 0 q]) (vau ⟨sy,A,E⟩):=by
 subst hp hq
 refine .agg _ _ rfl fun i h1 h2=>?_
 match i,h1,h2 with
 | 0,_,_=>exact .tree _ rfl
 | 1,_,_ =>
  refine .own 5 A.length 0 A.length 1 4 _ _ h4 (by simp) (by simp) fun q hq=>?_
  simp only [Nat.zero_add]
  exact .tree _ (List.all_eq_true.1 (isT_map (fun _=>rfl) _) _ (List.getElem_mem _))
 | 2,_,_ =>
  refine .own 6 E.length 0 E.length 3 72 _ _ h5 (by simp) (by simp) fun q hq=>?_
  simp only [Nat.zero_add]
  exact .tree _ (List.all_eq_true.1 (isT_map (fun _=>rfl) _) _ (List.getElem_mem _))
abbrev NumC (c:List Int) (ks:List (MK × Value)) (L:List Nat):Prop:=Numb (fun _:Int=>True) MK.i ks (L.map (cg c))
theorem mki_inj:∀ s t:Int,True->True->MK.i s=MK.i t->s=t:=fun s t _ _ h=>by injection h
set_option maxHeartbeats 8000000 in
theorem least_s (g0:Gr) (h0:GrOk g0) (hnb:g0.acc.length<=257) (hyb:g0.sy<=64):Ctr Try.prog 50 [vgr g0] (vae (checkedM (leastP g0))):=by
 have htr:=trim_s g0 h0 hnb (by omega)
 have h:=trim_ok h0
 have hnb2:(trimM g0).acc.length<=257:=hnb
 have hyb2:(trimM g0).sy<=64:=hyb
 have hcs:=classes_s (trimM g0) h hnb2 (by omega) (fun i x h1=>trim_live h0 h1)
 have hci:=classesP_is h (fun i x h1=>trim_live h0 h1)
 have hsz:SzA (auOf (leastG (trimM g0) (classesP (trimM g0)))):=by
  obtain ⟨a1,a2,_⟩:=least_lang h hci hnb2
  exact szA_of a1 (Nat.le_trans a2 hnb2) hyb2
 refine specC f50 (by simp) fun F0 w0=>?_
 rw [leastP]
 unfold c50
 refine CwpE.cut (st:=⟨[(1,.ref 0 1 0 0),(2,.ref 1 1 0 0)],[oG g0,.arr 1 3 34 [nil3]]⟩) ?_ ?_
 ·simp only [go_sem]
  exact ⟨_,WkE.kp,rfl⟩
 refine CwpE.cut (st:=⟨[(1,.ref 0 1 0 0),(2,.ref 1 1 0 0)],[oG (trimM g0),.arr 1 3 34 [nil3]]⟩) ?_ ?_
 ·simp only [go_sem]
  refine callT htr rfl ?_
  simp only [go_sem]
  exact ⟨_,WkE.kp,rfl⟩
 have hcl0:=hci.len
 generalize trimM g0=g at h hnb2 hyb2 hcs hci hcl0 hsz ⊢
 obtain ⟨n,hn⟩:∃ n,g.acc.length=n:=⟨_,rfl⟩
 obtain ⟨y,hy⟩:∃ y,g.sy=y:=⟨_,rfl⟩
 have hcl:(classesP g).length=n:=by rw [hcl0,hn]
 obtain ⟨LG,hLG⟩:∃ LG,lgo g (classesP g) 258 [0] []=LG:=⟨_,rfl⟩
 have hres:auOf (leastG g (classesP g))=⟨(y:Int),LG.1.map (bt g.acc),edAll 0 LG.2⟩:=by rw [leastG,hLG,auOf,hy]
 have hrep0:Reps g (classesP g) [0]:=⟨by simp,fun p hp=>by rw [List.mem_singleton.1 hp];have:=h.n;omega⟩
 rw [checkedM,hres]
 rw [hres] at hsz
 clear hci
 generalize classesP g=c at hcs hcl hLG hrep0
 refine CwpE.cut (st:=⟨[(1,.ref 0 1 0 0),(2,.ref 1 1 0 0),(4,vints c)],[oG g,.arr 1 3 34 [nil3]]⟩) ?_ ?_
 ·simp only [go_sem]
  refine callT hcs rfl ?_
  simp only [go_sem]
  exact ⟨_,WkE.kp,rfl⟩
 have hc0:=cg_get (c:=c) (i:=0) (by have:=h.n;omega)
 refine CwpE.cut (st:=⟨[(1,.ref 0 1 0 0),(2,.ref 1 1 0 0),(4,vints c),(5,.mref 2 1)],[oG g,.arr 1 3 34 [nil3],.arr 1 1 (mapT+0) [.val (mapV [(.i (cg c 0),.int .i64 0)])]]⟩) ?_ ?_
 ·simp only [go_sem,Int.le_refl,hc0]
  exact ⟨_,WkE.kp,rfl⟩
 refine CwpE.cut (st:=⟨[(1,.ref 0 1 0 0),(2,.ref 1 1 0 0),(4,vints c),(5,.mref 2 1),(6,.ref 3 1 0 0)],[oG g,.arr 1 3 34 [nil3],.arr 1 1 (mapT+0) [.val (mapV [(.i (cg c 0),.int .i64 0)])],.arr 1 3 34 [.agg [vi y,.val (.slice none 0 0),.val (.slice none 0 0)]]]⟩) ?_ ?_
 ·simp only [go_sem,hy]
  exact ⟨_,WkE.kp,rfl⟩
 refine CwpE.seqJ (fun z=>∃ ks L rows,LG=(L,rows)/\z=⟨[(2,.ref 1 1 0 0),(6,.ref 3 1 0 0)],objsQ (oG g) y ks L (L.map (bt g.acc)) (edAll 0 rows)⟩) ?_ ?_
 rotate_left
 ·rintro _ ⟨ks,L,rows,hBs,rfl⟩
  rw [hBs] at hsz ⊢
  have hv:=Valid_s _ hsz
  obtain ⟨A,hA⟩:∃ A,L.map (bt g.acc)=A:=⟨_,rfl⟩
  have hAl:A.length=L.length:=by rw [<-hA,List.length_map]
  rw [hA] at hv ⊢
  refine CwpE.vc ?_
  rw [objsQ_eq]
  by_cases h0:validM ⟨(y:Int),A,edAll 0 rows⟩=0
  ·rw [if_pos h0]
   rw [h0] at hv
   simp only [go_sem]
   refine callF hv (.cons (objsQ_snap y A (edAll 0 rows) _ _ _ rfl rfl rfl rfl) .nil) rfl ?_
   simp only [go_sem]
   exact snap_tup2 (objsQ_snap y A (edAll 0 rows) _ _ _ rfl rfl rfl rfl) (.tree _ rfl)
  ·rw [if_neg h0]
   simp only [go_sem]
   refine callF hv (.cons (objsQ_snap y A (edAll 0 rows) _ _ _ rfl rfl rfl rfl) .nil) rfl ?_
   simp only [go_sem,h0]
   exact snap_tup2 nil_snap (.tree _ rfl)
 refine CwpE.seqJ (fun st=>st=⟨[(1,.ref 0 1 0 0),(2,.ref 1 1 0 0),(4,vints c),(5,.mref 2 1),(6,.ref 3 1 0 0),(7,.own 4 1 0 1)],objsQ (oG g) y [(.i (cg c 0),.int .i64 0)] [0] [] []⟩) ?_ ?_
 ·refine CwpE.regionB 1 (by omega) rfl (by decide) ?_
  simp only [go_sem]
  refine ⟨_,(WkE.nilCell 3 1 3 0 1 1 4 34 _ (.agg [vi y,.val (.slice none 0 0),.val (.slice none 0 0)]) rfl rfl rfl).trans ((WkE.nilCell 3 1 3 0 2 3 72 34 _ (.agg [vi y,.own 5 0 0 0,.val (.slice none 0 0)]) rfl rfl rfl).trans (WkE.keep (env':=[(1,.ref 0 1 0 0),(2,.ref 1 1 0 0),(4,vints c),(5,.mref 2 1),(6,.ref 3 1 0 0),(7,.own 4 1 0 1)]) (by simp only [go_sem];try rfl))),?_⟩
  simp only [go_sem]
  exact ⟨_,WkE.kp,rfl⟩
 rintro _ rfl
 refine CwpE.vc ?_
 simp only [go_sem]
 have hks0:NumC c [(.i (cg c 0),.int .i64 0)] [0]:=Numb.one mki_inj trivial
 refine loopX 0 (fun m z=>∃ (i:Nat) (ks:List (MK × Value)) (L:List Nat) (rows:List (List Int)),m=258-i/\rows.length=i/\i<=L.length/\Reps g c L/\(∀ r ∈ rows,r.length=y)/\NumC c ks L/\LG=lgo g c (258-i) L rows /\
  z=⟨[(1,.ref 0 1 0 0),(2,.ref 1 1 0 0),(4,vints c),(5,.mref 2 1),(6,.ref 3 1 0 0),(7,.own 4 L.length 0 L.length)],objsQ (oG g) y ks L ((L.take i).map (bt g.acc)) (edAll 0 rows)⟩)
  (fun z=>∃ ks L rows,LG=(L,rows)/\z=⟨[(2,.ref 1 1 0 0),(6,.ref 3 1 0 0)],objsQ (oG g) y ks L (L.map (bt g.acc)) (edAll 0 rows)⟩) 258
  ⟨[(1,.ref 0 1 0 0),(2,.ref 1 1 0 0),(4,vints c),(5,.mref 2 1),(6,.ref 3 1 0 0),(7,.own 4 1 0 1)],objsQ (oG g) y [(.i (cg c 0),.int .i64 0)] [0] [] []⟩ (.refl _ _)
  ⟨0,_,[0],[],rfl,rfl,by simp,hrep0,fun r hr=>by simp at hr,hks0,hLG.symm,rfl⟩ ?_ ?_
 rotate_left
 ·rintro z ⟨ks,L,rows,h1,rfl⟩
  simp only [go_sem]
  exact ⟨_,.refl _ _,ks,L,rows,h1,rfl⟩
 rintro m z ⟨i,ks,L,rows,rfl,hri,hiL,hrep,hrl,hks,hBi,rfl⟩
 have hLle:=hrep.le
 have hAl:((L.take i).map (bt g.acc)).length=i:=by simp;omega
 by_cases hlt:i<L.length
 rotate_left
 ·have gk:¬ (i:Int)<(L.length:Int):=by omega
  rw [lgo_end (by omega)] at hBi
  rw [objsQ_eq]
  simp only [go_sem,gk,hAl]
  refine ⟨⟨[(2,.ref 1 1 0 0),(6,.ref 3 1 0 0)],objsQ (oG g) y ks L (L.map (bt g.acc)) (edAll 0 rows)⟩,?_,ks,L,rows,hBi,rfl⟩
  have htk:L.take i=L:=List.take_of_length_le (by omega)
  have hil:i=L.length:=by omega
  rw [htk,objsQ_eq]
  simp only [List.length_map,hil]
  exact WkE.kp
 have hf:258-i=(258-(i+1))+1:=by omega
 rw [hf,lgo_step (by omega)] at hBi
 have hnx:L[rows.length]=L[i]:=by simp only [hri]
 rw [hnx,hy] at hBi
 have g1:(i:Int)<(L.length:Int):=by omega
 have g0:(0:Int)<=(i:Int):=by omega
 have wi:=wrap_s i (by omega)
 have hLi:=vn_get hlt
 have hLin:=hrep.lt _ (List.getElem_mem hlt)
 have hedl:=edAll_len rows 0 (m:=y) (fun r hr=>Nat.le_of_eq (hrl r hr))
 have hedb:(edAll 0 rows).length<=16448:=Nat.le_trans hedl (Nat.le_trans (Nat.mul_le_mul (show rows.length<=257 by omega) (show y<=64 by omega)) (by omega))
 have hA1:((L.take i).map (bt g.acc))++[bt g.acc L[i]]=(L.take (i+1)).map (bt g.acc):=by
  rw [List.take_succ_eq_append_getElem hlt,List.map_append];rfl
 have qa:(i+1)*1<=140737488355328:=by omega
 have hkeep:∀ x (h:i<((lrow g c L[i] (List.range x) L).2).length),((lrow g c L[i] (List.range x) L).2)[i]=L[i]:=fun x h=>((lrow_pre g c L[i] (List.range x) L).getElem hlt).symm
 have hLxr:∀ x,Reps g c (lrow g c L[i] (List.range x) L).2:=fun x=>lrow_reps h _ hrep
 obtain ⟨s,hs⟩:∃ s,L[i]=s:=⟨_,rfl⟩
 rw [hs] at hBi hLi hLin hA1
 simp only [hs] at hkeep hLxr
 have s0:(0:Int)<=(s:Int):=by omega
 have hsa:=bt_get (s:=g.acc) (k:=s) hLin
 have hrow:=row_get h hLin
 have hrl2:=rowAt_len h hLin
 rw [hy] at hrl2
 rw [objsQ_eq]
 have hAe:((L.take i).map (bt g.acc)).map vb++[vb (bt g.acc s)]=((L.take (i+1)).map (bt g.acc)).map vb:=by
  rw [<-hA1,List.map_append];rfl
 have hAl1:((L.take (i+1)).map (bt g.acc)).length=i+1:=by simp;omega
 obtain ⟨A0,hA0⟩:∃ A0,((L.take i).map (bt g.acc))=A0:=⟨_,rfl⟩
 obtain ⟨A1,hA1e⟩:∃ A1,((L.take (i+1)).map (bt g.acc))=A1:=⟨_,rfl⟩
 rw [hA0] at hAl hAe
 rw [hA1e] at hAl1 hAe
 rw [hA0]
 obtain ⟨E0,hE0⟩:∃ E0,edAll 0 rows=E0:=⟨_,rfl⟩
 rw [hE0] at hedb ⊢
 simp only [go_sem,g1,g0,hLi,s0,hsa,hAl,qa,hAe,hrow,hrl2,List.length_map,Int.toNat_natCast]
 obtain ⟨LX,hLX⟩:∃ LX:Nat->List Nat,LX=fun x=>(lrow g c s (List.range x) L).2:=⟨_,rfl⟩
 obtain ⟨RX,hRX⟩:∃ RX:Nat->List Int,RX=fun x=>(lrow g c s (List.range x) L).1:=⟨_,rfl⟩
 have hRXl:∀ x,(RX x).length=x:=fun x=>by rw [hRX];simp only;rw [lrow_len,List.length_range]
 have hLX0:LX 0=L:=by rw [hLX];rfl
 have hRX0:RX 0=[]:=by rw [hRX];rfl
 have hLXr:∀ x,Reps g c (LX x):=fun x=>by rw [hLX];exact hLxr x
 have hLXp:∀ x,L <+: LX x:=fun x=>by rw [hLX];exact lrow_pre g c s _ L
 have hLXk:∀ x (h:i<(LX x).length),(LX x)[i]=s:=fun x h=>by
  have:=((hLXp x).getElem hlt)
  rw [<-this,hs]
 have hskip:∀ x,(gto g s x<0 \/ cg c (gto g s x).toNat<0)->LX (x+1)=LX x/\RX (x+1)=RX x++[-1]:=fun x hx=>by
  rw [hLX,hRX]
  dsimp only
  rw [lrow_range]
  dsimp only
  rw [if_pos hx]
  exact ⟨rfl,rfl⟩
 have htake:∀ x,¬ (gto g s x<0 \/ cg c (gto g s x).toNat<0)->LX (x+1)=(if posF ((LX x).map (cg c)) (cg c (gto g s x).toNat)<(LX x).length then LX x else LX x++[(gto g s x).toNat])/\RX (x+1)=RX x++[((posF ((LX x).map (cg c)) (cg c (gto g s x).toNat):Nat):Int)]:=fun x hx=>by
  rw [hLX,hRX]
  dsimp only
  rw [lrow_range]
  dsimp only
  rw [if_neg hx]
  exact ⟨rfl,rfl⟩
 have hLXy:(lrow g c s (List.range y) L).2=LX y:=by rw [hLX]
 have hRXy:(lrow g c s (List.range y) L).1=RX y:=by rw [hRX]
 rw [hLXy,hRXy] at hBi
 clear hLX hRX hkeep hLxr
 refine loopX 2 (fun m z=>∃ (x:Nat) (ks:List (MK × Value)),m=y-x/\x<=y/\NumC c ks (LX x) /\
  z=⟨[(1,.ref 0 1 0 0),(2,.ref 1 1 0 0),(4,vints c),(5,.mref 2 1),(6,.ref 3 1 0 0),(7,.own 4 (LX x).length 0 (LX x).length),(8,vi i),(55,vints (P5.rowAt g s)),(56,vi y),(57,vi x)],objsQ (oG g) y ks (LX x) A1 (E0++edRow (i:Int) 0 (RX x))⟩)
  (fun z=>∃ ks:List (MK × Value),NumC c ks (LX y)/\z=⟨[(1,.ref 0 1 0 0),(2,.ref 1 1 0 0),(4,vints c),(5,.mref 2 1),(6,.ref 3 1 0 0),(7,.own 4 (LX y).length 0 (LX y).length)],objsQ (oG g) y ks (LX y) A1 (E0++edRow (i:Int) 0 (RX y))⟩) y
  ⟨[(1,.ref 0 1 0 0),(2,.ref 1 1 0 0),(4,vints c),(5,.mref 2 1),(6,.ref 3 1 0 0),(7,.own 4 (LX 0).length 0 (LX 0).length),(8,vi i),(55,vints (P5.rowAt g s)),(56,vi y),(57,vi (0:Nat))],objsQ (oG g) y ks (LX 0) A1 (E0++edRow (i:Int) 0 (RX 0))⟩ ?_ ⟨0,ks,by omega,by omega,by rw [hLX0];exact hks,rfl⟩ ?_ ?_
 ·rw [hLX0,hRX0,edRow,List.append_nil,objsQ_eq,hAl1]
  exact WkE.kp
 rotate_left
 ·rintro z ⟨ks,hks,rfl⟩
  simp only [go_sem]
  refine ⟨258-(i+1),_,by omega,.refl _ _,i+1,ks,LX y,rows++[RX y],rfl,by simp [hri],?_,hLXr y,?_,hks,hBi,?_⟩
  ·have:=(hLXp y).length_le;omega
  ·intro r hr
   rcases List.mem_append.1 hr with hr | hr
   ·exact hrl r hr
   ·rw [List.mem_singleton.1 hr,hRXl]
  ·have e1:edAll 0 (rows++[RX y])=E0++edRow (i:Int) 0 (RX y):=by rw [edAll_snoc,hE0,hri,Nat.zero_add]
   have e2:((LX y).take (i+1)).map (bt g.acc)=A1:=by
    obtain ⟨r,hr⟩:=hLXp y
    rw [<-hr,List.take_append_of_le_length (by omega),hA1e]
   rw [e1,e2]
 rintro m z ⟨x,ks,rfl,hx,hks,rfl⟩
 by_cases hxy:x<y
 rotate_left
 ·obtain rfl:y=x:=by omega
  rw [objsQ_eq]
  simp only [go_sem,Int.lt_irrefl]
  refine ⟨_,?_,ks,hks,rfl⟩
  rw [objsQ_eq]
  simp only [List.length_append]
  exact WkE.kp
 have gx:(x:Int)<(y:Int):=by omega
 have x0:(0:Int)<=(x:Int):=by omega
 have wx:=wrap_s x (by omega)
 have hgt:=gto_get h hLin (show x<g.sy by omega)
 have hee:=edRow_len (i:Int) (RX x) 0
 rw [hRXl] at hee
 have hel:(E0++edRow (i:Int) 0 (RX x)).length<=16448+64:=by rw [List.length_append];omega
 have e1:∀ p:Nat,edRow (i:Int) 0 (RX x++[(p:Int)])=edRow (i:Int) 0 (RX x)++[((i:Int),(x:Int),(p:Int))]:=fun p=>by
  rw [edRow_snoc,if_neg (by omega),Nat.zero_add,hRXl]
 have e0:edRow (i:Int) 0 (RX x++[-1])=edRow (i:Int) 0 (RX x):=by rw [edRow_snoc,if_pos (by omega),List.append_nil]
 have hsk:=hskip x
 have htk:=htake x
 have hhi:=h.hi s x
 have hrepx:=hLXr x
 have hlex:=hrepx.le
 obtain ⟨E1,hE1⟩:∃ E1,E0++edRow (i:Int) 0 (RX x)=E1:=⟨_,rfl⟩
 rw [hE1] at hel ⊢
 obtain ⟨Lx,hLx⟩:∃ Lx,LX x=Lx:=⟨_,rfl⟩
 rw [hLx] at hsk htk hrepx hlex hks ⊢
 have fin:∀ (st:Est) (ks2:List (MK × Value)) (L2:List Nat) (E2:List Edg),LX (x+1)=L2->E0++edRow (i:Int) 0 (RX (x+1))=E2->NumC c ks2 L2->WkE 109 st ⟨[(1,.ref 0 1 0 0),(2,.ref 1 1 0 0),(4,vints c),(5,.mref 2 1),(6,.ref 3 1 0 0),(7,.own 4 L2.length 0 L2.length),(8,vi i),(55,vints (P5.rowAt g s)),(56,vi y),(57,vi (x+1:Nat))],objsQ (oG g) y ks2 L2 A1 E2⟩ ->
  ∃ m s',m<y-x/\WkE 109 st s'/\∃ (x:Nat) (ks:List (MK × Value)),m=y-x/\x<=y/\NumC c ks (LX x) /\
  s'=⟨[(1,.ref 0 1 0 0),(2,.ref 1 1 0 0),(4,vints c),(5,.mref 2 1),(6,.ref 3 1 0 0),(7,.own 4 (LX x).length 0 (LX x).length),(8,vi i),(55,vints (P5.rowAt g s)),(56,vi y),(57,vi x)],objsQ (oG g) y ks (LX x) A1 (E0++edRow (i:Int) 0 (RX x))⟩:=by
  rintro st ks2 L2 E2 rfl rfl hk hst
  exact ⟨y-(x+1),_,by omega,hst,x+1,ks2,rfl,by omega,hk,rfl⟩
 obtain ⟨t,ht⟩:∃ t,gto g s x=t:=⟨_,rfl⟩
 rw [ht] at hsk htk hhi hgt
 rw [objsQ_eq]
 by_cases b1:t<0
 ·obtain ⟨h1,h2⟩:=hsk (.inl b1)
  simp only [go_sem,gx,x0,hgt,b1,wx,Int.toNat_natCast]
  refine fin _ ks Lx E1 h1 (by rw [h2,e0,hE1]) hks ?_
  rw [objsQ_eq]
  exact WkE.kp
 have b0:0<=t:=by omega
 have bn:t<(n:Int):=by omega
 have hct:=cg_get (c:=c) (i:=t.toNat) (by omega)
 by_cases b2:cg c t.toNat<0
 ·obtain ⟨h1,h2⟩:=hsk (.inr b2)
  simp only [go_sem,gx,x0,hgt,b1,b0,hct,b2,wx,Int.toNat_natCast]
  refine fin _ ks Lx E1 h1 (by rw [h2,e0,hE1]) hks ?_
  rw [objsQ_eq]
  exact WkE.kp
 obtain ⟨h1,h2⟩:=htk (fun e=>e.elim b1 b2)
 obtain ⟨pos,hpos⟩:∃ pos,posF (Lx.map (cg c)) (cg c t.toNat)=pos:=⟨_,rfl⟩
 have hk:=hks (cg c t.toNat) trivial
 have hple:=posF_le (Lx.map (cg c)) (cg c t.toNat)
 rw [hpos] at h1 h2 hk
 rw [hpos,List.length_map] at hple
 rw [List.length_map] at hk
 have qe:(E1.length+1)*24<=140737488355328:=by omega
 have ql:(Lx.length+1)*8<=140737488355328:=by omega
 have tcast:((t.toNat:Nat):Int)=t:=by omega
 by_cases hm:pos<Lx.length
 ·rw [if_pos hm] at h1 hk
  simp only [go_sem,gx,x0,hgt,b1,b0,hct,b2,wx,hk,qe,List.length_map,Int.toNat_natCast,Option.getD_some,Option.isSome_some]
  refine fin _ ks Lx (E1++[((i:Int),(x:Int),(pos:Int))]) h1 (by rw [h2,e1,<-List.append_assoc,hE1]) hks ?_
  rw [objsQ_eq]
  simp only [List.length_append,List.length_singleton,List.map_append,List.map_cons,List.map_nil]
  exact WkE.kp
 ·rw [if_neg hm] at h1 hk
  have hpe:pos=Lx.length:=by omega
  have hnm:cg c t.toNat ∉ Lx.map (cg c):=fun hh=>hm (by have:=posF_mem.2 hh;rw [hpos,List.length_map] at this;exact this)
  have hadd:=Numb.add mki_inj trivial hks hnm
  have hmap:Lx.map (cg c)++[cg c t.toNat]=(Lx++[t.toNat]).map (cg c):=by rw [List.map_append];rfl
  rw [hmap,List.length_map] at hadd
  simp only [go_sem,gx,x0,hgt,b1,b0,hct,b2,wx,hk,qe,ql,List.length_map,Int.toNat_natCast,Option.getD_none,Option.isSome_none]
  refine fin _ (kset ks (.i (cg c t.toNat)) (.int .i64 (Lx.length:Nat))) (Lx++[t.toNat]) (E1++[((i:Int),(x:Int),(pos:Int))]) h1 (by rw [h2,e1,<-List.append_assoc,hE1]) hadd ?_
  rw [objsQ_eq,hpe]
  simp only [List.length_append,List.length_singleton,List.map_append,List.map_cons,List.map_nil,vn,tcast]
  exact WkE.kp
theorem wdi_zero {s:List Bool} (hl:s.length<=256):([wdi s 0,wdi s 1,wdi s 2,wdi s 3]=[(0:Int),0,0,0]) ↔ ¬ ∃ j,bt s j=true:=by
 have hn:∀ n k,wdi (noneS n) k=0:=wdi_none
 constructor
 ·intro h
  simp only [List.cons.injEq,and_true] at h
  obtain ⟨h0,h1,h2,h3⟩:=h
  have e:s=noneS s.length:=by
   refine keyS_inj (by simp [noneS]) hl ?_
   rw [keyS,keyS,h0,h1,h2,h3,hn,hn,hn,hn]
  rintro ⟨j,hj⟩
  rw [e,noneS_bt] at hj
  cases hj
 ·intro h
  have e:s=noneS s.length:=bt_ext (by simp [noneS]) fun i _=>by
   rw [noneS_bt]
   constructor
   ·intro hi;exact absurd ⟨i,hi⟩ h
   ·intro hi;cases hi
  rw [e,hn,hn,hn,hn]
theorem fixed1_s (a:Au) (hv:VA a) (s:List Bool) (x:Nat) (hx:(x:Int)<a.sy):Ctr Try.prog 49 [vset s,vi x,.ptr [vmach a]] (.tup [vset (afterA a s (x:Int)),vb (anyA a s (x:Int))]):=by
 refine specC f49 (by simp) fun F0 w0=>?_
 have haf:=after_s a hv s x hx
 have hn:=hv.n
 have hz:=wdi_zero (s:=afterA a s (x:Int)) (by rw [afterA_len];omega)
 rw [<-any_iff hv] at hz
 generalize afterA a s (x:Int)=t at haf hz ⊢
 have hd:decide ([wdi t 0,wdi t 1,wdi t 2,wdi t 3]=[(0:Int),0,0,0]) = !anyA a s (x:Int):=by
  cases h:anyA a s (x:Int) with
  | false=>exact decide_eq_true (hz.2 (by rw [h];simp))
  | true=>exact decide_eq_false (fun e=>hz.1 e h)
 unfold c49
 refine CwpE.cut (st:=⟨[(1,vi x),(2,.ptr [vmach a]),(3,.ref 0 1 0 0),(5,.ref 1 1 0 0)],[.arr 1 4 79 [vset s],.arr 1 4 79 [.agg [vw 0,vw 0,vw 0,vw 0]]]⟩) ?_ ?_
 ·simp only [go_sem]
  exact ⟨_,WkE.kp,rfl⟩
 refine CwpE.cut (st:=⟨[(5,.ref 1 1 0 0),(7,.ref 2 1 0 0)],[.arr 1 4 79 [vset s],.arr 1 4 79 [.agg [vw 0,vw 0,vw 0,vw 0]],.arr 1 4 79 [vset t]]⟩) ?_ ?_
 ·simp only [go_sem]
  refine callT haf rfl ?_
  simp only [go_sem]
  exact ⟨_,WkE.kp,rfl⟩
 refine CwpE.vc ?_
 simp only [go_sem,hd]
 rw [Bool.not_not]
 exact snap_tup2 (.tree _ rfl) (.tree _ rfl)
theorem toV_set (s:List Bool):toV (.agg [vw (wdi s 0),vw (wdi s 1),vw (wdi s 2),vw (wdi s 3)])=some (.agg #[.int .u64 (wdi s 0),.int .u64 (wdi s 1),.int .u64 (wdi s 2),.int .u64 (wdi s 3)]):=rfl
theorem bnd_meets (s t:List Bool) (hs:s.length<=256) (objs:List AObj):CallOk Try.prog objs (.val (.func (.func 43) [Value.agg #[.int .u64 (wdi s 0),.int .u64 (wdi s 1),.int .u64 (wdi s 2),.int .u64 (wdi s 3)]].toArray #[])) [vset t] (vb (meets s t)):=by
 refine .bnd 43 _ [vset s] [vset t] [vset s,vset t] _ rfl ?_ (.cons (.tree _ rfl) (.cons (.tree _ rfl) .nil)) (meets_s s t hs)
 intro w F i h h2
 match i,h,h2 with
 | 0,_,_ =>
  refine .agg _ _ rfl ?_ ?_
  ·intro i hi
   match i,hi with
   | 0,_=>rfl
   | 1,_=>rfl
   | 2,_=>rfl
   | 3,_=>rfl
  ·intro i hi hi2
   match i,hi,hi2 with
   | 0,_,_=>exact .val _
   | 1,_,_=>exact .val _
   | 2,_,_=>exact .val _
   | 3,_,_=>exact .val _
theorem meets_comm (s t:List Bool):meets s t=meets t s:=by
 rw [Bool.eq_iff_iff,meets_iff,meets_iff]
 exact ⟨fun ⟨i,h1,h2⟩=>⟨i,h2,h1⟩,fun ⟨i,h1,h2⟩=>⟨i,h2,h1⟩⟩
set_option maxHeartbeats 4000000 in
theorem Fixed_s (a:Au) (hz:SzA a):Ctr Try.prog 22 [vau a] (vae (fixedM a)):=by
 refine specC f22 (by simp) fun F0 w0=>?_
 have hval:=Valid_s a hz
 unfold c22
 refine CwpE.cut (st:=⟨[(1,.ref 0 1 0 0),(2,.ref 1 1 0 0),(3,vi 0)],[.arr 1 3 34 [vau a],.arr 1 3 34 [nil3]]⟩) ?_ ?_
 ·simp only [go_sem]
  exact ⟨_,WkE.kp,rfl⟩
 by_cases h0:validM a=0
 rotate_left
 ·refine CwpE.step (fun _=>False) ?_ (fun _ h=>h.elim)
  have:fixedM a=(nilA,validM a):=by rw [fixedM,if_neg h0]
  rw [this]
  simp only [go_sem]
  refine callT hval rfl ?_
  simp only [go_sem,h0]
  exact snap_tup2 nil_snap (.tree _ rfl)
 rw [h0] at hval
 have hV:=valid_VA.1 h0
 obtain ⟨⟨hsy1,hsy2⟩,⟨hn1,hn2⟩,hm,hed⟩:=id hV
 obtain ⟨y,hy⟩:∃ y:Nat,a.sy=(y:Int):=⟨a.sy.toNat,by omega⟩
 have hyT:a.sy.toNat=y:=by omega
 refine CwpE.cut (st:=⟨[(1,.ref 0 1 0 0),(2,.ref 1 1 0 0),(3,vi 0)],[.arr 1 3 34 [vau a],.arr 1 3 34 [nil3]]⟩) ?_ ?_
 ·simp only [go_sem]
  refine callT hval rfl ?_
  simp only [go_sem]
  exact ⟨_,WkE.kp,rfl⟩
 have hnm:=newMachine_s a hV
 refine CwpE.cut (st:=⟨[(5,.ptr [vmach a]),(1,.ref 0 1 0 0),(2,.ref 1 1 0 0),(3,vi 0)],[.arr 1 3 34 [vau a],.arr 1 3 34 [nil3],.dead]⟩) ?_ ?_
 ·simp only [go_sem]
  refine callT hnm rfl ?_
  simp only [go_sem]
  refine ⟨_,(WkE.freezeS (n:=40) (objs:=[.arr 1 3 34 [vau a],.arr 1 3 34 [nil3],.arr 1 1 75 [vmach a]]) 5 2 1 1 75 [vmach a] (.ref 2 1 0 0) (.ptr [vmach a]) (by omega) rfl rfl ?_).trans (WkE.kp),rfl⟩
  refine .ref 2 1 0 0 _ _ rfl rfl fun i h1 h2=>?_
  match i,h1,h2 with
  | 0,_,_=>exact .tree _ rfl
 have hfix:fixedM a=match setsM a with | none=>(nilA,4) | some g=>checkedM (leastR g):=by rw [fixedM,if_pos h0];rfl
 have hex:=explA_s (fun s=>s.length=a.acc.length) (fun s t hs ht=>keyS_inj (by rw [hs,ht]) (by omega)) (.val (.func (.func 43) [Value.agg #[.int .u64 (wdi a.acc 0),.int .u64 (wdi a.acc 1),.int .u64 (wdi a.acc 2),.int .u64 (wdi a.acc 3)]].toArray #[]))
  (.clo (.func 49) [.ptr [vmach a]]) (firstA a) y (by omega) (fun s=>meets s a.acc) (fun s x=>(afterA a s (x:Int),anyA a s (x:Int))) (firstA_len a) (fun s x _ _ _=>afterA_len a s x)
  (fun s hs objs=>by rw [meets_comm];exact bnd_meets a.acc s hn2 objs) (fun s x hs hx objs=>.data 49 _ _ _ _ (.cons (.tree _ rfl) (.cons (.tree _ rfl) (.cons (.tree _ rfl) .nil))) (fixed1_s a hV s x (by omega))) (fun k=>⟨rfl,rfl⟩)
 have hB:bfs 256 (nextE fun s (x:Nat)=>(afterA a s (x:Int),anyA a s (x:Int))) y (firstA a)=bfs 256 (nextA a) a.sy.toNat (firstA a):=by rw [hyT];rfl
 rw [hB,<-hy] at hex
 obtain ⟨MV,hMV⟩:∃ MV,MV=rg a.acc.length fun i=>AV.list 4 (rg a.sy.toNat fun x=>vset (moveP a i (x:Int))):=⟨_,rfl⟩
 have hvm:vmach a = .ptr [vi a.sy,vw (wdi a.acc 0),vw (wdi a.acc 1),vw (wdi a.acc 2),vw (wdi a.acc 3),.list 1 MV,vw (wdi (firstA a) 0),vw (wdi (firstA a) 1),vw (wdi (firstA a) 2),vw (wdi (firstA a) 3)]:=by rw [vmach,hMV]
 rw [hvm] at hex ⊢
 rw [hfix]
 cases hs:setsM a with
 | none =>
  have hb:bfs 256 (nextA a) a.sy.toNat (firstA a)=none:=by
   rw [setsM] at hs
   exact Option.map_eq_none_iff.1 hs
  rw [hb] at hex
  refine CwpE.vc ?_
  simp only [go_sem,toV_set]
  refine callN hex (.cons (.tree _ rfl) (.cons (.tree _ rfl) (.cons (.tree _ rfl) (.cons (.tree _ rfl) .nil)))) ?_
  simp only [resE,go_sem,↓reduceIte,Nat.reduceLT,Nat.reduceEqDiff,Nat.reduceAdd,Int.reduceEq]
  exact snap_tup2 nil_snap (.tree _ rfl)
 | some g =>
  have hgo:=setsM_ok hs
  obtain ⟨r,hb,hgr⟩:∃ r,bfs 256 (nextA a) a.sy.toNat (firstA a)=some r/\grOf a.sy.toNat (fun s=>meets s a.acc) r.1 r.2=g:=by
   rw [setsM] at hs
   exact Option.map_eq_some_iff.1 hs
  rw [hb,resE] at hex
  rw [hyT] at hgr
  rw [hgr] at hex
  have hls:=least_s g hgo.1 (by omega) (by omega)
  rw [leastP_R hgo.1 (by omega)] at hls
  refine CwpE.vc ?_
  simp only [go_sem,toV_set]
  refine callN hex (.cons (.tree _ rfl) (.cons (.tree _ rfl) (.cons (.tree _ rfl) (.cons (.tree _ rfl) .nil)))) ?_
  simp only [go_sem]
  refine callT hls rfl ?_
  simp only [go_sem]
  exact snap_tup2 (.tree _ rfl) (.tree _ rfl)
def hiE (x y:Int):Int :=
 let m:Int:=4294967295
 let a (u v:Int):Int:=IntKind.u64.wrap ((BitVec.ofInt IntKind.u64.bits u &&& BitVec.ofInt IntKind.u64.bits v).toNat:Nat)
 let s (u:Int):Int:=u.fdiv (2 ^ min (32:Int).toNat IntKind.u64.bits)
 let w (u:Int):Int:=IntKind.u64.wrap u
 let x0:=a x m
 let x1:=s x
 let y0:=a y m
 let y1:=s y
 let w0:=w (x0*y0)
 let t:=w (w (x1*y0)+s w0)
 let w1:=a t m
 let w2:=s t
 let w1:=w (w1+w (x0*y1))
 w (w (w (x1*y1)+w2)+s w1)
theorem hiE_zero (n:Nat) (h:n<=64):hiE 1 n=0/\IntKind.u64.wrap (1*(n:Int))=n:=by
 have:∀ k:Fin 65,hiE 1 ((k:Nat):Int)=0/\IntKind.u64.wrap (1*((k:Nat):Int))=((k:Nat):Int):=by decide +kernel
 exact this ⟨n,by omega⟩
theorem n32:¬ (32:Int)<0:=by omega
theorem Mul64_s (n:Nat) (h8:n<=64):Ctr Try.prog 85 [vw 1,vw n] (.tup [vw 0,vw n]):=by
 refine specE f85 (by simp) fun F0 w0=>?_
 obtain ⟨h1,h2⟩:=hiE_zero n h8
 have e:(AV.tup [vw 0,vw n]) = .tup [vw (hiE 1 n),vw (IntKind.u64.wrap (1*(n:Int)))]:=by rw [h1,h2]
 rw [e]
 simp only [c85,go_sem,↓reduceIte,reduceCtorEq,Nat.reduceLT,Nat.reduceEqDiff,Int.reduceToNat,Int.reduceToNat,n32]
 exact .tree _ rfl
theorem Mul_s (n:Nat) (h8:n<=64):Ctr Try.prog 80 [vw 1,vw n] (.tup [vw 0,vw n]):=by
 refine specE f80 (by simp) fun F0 w0=>?_
 simp only [c80,go_sem,↓reduceIte,reduceCtorEq,Nat.reduceLT,Nat.reduceEqDiff]
 refine callT (Mul64_s n h8) rfl ?_
 simp only [go_sem]
 exact .tree _ rfl
abbrev fillR (v:Int) (k n:Nat):List AV:=List.replicate k (vi v)++List.replicate (n-k) (vi 0)
theorem Repeat_s (v:Int) (n:Nat) (h1:1<=n) (h8:n<=64):CtrN Try.prog 66 [.list 1 [vi v],vi n] (.own 0 n 0 n) [.arr n 1 3 (List.replicate n (vi v))]:=by
 refine specN f66 (by simp) rfl (by simp [AObj.innO,AV.inn,AV.inn1]) rfl fun F0 w0=>?_
 have n0:((n:Int)<0)=False:=eq_false (by omega)
 have u1:IntKind.u64.wrap ((1:Nat):Int)=1:=rfl
 have u2:IntKind.u64.wrap (n:Int)=(n:Int):=by rw [IntKind.wrap_u64];omega
 have u3:IntKind.i64.wrap (n:Int)=(n:Int):=wrap_id (by omega) (by omega)
 have u4:((9223372036854775807:Int)<(n:Int))=False:=eq_false (by omega)
 have q0:(0:Int)<=(n:Int):=by omega
 have q2:((8:Nat):Int)*(n:Int)<=281474976710656:=by omega
 have q3:(n:Int)<=9223372036854775807:=by omega
 have m1:min 1 n=1:=by omega
 unfold c66
 refine CwpE.cut (st:=⟨[(0,.list 1 [vi v]),(1,vi n)],[]⟩) ?_ ?_
 ·simp only [go_sem]
  exact ⟨_,WkE.kp,rfl⟩
 refine CwpE.cut (st:=⟨[(0,.list 1 [vi v]),(1,vi n)],[]⟩) ?_ ?_
 ·simp only [go_sem,n0]
  exact ⟨_,WkE.kp,rfl⟩
 refine CwpE.cut (st:=⟨[(0,.list 1 [vi v]),(1,vi n),(5,vw 0),(6,vw n)],[]⟩) ?_ ?_
 ·simp only [go_sem,u1,u2]
  refine callT (Mul_s n h8) rfl ?_
  simp only [go_sem]
  exact ⟨_,WkE.kp,rfl⟩
 refine CwpE.cut (st:=⟨[(0,.list 1 [vi v]),(1,vi n),(6,vw n)],[]⟩) ?_ ?_
 ·simp only [go_sem,Int.lt_irrefl,u4]
  exact ⟨_,WkE.kp,rfl⟩
 refine CwpE.cut (st:=⟨[(0,.list 1 [vi v]),(7,.own 0 n 0 n)],[.arr n 1 3 (List.replicate n (vi 0))]⟩) ?_ ?_
 ·simp only [go_sem,u3,q0,q2,q3,Int.le_refl,Int.toNat_natCast]
  exact ⟨_,WkE.kp,rfl⟩
 have z1:n<=(List.replicate n (vi 0)).length:=by simp
 refine CwpE.cut (st:=⟨[(7,.own 0 n 0 n),(8,vi (1:Nat))],[.arr n 1 3 (fillR v 1 n)]⟩) ?_ ?_
 ·simp only [go_sem,z1,m1]
  have e:vi v::List.drop 1 (List.replicate n (vi 0))=fillR v 1 n:=by simp [fillR]
  rw [e]
  exact ⟨_,WkE.kp,rfl⟩
 refine CwpE.step (fun st=>st=⟨[(7,.own 0 n 0 n)],[.arr n 1 3 (fillR v n n)]⟩) ?_ ?_
 rotate_left
 ·rintro st rfl
  refine CwpE.vc ?_
  have e:fillR v n n=List.replicate n (vi v):=by simp [fillR]
  rw [e]
  simp only [go_sem]
  exact ⟨_,rfl,.refl _ _⟩
 simp only [go_sem]
 refine loopX 0 (fun m st=>∃ k:Nat,m=n-k/\1<=k/\k<=n/\st=⟨[(7,.own 0 n 0 n),(8,vi k)],[.arr n 1 3 (fillR v k n)]⟩)
  (fun st=>st=⟨[(7,.own 0 n 0 n)],[.arr n 1 3 (fillR v n n)]⟩) (n-1) _ (.refl _ _) ⟨1,rfl,Nat.le_refl _,h1,rfl⟩ ?_ ?_
 rotate_left
 ·rintro st rfl
  simp only [go_sem]
  exact ⟨_,.refl _ _,rfl⟩
 rintro m st ⟨k,rfl,hk1,hk,rfl⟩
 by_cases hlt:k<n
 rotate_left
 ·have g1:¬ (k:Int)<(n:Int):=by omega
  obtain rfl:k=n:=by omega
  simp only [go_sem,g1]
  exact ⟨_,WkE.kp,rfl⟩
 have g1:(k:Int)<(n:Int):=by omega
 have g2:(0:Int)<=(k:Int):=by omega
 have g3:(k:Int)<=(n:Int):=by omega
 have g4:k<=n:=by omega
 have hl:(fillR v k n).length=n:=by simp [fillR];omega
 obtain ⟨c,hc⟩:∃ c,min k (n-k)=c:=⟨_,rfl⟩
 have hc1:c<=k/\c<=n-k/\1<=c:=by omega
 have w1:IntKind.i64.wrap ((k:Int)+(c:Int))=((k+c:Nat):Int):=by rw [wrap_id (by omega) (by omega)];omega
 have e3:List.take k (fillR v k n)++List.take c (List.take k (fillR v k n))++List.drop (k+c) (fillR v k n)=fillR v (k+c) n:=by
  have t1:List.take k (fillR v k n)=List.replicate k (vi v):=by
   rw [fillR,List.take_append_of_le_length (by simp),List.take_of_length_le (by simp)]
  have t2:List.drop (k+c) (fillR v k n)=List.replicate (n-(k+c)) (vi 0):=by
   rw [fillR,List.drop_append,List.drop_eq_nil_of_le (by simp),List.nil_append]
   simp;omega
  have t3:List.take c (List.replicate k (vi v))=List.replicate c (vi v):=by
   rw [List.take_replicate,Nat.min_eq_left hc1.1]
  rw [t1,t2,t3,fillR,List.replicate_append_replicate]
 generalize fillR v k n=l at *
 have hle:k+(n-k)<=l.length:=by omega
 have hle2:k<=l.length:=by omega
 have hlt2:(List.take k l).length=k:=by simp;omega
 simp only [go_sem,g1,g2,g3,hle,hle2,hlt2,hc,w1,Nat.sub_zero,e3,Int.toNat_natCast]
 exact ⟨n-(k+c),⟨[(7,.own 0 n 0 n),(8,vi (k+c:Nat))],[.arr n 1 3 (fillR v (k+c) n)]⟩,by omega,WkE.kp,k+c,rfl,by omega,by omega,rfl⟩
abbrev oX (a:Au):AObj:=.arr 1 3 34 [vau a]
abbrev objsW (a:Au) (n y:Nat) (M:List AV) (R:List AObj):List AObj:=[oX a,.arr 1 3 97 [nil3],.arr n 1 22 M,.arr 1 3 97 [.agg [vi y,vbools a.acc,.own 2 n 0 n]]]++R
theorem objsW_drop {a:Au} {n y m:Nat} {M:List AV} {T:List (List Int)} {o:AObj} {env env':List (Nat × AV)} (h:T.length=n) (hM:(M.all (AV.inn (n+4)))=true) (hA:Agree env env') (he:∀ k,(env'.all fun p=>p.2.inn (k+4))=true) :
 WkE m ⟨env,objsW a n y M (T.map (orow y)++[o])⟩ ⟨env',objsW a n y M (T.map (orow y))⟩:=by
 have hl:(objsW a n y M (T.map (orow y))).length=n+4:=by rw [objsW,List.length_append,List.length_map,h];simp;omega
 refine WkE.round hA (by rw [hl];exact he n) ?_ ?_
 ·rw [hl,objsW,List.all_append,Bool.and_eq_true]
  refine ⟨by simp [AObj.innO,AV.inn,AV.inn1,hM],List.all_eq_true.2 fun o ho=>?_⟩
  obtain ⟨r,_,rfl⟩:=List.mem_map.1 ho
  exact inn_map fun _=>rfl
 ·rw [hl,objsW,objsW,<-List.append_assoc]
  exact List.take_left' (by rw [List.length_append,List.length_map,h];simp;omega)
def newsG (n y:Nat) (T:List (List Int)):List AObj:=[.arr n 1 22 (rg n fun q=>.own (q+1) y 0 y)]++T.map (orow y)
theorem newsG_len {n y:Nat} {T:List (List Int)} (h:T.length=n):(newsG n y T).length=n+1:=by rw [newsG,List.length_append,List.length_map,h];simp;omega
theorem newsG_plain (n y:Nat) (T:List (List Int)):((newsG n y T).all AObj.plain)=true:=by
 rw [newsG,List.all_append,Bool.and_eq_true]
 refine ⟨rfl,List.all_eq_true.2 fun o ho=>?_⟩
 obtain ⟨r,_,rfl⟩:=List.mem_map.1 ho
 rfl
theorem newsG_inn {n y:Nat} {T:List (List Int)} (h:T.length=n):((newsG n y T).all fun o=>o.innO (newsG n y T).length)=true:=by
 rw [newsG_len h,newsG,List.all_append,Bool.and_eq_true]
 refine ⟨Bool.and_eq_true_iff.2 ⟨?_,rfl⟩,List.all_eq_true.2 fun o ho=>?_⟩
 ·exact rg_all fun q hq=>by simp [AV.inn,AV.inn1];omega
 ·obtain ⟨r,_,rfl⟩:=List.mem_map.1 ho
  exact inn_map fun _=>rfl
theorem newsG_row {n y:Nat} {T:List (List Int)} {q:Nat} (h:T.length=n) (hq:q<n):(newsG n y T)[q+1]? = some (orow y (T[q]'(by omega))):=by
 rw [newsG]
 simp only [List.cons_append,List.nil_append,List.getElem?_cons_succ,List.getElem?_map]
 rw [List.getElem?_eq_getElem (by omega)];rfl
theorem newsG_arr {n y:Nat} {T:List (List Int)} (h:T.length=n) {i:Nat} (hi:i<n+1):isArr (newsG n y T) i=true:=by
 unfold isArr
 cases i with
 | zero=>rfl
 | succ q=>rw [newsG_row h (by omega)]
theorem newsG_ren {n y:Nat} {T:List (List Int)} {o0 o1 o3:AObj} (h:T.length=n):Ren (fun k=>if k=0 then 2 else k+3) (newsG n y T) ([o0,o1,.arr n 1 22 (rg n fun q=>.own (q+4) y 0 y),o3]++T.map (orow y)):=by
 refine ⟨fun i j hi hj e=>?_,fun i g' s e xs hh=>?_⟩
 ·have e:(if i=0 then 2 else i+3)=(if j=0 then 2 else j+3):=e
  split at e <;> split at e <;> omega
 ·have hi:=(List.getElem?_eq_some_iff.1 hh).1
  rw [newsG_len h] at hi
  cases i with
  | zero =>
   simp only [newsG,List.cons_append,List.nil_append,List.getElem?_cons_zero,Option.some.injEq,AObj.arr.injEq] at hh
   obtain ⟨rfl,rfl,rfl,rfl⟩:=hh
   show some _=some _
   congr 2
   rw [rg,rg,List.map_map]
   exact List.map_congr_left fun q _=>rfl
  | succ q =>
   rw [newsG_row h (by omega),Option.some.injEq,orow,AObj.arr.injEq] at hh
   obtain ⟨rfl,rfl,rfl,rfl⟩:=hh
   show (T.map (orow y))[q]? = _
   rw [List.getElem?_map,List.getElem?_eq_getElem (by omega)]
   show some (AObj.arr y 1 3 (T[q].map vi))=some (AObj.arr y 1 3 ((T[q].map vi).map (AV.ren fun k=>if k=0 then 2 else k+3)))
   rw [List.map_map]
   rfl
theorem newsG_inR {n y:Nat} {T:List (List Int)} (h:T.length=n):((newsG n y T).all fun o=>o.inRO (newsG n y T))=true:=by
 refine List.all_eq_true.2 fun o ho=>?_
 obtain ⟨i,hi,rfl⟩:=List.getElem_of_mem ho
 have hi2:=hi
 rw [newsG_len h] at hi2
 cases i with
 | zero =>
  show ((rg n fun q=>AV.own (q+1) y 0 y).all (AV.inR (newsG n y T)))=true
  exact rg_all fun q hq=>newsG_arr h (by omega)
 | succ q =>
  have:=newsG_row (y:=y) h (q:=q) (by omega)
  rw [List.getElem?_eq_getElem hi,Option.some.injEq] at this
  rw [this]
  show ((T[q].map vi).all (AV.inR (newsG n y T)))=true
  rw [List.all_map]
  exact all_tt _
set_option maxHeartbeats 4000000 in
theorem fixedg_n (a:Au) (hv:VA a) (hne:∀ e ∈ a.ed,0<=e.2.1):CtrN Try.prog 65 [vau a] (.agg [vi a.sy,vbools a.acc,.own 0 a.acc.length 0 a.acc.length]) (newsG a.acc.length a.sy.toNat (tabM a)):=by
 obtain ⟨⟨hsy1,hsy2⟩,⟨hn1,hn2⟩,hm,hed0⟩:=id hv
 obtain ⟨n,hn⟩:∃ n,a.acc.length=n:=⟨_,rfl⟩
 obtain ⟨y,hy⟩:∃ y:Nat,a.sy=(y:Int):=⟨a.sy.toNat,by omega⟩
 have hyT:a.sy.toNat=y:=by omega
 have htab:tabM a=tabGo (tab0 n y) a.ed:=by rw [tabM,hn,hyT]
 have hed:∀ e ∈ a.ed,(0<=e.1/\e.1<n)/\(0<=e.2.1/\e.2.1<y):=fun e he=>by have:=hed0 e he;have:=hne e he;omega
 have htok:TabOk (tabM a) n y:=by rw [htab];exact tabGo_ok (tab0_ok n y) fun e he=>by have:=hed e he;omega
 rw [hn,hyT,hy]
 refine specN f65 (by simp) (newsG_plain _ _ _) (newsG_inn htok.len) (by rw [newsG_len htok.len];simp [AV.inn,AV.inn1]) fun F0 w0=>?_
 rw [htab]
 unfold c65
 refine CwpE.cut (st:=⟨[(1,.ref 0 1 0 0),(2,.ref 1 1 0 0)],[oX a,.arr 1 3 97 [nil3]]⟩) ?_ ?_
 ·simp only [go_sem]
  exact ⟨_,WkE.kp,rfl⟩
 have q0:(0:Int)<=(n:Int):=by omega
 have q2:((24:Nat):Int)*(n:Int)<=281474976710656:=by omega
 have q3:(n:Int)<=9223372036854775807:=by omega
 have hrep:=Repeat_s (-1) y (by omega) (by omega)
 obtain ⟨Mk,hMk⟩:∃ Mk:Nat->List AV,Mk=fun k=>rg n fun q=>if q<k then .own (q+4) y 0 y else nilV:=⟨_,rfl⟩
 obtain ⟨Rk,hRk⟩:∃ Rk:Nat->List AObj,Rk=fun k=>rg k fun _=>orow y (List.replicate y (-1)):=⟨_,rfl⟩
 have hM0:(rg n fun _=>nilV)=Mk 0:=by rw [hMk];exact rg_congr fun q _=>by rw [if_neg (by omega)]
 have hR0:([]:List AObj)=Rk 0:=by rw [hRk];rfl
 have hMkl:∀ k,(Mk k).length=n:=fun k=>by rw [hMk];exact rg_len _ _
 refine CwpE.cut (st:=⟨[(1,.ref 0 1 0 0),(2,.ref 1 1 0 0),(3,.ref 3 1 0 0)],objsW a n y (Mk 0) (Rk 0)⟩) ?_ ?_
 ·rw [<-hM0,<-hR0]
  simp only [go_sem,List.length_map,hn,hy,q0,q2,q3,Int.le_refl,Int.toNat_natCast,rg_rep]
  exact ⟨_,WkE.kp,rfl⟩
 refine CwpE.step (fun z=>z=⟨[(1,.ref 0 1 0 0),(2,.ref 1 1 0 0),(3,.ref 3 1 0 0)],objsW a n y (Mk n) (Rk n)⟩) ?_ ?_
 ·simp only [go_sem]
  refine loopX 0 (fun m z=>∃ i:Nat,m=n-i/\i<=n/\z=⟨[(1,.ref 0 1 0 0),(2,.ref 1 1 0 0),(3,.ref 3 1 0 0),(18,vi n),(19,vi i)],objsW a n y (Mk i) (Rk i)⟩)
   (fun z=>z=⟨[(1,.ref 0 1 0 0),(2,.ref 1 1 0 0),(3,.ref 3 1 0 0)],objsW a n y (Mk n) (Rk n)⟩) n
   ⟨[(1,.ref 0 1 0 0),(2,.ref 1 1 0 0),(3,.ref 3 1 0 0),(18,vi n),(19,vi (0:Nat))],objsW a n y (Mk 0) (Rk 0)⟩ (WkE.kp) ⟨0,by omega,by omega,rfl⟩ ?_ ?_
  rotate_left
  ·rintro z rfl
   simp only [go_sem]
   exact ⟨_,.refl _ _,rfl⟩
  rintro m z ⟨i,rfl,hi,rfl⟩
  by_cases hlt:i<n
  rotate_left
  ·obtain rfl:i=n:=by omega
   simp only [go_sem,Int.lt_irrefl]
   exact ⟨_,WkE.kp,rfl⟩
  have g1:(i:Int)<(n:Int):=by omega
  have g0:(0:Int)<=(i:Int):=by omega
  have wi:=wrap_s i (by omega)
  have hMg:(Mk i)[i]? = some nilV:=by rw [hMk];simp only;rw [rg_get hlt,if_neg (by omega)]
  have hMn:(Mk i).set i (.own (i+4) y 0 y)=Mk (i+1):=by
   rw [hMk]
   simp only
   rw [rg_set]
   refine rg_congr fun p _=>?_
   by_cases h:p=i
   ·rw [if_pos h,if_pos (by omega),h]
   ·rw [if_neg h]
    by_cases h2:p<i
    ·rw [if_pos h2,if_pos (by omega)]
    ·rw [if_neg h2,if_neg (by omega)]
  have hRn:Rk i++[orow y (List.replicate y (-1))]=Rk (i+1):=by
   rw [hRk]
   simp only
   rw [rg_succ]
  have hRl:(Rk i).length=i:=by rw [hRk];exact rg_len _ _
  obtain ⟨M1,hM1⟩:∃ M1,Mk (i+1)=M1:=⟨_,rfl⟩
  have hR1i:(Rk (i+1))[i]? = some (.arr y 1 3 ((List.replicate y (-1:Int)).map vi)):=by rw [hRk];simp only;rw [rg_get (by omega)]
  obtain ⟨R1,hR1⟩:∃ R1,Rk (i+1)=R1:=⟨_,rfl⟩
  rw [hR1] at hR1i
  rw [hM1] at hMn
  rw [hR1] at hRn
  generalize Mk i=M at hMg hMn ⊢
  generalize Rk i=R at hRn hRl ⊢
  have hsh:(List.replicate y (vi (-1))).map (AV.shift (i+4))=(List.replicate y (-1:Int)).map vi:=by rw [List.map_replicate,List.map_replicate];rfl
  simp only [go_sem,g1,hy]
  refine callNew (cap:=[]) (args:=[.list 1 [vi (-1)],vi y]) hrep (.cons (.tree _ rfl) (.cons (.tree _ rfl) .nil)) ?_
  simp only [go_sem,AV.shift,AV.shift1,AObj.shiftO,Nat.zero_add,hRl,hsh,g1,g0,hMg,hMn,hRn,hR1i,wi,Int.toNat_natCast,beq_self_eq_true]
  exact ⟨n-(i+1),⟨[(1,.ref 0 1 0 0),(2,.ref 1 1 0 0),(3,.ref 3 1 0 0),(18,vi n),(19,vi (i+1:Nat))],objsW a n y M1 R1⟩,by omega,WkE.kp,i+1,rfl,by omega,by rw [hM1,hR1];rfl⟩
 rintro _ rfl
 obtain ⟨Mf,hMf⟩:∃ Mf,(rg n fun q=>AV.own (q+4) y 0 y)=Mf:=⟨_,rfl⟩
 have hMe:Mk n=Mf:=by rw [hMk,<-hMf];exact rg_congr fun q hq=>by rw [if_pos hq]
 have hMq:∀ q,q<n->Mf[q]? = some (.own (q+4) y 0 y):=fun q hq=>by rw [<-hMf,rg_get hq]
 have hMl:Mf.length=n:=by rw [<-hMf,rg_len]
 obtain ⟨T,hT⟩:∃ T:Nat->List (List Int),T=fun k=>tabGo (tab0 n y) (a.ed.take k):=⟨_,rfl⟩
 have hTok:∀ k,TabOk (T k) n y:=fun k=>by
  rw [hT]
  exact tabGo_ok (tab0_ok n y) fun e he=>by have:=hed e (List.mem_of_mem_take he);omega
 have hRe:Rk n=(T 0).map (orow y):=by
  rw [hRk,hT]
  simp only [List.take_zero,tabGo,tab0,List.map_replicate]
  exact (rg_rep n _).symm
 rw [hMe,hRe]
 have hTn:∀ k (hk:k<a.ed.length),T (k+1)=setT (T k) a.ed[k].1.toNat a.ed[k].2.1.toNat a.ed[k].2.2:=fun k hk=>by
  rw [hT]
  simp only
  rw [List.take_succ_eq_append_getElem hk]
  have:∀ (l:List Edg) (t:List (List Int)) (e:Edg),tabGo t (l++[e])=setT (tabGo t l) e.1.toNat e.2.1.toNat e.2.2:=by
   intro l
   induction l with
   | nil=>intro t e;rfl
   | cons x l ih=>intro t e;exact ih _ _
  exact this _ _ _
 refine CwpE.step (fun z=>z=⟨[(2,.ref 1 1 0 0),(3,.ref 3 1 0 0)],objsW a n y Mf ((T a.ed.length).map (orow y))⟩) ?_ ?_
 ·simp only [go_sem,List.length_map]
  refine loopX 2 (fun m z=>∃ k:Nat,m=a.ed.length-k/\k<=a.ed.length/\z=⟨[(1,.ref 0 1 0 0),(2,.ref 1 1 0 0),(3,.ref 3 1 0 0),(32,vedges a.ed),(33,vi a.ed.length),(34,vi k)],objsW a n y Mf ((T k).map (orow y))⟩)
   (fun z=>z=⟨[(2,.ref 1 1 0 0),(3,.ref 3 1 0 0)],objsW a n y Mf ((T a.ed.length).map (orow y))⟩) a.ed.length
   ⟨[(1,.ref 0 1 0 0),(2,.ref 1 1 0 0),(3,.ref 3 1 0 0),(32,vedges a.ed),(33,vi a.ed.length),(34,vi (0:Nat))],objsW a n y Mf ((T 0).map (orow y))⟩ (WkE.kp) ⟨0,by omega,by omega,rfl⟩ ?_ ?_
  rotate_left
  ·rintro z rfl
   simp only [go_sem]
   exact ⟨_,.refl _ _,rfl⟩
  rintro m z ⟨k,rfl,hk,rfl⟩
  by_cases hlt:k<a.ed.length
  rotate_left
  ·obtain rfl:k=a.ed.length:=by omega
   simp only [go_sem,Int.lt_irrefl]
   exact ⟨_,WkE.kp,rfl⟩
  have g1:(k:Int)<(a.ed.length:Int):=by omega
  have g0:(0:Int)<=(k:Int):=by omega
  have w1:=wrap_s k (by omega)
  have hee:=hed _ (List.getElem_mem hlt)
  have heg:=edge_get hlt
  have htn:=hTn k hlt
  generalize a.ed[k]=e at hee heg htn
  obtain ⟨e1,e2,e3⟩:=e
  simp only at hee htn
  obtain ⟨p,rfl⟩:∃ p:Nat,e1=(p:Int):=⟨e1.toNat,by omega⟩
  obtain ⟨x,rfl⟩:∃ x:Nat,e2=(x:Int):=⟨e2.toNat,by omega⟩
  simp only [Int.toNat_natCast] at htn
  have hpn:p<n:=by omega
  have hxy:x<y:=by omega
  have p0:(0:Int)<=(p:Int):=by omega
  have p1:(p:Int)<(n:Int):=by omega
  have x0:(0:Int)<=(x:Int):=by omega
  have x1:(x:Int)<(y:Int):=by omega
  have hok:=hTok k
  obtain ⟨t1,ht1⟩:∃ t1,T (k+1)=t1:=⟨_,rfl⟩
  rw [ht1] at htn
  generalize T k=t at htn hok ⊢
  have hrow:t[p]? = some (t.getD p []):=by
   rw [List.getD_eq_getElem?_getD,List.getElem?_eq_getElem (by rw [hok.len];exact hpn)];rfl
  have hrl:=hok.getD hpn
  obtain ⟨row,hrw⟩:∃ row,t.getD p []=row:=⟨_,rfl⟩
  rw [hrw] at hrow hrl
  have htn':t1=t.set p (row.set x e3):=by rw [htn,setT,hrw]
  have hRp:(t.map (orow y))[p]? = some (orow y row):=by rw [List.getElem?_map,hrow];rfl
  have hrx:∃ v,(row.map vi)[x]? = some (vi v):=⟨_,int_get (by omega)⟩
  obtain ⟨v,hrx⟩:=hrx
  have hRs:(t.map (orow y)).set p (.arr y 1 3 ((row.map vi).set x (vi e3)))=t1.map (orow y):=by
   rw [htn',List.map_set,orow,List.map_set]
  have htl:=hok.len
  have hA0:∀ o:AObj,(t.map (orow y)++[o])[n]? = some o:=fun o=>by rw [List.getElem?_append_right (by rw [List.length_map];omega),List.length_map,htl,Nat.sub_self];rfl
  have hA1:∀ o:AObj,(t.map (orow y)++[o])[p]? = some (orow y row):=fun o=>by rw [List.getElem?_append_left (by rw [List.length_map];omega),hRp]
  have hA2:∀ o x:AObj,(t.map (orow y)++[o]).set n x=t.map (orow y)++[x]:=fun o x=>by rw [List.set_append_right _ _ (by rw [List.length_map];omega),List.length_map,htl,Nat.sub_self];rfl
  have hA3:∀ o:AObj,(t.map (orow y)++[o]).set p (.arr y 1 3 ((row.map vi).set x (vi e3)))=t1.map (orow y)++[o]:=fun o=>by rw [List.set_append_left _ _ (by rw [List.length_map];omega),hRs]
  simp only [go_sem,g1,g0,heg,htl,hA0,hA2,hMq p hpn,hA1,hrx,hA3,p0,p1,x0,x1,w1,List.length_map,Int.toNat_natCast]
  refine ⟨a.ed.length-(k+1),⟨[(1,.ref 0 1 0 0),(2,.ref 1 1 0 0),(3,.ref 3 1 0 0),(32,vedges a.ed),(33,vi a.ed.length),(34,vi (k+1:Nat))],objsW a n y Mf (t1.map (orow y))⟩,by omega,?_,k+1,rfl,by omega,by rw [ht1];rfl⟩
  have ht1l:t1.length=n:=by rw [htn',List.length_set,htl]
  exact objsW_drop ht1l (by rw [<-hMf];exact rg_all fun q hq=>by simp [AV.inn,AV.inn1];omega) (by simp only [go_sem];try rfl) (fun m=>rfl)
 rintro _ rfl
 have hfin:T a.ed.length=tabGo (tab0 n y) a.ed:=by rw [hT];simp only;rw [List.take_length]
 have hok:=hTok a.ed.length
 rw [<-hfin]
 generalize T a.ed.length=t at hok ⊢
 refine CwpE.vc ?_
 simp only [go_sem]
 refine ⟨_,rfl,WkE.rename (fun k=>if k=0 then 2 else k+3) ?_ (newsG_inR hok.len) ⟨rfl,?_,trivial⟩⟩
 ·rw [<-hMf]
  exact newsG_ren hok.len
 ·show ((AV.inR1 (newsG n y t) (vi y)) && ((AV.inR1 (newsG n y t) (vbools a.acc)) && (isArr (newsG n y t) 0 && true)))=true
  rw [newsG_arr hok.len (by omega)];rfl
theorem fixed_ok {a:Au} (h:(fixedM a).2=0):VA (fixedM a).1/\(∀ e ∈ (fixedM a).1.ed,0<=e.2.1)/\(fixedM a).1.sy=a.sy/\fixedM a=((fixedM a).1,0):=by
 obtain ⟨hv,g,d,h1,h2,h3,h4,h5,_⟩:=fixed_norm h
 have h6:(fixedM (auOf g))=(auOf g,0):=fixed_again h4
 have hva:VA (auOf g):=by
  have:(fixedM (auOf g)).2=0:=by rw [h6]
  exact (fixed_norm this).1
 rw [h3]
 refine ⟨hva,fun e he=>?_,?_,rfl⟩
 ·obtain ⟨i,x,_,_,_,rfl⟩:=(mem_auOf h4.ok).1 he
  simp only;omega
 ·show (g.sy:Int)=a.sy
  have:=hv.sy
  omega
theorem grN_snap {objs:List AObj} {k n y:Nat} {s:Int} (hs:(y:Int)=s) {A:List Bool} {T:List (List Int)} (h:T.length=n) (hk:objs[k]? = some (.arr n 1 22 (rg n fun q=>.own (q+1+k) y 0 y))) (hr:∀ q (hq:q<n),objs[q+1+k]? = some (orow y (T[q]'(by omega)))) (hrl:∀ r ∈ T,r.length=y) :
 Snap objs (.agg [vi s,vbools A,.own k n 0 n]) (vgr ⟨y,A,T⟩):=by
 subst hs
 refine .agg _ _ rfl fun i h1 h2=>?_
 match i,h1,h2 with
 | 0,_,_=>exact .tree _ rfl
 | 1,_,_=>exact .tree _ rfl
 | 2,_,_ =>
  refine .own k n 0 n 1 22 _ _ hk (by rw [rg_len];omega) (by simp [h]) fun q hq=>?_
  replace hq:q<T.length:=by simpa using hq
  have e1:(rg n fun q=>AV.own (q+1+k) y 0 y)[0+q]'(by rw [rg_len];omega) = .own (q+1+k) y 0 y:=by
   have:=rg_get (n:=n) (q:=q) (by omega) (fun q=>AV.own (q+1+k) y 0 y)
   rw [List.getElem?_eq_getElem (by rw [rg_len];omega)] at this
   simp only [Nat.zero_add]
   exact Option.some.inj this
  rw [e1,List.getElem_map]
  have hT:=hrl _ (List.getElem_mem hq)
  refine .own (q+1+k) y 0 y 1 3 _ _ (hr q (by omega)) (by simp [hT]) (by simp [hT]) fun j hj=>?_
  simp only [Nat.zero_add]
  exact .tree _ (List.all_eq_true.1 (isT_map (fun _=>rfl) _) _ (List.getElem_mem _))
theorem newsG_shift (n y L:Nat) (T:List (List Int)):(newsG n y T).map (AObj.shiftO L) = .arr n 1 22 (rg n fun q=>.own (q+1+L) y 0 y)::T.map (orow y):=by
 rw [newsG,List.map_append,List.map_map]
 show AObj.arr n 1 22 _::_=_
 congr 1
 ·congr 1
  rw [rg,rg,List.map_map]
  exact List.map_congr_left fun q _=>rfl
 ·refine List.map_congr_left fun r _=>?_
  show AObj.arr y 1 3 _=AObj.arr y 1 3 _
  rw [List.map_map]
  rfl
theorem tabM_ok {a:Au} (hv:VA a) (hne:∀ e ∈ a.ed,0<=e.2.1):TabOk (tabM a) a.acc.length a.sy.toNat :=
 tabGo_ok (tab0_ok _ _) fun e he=>by have:=(hv.ed e he).1;omega
set_option maxHeartbeats 4000000 in
theorem two_s (a b:Au) (ha:SzA a) (hb:SzA b):Ctr Try.prog 55 [vau a,vau b] (.tup [vgr (twoM a b).2.1,vgr (twoM a b).2.2,vi (twoM a b).1]):=by
 refine specC f55 (by simp) fun F0 w0=>?_
 have hva:=Valid_s a ha
 have hvb:=Valid_s b hb
 have hfa:=Fixed_s a ha
 have hfb:=Fixed_s b hb
 unfold c55
 refine CwpE.cut (st:=⟨[(2,.ref 0 1 0 0),(3,.ref 1 1 0 0),(4,.ref 2 1 0 0),(5,.ref 3 1 0 0),(6,vi 0)],[oX a,oX b,.arr 1 3 97 [nil3],.arr 1 3 97 [nil3]]⟩) ?_ ?_
 ·simp only [go_sem]
  exact ⟨_,WkE.kp,rfl⟩
 have bad:∀ {e:Int} {t:Int × Gr × Gr},t=(e,nilG,nilG)->∀ objs,Snap objs (.tup [nil3,nil3,vi e]) (.tup [vgr t.2.1,vgr t.2.2,vi t.1]):=by
  rintro e t rfl objs
  refine .tup _ _ rfl fun i h1 h2=>?_
  match i,h1,h2 with
  | 0,_,_=>exact nilG_snap
  | 1,_,_=>exact nilG_snap
  | 2,_,_=>exact .tree _ rfl
 refine CwpE.step (fun z=>validM a=0/\validM b=0/\z=⟨[(2,.ref 0 1 0 0),(3,.ref 1 1 0 0),(4,.ref 2 1 0 0),(5,.ref 3 1 0 0),(6,vi 0)],[oX a,oX b,.arr 1 3 97 [nil3],.arr 1 3 97 [nil3]]⟩) ?_ ?_
 ·simp only [go_sem]
  refine loopX 0 (fun m z=>∃ k:Nat,m=2-k/\k<=2/\(1<=k->validM a=0)/\(2<=k->validM b=0)/\z=⟨[(2,.ref 0 1 0 0),(3,.ref 1 1 0 0),(4,.ref 2 1 0 0),(5,.ref 3 1 0 0),(6,vi 0),(14,.list 3 [vau a,vau b]),(15,vi (2:Nat)),(16,vi k)],[oX a,oX b,.arr 1 3 97 [nil3],.arr 1 3 97 [nil3]]⟩)
   (fun z=>validM a=0/\validM b=0/\z=⟨[(2,.ref 0 1 0 0),(3,.ref 1 1 0 0),(4,.ref 2 1 0 0),(5,.ref 3 1 0 0),(6,vi 0)],[oX a,oX b,.arr 1 3 97 [nil3],.arr 1 3 97 [nil3]]⟩) 2
   ⟨[(2,.ref 0 1 0 0),(3,.ref 1 1 0 0),(4,.ref 2 1 0 0),(5,.ref 3 1 0 0),(6,vi 0),(14,.list 3 [vau a,vau b]),(15,vi (2:Nat)),(16,vi (0:Nat))],[oX a,oX b,.arr 1 3 97 [nil3],.arr 1 3 97 [nil3]]⟩ (WkE.kp) ⟨0,by omega,by omega,by omega,by omega,rfl⟩ ?_ ?_
  rotate_left
  ·rintro z ⟨h1,h2,rfl⟩
   simp only [go_sem]
   exact ⟨_,.refl _ _,h1,h2,rfl⟩
  rintro m z ⟨k,rfl,hk,h1,h2,rfl⟩
  have z0:((0:Nat):Int)=0:=rfl
  have z1:((1:Nat):Int)=1:=rfl
  have z2:((2:Nat):Int)=2:=rfl
  have hk3:k=0 \/ k=1 \/ k=2:=by omega
  rcases hk3 with rfl | rfl | rfl
  ·by_cases h0:validM a=0
   ·rw [h0] at hva
    simp only [go_sem,Int.reduceLT,Int.le_refl,z0,z2]
    refine callT hva rfl ?_
    simp only [go_sem]
    refine ⟨1,⟨[(2,.ref 0 1 0 0),(3,.ref 1 1 0 0),(4,.ref 2 1 0 0),(5,.ref 3 1 0 0),(6,vi 0),(14,.list 3 [vau a,vau b]),(15,vi (2:Nat)),(16,vi (1:Nat))],[oX a,oX b,.arr 1 3 97 [nil3],.arr 1 3 97 [nil3]]⟩,by omega,WkE.round (by simp only [go_sem,z1,z2];rfl) rfl rfl rfl,1,rfl,by omega,fun _=>h0,by omega,rfl⟩
   ·simp only [go_sem,Int.reduceLT,Int.le_refl,z0,z2]
    refine callT hva rfl ?_
    simp only [go_sem,h0]
    exact bad (by rw [twoM];rw [if_neg h0]) _
  ·have h0:=h1 (by omega)
   by_cases h3:validM b=0
   ·rw [h3] at hvb
    simp only [go_sem,Int.reduceLT,Int.reduceLE,z1,z2]
    refine callT hvb rfl ?_
    simp only [go_sem]
    refine ⟨0,⟨[(2,.ref 0 1 0 0),(3,.ref 1 1 0 0),(4,.ref 2 1 0 0),(5,.ref 3 1 0 0),(6,vi 0),(14,.list 3 [vau a,vau b]),(15,vi (2:Nat)),(16,vi (2:Nat))],[oX a,oX b,.arr 1 3 97 [nil3],.arr 1 3 97 [nil3]]⟩,by omega,WkE.round (by simp only [go_sem,z2];rfl) rfl rfl rfl,2,rfl,by omega,fun _=>h0,fun _=>h3,rfl⟩
   ·simp only [go_sem,Int.reduceLT,Int.reduceLE,z1,z2]
    refine callT hvb rfl ?_
    simp only [go_sem,h3]
    exact bad (by rw [twoM];rw [if_pos h0,if_neg h3]) _
  ·simp only [go_sem,Int.lt_irrefl,z2]
   exact ⟨_,WkE.kp,h1 (by omega),h2 (by omega),rfl⟩
 rintro _ ⟨h1,h2,rfl⟩
 have ht:twoM a b=if a.sy=b.sy then if (fixedM a).2=0 then if (fixedM b).2=0 then (0,tabG (fixedM a).1,tabG (fixedM b).1) else ((fixedM b).2,nilG,nilG) else ((fixedM a).2,nilG,nilG) else (13,nilG,nilG):=by rw [twoM];rw [if_pos h1,if_pos h2]
 by_cases hs:a.sy=b.sy
 rotate_left
 ·refine CwpE.vc ?_
  simp only [go_sem,hs]
  exact bad (by rw [ht,if_neg hs]) _
 rw [if_pos hs] at ht
 refine CwpE.cut (st:=⟨[(2,.ref 0 1 0 0),(3,.ref 1 1 0 0),(4,.ref 2 1 0 0),(5,.ref 3 1 0 0),(6,vi 0)],[oX a,oX b,.arr 1 3 97 [nil3],.arr 1 3 97 [nil3]]⟩) ?_ ?_
 ·simp only [go_sem,hs]
  exact ⟨_,WkE.kp,rfl⟩
 obtain ⟨c,e,hc⟩:∃ c e,fixedM a=(c,e):=⟨_,_,rfl⟩
 obtain ⟨d,e',hd⟩:∃ d e,fixedM b=(d,e):=⟨_,_,rfl⟩
 have hco:=fixed_ok (a:=a)
 have hdo:=fixed_ok (a:=b)
 rw [hc] at hfa ht hco
 rw [hd] at hfb ht hdo
 simp only at ht hco hdo
 refine CwpE.cut (st:=⟨[(2,.ref 0 1 0 0),(3,.ref 1 1 0 0),(4,.ref 2 1 0 0),(5,.ref 3 1 0 0),(6,vi e),(10,.ref 4 1 0 0)],[oX a,oX b,.arr 1 3 97 [nil3],.arr 1 3 97 [nil3],oX c]⟩) ?_ ?_
 ·simp only [go_sem]
  refine callT hfa rfl ?_
  simp only [go_sem]
  exact ⟨_,WkE.kp,rfl⟩
 by_cases he:e=0
 rotate_left
 ·refine CwpE.vc ?_
  simp only [go_sem,he]
  exact bad (by rw [ht,if_neg he]) _
 subst he
 rw [if_pos rfl] at ht
 refine CwpE.cut (st:=⟨[(2,.ref 0 1 0 0),(3,.ref 1 1 0 0),(4,.ref 2 1 0 0),(5,.ref 3 1 0 0),(10,.ref 4 1 0 0)],[oX a,oX b,.arr 1 3 97 [nil3],.arr 1 3 97 [nil3],oX c]⟩) ?_ ?_
 ·simp only [go_sem]
  exact ⟨_,WkE.kp,rfl⟩
 refine CwpE.cut (st:=⟨[(2,.ref 0 1 0 0),(3,.ref 1 1 0 0),(4,.ref 2 1 0 0),(5,.ref 3 1 0 0),(6,vi e'),(10,.ref 4 1 0 0),(11,.ref 5 1 0 0)],[oX a,oX b,.arr 1 3 97 [nil3],.arr 1 3 97 [nil3],oX c,oX d]⟩) ?_ ?_
 ·simp only [go_sem]
  refine callT hfb rfl ?_
  simp only [go_sem]
  exact ⟨_,WkE.kp,rfl⟩
 by_cases he:e'=0
 rotate_left
 ·refine CwpE.vc ?_
  simp only [go_sem,he]
  exact bad (by rw [ht,if_neg he]) _
 subst he
 rw [if_pos rfl] at ht
 refine CwpE.cut (st:=⟨[(2,.ref 0 1 0 0),(3,.ref 1 1 0 0),(4,.ref 2 1 0 0),(5,.ref 3 1 0 0),(10,.ref 4 1 0 0),(11,.ref 5 1 0 0)],[oX a,oX b,.arr 1 3 97 [nil3],.arr 1 3 97 [nil3],oX c,oX d]⟩) ?_ ?_
 ·simp only [go_sem]
  exact ⟨_,WkE.kp,rfl⟩
 obtain ⟨c1,c2,_,_⟩:=hco rfl
 obtain ⟨d1,d2,_,_⟩:=hdo rfl
 have k1:=fixedg_n c c1 c2
 have k2:=fixedg_n d d1 d2
 refine CwpE.vc ?_
 simp only [go_sem]
 refine callNew (cap:=[]) (args:=[vau c]) k1 (.cons (.tree _ rfl) .nil) ?_
 have tl1:(tabM c).length=c.acc.length:=(tabM_ok c1 c2).len
 have tl2:(tabM d).length=d.acc.length:=(tabM_ok d1 d2).len
 have tr1:=(tabM_ok c1 c2).row
 have tr2:=(tabM_ok d1 d2).row
 have y1:((c.sy.toNat:Nat):Int)=c.sy:=by have:=c1.sy;omega
 have y2:((d.sy.toNat:Nat):Int)=d.sy:=by have:=d1.sy;omega
 have hR1:((tabM c).map (orow c.sy.toNat)).length=c.acc.length:=by rw [List.length_map,tl1]
 have hR2:((tabM d).map (orow d.sy.toNat)).length=d.acc.length:=by rw [List.length_map,tl2]
 simp only [go_sem,AV.shift,AV.shift1,newsG_shift,Nat.zero_add]
 refine callNew (cap:=[]) (args:=[vau d]) k2 (.cons (.tree _ rfl) .nil) ?_
 simp only [go_sem,AV.shift,AV.shift1,newsG_shift,Nat.zero_add,tl1]
 rw [ht]
 refine .tup _ _ rfl fun i h1 h2=>?_
 match i,h1,h2 with
 | 0,_,_ =>
  refine grN_snap (k:=6) y1 tl1 rfl (fun q hq=>?_) tr1
  show ((tabM c).map (orow c.sy.toNat)++_)[q]? = _
  rw [List.getElem?_append_left (by rw [hR1];exact hq),List.getElem?_map,List.getElem?_eq_getElem (by omega)];rfl
 | 1,_,_ =>
  refine grN_snap (k:=c.acc.length+7) y2 tl2 ?_ (fun q hq=>?_) tr2
  ·show ((tabM c).map (orow c.sy.toNat)++_)[c.acc.length]? = _
   rw [List.getElem?_append_right (by rw [hR1];exact Nat.le_refl _),hR1,Nat.sub_self];rfl
  ·show ((tabM c).map (orow c.sy.toNat)++_)[q+1+c.acc.length]? = _
   rw [List.getElem?_append_right (by rw [hR1];omega),hR1,Nat.add_sub_cancel]
   show ((tabM d).map (orow d.sy.toNat))[q]? = _
   rw [List.getElem?_map,List.getElem?_eq_getElem (by omega)];rfl
 | 2,_,_=>exact .tree _ rfl
theorem w02:(0:Int)<((2:Nat):Int):=by omega
theorem w12:(1:Int)<((2:Nat):Int):=by omega
end Go.Proofs.Ytjilachpkjlhdaa
namespace P5
theorem freshB_iff {s z:List Bool}:freshB s z=true ↔ ∃ i,bt s i=true/\¬ bt z i=true:=by
 unfold freshB
 simp only [List.any_eq_true,List.mem_range,Bool.and_eq_true]
 constructor
 ·rintro ⟨i,_,h1,h2⟩
  exact ⟨i,h1,by simpa using h2⟩
 ·rintro ⟨i,h1,h2⟩
  exact ⟨i,bt_lt h1,h1,by simpa using h2⟩
theorem stepI_in {g:Gr} (h:GrOk g) (i:Int) (x:Nat) : -1<=stepI g i x/\stepI g i x<g.acc.length:=by
 unfold stepI
 have:=h.n
 split
 ·omega
 ·exact ⟨h.lo _ _,h.hi _ _⟩
structure InD (g h:Gr) (p:PI):Prop where
 a0 : -1<=p.1
 a1:p.1<g.acc.length
 b0 : -1<=p.2
 b1:p.2<h.acc.length
def allP (n m:Nat):List PI:=(List.range (n+1)).flatMap fun (i:Nat)=>(List.range (m+1)).map fun (j:Nat)=>((i:Int)-1,(j:Int)-1)
theorem allP_len (n m:Nat):(allP n m).length=(n+1)*(m+1):=by
 unfold allP
 generalize m+1=m'
 generalize n+1=k
 induction k with
 | zero=>simp
 | succ k ih=>rw [List.range_succ,List.flatMap_append,List.length_append,ih];simp [Nat.succ_mul]
theorem allP_mem {g h:Gr} {p:PI} (hp:InD g h p):p ∈ allP g.acc.length h.acc.length:=by
 obtain ⟨a0,a1,b0,b1⟩:=hp
 unfold allP
 simp only [List.mem_flatMap,List.mem_map,List.mem_range]
 refine ⟨(p.1+1).toNat,by omega,(p.2+1).toNat,by omega,?_⟩
 refine Prod.ext ?_ ?_
 ·show ((p.1+1).toNat:Int)-1=p.1
  omega
 ·show ((p.2+1).toNat:Int)-1=p.2
  omega
theorem lang_app {g:Gr}:∀ (u v:List Nat) (i:Nat),lang g (u++v) i=true->∃ j,lang g v j=true
 | [],v,i,h=>⟨i,h⟩
 | x::u,v,i,h=>by
  rw [List.cons_append,lang] at h
  split at h
  ·cases h
  ·exact lang_app u v _ h
theorem least_accepts {d:Gr} (h:GrOk d) (hn:d.acc.length<=257) (hc:(checkedM (leastR d)).2=0):checkedM (leastR d)=(auOf (leastR d),0)/\Norm (leastR d)/\(leastR d).sy=d.sy/\lng (leastR d) 0=lng d 0/\∀ w,acceptsM (checkedM (leastR d)).1 (wI w)=lang d w 0:=by
 obtain ⟨l1,l2,l3⟩:=leastR_lang h hn
 have hsy:(leastR d).sy=d.sy:=rfl
 rcases checked_cases (leastR d) with ⟨c1,c2⟩ | ⟨_,c2⟩
 ·refine ⟨c2,⟨l1,c1,?_⟩,hsy,l3,fun w=>?_⟩
  ·rw [l3,hsy];exact leastR_eq h hn
  ·rw [c2]
   simp only
   rw [accepts_norm l1 c1]
   exact congrFun l3 w
 ·rw [c2] at hc;simp at hc
theorem two_norm {a b:Au} (h:(twoM a b).1=0):VA a/\VA b/\a.sy=b.sy/\(fixedM a).2=0/\(fixedM b).2=0/\∃ g k,twoM a b=(0,g,k)/\fixedM a=(auOf g,0)/\fixedM b=(auOf k,0)/\Norm g/\Norm k/\g.sy=a.sy.toNat/\k.sy=a.sy.toNat/\(lng g 0=fun w=>acceptsM a (wI w))/\(lng k 0=fun w=>acceptsM b (wI w)):=by
 unfold twoM at h ⊢
 simp only at h ⊢
 by_cases h1:validM a=0
 ·rw [if_pos h1] at h ⊢
  by_cases h2:validM b=0
  ·rw [if_pos h2] at h ⊢
   by_cases h3:a.sy=b.sy
   ·rw [if_pos h3] at h ⊢
    by_cases h4:(fixedM a).2=0
    ·rw [if_pos h4] at h ⊢
     by_cases h5:(fixedM b).2=0
     ·rw [if_pos h5]
      obtain ⟨_,g,d,a1,a2,a3,a4,a5,a6⟩:=fixed_norm h4
      obtain ⟨_,k,e,b1,b2,b3,b4,b5,b6⟩:=fixed_norm h5
      refine ⟨valid_VA.1 h1,valid_VA.1 h2,h3,h4,h5,g,k,?_,a3,b3,a4,b4,a5,by rw [b5,h3],a6,b6⟩
      rw [a3,b3]
      simp only
      rw [tab_auOf a4.ok,tab_auOf b4.ok]
     ·rw [if_neg h5] at h;exact absurd h h5
    ·rw [if_neg h4] at h;exact absurd h h4
   ·rw [if_neg h3] at h;simp at h
  ·rw [if_neg h2] at h;exact absurd h h2
 ·rw [if_neg h1] at h;exact absurd h h1
theorem neg_ok {g:Gr} (h:GrOk g):GrOk (negG g):=by
 have hl:(negG g).acc.length=g.acc.length+1:=by simp [negG]
 have hrow:∀ r ∈ (negG g).to,r.length=(negG g).sy/\∀ t ∈ r,0<=t/\t<((negG g).acc.length:Int):=by
  intro r hr
  rw [hl]
  rcases List.mem_append.1 hr with hu0 | hu
  ·obtain ⟨u,hu,rfl⟩:=List.mem_map.1 hu0
   refine ⟨by rw [List.length_map,h.row u hu];rfl,fun t ht=>?_⟩
   obtain ⟨v,hv,rfl⟩:=List.mem_map.1 ht
   obtain ⟨x,hx,rfl⟩:=List.getElem_of_mem hv
   obtain ⟨i,hi,rfl⟩:=List.getElem_of_mem hu
   have e:g.to[i][x]=gto g i x:=by
    rw [gto,List.getD_eq_getElem?_getD,List.getD_eq_getElem?_getD,List.getElem?_eq_getElem hi]
    simp only [Option.getD_some]
    rw [List.getElem?_eq_getElem hx];rfl
   have h1:=h.hi i x
   rw [e]
   split <;> omega
  ·rw [List.mem_singleton.1 hu]
   refine ⟨by simp [negG],fun t ht=>?_⟩
   rw [List.eq_of_mem_replicate ht]
   omega
 have hg:∀ i x,gto (negG g) i x = -1 \/ 0<=gto (negG g) i x/\gto (negG g) i x<((negG g).acc.length:Int):=by
  intro i x
  rw [gto]
  by_cases hi:i<(negG g).to.length
  ·have hr:=hrow _ (List.getElem_mem hi)
   rw [List.getD_eq_getElem?_getD,List.getD_eq_getElem?_getD,List.getElem?_eq_getElem hi]
   simp only [Option.getD_some]
   by_cases hx:x<(negG g).to[i].length
   ·rw [List.getElem?_eq_getElem hx]
    exact .inr (hr.2 _ (List.getElem_mem hx))
   ·rw [List.getElem?_eq_none (by omega)];exact .inl rfl
  ·left
   have e:(negG g).to[i]? = none:=List.getElem?_eq_none (by omega)
   rw [List.getD_eq_getElem?_getD,List.getD_eq_getElem?_getD,e];simp
 refine ⟨by omega,?_,fun r hr=>(hrow r hr).1,fun i x=>?_,fun i x=>?_⟩
 ·rw [hl,negG]
  simp [h.len]
 ·rcases hg i x with h1 | h1 <;> omega
 ·rcases hg i x with h1 | h1 <;> omega
theorem turnS_bt {g:Gr} (h:GrOk g) {s:List Bool} {x j:Nat} (hx:x<g.sy):bt (turnS (auOf g) s (x:Int)) j=true ↔ j<g.acc.length/\¬ gto g j x<0/\bt s (gto g j x).toNat=true:=by
 unfold turnS
 rw [bt_map,Bool.and_eq_true,decide_eq_true_eq,List.any_eq_true]
 have hl:(auOf g).acc.length=g.acc.length:=rfl
 rw [hl]
 refine and_congr_right fun hj=>?_
 constructor
 ·rintro ⟨e,he,h1⟩
  obtain ⟨i,y,hi,hy,h5,rfl⟩:=(mem_auOf h).1 he
  simp only [Bool.and_eq_true,decide_eq_true_eq] at h1
  have e1:y=x:=by omega
  have e2:i=j:=by omega
  subst e1 e2
  exact ⟨h5,h1.1.2⟩
 ·rintro ⟨h1,h2⟩
  exact ⟨_,(mem_auOf h).2 ⟨j,x,hj,hx,h1,rfl⟩,by rw [h2];simp⟩
theorem anyT_iff {g:Gr} (h:GrOk g) {s:List Bool} {x:Nat} (hx:x<g.sy):anyT (auOf g) s (x:Int)=true ↔ ∃ j,bt (turnS (auOf g) s (x:Int)) j=true:=by
 unfold anyT
 rw [List.any_eq_true]
 constructor
 ·rintro ⟨e,he,h1⟩
  obtain ⟨i,y,hi,hy,h5,rfl⟩:=(mem_auOf h).1 he
  simp only [Bool.and_eq_true,decide_eq_true_eq] at h1
  have e1:y=x:=by omega
  subst e1
  exact ⟨i,(turnS_bt h hx).2 ⟨hi,h5,h1.2⟩⟩
 ·rintro ⟨j,hj⟩
  obtain ⟨h1,h2,h3⟩:=(turnS_bt h hx).1 hj
  exact ⟨_,(mem_auOf h).2 ⟨j,x,h1,hx,h2,rfl⟩,by rw [h3];simp⟩
structure SetV (g:Gr) (v:List Nat) (s:List Bool):Prop where
 len:s.length=g.acc.length
 get:∀ j,bt s j=true ↔ lang g v j=true
theorem setV_acc (g:Gr):SetV g [] g.acc:=⟨rfl,fun _=>Iff.rfl⟩
theorem setV_turn {g:Gr} (h:GrOk g) {v:List Nat} {s:List Bool} (hs:SetV g v s) {x:Nat} (hx:x<g.sy):SetV g (x::v) (turnS (auOf g) s (x:Int)):=by
 refine ⟨by simp [turnS];rfl,fun j=>?_⟩
 rw [turnS_bt h hx,lang,hs.get]
 constructor
 ·rintro ⟨_,h1,h2⟩
  rw [if_neg h1];exact h2
 ·intro h1
  by_cases h0:gto g j x<0
  ·rw [if_pos h0] at h1;cases h1
  ·rw [if_neg h0] at h1
   refine ⟨Classical.byContradiction fun hc=>h0 ?_,h0,h1⟩
   have:g.to.length=g.acc.length:=h.len
   have e:g.to[j]? = none:=List.getElem?_eq_none (by omega)
   rw [gto,List.getD_eq_getElem?_getD,List.getD_eq_getElem?_getD,e];simp
theorem turn_klang {g:Gr} (h:GrOk g):∀ (w v:List Nat) (s:List Bool),SetV g v s->klang (nextT (auOf g)) (fun s=>bt s 0) g.sy w s=if ∀ x ∈ w,x<g.sy then lang g (w.reverse++v) 0 else false
 | [],v,s,hs=>by
  rw [klang,if_pos (by simp),List.reverse_nil,List.nil_append,Bool.eq_iff_iff]
  exact hs.get 0
 | x::w,v,s,hs=>by
  rw [klang]
  by_cases hx:x<g.sy
  ·rw [if_pos hx,nextT]
   have hsv:=setV_turn h hs hx
   by_cases ha:anyT (auOf g) s (x:Int)=true
   ·rw [if_pos ha]
    simp only
    rw [turn_klang h w (x::v) _ hsv,List.reverse_cons,List.append_assoc]
    simp only [List.mem_cons,forall_eq_or_imp,hx,true_and]
    rfl
   ·rw [if_neg ha]
    simp only
    have hno:∀ j,lang g (x::v) j=false:=fun j=>by
     cases e:lang g (x::v) j with
     | false=>rfl
     | true=>exact absurd ((anyT_iff h hx).2 ⟨j,(hsv.get j).2 e⟩) ha
    split
    ·rw [List.reverse_cons,List.append_assoc]
     symm
     cases e:lang g (w.reverse++([x]++v)) 0 with
     | false=>rfl
     | true =>
      obtain ⟨j,hj⟩:=lang_app _ _ _ e
      have:lang g (x::v) j=true:=hj
      rw [hno] at this;cases this
    ·rfl
  ·rw [if_neg hx,if_neg (fun hc=>hx (hc x (by simp)))]
theorem turned_ok {g d:Gr} (h:GrOk g) (e:turnedM (auOf g)=some d):GrOk d/\d.acc.length<=256/\d.sy=g.sy/\∀ w,lang d w 0=lang g w.reverse 0:=by
 unfold turnedM at e
 rw [Option.map_eq_some_iff] at e
 obtain ⟨⟨l,rows⟩,h1,rfl⟩:=e
 obtain ⟨b1,b2,b3⟩:=bfs_ok (M:=256) (by omega) h1
 have hl:1<=l.length:=b3.length_le
 have hsy:(auOf g).sy.toNat=g.sy:=Int.toNat_natCast _
 have h0:l[0]=g.acc:=((b3).getElem (i:=0) (by simp)).symm
 refine ⟨grOf_ok b1 b2 hl,by simpa [grOf] using b1.most,hsy,fun w=>?_⟩
 rw [grOf_lang b1 b2 w 0 hl,h0,hsy,turn_klang h w [] _ (setV_acc g),List.append_nil]
 split
 ·rfl
 ·rename_i hc
  simp only [Classical.not_forall] at hc
  obtain ⟨x,hx,hxs⟩:=hc
  exact (lang_sy h w.reverse 0 ⟨x,by simpa using hx,by omega⟩).symm
theorem turn_norm {a:Au} (h:(turnM a).2=0):(fixedM a).2=0/\∃ g,turnM a=(auOf g,0)/\Norm g/\g.sy=a.sy.toNat/\lng g 0=fun w=>acceptsM a (wI w.reverse):=by
 unfold turnM at h ⊢
 by_cases h0:(fixedM a).2=0
 ·rw [if_pos h0] at h ⊢
  refine ⟨h0,?_⟩
  obtain ⟨va,g,d,h1,h2,h3,h4,h5,h6⟩:=fixed_norm h0
  rw [h3] at h ⊢
  simp only at h ⊢
  cases hp:turnedM (auOf g) with
  | none=>rw [hp] at h;simp at h
  | some d =>
   rw [hp] at h
   simp only at h ⊢
   obtain ⟨d1,d2,d3,d4⟩:=turned_ok h4.ok hp
   obtain ⟨k1,k2,k3,k4,_⟩:=least_accepts d1 (by omega) h
   refine ⟨leastR d,k1,k2,by rw [k3,d3,h5],?_⟩
   rw [k4]
   funext w
   show lang d w 0=_
   rw [d4]
   exact congrFun h6 w.reverse
 ·rw [if_neg h0] at h
  exact absurd h h0
end P5
namespace Go.Proofs.Ytjilachpkjlhdaa
open Go.RowKit Dak P5
def negT (n:Nat) (t:Int):Int:=if t<0 then (n:Int) else t
theorem negG_eq {g:Gr} (h:GrOk g):negG g=⟨g.sy,(g.acc++[false]).map (fun b=>!b),(g.to++[List.replicate g.sy (g.acc.length:Int)]).map fun r=>r.map (negT g.acc.length)⟩:=by
 rw [negG]
 congr 1
 ·rw [List.map_append];rfl
 ·rw [List.map_append]
  congr 1
  simp only [List.map_cons,List.map_nil,List.map_replicate]
  rw [negT,if_neg (by omega)]
abbrev objsV (a:Au) (gc:AV) (n m:Nat) (M:List AV) (R:List AObj):List AObj:=[oX a,.arr 1 3 34 [nil3],.arr 1 3 97 [gc],.arr m 1 22 M]++R
abbrev gcV (y n:Nat) (A:List Bool):AV:=.agg [vi y,vbools A,.own 3 n 0 n]
abbrev toV4 (y n:Nat):List AV:=rg n fun q=>.own (q+4) y 0 y
theorem objsV_len {a:Au} {gc:AV} {n m y:Nat} {M:List AV} {T:List (List Int)} (h:T.length=n):(objsV a gc n m M (T.map (orow y))).length=n+4:=by rw [objsV,List.length_append,List.length_map,h];simp;omega
theorem objsV_row {a:Au} {gc:AV} {n m y q:Nat} {M:List AV} {T:List (List Int)} (h:T.length=n) (hq:q<n):(objsV a gc n m M (T.map (orow y)))[q+4]? = some (orow y (T[q]'(by omega))):=by
 show (T.map (orow y))[q]? = _
 rw [List.getElem?_map,List.getElem?_eq_getElem (by omega)];rfl
theorem objsV_arr {a:Au} {gc:AV} {n m y:Nat} {M:List AV} {T:List (List Int)} (h:T.length=n) {i:Nat} (hi:i<n+4):isArr (objsV a gc n m M (T.map (orow y))) i=true:=by
 unfold isArr
 match i,hi with
 | 0,_=>rfl
 | 1,_=>rfl
 | 2,_=>rfl
 | 3,_=>rfl
 | q+4,hi=>rw [objsV_row h (by omega)]
theorem objsV_inB {a:Au} {n y:Nat} {A:List Bool} {T:List (List Int)} (B:List AObj) (e3:isArr B 3=true) (e4:((toV4 y n).all (AV.inR B))=true):((objsV a (gcV y n A) n n (toV4 y n) (T.map (orow y))).all fun o=>o.inRO B)=true:=by
 refine Bool.and_eq_true_iff.2 ⟨rfl,Bool.and_eq_true_iff.2 ⟨rfl,Bool.and_eq_true_iff.2 ⟨?_,Bool.and_eq_true_iff.2 ⟨e4,?_⟩⟩⟩⟩
 ·show (((AV.inR1 B (vi y)) && ((AV.inR1 B (vbools A)) && (isArr B 3 && true))) && true)=true
  rw [e3];rfl
 ·refine List.all_eq_true.2 fun o ho=>?_
  obtain ⟨r,_,rfl⟩:=List.mem_map.1 ho
  show ((r.map vi).all (AV.inR B))=true
  rw [List.all_map]
  exact all_tt _
theorem objsV_inR {a:Au} {n y:Nat} {A:List Bool} {T:List (List Int)} (h:T.length=n):((objsV a (gcV y n A) n n (toV4 y n) (T.map (orow y))).all fun o=>o.inRO (objsV a (gcV y n A) n n (toV4 y n) (T.map (orow y))))=true :=
 objsV_inB _ rfl (rg_all fun q hq=>objsV_arr h (by omega))
theorem objsV_ren {a:Au} {n y:Nat} {A:List Bool} {T:List (List Int)} {oc:AObj} (h:T.length=n) :
 Ren (fun k=>if k=2 then n+4 else k) (objsV a (gcV y n A) n n (toV4 y n) (T.map (orow y))) ([oX a,.arr 1 3 34 [nil3],oc,.arr n 1 22 (toV4 y n)]++(T.map (orow y)++[.arr 1 3 97 [gcV y n A]])):=by
 have hlen:∀ i,isArr (objsV a (gcV y n A) n n (toV4 y n) (T.map (orow y))) i=true->i<n+4:=fun i hi=>by
  obtain ⟨_,_,_,_,hh⟩:=isArr_some hi
  have:=(List.getElem?_eq_some_iff.1 hh).1
  rwa [objsV_len h] at this
 refine ⟨fun i j hi hj e=>?_,fun i g' s e xs hh=>?_⟩
 ·have h1:=hlen i hi
  have h2:=hlen j hj
  have e:(if i=2 then n+4 else i)=(if j=2 then n+4 else j):=e
  split at e <;> split at e <;> omega
 ·have h1:=(List.getElem?_eq_some_iff.1 hh).1
  rw [objsV_len h] at h1
  match i,hh,h1 with
  | 0,hh,_ =>
   simp only [objsV,List.cons_append,List.getElem?_cons_zero,Option.some.injEq,AObj.arr.injEq] at hh
   obtain ⟨rfl,rfl,rfl,rfl⟩:=hh
   rfl
  | 1,hh,_ =>
   simp only [objsV,List.cons_append,List.getElem?_cons_succ,List.getElem?_cons_zero,Option.some.injEq,AObj.arr.injEq] at hh
   obtain ⟨rfl,rfl,rfl,rfl⟩:=hh
   rfl
  | 2,hh,_ =>
   simp only [objsV,List.cons_append,List.getElem?_cons_succ,List.getElem?_cons_zero,Option.some.injEq,AObj.arr.injEq] at hh
   obtain ⟨rfl,rfl,rfl,rfl⟩:=hh
   show (T.map (orow y)++[_])[n]? = _
   rw [List.getElem?_append_right (by rw [List.length_map];omega),List.length_map,h,Nat.sub_self]
   rfl
  | 3,hh,_ =>
   simp only [objsV,List.cons_append,List.getElem?_cons_succ,List.getElem?_cons_zero,Option.some.injEq,AObj.arr.injEq] at hh
   obtain ⟨rfl,rfl,rfl,rfl⟩:=hh
   show some (AObj.arr n 1 22 (toV4 y n))=some (AObj.arr n 1 22 ((toV4 y n).map _))
   congr 2
   rw [toV4,rg,List.map_map]
   refine List.map_congr_left fun q _=>?_
   show AV.own (q+4) y 0 y=AV.own (if q+4=2 then n+4 else q+4) y 0 y
   rw [if_neg (by omega)]
  | q+4,hh,h1 =>
   rw [objsV_row h (by omega),Option.some.injEq,orow,AObj.arr.injEq] at hh
   obtain ⟨rfl,rfl,rfl,rfl⟩:=hh
   show ([oX a,.arr 1 3 34 [nil3],oc,.arr n 1 22 (toV4 y n)]++(T.map (orow y)++[.arr 1 3 97 [gcV y n A]]))[if q+4=2 then n+4 else q+4]? = _
   rw [if_neg (by omega)]
   show (T.map (orow y)++[_])[q]? = _
   rw [List.getElem?_append_left (by rw [List.length_map];omega),List.getElem?_map,List.getElem?_eq_getElem (by omega)]
   show some (AObj.arr y 1 3 (T[q].map vi))=some (AObj.arr y 1 3 ((T[q].map vi).map _))
   rw [List.map_map]
   rfl
theorem objsV_drop {a:Au} {gc:AV} {n m w:Nat} {M:List AV} {R X:List AObj} {env env':List (Nat × AV)} (hgc:gc.inn (R.length+4)=true) (hM:(M.all (AV.inn (R.length+4)))=true) (hR:(R.all fun o=>o.innO (R.length+4))=true) (hA:Agree env env') (he:(env'.all fun p=>p.2.inn (R.length+4))=true) :
 WkE w ⟨env,objsV a gc n m M (R++X)⟩ ⟨env',objsV a gc n m M R⟩:=by
 have hl:(objsV a gc n m M R).length=R.length+4:=by rw [objsV,List.length_append];simp;omega
 refine WkE.round hA (by rw [hl];exact he) ?_ ?_
 ·rw [hl,objsV,List.all_append,Bool.and_eq_true]
  refine ⟨?_,hR⟩
  exact Bool.and_eq_true_iff.2 ⟨rfl,Bool.and_eq_true_iff.2 ⟨rfl,Bool.and_eq_true_iff.2 ⟨Bool.and_eq_true_iff.2 ⟨hgc,rfl⟩,Bool.and_eq_true_iff.2 ⟨hM,rfl⟩⟩⟩⟩
 ·rw [hl,objsV,objsV,<-List.append_assoc]
  exact List.take_left' (by rw [List.length_append];simp;omega)
def partN (n y x:Nat) (r:List Int):List Int:=rg y fun j=>if j<x then negT n (r.getD j (-1)) else r.getD j (-1)
theorem partN_zero {n y:Nat} {r:List Int} (h:r.length=y):partN n y 0 r=r:=by
 apply List.ext_getElem?
 intro i
 by_cases hi:i<y
 ·rw [partN,rg_get hi,if_neg (by omega),List.getD_eq_getElem?_getD,List.getElem?_eq_getElem (by omega)];rfl
 ·rw [List.getElem?_eq_none (by rw [partN,rg_len];omega),List.getElem?_eq_none (by omega)]
theorem partN_all {n y:Nat} {r:List Int} (h:r.length=y):partN n y y r=r.map (negT n):=by
 apply List.ext_getElem?
 intro i
 by_cases hi:i<y
 ·rw [partN,rg_get hi,if_pos hi,List.getElem?_map,List.getD_eq_getElem?_getD,List.getElem?_eq_getElem (by omega)];rfl
 ·rw [List.getElem?_eq_none (by rw [partN,rg_len];omega),List.getElem?_eq_none (by rw [List.length_map];omega)]
theorem partN_get {n y x:Nat} {r:List Int} (hx:x<y):((partN n y x r).map vi)[x]? = some (vi (r.getD x (-1))):=by
 rw [List.getElem?_map,partN,rg_get hx,if_neg (by omega)];rfl
theorem partN_t {n y x:Nat} {r:List Int} (h:r.getD x (-1)<0):((partN n y x r).map vi).set x (vi n)=(partN n y (x+1) r).map vi:=by
 rw [<-List.map_set,partN,partN,rg_set]
 congr 1
 refine rg_congr fun p _=>?_
 by_cases hp:p=x
 ·subst hp
  rw [if_pos rfl,if_pos (by omega),negT,if_pos h]
 ·rw [if_neg hp]
  by_cases h2:p<x
  ·rw [if_pos h2,if_pos (by omega)]
  ·rw [if_neg h2,if_neg (by omega)]
theorem partN_f {n y x:Nat} {r:List Int} (h:¬ r.getD x (-1)<0):partN n y x r=partN n y (x+1) r:=by
 rw [partN,partN]
 refine rg_congr fun p _=>?_
 by_cases hp:p=x
 ·subst hp
  rw [if_neg (by omega),if_pos (by omega),negT,if_neg h]
 ·by_cases h2:p<x
  ·rw [if_pos h2,if_pos (by omega)]
  ·rw [if_neg h2,if_neg (by omega)]
def rowsN (n y N:Nat) (T:List (List Int)) (i x:Nat):List AObj:=rg N fun q=>orow y (if q<i then (T.getD q []).map (negT n) else if q=i then partN n y x (T.getD q []) else T.getD q [])
def accN (N:Nat) (A:List Bool) (i:Nat):List AV:=rg N fun q=>vb (if q<i then !bt A q else bt A q)
theorem rowsN_len {n y N:Nat} {T:List (List Int)} {i x:Nat}:(rowsN n y N T i x).length=N:=rg_len _ _
theorem rowsN_get {n y N:Nat} {T:List (List Int)} {i x:Nat} (hi:i<N):(rowsN n y N T i x)[i]? = some (orow y (partN n y x (T.getD i []))):=by
 rw [rowsN,rg_get hi,if_neg (by omega),if_pos rfl]
theorem rowsN_set {n y N:Nat} {T:List (List Int)} {i x x':Nat}:(rowsN n y N T i x).set i (orow y (partN n y x' (T.getD i [])))=rowsN n y N T i x':=by
 rw [rowsN,rowsN,rg_set]
 refine rg_congr fun p _=>?_
 by_cases hp:p=i
 ·subst hp
  rw [if_pos rfl,if_neg (by omega),if_pos rfl]
 ·rw [if_neg hp,if_neg hp,if_neg hp]
theorem rowsN_next {n y N:Nat} {T:List (List Int)} {i:Nat} (hT:T.length=N) (hr:∀ r ∈ T,r.length=y) (hi:i<N):rowsN n y N T i y=rowsN n y N T (i+1) 0:=by
 rw [rowsN,rowsN]
 refine rg_congr fun p hp=>?_
 have hl:(T.getD p []).length=y:=by
  rw [List.getD_eq_getElem?_getD,List.getElem?_eq_getElem (by omega)]
  exact hr _ (List.getElem_mem _)
 by_cases h1:p<i
 ·rw [if_pos h1,if_pos (by omega)]
 ·rw [if_neg h1]
  by_cases h2:p=i
  ·rw [if_pos h2,if_pos (by omega),partN_all hl]
  ·rw [if_neg h2,if_neg (by omega)]
   split
   ·rw [partN_zero hl]
   ·rfl
theorem rowsN_zero {n y N:Nat} {T:List (List Int)} (hT:T.length=N) (hr:∀ r ∈ T,r.length=y):rowsN n y N T 0 0=T.map (orow y):=by
 apply List.ext_getElem?
 intro p
 by_cases hp:p<N
 ·have hl:=hr _ (List.getElem_mem (n:=p) (h:=by omega))
  rw [rowsN,rg_get hp,if_neg (by omega),List.getElem?_map,List.getD_eq_getElem?_getD,List.getElem?_eq_getElem (by omega)]
  simp only [Option.getD_some,Option.map_some,Option.some.injEq]
  split
  ·rw [partN_zero hl]
  ·rfl
 ·rw [List.getElem?_eq_none (by rw [rowsN_len];omega),List.getElem?_eq_none (by rw [List.length_map];omega)]
theorem rowsN_all {n y N:Nat} {T:List (List Int)} (hT:T.length=N):rowsN n y N T N 0=(T.map fun r=>r.map (negT n)).map (orow y):=by
 apply List.ext_getElem?
 intro p
 by_cases hp:p<N
 ·rw [rowsN,rg_get hp,if_pos hp,List.getElem?_map,List.getElem?_map,List.getD_eq_getElem?_getD,List.getElem?_eq_getElem (by omega)]
  rfl
 ·rw [List.getElem?_eq_none (by rw [rowsN_len];omega),List.getElem?_eq_none (by rw [List.length_map,List.length_map];omega)]
theorem accN_len {N:Nat} {A:List Bool} {i:Nat}:(accN N A i).length=N:=rg_len _ _
theorem accN_get {N:Nat} {A:List Bool} {i:Nat} (hi:i<N):(accN N A i)[i]? = some (vb (bt A i)):=by rw [accN,rg_get hi,if_neg (by omega)]
theorem accN_set {N:Nat} {A:List Bool} {i:Nat}:(accN N A i).set i (vb (!bt A i))=accN N A (i+1):=by
 rw [accN,accN,rg_set]
 refine rg_congr fun p _=>?_
 by_cases hp:p=i
 ·subst hp
  rw [if_pos rfl,if_pos (by omega)]
 ·rw [if_neg hp]
  by_cases h2:p<i
  ·rw [if_pos h2,if_pos (by omega)]
  ·rw [if_neg h2,if_neg (by omega)]
theorem accN_zero {N:Nat} {A:List Bool} (h:A.length=N):accN N A 0=A.map vb:=by
 apply List.ext_getElem?
 intro p
 by_cases hp:p<N
 ·rw [accN,rg_get hp,if_neg (by omega),bt_get (by omega)]
 ·rw [List.getElem?_eq_none (by rw [accN_len];omega),List.getElem?_eq_none (by rw [List.length_map];omega)]
theorem accN_all {N:Nat} {A:List Bool} (h:A.length=N):accN N A N=(A.map fun b=>!b).map vb:=by
 apply List.ext_getElem?
 intro p
 by_cases hp:p<N
 ·rw [accN,rg_get hp,if_pos hp,List.getElem?_map,List.getElem?_map,bt,List.getD_eq_getElem?_getD,List.getElem?_eq_getElem (by omega)]
  rfl
 ·rw [List.getElem?_eq_none (by rw [accN_len];omega),List.getElem?_eq_none (by rw [List.length_map,List.length_map];omega)]
theorem freezeRows {w:Nat} {env:List (Nat × AV)} (pre:List AObj) (p3:pre.length=3) (N y:Nat) (G:List (List Int)) (hG:G.length=N) (hr:∀ r ∈ G,r.length=y) (X:List AObj):∀ k,k<=N ->
 WkE w ⟨env,pre++[.arr N 1 22 (toV4 y N)]++(G.map (orow y)++X)⟩ ⟨env,pre++[.arr N 1 22 (rg N fun q=>if q<k then vints (G.getD q []) else .own (q+4) y 0 y)]++((rg N fun q=>if q<k then AObj.dead else orow y (G.getD q []))++X)⟩
 | 0,_=>by
  have e1:(rg N fun q=>if q<0 then vints (G.getD q []) else .own (q+4) y 0 y)=toV4 y N:=rg_congr fun q _=>if_neg (by omega)
  have e2:(rg N fun q=>if q<0 then AObj.dead else orow y (G.getD q []))=G.map (orow y):=by
   apply List.ext_getElem?
   intro p
   by_cases hp:p<N
   ·rw [rg_get hp,if_neg (by omega),List.getElem?_map,List.getD_eq_getElem?_getD,List.getElem?_eq_getElem (by omega)];rfl
   ·rw [List.getElem?_eq_none (by rw [rg_len];omega),List.getElem?_eq_none (by rw [List.length_map];omega)]
  rw [e1,e2]
  exact WkE.refl _ _
 | k+1,hk=>by
  refine (freezeRows pre p3 N y G hG hr X k (by omega)).trans ?_
  have hGk:(G.getD k []).length=y:=by
   rw [List.getD_eq_getElem?_getD,List.getElem?_eq_getElem (by omega)]
   exact hr _ (List.getElem_mem _)
  obtain ⟨M,hM⟩:∃ M:List AV,M=(rg N fun q=>if q<k then vints (G.getD q []) else .own (q+4) y 0 y):=⟨_,rfl⟩
  obtain ⟨R,hR⟩:∃ R:List AObj,R=(rg N fun q=>if q<k then AObj.dead else orow y (G.getD q [])):=⟨_,rfl⟩
  rw [<-hM,<-hR]
  have hRl:R.length=N:=by rw [hR,rg_len]
  have g3:∀ (o:AObj) (l:List AObj),(pre++[o]++l)[3]? = some o:=fun o l=>by
   rw [List.append_assoc,List.getElem?_append_right (by omega),p3];rfl
  have gk:∀ (o:AObj) (l m:List AObj) (j:Nat),j<l.length->(pre++[o]++(l++m))[j+4]? = l[j]?:=fun o l m j hj=>by
   rw [List.getElem?_append_right (by simp;omega),List.getElem?_append_left (by simp;omega)]
   congr 1
   simp;omega
  have s3:∀ (o o':AObj) (l:List AObj),(pre++[o]++l).set 3 o'=pre++[o']++l:=fun o o' l=>by
   rw [List.append_assoc,List.set_append_right _ _ (by omega),p3,List.append_assoc];rfl
  have sk:∀ (o o':AObj) (l m:List AObj) (j:Nat),j<l.length->(pre++[o]++(l++m)).set (j+4) o'=pre++[o]++(l.set j o'++m):=fun o o' l m j hj=>by
   have e:j+4-(pre++[o]).length=j:=by simp;omega
   rw [List.set_append_right _ _ (by simp;omega),e,List.set_append_left _ _ hj]
  have hMk:M[k]? = some (.own (k+4) y 0 y):=by rw [hM,rg_get (by omega),if_neg (by omega)]
  have hRk:R[k]? = some (orow y (G.getD k [])):=by rw [hR,rg_get (by omega),if_neg (by omega)]
  have:=WkE.freezeCell (n:=w) (env:=env) (objs:=pre++[.arr N 1 22 M]++(R++X)) 3 N 1 k 0 (k+4) y 0 y 1 22 3 M ((G.getD k []).map vi) (.own (k+4) y 0 y) (g3 _ _) hMk rfl (by rw [gk _ _ _ _ (by omega),hRk]) (by omega) (by rw [List.length_map];omega) (isT_map (fun _=>rfl) _)
  rw [sk _ _ _ _ _ (by omega),s3,List.drop_zero,List.take_of_length_le (by rw [List.length_map];omega)] at this
  have e1:M.set k (vints (G.getD k []))=(rg N fun q=>if q<k+1 then vints (G.getD q []) else .own (q+4) y 0 y):=by
   rw [hM,rg_set]
   refine rg_congr fun p _=>?_
   by_cases hp:p=k
   ·rw [if_pos hp,if_pos (by omega),hp]
   ·rw [if_neg hp]
    by_cases h2:p<k
    ·rw [if_pos h2,if_pos (by omega)]
    ·rw [if_neg h2,if_neg (by omega)]
  have e2:R.set k .dead=(rg N fun q=>if q<k+1 then AObj.dead else orow y (G.getD q [])):=by
   rw [hR,rg_set]
   refine rg_congr fun p _=>?_
   by_cases hp:p=k
   ·rw [if_pos hp,if_pos (by omega)]
   ·rw [if_neg hp]
    by_cases h2:p<k
    ·rw [if_pos h2,if_pos (by omega)]
    ·rw [if_neg h2,if_neg (by omega)]
  rw [<-e1,<-e2]
  exact this
theorem freezeGr {w:Nat} {env:List (Nat × AV)} (o0 o1:AObj) (N y:Nat) (G:List (List Int)) (A:List Bool) (hG:G.length=N) (hA:A.length=N) (hr:∀ r ∈ G,r.length=y) :
 ∃ X,WkE w ⟨env,[o0,o1,.arr 1 3 97 [.agg [vi y,.own (N+4) N 0 N,.own 3 N 0 N]],.arr N 1 22 (toV4 y N)]++(G.map (orow y)++[.arr N 1 4 (A.map vb)])⟩ ⟨env,[o0,o1,.arr 1 3 97 [vgr ⟨y,A,G⟩]]++X⟩:=by
 refine ⟨.dead::((rg N fun q=>if q<N then AObj.dead else orow y (G.getD q []))++[.dead]),(freezeRows [o0,o1,.arr 1 3 97 [.agg [vi y,.own (N+4) N 0 N,.own 3 N 0 N]]] rfl N y G hG hr _ N (Nat.le_refl _)).trans ?_⟩
 have e1:(rg N fun q=>if q<N then vints (G.getD q []) else .own (q+4) y 0 y)=G.map vints:=by
  apply List.ext_getElem?
  intro p
  by_cases hp:p<N
  ·rw [rg_get hp,if_pos hp,List.getElem?_map,List.getD_eq_getElem?_getD,List.getElem?_eq_getElem (by omega)];rfl
  ·rw [List.getElem?_eq_none (by rw [rg_len];omega),List.getElem?_eq_none (by rw [List.length_map];omega)]
 rw [e1]
 obtain ⟨R,hR⟩:∃ R:List AObj,R=(rg N fun q=>if q<N then AObj.dead else orow y (G.getD q [])):=⟨_,rfl⟩
 rw [<-hR]
 have hRl:R.length=N:=by rw [hR,rg_len]
 have h1:=WkE.freezeCell (n:=w) (env:=env) (objs:=[o0,o1,.arr 1 3 97 [.agg [vi y,.own (N+4) N 0 N,.own 3 N 0 N]]]++[.arr N 1 22 (G.map vints)]++(R++[.arr N 1 4 (A.map vb)])) 2 1 3 0 2 3 N 0 N 1 97 22 _ (G.map vints) _ rfl rfl rfl rfl (by omega) (by rw [List.length_map];omega) (isT_map (f:=vints) (fun _=>rfl) _)
 rw [List.drop_zero,List.take_of_length_le (by rw [List.length_map];omega)] at h1
 refine h1.trans ?_
 have g4:∀ (a b c d o:AObj),([a,b,c,d]++(R++[o]))[N+4]? = some o:=fun a b c d o=>by
  show (R++[o])[N]? = _
  rw [<-hRl,List.getElem?_concat_length]
 have h2:=WkE.freezeCell (n:=w) (env:=env) (objs:=[o0,o1,.arr 1 3 97 [.agg [vi y,.own (N+4) N 0 N,vrows G]],.dead]++(R++[.arr N 1 4 (A.map vb)])) 2 1 3 0 1 (N+4) N 0 N 1 97 4 _ (A.map vb) _ rfl rfl rfl (g4 _ _ _ _ _) (by omega) (by rw [List.length_map];omega) (isT_map (fun _=>rfl) _)
 have s4:∀ (a b c d o o':AObj),([a,b,c,d]++(R++[o])).set (N+4) o'=[a,b,c,d]++(R++[o']):=fun a b c d o o'=>by
  show a::b::c::d::(R++[o]).set N o'=_
  rw [List.set_append_right _ _ (by omega),hRl,Nat.sub_self];rfl
 rw [List.drop_zero,List.take_of_length_le (by rw [List.length_map];omega),s4] at h2
 exact h2
end Go.Proofs.Ytjilachpkjlhdaa
