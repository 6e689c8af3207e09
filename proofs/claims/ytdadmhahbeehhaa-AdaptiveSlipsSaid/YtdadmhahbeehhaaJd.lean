/- Lemmas used by all laws. -/
import Derived.Test.YtdadmhahbeehhaaJa
import Derived.Test.YtdadmhahbeehhaaJb
import Derived.Test.YtdadmhahbeehhaaJc
import Derived.Scope
import Derived.Deep.LoopGhost
import Derived.OrdersIn
import Derived.ControlIn
import Derived.Sort.LoopGhostIn
import Derived.RangeFuncLeaves
import Derived.RangeFuncRecord
set_option linter.unusedSimpArgs false
set_option linter.unusedVariables false
set_option linter.unusedSectionVars false
set_option maxRecDepth 100000
namespace Dak
open Go Go.RowKit
variable [Globs]
variable {P : Program} {F0 : FD} {w0 w : World} {L : Lay} {objs objs0 : List AObj} {nid : Nat}
def dcheckL (ops:List Oper) (cs:List COper) (q:Nat->Bool):Bool :=
 let ws:=waits ops
 (ops.zipIdx.all fun p=>p.1.after.all fun e=>!Region.binds .any e || decide (e.on<p.2)) &&
 ((List.range cs.length).all fun i=>(List.range cs.length).all fun j=>i == j ||
  match cs[i]?,cs[j]? with
  | some ci,some cj =>
   if q i then
    if q j then
     match cj.dst with
     | none=>true
     | some t=>(ci.dst != some t) && (!ci.reads.contains t || (if j<i then (ws.getD i 0).testBit j else (ws.getD j 0).testBit i))
    else
     !(ws.getD i 0).testBit j && ((ws.getD j 0).testBit i || (ci.lateable && (match cj.dst with
      | none=>true
      | some t=>ci.dst != some t && !ci.reads.contains t) && (match ci.dst with
      | none=>true
      | some t=>!cj.reads.contains t) && noWar cs q ci i))
   else
    true
  | _,_=>true)
def secs (cs:List COper) (q:Nat->Bool):List Nat:=(List.range cs.length).filter fun i=>!q i
theorem mem_secs {cs:List COper} {q:Nat->Bool} {j:Nat}:j ∈ secs cs q ↔ j<cs.length/\q j=false:=by
 unfold secs
 rw [List.mem_filter,List.mem_range]
 simp
theorem secs_nodup {cs:List COper} {q:Nat->Bool}:(secs cs q).Nodup:=List.nodup_range.filter _
def treeL (ws:List Nat) (cs:List COper) (q:Nat->Bool):Nat->List Nat->PT
 | 0,_=>.done
 | n+1,rem=>(rem.filter (freeIn ws rem)).foldr (fun i t=>.alt (cs.getD i default) (latesOf cs ws q i) (treeL ws cs q n (rem.erase i)) t) .stop
set_option maxHeartbeats 1000000 in
theorem drawnL_ok {ops:Array Oper} {cs:List COper} {q:Nat->Bool} (hcs:CompD P ops cs) (hchk:dcheckL ops.toList cs q=true) {tmps0:List AV} {tr:List (AV × List AObj)}
 (hDT:DT P (objs0++tr.flatMap (·.2)) objs0 objs0.length tmps0 (csP cs q) tr) {K:St->Prop} (hK:RT P (treeL (waits ops.toList) cs q (secs cs q).length (secs cs q)) K ⟨foldPut tmps0 (csP cs q) tr,objs0++tr.flatMap (·.2)⟩) :
 ∀ (fuel:Nat) (listed:Array Bool) (a:Act) (w:World) (R:List Nat),listed.size=ops.size->(∀ j,j<ops.size->listed.getD j false=false->j ∈ R)->R.length<=fuel ->
  closedX ops.toList (fun j=>listed.getD j false=true) ->
  (((∀ j,q j=false->listed.getD j false=false)/\Sim F0 w0 (stX tmps0 objs0 (csP cs q) tr fun j=>listed.getD j false) a w) \/
   ∃ rem st,rem.Nodup/\(∀ j,j ∈ rem ↔ j<ops.size/\q j=false/\listed.getD j false=false) /\
    Sim F0 w0 ⟨mask cs q (fun j=>listed.getD j false) st.tmps,st.objs⟩ a w/\RT P (treeL (waits ops.toList) cs q rem.length rem) K st /\
    ∀ j c,cs[j]? = some c->q j=true->listed.getD j false=false->c.guard=none/\LateOk st c/\noWar cs q c j=true) ->
  wpAny P .any ops (Lift F0 w0 fun e st=>e = .normal/\K st) fuel listed a w:=by
 simp only [dcheckL,Bool.and_eq_true,List.all_eq_true,List.mem_range] at hchk
 obtain ⟨hedge,hdep⟩:=hchk
 obtain ⟨hlen,hget⟩:=hcs.get
 have hlen':cs.length=ops.size:=by simpa using hlen.symm
 have hpl:=csP_len cs q
 have htl:=hDT.len
 rw [hpl] at htl
 have hops:∀ i,i<ops.size->∃ o c,ops[i]? = some o/\ops.toList[i]? = some o/\cs[i]? = some c/\compA P ops o c:=by
  intro i hi
  have h1:ops.toList[i]? = some ops[i]:=by rw [Array.getElem?_toList,Array.getElem?_eq_getElem hi]
  obtain ⟨c,hc1,hc2⟩:=hget i _ h1
  exact ⟨ops[i],c,Array.getElem?_eq_getElem hi,h1,hc2,hc1⟩
 have hlt_of:∀ {i:Nat} {c:COper},cs[i]? = some c->i<cs.length:=fun h=>(List.getElem?_eq_some_iff.1 h).1
 have pp:∀ i j t ci cj,i ≠ j->q i=true->q j=true->cs[i]? = some ci->cs[j]? = some cj->cj.dst=some t->ci.dst ≠ some t/\(t ∈ ci.reads->if j<i then ((waits ops.toList).getD i 0).testBit j=true else ((waits ops.toList).getD j 0).testBit i=true):=by
  intro i j t ci cj hne hi hj hci hcj hd
  have:=hdep i (hlt_of hci) j (hlt_of hcj)
  rw [hci,hcj] at this
  simp only [hi,hj,if_true,hd,Bool.or_eq_true,beq_iff_eq,hne,false_or,Bool.and_eq_true,bne_iff_ne,ne_eq,Bool.not_eq_true'] at this
  refine ⟨this.1,fun ht=>?_⟩
  have h2:=this.2.resolve_left (by simp;exact ht)
  by_cases hji:j<i
  ·rw [if_pos hji] at h2 ⊢;exact h2
  ·rw [if_neg hji] at h2 ⊢;exact h2
 have pq:∀ i j ci cj,q i=true->q j=false->cs[i]? = some ci->cs[j]? = some cj->((waits ops.toList).getD i 0).testBit j=false/\(((waits ops.toList).getD j 0).testBit i=true \/
  (ci.lateable=true/\(∀ t,cj.dst=some t->ci.dst ≠ some t/\t ∉ ci.reads)/\(∀ t,ci.dst=some t->t ∉ cj.reads)/\noWar cs q ci i=true)):=by
  intro i j ci cj hi hj hci hcj
  have hne:i ≠ j:=by rintro rfl;rw [hi] at hj;cases hj
  have:=hdep i (hlt_of hci) j (hlt_of hcj)
  rw [hci,hcj] at this
  simp only [hi,hj,if_true,Bool.false_eq_true,if_false,Bool.or_eq_true,beq_iff_eq,hne,false_or,Bool.and_eq_true,Bool.not_eq_true'] at this
  refine ⟨this.1,this.2.imp id fun h=>⟨h.1.1.1,fun t ht=>?_,fun t ht=>?_,h.2⟩⟩
  ·have h2:=h.1.1.2
   rw [ht] at h2
   simp only [Bool.and_eq_true,bne_iff_ne,ne_eq,Bool.not_eq_true',List.contains_eq_mem,decide_eq_false_iff_not] at h2
   exact h2
  ·have h2:=h.1.2
   rw [ht] at h2
   simpa using h2
 have hdis:distinct (csP cs q):=by
  intro i j t hi hj
  obtain ⟨h1,h2⟩:=csP_dst hi
  obtain ⟨h3,h4⟩:=csP_dst hj
  by_cases e:i=j
  ·exact e
  ·exfalso
   obtain ⟨ci,hci,hdi⟩:=Option.bind_eq_some_iff.1 h2
   obtain ⟨cj,hcj,hdj⟩:=Option.bind_eq_some_iff.1 h4
   exact (pp i j t ci cj e h1 h3 hci hcj hdj).1 hdi
 have hwlen:(waits ops.toList).length=ops.toList.length:=by
  have hfl:∀ (l:List Oper) (acc:List Nat),(l.foldl (fun acc o=>acc++[o.after.toList.foldl (fun s e=>if Region.binds .any e then s ||| 2 ^ e.on ||| acc.getD e.on 0 else s) 0]) acc).length=acc.length+l.length:=by
   intro l
   induction l with
   | nil=>intro acc;rfl
   | cons o l ih=>intro acc;simp only [List.foldl_cons];rw [ih];simp;omega
  simpa [waits] using hfl ops.toList []
 have hwaits:∀ (X:Nat->Bool),closedX ops.toList (fun j=>X j=true)->(∀ (i:Nat) (o:Oper),ops.toList[i]? = some o->(∀ e ∈ o.after.toList,Region.binds .any e=true->X e.on=true)->∀ k,((waits ops.toList).getD i 0).testBit k=true->X k=true) /\
  ∀ j,X j=true->∀ k,((waits ops.toList).getD j 0).testBit k=true->X k=true:=by
  intro X hcl
  have hwait:=waits_ok (fun j=>X j=true) ops.toList [] [] rfl (by simpa using hcl) (fun i o h=>by simp at h)
  refine ⟨fun i o ho he=>hwait i o (by simpa using ho) he,fun j hj=>?_⟩
  by_cases hjs:j<ops.size
  ·obtain ⟨oj,_,_,hoj,_⟩:=hops j hjs
   exact hwait j oj (by simpa using hoj) (hcl j oj hoj hj)
  ·intro k hk
   exfalso
   rw [List.getD_eq_getElem?_getD,List.getElem?_eq_none (by rw [hwlen];simpa using hjs)] at hk
   simp at hk
 have hcomp0:∀ {o:Oper} {c:COper},compO P ops o=some c->compB P o=some c.op/\o.dst=c.dst/\((o.guard=none/\c.guard=none) \/ ∃ j want t,o.guard=some (j,want)/\(ops[j]?).bind (·.dst)=some t/\c.guard=some (t,want)):=by
  intro o c hco
  simp only [compO,Option.bind_eq_some_iff] at hco
  obtain ⟨op,hop,hco⟩:=hco
  cases hg:o.guard with
  | none=>rw [hg] at hco;simp only [Option.some.injEq] at hco;subst hco;exact ⟨hop,rfl,.inl ⟨rfl,rfl⟩⟩
  | some g =>
   obtain ⟨j,want⟩:=g
   rw [hg] at hco;simp only [Option.map_eq_some_iff] at hco
   obtain ⟨t,htt,rfl⟩:=hco
   exact ⟨hop,rfl,.inr ⟨j,want,t,rfl,htt,rfl⟩⟩
 have hcomp:∀ {o:Oper} {c:COper},compA P ops o c->Comp1 P o c.op/\o.dst=c.dst/\((o.guard=none/\c.guard=none) \/ ∃ j want t,o.guard=some (j,want)/\(ops[j]?).bind (·.dst)=some t/\c.guard=some (t,want)):=by
  rintro o c ⟨c0,h0,rfl | rfl⟩
  ·obtain ⟨h1,h2⟩:=hcomp0 h0
   exact ⟨.ofB h1,h2⟩
  ·obtain ⟨h1,h2⟩:=hcomp0 h0
   exact ⟨.altB h1,h2⟩
 have stepA:∀ (X:Nat->Bool) (i:Nat),i<ops.size->q i=true->X i=false->closedX ops.toList (fun j=>X j=true)->(∀ o,ops.toList[i]? = some o->∀ e ∈ o.after.toList,Region.binds .any e=true->X e.on=true) ->
  ∀ (a:Act) (w:World) (T:Act->World->Prop),Sim F0 w0 (stX tmps0 objs0 (csP cs q) tr X) a w ->
  (∀ a' w',Sim F0 w0 (stX tmps0 objs0 (csP cs q) tr fun j=>if j=i then true else X j) a' w'->T a' w')->wpOp P ops (Lift F0 w0 fun e st=>e = .normal/\K st) i T a w:=by
  intro X i hi hqi hXi hcl hed a w T hsim hT
  obtain ⟨o,c,ho,hol,hc,hco⟩:=hops i hi
  have hcp:(csP cs q)[i]? = some c:=by rw [csP_get,hc];simp [hqi]
  obtain ⟨r,no,htr,hval⟩:=hDT.get i c hcp
  obtain ⟨hw1,hwj⟩:=hwaits X hcl
  have hwi:=hw1 i o hol (hed o hol)
  have heq:∀ t,t ∈ c.reads->(tX tmps0 (csP cs q) tr X).getD t .junk=(foldPut tmps0 ((csP cs q).take i) (tr.take i)).getD t .junk:=by
   intro t ht
   by_cases hlt:t<tmps0.length
   ·rw [tX_get hlt,foldPut_look hdis (by rw [htl,hpl]) i (by omega) t hlt]
    refine look_congr fun j hj=>?_
    obtain ⟨hqj,hjd⟩:=csP_dst hj
    by_cases hne:i=j
    ·subst hne;rw [hXi];simp
    ·obtain ⟨cj,hcj,hdj⟩:=Option.bind_eq_some_iff.1 hjd
     have:=(pp i j t c cj hne hqi hqj hc hcj hdj).2 ht
     split at this
     ·rename_i h;rw [hwi j this];simp [h]
     ·rename_i h
      cases hXj:X j with
      | false=>simp;omega
      | true=>rw [hwj j hXj i this] at hXi;cases hXi
   ·rw [getD_out (by rw [tX_len];exact Nat.le_of_not_lt hlt),getD_out (by rw [foldPut_len];exact Nat.le_of_not_lt hlt)]
  have hev:∀ x ∈ c.op.opnds,St.ev (foldPut tmps0 ((csP cs q).take i) (tr.take i)) x=St.ev (tX tmps0 (csP cs q) tr X) x:=ev_eq fun t ht=>(heq t (mem_reads ht)).symm
  have hgd:∀ t want,c.guard=some (t,want)->(tX tmps0 (csP cs q) tr X).getD t .junk=(foldPut tmps0 ((csP cs q).take i) (tr.take i)).getD t .junk:=by
   intro t want hg
   exact heq t (by simp [COper.reads,hg])
  have hput:=tX_put (tmps:=tmps0) (X:=X) (Y:=fun j=>if j=i then true else X j) hdis hcp htr (fun j hj=>by simp [hj]) (by simp)
  have hsame:no=[]->objsOf (fun j=>if j=i then true else X j) 0 tr=objsOf X 0 tr:=by
   rintro rfl
   refine objsOf_congr _ _ fun j hj=>?_
   obtain ⟨r',o',hj,hne⟩:=hj
   have:j ≠ i:=by rintro rfl;rw [htr] at hj;simp only [Option.some.injEq,Prod.mk.injEq] at hj;exact hne hj.2.symm
   simp [this]
  obtain ⟨hd,L,g,hs,ht⟩:=hsim
  have he:=ev_ok (objs:=(stX tmps0 objs0 (csP cs q) tr X).objs) g.gl hs ht
  have hsub:Sub objs0 (objs0++objsOf X 0 tr):=fun id g s e xs h=>by rw [List.getElem?_append_left (List.getElem?_eq_some_iff.1 h).1];exact h
  obtain ⟨hop,hdst,hguard⟩:=hcomp hco
  unfold wpOp
  simp only [ho]
  rcases hval with ⟨hon,hv⟩ | ⟨hoff,rfl,rfl⟩
  ·have hw:Region.wanted o (yielded ops a.tmps)=true:=by
    rcases hguard with ⟨hg,_⟩ | ⟨j,want,t,hg,htt,hcg⟩
    ·unfold Region.wanted;rw [hg]
    ·rw [hcg] at hon
     simp only [GOn] at hon
     rw [<-hgd t want hcg] at hon
     have hbv:boolOf (a.tmps.getD t undef)=some want:=gdB_ok (he (.tmp t)) hon
     rw [wanted_of hg htt hbv];simp
   rw [hw,if_pos rfl]
   refine .inl ?_
   have hv':=hv.congr hev
   have hat:=objsOf_at (X:=X) tr 0 i r no htr
   rw [Nat.zero_add] at hat
   obtain ⟨hat0,hat1,hat2⟩:=hat
   have hvoid:∀ k,k<no.length->(objs0++objsOf X 0 tr)[objs0.length+cnt tr i+k]? = some .void:=by
    intro k hk
    rw [List.getElem?_append_right (by omega),show objs0.length+cnt tr i+k-objs0.length=cnt tr i+k by omega]
    exact hat1 hXi k hk
   have eo:putL (objs0++objsOf X 0 tr) (objs0.length+cnt tr i) no=objs0++objsOf (fun j=>if j=i then true else X j) 0 tr:=by
    rw [hat2 (fun j=>if j=i then true else X j) (fun j hj=>by simp [hj]) hXi (by simp),putL_app]
   rcases hv' with ⟨f,args,hcall,hok⟩ | ⟨n1,hn1,hq⟩
   ·rw [hcall] at hop
    cases hok with
    | old hok =>
     obtain ⟨fid,vs,hr,hcl⟩:=call_ok (P:=P) hop.call g ⟨_,rfl⟩ he hok
     unfold Oper.wp
     rw [hr,Oper.upon_enter]
     refine hcl.mono ?_
     rintro e w' ⟨v,L',rfl,hg,hl,hv⟩
     simp only
     refine hT _ _ ?_
     have:=sim_put (st:=stX tmps0 objs0 (csP cs q) tr X) hd hs ht hg hl o.dst hv
     simp only [stX] at this ⊢
     rw [hput,hsame rfl,<-hdst];exact this
    | new hok =>
     obtain ⟨fid,vs,hr,hcl⟩:=callN1_ok (P:=P) hop.call g hsub (by simp only [stX,List.length_append];omega) hvoid he hok
     unfold Oper.wp
     rw [hr,Oper.upon_enter]
     refine hcl.mono ?_
     rintro e w' ⟨v,L',rfl,hg,hl,hv⟩
     simp only
     refine hT _ _ ?_
     have:=sim_put (st:=stX tmps0 objs0 (csP cs q) tr X) hd hs ht hg hl o.dst hv
     simp only [stX] at this ⊢
     rw [hput,<-eo,<-hdst];exact this
   ·obtain ⟨v,w',L',hr,hg,hl,hvr⟩:=qstepK_ok (P:=P) hop g hsub (objsOf_cur X objs0 tr) he (fun h=>by
     subst hn1
     obtain ⟨ob,rfl⟩:=Option.isSome_iff_exists.1 h
     exact hvoid 0 (by simp)) hq
    unfold Oper.wp
    rw [hr,Oper.upon_value]
    refine hT _ _ ?_
    have:=sim_put (st:=stX tmps0 objs0 (csP cs q) tr X) hd hs ht hg hl o.dst hvr
    have eo2:putO (objs0++objsOf X 0 tr) (objs0.length+cnt tr i) n1=objs0++objsOf (fun j=>if j=i then true else X j) 0 tr:=by
     subst hn1
     cases n1 with
     | none=>rw [hsame rfl];rfl
     | some ob=>rw [<-eo];rfl
    simp only [stX] at this ⊢
    rw [hput,<-eo2,<-hdst];exact this
  ·have hw:Region.wanted o (yielded ops a.tmps)=false:=by
    rcases hguard with ⟨hg,hcg⟩ | ⟨j,want,t,hg,htt,hcg⟩
    ·rw [hcg] at hoff;exact hoff.elim
    ·rw [hcg] at hoff
     simp only [GOff] at hoff
     rw [<-hgd t want hcg] at hoff
     obtain ⟨ob,hoff,hne⟩:=hoff
     have hbv:boolOf (a.tmps.getD t undef)=ob:=gdB_ok (he (.tmp t)) hoff
     rw [wanted_of hg htt hbv];simpa using hne
   rw [hw,if_neg (by simp)]
   refine hT _ _ ?_
   have:=sim_put (st:=stX tmps0 objs0 (csP cs q) tr X) hd hs ht g (.refl _ _ _) o.dst (r:=nov) (v:=undef) (.tree (.val _))
   simp only [stX] at this ⊢
   rw [hput,hsame rfl,<-hdst];exact this
 have toB:∀ (X:Nat->Bool) (a:Act) (w:World),(∀ j c,cs[j]? = some c->q j=true->X j=false->c.lateable=true)->Sim F0 w0 (stX tmps0 objs0 (csP cs q) tr X) a w ->
  Sim F0 w0 ⟨mask cs q X (foldPut tmps0 (csP cs q) tr),objs0++tr.flatMap (·.2)⟩ a w:=by
  intro X a w hX hs
  have e2:objsOf X 0 tr=tr.flatMap (·.2):=by
   rw [<-objsOf_all (X:=fun _=>true) tr 0 (fun _ _=>rfl)]
   refine objsOf_congr tr 0 fun j hj=>?_
   obtain ⟨r,o,hj,hne⟩:=hj
   rw [Nat.zero_add]
   have hjl:j<cs.length:=by have:=(List.getElem?_eq_some_iff.1 hj).1;omega
   cases hXj:X j with
   | true=>rfl
   | false =>
    exfalso
    have hcj:cs[j]? = some cs[j]:=List.getElem?_eq_getElem hjl
    cases hqj:q j with
    | true =>
     have hl:=hX j _ hcj hqj hXj
     have hcp:(csP cs q)[j]? = some cs[j]:=by rw [csP_get,hcj];simp [hqj]
     obtain ⟨r',no',h1,h2⟩:=hDT.get j _ hcp
     rw [hj] at h1;simp only [Option.some.injEq,Prod.mk.injEq] at h1
     obtain ⟨rfl,rfl⟩:=h1
     simp only [COper.lateable,Bool.and_eq_true,Bool.not_eq_true'] at hl
     rcases h2 with ⟨_,hv⟩ | ⟨_,_,h2⟩
     ·rcases hv with ⟨f,args,hcall,_⟩ | ⟨n1,hn1,hq⟩
      ·rw [hcall] at hl;simp [COp.creates] at hl
      ·simp only [qstepK,Option.ite_none_right_eq_some] at hq
       have:=qop_none hl.2 hq.2
       subst this
       exact hne hn1
     ·exact hne h2
    | false =>
     have hcp:(csP cs q)[j]? = some nullOp:=by rw [csP_get,hcj];simp [hqj]
     obtain ⟨r',no',h1,h2⟩:=hDT.get j _ hcp
     rw [hj] at h1;simp only [Option.some.injEq,Prod.mk.injEq] at h1
     obtain ⟨rfl,rfl⟩:=h1
     rcases h2 with ⟨_,hv⟩ | ⟨_,_,h2⟩
     ·rcases hv with ⟨f,args,hcall,_⟩ | ⟨n1,hn1,hq⟩
      ·cases hcall
      ·simp only [qstepK,Option.ite_none_right_eq_some] at hq
       have:=qop_none rfl hq.2
       subst this
       exact hne hn1
     ·exact hne h2
  unfold stX at hs
  rw [e2] at hs
  obtain ⟨hd,L,g,hs1,ht⟩:=hs
  refine ⟨hd,L,g,?_,fun t h=>?_⟩
  ·show a.tmps.size=(mask cs q X (foldPut tmps0 (csP cs q) tr)).length
   rw [mask_len,foldPut_len];rw [hs1,tX_len]
  ·have h':t<tmps0.length:=by
    have:t<(mask cs q X (foldPut tmps0 (csP cs q) tr)).length:=h
    rw [mask_len,foldPut_len] at this;exact this
   show VR w L _ ((mask cs q X (foldPut tmps0 (csP cs q) tr))[t]'h) _
   have hm:(mask cs q X (foldPut tmps0 (csP cs q) tr))[t]'h=(mask cs q X (foldPut tmps0 (csP cs q) tr)).getD t .junk:=by
    rw [List.getD_eq_getElem?_getD,List.getElem?_eq_getElem h];rfl
   rw [hm]
   by_cases hp:∃ j,q j=true/\(cs[j]?).bind (·.dst)=some t/\X j=false
   ·obtain ⟨j,h1,h2,h3⟩:=hp
    rw [mask_junk h1 h2 h3];exact .junk _
   ·have hall:∀ j,q j=true->(cs[j]?).bind (·.dst)=some t->X j=true:=by
     intro j h1 h2
     cases h3:X j with
     | true=>rfl
     | false=>exact absurd ⟨j,h1,h2,h3⟩ hp
    rw [mask_get hall]
    have h1:=foldPut_look (tr:=tr) hdis (by rw [htl,hpl]) cs.length (by omega) t h'
    have e3:(csP cs q).take cs.length=csP cs q:=List.take_of_length_le (by omega)
    have e4:tr.take cs.length=tr:=List.take_of_length_le (by omega)
    rw [e3,e4] at h1
    rw [h1]
    have h2:=ht t (by show t<(tX tmps0 (csP cs q) tr X).length;rw [tX_len];exact h')
    have h3:(tX tmps0 (csP cs q) tr X)[t]'(by rw [tX_len];exact h')=look tmps0 (csP cs q) tr X t:=by
     rw [<-tX_get h',List.getD_eq_getElem?_getD,List.getElem?_eq_getElem (by rw [tX_len];exact h')];rfl
    have h4:VR w L (objs0++tr.flatMap (·.2)) (look tmps0 (csP cs q) tr X t) (a.tmps.getD t undef):=by rw [<-h3];exact h2
    have h5:look tmps0 (csP cs q) tr (fun j=>decide (j<cs.length)) t=look tmps0 (csP cs q) tr X t:=by
     refine look_congr fun j hj=>?_
     obtain ⟨hqj,hjd⟩:=csP_dst hj
     rw [hall j hqj hjd]
     have:j<cs.length:=by
      rcases Nat.lt_or_ge j cs.length with h | h
      ·exact h
      ·rw [List.getElem?_eq_none h] at hjd;cases hjd
     simp [this]
    rw [h5];exact h4
 have stepQ:∀ (X:Nat->Bool) (i:Nat),i<ops.size->q i=false->closedX ops.toList (fun j=>X j=true)->(∀ k,((waits ops.toList).getD i 0).testBit k=true->X k=true)->X i=false ->
  ∀ (Rn:St->Prop) (st:St) (a:Act) (w:World) (T:Act->World->Prop),Sim F0 w0 ⟨mask cs q X st.tmps,st.objs⟩ a w->RG P (cs.getD i default) (fun s=>LatesOk s (latesOf cs (waits ops.toList) q i)/\Rn s) st ->
  (∀ st' a' w',Sim F0 w0 ⟨mask cs q (fun j=>if j=i then true else X j) st'.tmps,st'.objs⟩ a' w'->Rn st' ->
   (∀ j c,cs[j]? = some c->q j=true->X j=false->c.guard=none/\LateOk st' c/\noWar cs q c j=true)->T a' w')->wpOp P ops (Lift F0 w0 fun e st=>e = .normal/\K st) i T a w:=by
  intro X i hi hqi hcl hwi hXi Rn st a w T hsim hR hT
  obtain ⟨o,c,ho,hol,hc,hco⟩:=hops i hi
  have hcd:cs.getD i default=c:=by rw [List.getD_eq_getElem?_getD,hc];rfl
  rw [hcd] at hR
  obtain ⟨hop,hdst,hguard⟩:=hcomp hco
  have hpend:∀ j cj,cs[j]? = some cj->q j=true->X j=false->cj.lateable=true/\(∀ t,c.dst=some t->cj.dst ≠ some t/\t ∉ cj.reads)/\(∀ t,cj.dst=some t->t ∉ c.reads)/\cj ∈ latesOf cs (waits ops.toList) q i/\noWar cs q cj j=true:=by
   intro j cj hcj hqj hXj
   have h1:=pq j i cj c hqj hqi hcj hc
   have hnw:((waits ops.toList).getD i 0).testBit j=false:=by
    cases hb:((waits ops.toList).getD i 0).testBit j with
    | false=>rfl
    | true=>rw [hwi j hb] at hXj;cases hXj
   have h2:=h1.2.resolve_left (by rw [hnw];simp)
   refine ⟨h2.1,h2.2.1,h2.2.2.1,?_,h2.2.2.2⟩
   unfold latesOf
   rw [List.mem_filterMap]
   refine ⟨(cj,j),List.mem_zipIdx_iff_getElem?.2 hcj,?_⟩
   simp only [hqj,hnw,Bool.not_false,Bool.and_self,if_true]
  have hread:∀ t,t ∈ c.reads->(mask cs q X st.tmps).getD t .junk=st.tmps.getD t .junk:=by
   intro t ht
   refine mask_get fun j hqj hjd=>?_
   cases hXj:X j with
   | true=>rfl
   | false =>
    obtain ⟨cj,hcj,hdj⟩:=Option.bind_eq_some_iff.1 hjd
    exact absurd ht ((hpend j cj hcj hqj hXj).2.2.1 t hdj)
  have hmask:∀ (tmps:List AV) (r:AV),St.put (mask cs q X tmps) c.dst r=mask cs q (fun j=>if j=i then true else X j) (St.put tmps c.dst r):=by
   intro tmps r
   refine getD_ext (by rw [put_len,mask_len,mask_len,put_len]) fun t ht=>?_
   rw [put_len,mask_len] at ht
   rw [put_getD (by rw [mask_len];exact ht)]
   by_cases hd:c.dst=some t
   ·rw [if_pos hd,mask_get,put_getD ht,if_pos hd]
    intro j hqj hjd
    by_cases e:j=i
    ·subst e;rw [hqi] at hqj;cases hqj
    ·simp only [e,if_false]
     cases hXj:X j with
     | true=>rfl
     | false =>
      obtain ⟨cj,hcj,hdj⟩:=Option.bind_eq_some_iff.1 hjd
      exact absurd hdj ((hpend j cj hcj hqj hXj).2.1 t hd).1
   ·rw [if_neg hd]
    by_cases hp:∃ j,q j=true/\(cs[j]?).bind (·.dst)=some t/\X j=false
    ·obtain ⟨j,h1,h2,h3⟩:=hp
     have hji:j ≠ i:=by rintro rfl;rw [hqi] at h1;cases h1
     rw [mask_junk h1 h2 h3,mask_junk (X:=fun j=>if j=i then true else X j) h1 h2 (by simp [hji,h3])]
    ·have hall:∀ j,q j=true->(cs[j]?).bind (·.dst)=some t->X j=true:=by
      intro j h1 h2
      cases h3:X j with
      | true=>rfl
      | false=>exact absurd ⟨j,h1,h2,h3⟩ hp
     rw [mask_get hall,mask_get (fun j h1 h2=>by show (if j=i then true else X j)=true;split <;> first | rfl | exact hall j h1 h2),put_getD ht,if_neg hd]
  have cont:∀ st':St,(∃ r objs',st'=⟨St.put (mask cs q X st.tmps) c.dst r,objs'⟩/\LatesOk ⟨St.put st.tmps c.dst r,objs'⟩ (latesOf cs (waits ops.toList) q i)/\Rn ⟨St.put st.tmps c.dst r,objs'⟩) ->
   ∀ a' w',Sim F0 w0 st' a' w'->T a' w':=by
   rintro st' ⟨r,objs',rfl,hL,hR'⟩ a' w' hs'
   refine hT ⟨St.put st.tmps c.dst r,objs'⟩ a' w' (by rw [<-hmask];exact hs') hR' fun j cj hcj hqj hXj=>?_
   have hp:=hpend j cj hcj hqj hXj
   have hlt:=hp.1
   simp only [COper.lateable,Bool.and_eq_true,Option.isNone_iff_eq_none] at hlt
   exact ⟨hlt.1.1,hL.mem cj hp.2.2.2.1,hp.2.2.2.2⟩
  have hRs:∀ b,Region.wanted o (yielded ops a.tmps)=b->(b=true->Rstep P c (fun s=>LatesOk s (latesOf cs (waits ops.toList) q i)/\Rn s) st) ->
   (b=false->LatesOk ⟨St.put st.tmps c.dst nov,st.objs⟩ (latesOf cs (waits ops.toList) q i)/\Rn ⟨St.put st.tmps c.dst nov,st.objs⟩) ->
   wpOp P ops (Lift F0 w0 fun e st=>e = .normal/\K st) i T a w:=by
   intro b hb h1 h2
   unfold wpOp
   simp only [ho,hb]
   cases b with
   | true =>
    rw [if_pos rfl]
    have hcg:=Rstep.congr (t2:=mask cs q X st.tmps) (ev_eq fun t ht=>(hread t (mem_reads ht)).symm) (h1 rfl)
    exact .inl (rstep_ok (P:=P) (c:=c) hop hdst hsim hcg fun st' a' w' hK hs=>cont st' (by
     obtain ⟨r,objs',he,hl,hr⟩:=hK
     exact ⟨r,objs',he,hl,hr⟩) a' w' hs)
   | false =>
    rw [if_neg (by simp)]
    obtain ⟨hL,hR'⟩:=h2 rfl
    refine cont _ ⟨nov,st.objs,rfl,hL,hR'⟩ _ _ ?_
    obtain ⟨hd,L,g,hs,ht⟩:=hsim
    rw [hdst]
    exact sim_put (st:=⟨mask cs q X st.tmps,st.objs⟩) hd hs ht g (.refl _ _ _) _ (.tree (.val _))
  simp only [RG] at hR
  rcases hguard with ⟨hg,hcg⟩ | ⟨j,want,t,hg,htt,hcg⟩
  ·rw [hcg] at hR
   exact hRs true (by unfold Region.wanted;rw [hg]) (fun _=>hR) (fun h=>by cases h)
  ·rw [hcg] at hR
   simp only at hR
   split at hR
   ·rename_i b hb
    have hbm:gdB ((mask cs q X st.tmps).getD t .junk)=some b:=by rw [hread t (by simp [COper.reads,hcg])];exact hb
    have hbv:boolOf (a.tmps.getD t undef)=b:=by
     obtain ⟨hd,L,g,hs,ht⟩:=hsim
     exact gdB_ok (ev_ok (objs:=st.objs) (tmps:=mask cs q X st.tmps) g.gl hs ht (.tmp t)) hbm
    have hw:=wanted_of hg htt hbv
    by_cases e:b=some want
    ·subst e
     exact hRs true (by rw [hw];simp) (fun _=>hR.1 rfl) (fun h=>by cases h)
    ·exact hRs false (by rw [hw];simpa using e) (fun h=>by cases h) (fun _=>hR.2 e)
   ·exact hR.elim
 have stepL:∀ (X:Nat->Bool) (i:Nat),i<ops.size->q i=true->X i=false->closedX ops.toList (fun j=>X j=true)->(∀ k,((waits ops.toList).getD i 0).testBit k=true->X k=true) ->
  ∀ (st:St) (a:Act) (w:World) (T:Act->World->Prop),Sim F0 w0 ⟨mask cs q X st.tmps,st.objs⟩ a w->(∀ c,cs[i]? = some c->c.guard=none/\LateOk st c/\noWar cs q c i=true) ->
  (∀ a' w',Sim F0 w0 ⟨mask cs q (fun j=>if j=i then true else X j) st.tmps,st.objs⟩ a' w'->T a' w')->wpOp P ops (Lift F0 w0 fun e st=>e = .normal/\K st) i T a w:=by
  intro X i hi hqi hXi hcl hwi st a w T hsim hlate hT
  obtain ⟨o,c,ho,hol,hc,hco⟩:=hops i hi
  obtain ⟨hop,hdst,hguard⟩:=hcomp hco
  obtain ⟨hgn,⟨d,hcd,hq⟩,hnw⟩:=hlate c hc
  have hwj:=(hwaits X hcl).2
  have hread:∀ t,t ∈ c.reads->(mask cs q X st.tmps).getD t .junk=st.tmps.getD t .junk:=by
   intro t ht
   refine mask_get fun j hqj hjd=>?_
   cases hXj:X j with
   | true=>rfl
   | false =>
    exfalso
    obtain ⟨cj,hcj,hdj⟩:=Option.bind_eq_some_iff.1 hjd
    by_cases hji:j<i
    ·have:=(pp i j t c cj (by omega) hqi hqj hc hcj hdj).2 ht
     rw [if_pos hji] at this
     rw [hwi j this] at hXj;cases hXj
    ·have:=List.all_eq_true.1 hnw j (by rw [List.mem_range];exact hlt_of hcj)
     rw [hcj] at this
     simp only [Option.bind_some,hdj,hqj,Bool.not_true,Bool.or_false,Bool.or_eq_true,decide_eq_true_eq,hji,false_or,Bool.not_eq_true'] at this
     simp at this;exact this ht
  have hq2:qstep st.objs (St.ev (mask cs q X st.tmps)) 0 c.op=some (st.tmps.getD d .junk,none):=by
   rw [<-hq];exact qstep_congr _ (ev_eq fun t ht=>hread t (mem_reads ht))
  have hw:Region.wanted o (yielded ops a.tmps)=true:=by
   rcases hguard with ⟨hg,_⟩ | ⟨j,want,t,hg,htt,hcg⟩
   ·unfold Region.wanted;rw [hg]
   ·rw [hgn] at hcg;cases hcg
  obtain ⟨hd,L,g,hs,ht⟩:=hsim
  have he:=ev_ok (objs:=st.objs) (tmps:=mask cs q X st.tmps) g.gl hs ht
  obtain ⟨v,w',L',hr,hg,hl,hvr⟩:=qstep_ok (P:=P) hop g (fun _ _ _ _ _ h=>h) he (no:=none) (by simp) hq2
  unfold wpOp
  simp only [ho,hw,if_true]
  refine .inl ?_
  unfold Oper.wp
  rw [hr,Oper.upon_value]
  refine hT _ _ ?_
  have h1:=sim_put (st:=⟨mask cs q X st.tmps,st.objs⟩) hd hs ht hg hl o.dst hvr
  have h2:St.put (mask cs q X st.tmps) o.dst (st.tmps.getD d .junk)=mask cs q (fun j=>if j=i then true else X j) st.tmps:=by
   rw [hdst,hcd]
   refine getD_ext (by rw [put_len,mask_len,mask_len]) fun t ht=>?_
   rw [put_len,mask_len] at ht
   rw [put_getD (by rw [mask_len];exact ht)]
   by_cases hdt:some d=some t
   ·rw [if_pos hdt]
    simp only [Option.some.injEq] at hdt
    subst hdt
    rw [mask_get]
    intro j hqj hjd
    have hji:j=i:=by
     by_cases e:j=i
     ·exact e
     ·exfalso
      obtain ⟨cj,hcj,hdj⟩:=Option.bind_eq_some_iff.1 hjd
      exact (pp j i d cj c e hqj hqi hcj hc hcd).1 hdj
    simp [hji]
   ·rw [if_neg hdt]
    have hne:c.dst ≠ some t:=by rw [hcd];exact hdt
    by_cases hp:∃ j,q j=true/\(cs[j]?).bind (·.dst)=some t/\X j=false
    ·obtain ⟨j,h1,h2,h3⟩:=hp
     have hji:j ≠ i:=by rintro rfl;rw [hc] at h2;exact hne h2
     rw [mask_junk h1 h2 h3,mask_junk (X:=fun j=>if j=i then true else X j) h1 h2 (by simp [hji,h3])]
    ·have hall:∀ j,q j=true->(cs[j]?).bind (·.dst)=some t->X j=true:=by
      intro j h1 h2
      cases h3:X j with
      | true=>rfl
      | false=>exact absurd ⟨j,h1,h2,h3⟩ hp
     rw [mask_get hall,mask_get (fun j h1 h2=>by show (if j=i then true else X j)=true;split <;> first | rfl | exact hall j h1 h2)]
  simp only [putO] at h1
  rw [h2] at h1
  exact h1
 have hend:∀ (listed:Array Bool) (a:Act) (w:World),(∀ j,j<ops.size->listed.getD j false=true) ->
  (((∀ j,q j=false->listed.getD j false=false)/\Sim F0 w0 (stX tmps0 objs0 (csP cs q) tr fun j=>listed.getD j false) a w) \/
   ∃ rem st,rem.Nodup/\(∀ j,j ∈ rem ↔ j<ops.size/\q j=false/\listed.getD j false=false) /\
    Sim F0 w0 ⟨mask cs q (fun j=>listed.getD j false) st.tmps,st.objs⟩ a w/\RT P (treeL (waits ops.toList) cs q rem.length rem) K st /\
    ∀ j c,cs[j]? = some c->q j=true->listed.getD j false=false->c.guard=none/\LateOk st c/\noWar cs q c j=true) ->
  Lift F0 w0 (fun e st=>e = .normal/\K st) .normal a w:=by
  intro listed a w hall hinv
  have hnomask:∀ tmps:List AV,mask cs q (fun j=>listed.getD j false) tmps=tmps:=by
   intro tmps
   refine getD_ext (by rw [mask_len]) fun t ht=>?_
   refine mask_get fun j _ hjd=>hall j ?_
   rcases Nat.lt_or_ge j cs.length with h | h
   ·omega
   ·rw [List.getElem?_eq_none h] at hjd;cases hjd
  rcases hinv with ⟨hnone,hsim⟩ | ⟨rem,st,_,hrem,hsim,hRk,_⟩
  ·have hs:=toB _ a w (fun j c hc _ hX=>by rw [hall j (by have:=hlt_of hc;omega)] at hX;cases hX) hsim
   rw [hnomask] at hs
   have hnil:secs cs q=[]:=by
    rw [List.eq_nil_iff_forall_not_mem]
    intro j hj
    obtain ⟨h1,h2⟩:=mem_secs.1 hj
    have:=hnone j h2
    rw [hall j (by omega)] at this;cases this
   rw [hnil] at hK
   exact ⟨_,⟨rfl,hK⟩,hs⟩
  ·rw [hnomask] at hsim
   have hnil:rem=[]:=by
    rw [List.eq_nil_iff_forall_not_mem]
    intro j hj
    obtain ⟨h1,h2,h3⟩:=(hrem j).1 hj
    rw [hall j h1] at h3;cases h3
   rw [hnil] at hRk
   exact ⟨st,⟨rfl,hRk⟩,hsim⟩
 have alldone:∀ (listed:Array Bool),listed.size=ops.size->Region.ready .any ops listed=[]->∀ j,j<ops.size->listed.getD j false=true:=by
  intro listed hls hr j
  induction j using Nat.strongRecOn with
  | _ j ih =>
   intro hj
   cases hX:listed.getD j false with
   | true=>rfl
   | false =>
    exfalso
    obtain ⟨o,c,ho,hol,_⟩:=hops j hj
    have hmem:j ∈ Region.ready .any ops listed:=by
     rw [mem_ready]
     refine ⟨?_,o,ho,fun e he hb=>?_⟩
     ·rw [Array.getD_eq_getD_getElem?,Array.getElem?_eq_getElem (by omega)] at hX ⊢;exact hX
     ·have hzi:(o,j) ∈ ops.toList.zipIdx:=List.mem_zipIdx_iff_getElem?.2 hol
      have:=hedge (o,j) hzi
      rw [Array.all_eq_true'] at this
      have:=this e he
      rw [hb] at this
      have hlt:e.on<j:=by simpa using this
      exact ih e.on hlt (by omega)
    rw [hr] at hmem;cases hmem
 intro fuel
 induction fuel with
 | zero =>
  intro listed a w R hls hR hRl hcl hinv
  have hall:∀ j,j<ops.size->listed.getD j false=true:=by
   intro j hj
   cases hX:listed.getD j false with
   | true=>rfl
   | false =>
    have:=hR j hj hX
    have hnil:R=[]:=List.eq_nil_of_length_eq_zero (by omega)
    rw [hnil] at this;cases this
  have hrd:Region.ready .any ops listed=[]:=by
   rw [List.eq_nil_iff_forall_not_mem]
   intro j hj
   rw [mem_ready] at hj
   obtain ⟨h1,o,ho,_⟩:=hj
   have hlt:j<ops.size:=(Array.getElem?_eq_some_iff.1 ho).1
   have:=hall j hlt
   rw [Array.getD_eq_getD_getElem?,Array.getElem?_eq_getElem (by omega)] at h1 this
   simp only [Option.getD_some] at h1 this
   rw [this] at h1;cases h1
  exact ⟨hrd,hend listed a w hall hinv⟩
 | succ fuel ih =>
  intro listed a w R hls hR hRl hcl hinv
  refine ⟨fun hrd=>hend listed a w (alldone listed hls hrd) hinv,fun i hi=>?_⟩
  rw [mem_ready] at hi
  obtain ⟨h1,o,ho,hed⟩:=hi
  have hlt:i<ops.size:=(Array.getElem?_eq_some_iff.1 ho).1
  have hXi:listed.getD i false=false:=by
   rw [Array.getD_eq_getD_getElem?,Array.getElem?_eq_getElem (by omega)] at h1 ⊢;exact h1
  obtain ⟨o',c,ho',hol,hc,hco⟩:=hops i hlt
  rw [ho] at ho';simp only [Option.some.injEq] at ho';subst ho'
  have hiR:=hR i hlt hXi
  have hset:∀ j,(listed.setIfInBounds i true).getD j false=if j=i then true else listed.getD j false:=by
   intro j
   by_cases e:j=i
   ·subst e
    rw [if_pos rfl,Array.getD_eq_getD_getElem?,Array.getElem?_setIfInBounds_self_of_lt (by omega)];rfl
   ·rw [if_neg e];exact getD_set_ne false (Ne.symm e)
  have hfun:(fun j=>(listed.setIfInBounds i true).getD j false)=fun j=>if j=i then true else listed.getD j false:=funext hset
  have hwi:∀ k,((waits ops.toList).getD i 0).testBit k=true->listed.getD k false=true:=(hwaits (fun j=>listed.getD j false) hcl).1 i o hol (fun e he hb=>hed e (by simpa using he) hb)
  have next:∀ a' w',(((∀ j,q j=false->(listed.setIfInBounds i true).getD j false=false)/\Sim F0 w0 (stX tmps0 objs0 (csP cs q) tr fun j=>(listed.setIfInBounds i true).getD j false) a' w') \/
   ∃ rem st,rem.Nodup/\(∀ j,j ∈ rem ↔ j<ops.size/\q j=false/\(listed.setIfInBounds i true).getD j false=false) /\
    Sim F0 w0 ⟨mask cs q (fun j=>(listed.setIfInBounds i true).getD j false) st.tmps,st.objs⟩ a' w'/\RT P (treeL (waits ops.toList) cs q rem.length rem) K st /\
    ∀ j c,cs[j]? = some c->q j=true->(listed.setIfInBounds i true).getD j false=false->c.guard=none/\LateOk st c/\noWar cs q c j=true) ->
   wpAny P .any ops (Lift F0 w0 fun e st=>e = .normal/\K st) fuel (listed.setIfInBounds i true) a' w':=by
   intro a' w' hinv'
   refine ih _ a' w' (R.erase i) (by simp [hls]) (fun j hj hXj=>?_) (by rw [List.length_erase_of_mem hiR];omega) (fun j oj hoj hXj e he hb=>?_) hinv'
   ·rw [hset] at hXj
    have hne:j ≠ i:=by rintro rfl;simp at hXj
    rw [if_neg hne] at hXj
    exact (List.mem_erase_of_ne hne).2 (hR j hj hXj)
   ·show (listed.setIfInBounds i true).getD e.on false=true
    have hXj:(listed.setIfInBounds i true).getD j false=true:=hXj
    rw [hset] at hXj ⊢
    by_cases e1:e.on=i
    ·rw [if_pos e1]
    ·rw [if_neg e1]
     by_cases e2:j=i
     ·subst e2
      rw [hol] at hoj;simp only [Option.some.injEq] at hoj;subst hoj
      exact hed e (by simpa using he) hb
     ·rw [if_neg e2] at hXj;exact hcl j oj hoj hXj e he hb
  have hfreeR:∀ rem:List Nat,(∀ j,j ∈ rem->j<ops.size/\q j=false/\listed.getD j false=false)->freeIn (waits ops.toList) rem i=true:=by
   intro rem hrem
   unfold freeIn
   rw [List.all_eq_true]
   intro j hj
   by_cases e:j=i
   ·simp [e]
   ·have hb:((waits ops.toList).getD i 0).testBit j=false:=by
     cases hb:((waits ops.toList).getD i 0).testBit j with
     | false=>rfl
     | true =>
      have h2:=hwi j hb
      rw [(hrem j hj).2.2] at h2;cases h2
    rw [hb];simp
  have takeR:∀ (rem:List Nat) (st:St),rem.Nodup->(∀ j,j ∈ rem ↔ j<ops.size/\q j=false/\listed.getD j false=false)->q i=false->RT P (treeL (waits ops.toList) cs q rem.length rem) K st ->
   RG P (cs.getD i default) (fun s=>LatesOk s (latesOf cs (waits ops.toList) q i)/\RT P (treeL (waits ops.toList) cs q (rem.erase i).length (rem.erase i)) K s) st/\(rem.erase i).Nodup/\∀ j,j ∈ rem.erase i ↔ j<ops.size/\q j=false/\(listed.setIfInBounds i true).getD j false=false:=by
   intro rem st hnd hrem hqi hRk
   have hir:i ∈ rem:=(hrem i).2 ⟨hlt,hqi,hXi⟩
   have hlen1:rem.length=(rem.erase i).length+1:=by
    rw [List.length_erase_of_mem hir]
    have:=List.length_pos_of_mem hir
    omega
   rw [hlen1] at hRk
   refine ⟨RT_mem (P:=P) (K:=K) (st:=st) (g:=fun i=>treeL (waits ops.toList) cs q (rem.erase i).length (rem.erase i)) (h:=fun i=>cs.getD i default) (ls:=fun i=>latesOf cs (waits ops.toList) q i) (rem.filter (freeIn (waits ops.toList) rem)) ?_ i (List.mem_filter.2 ⟨hir,hfreeR rem fun j hj=>(hrem j).1 hj⟩),hnd.erase i,fun j=>?_⟩
   ·have hsame:∀ (l:List Nat),(∀ x ∈ l,x ∈ rem)->l.foldr (fun i t=>PT.alt (cs.getD i default) (latesOf cs (waits ops.toList) q i) (treeL (waits ops.toList) cs q (rem.erase i).length (rem.erase i)) t) PT.stop=l.foldr (fun x t=>PT.alt (cs.getD x default) (latesOf cs (waits ops.toList) q x) (treeL (waits ops.toList) cs q (rem.erase i).length (rem.erase x)) t) PT.stop:=by
     intro l
     induction l with
     | nil=>exact fun _=>rfl
     | cons x l ih =>
      intro hl
      rw [List.foldr_cons,List.foldr_cons,ih (fun y hy=>hl y (by simp [hy]))]
      have e:(rem.erase x).length=(rem.erase i).length:=by rw [List.length_erase_of_mem (hl x (by simp)),List.length_erase_of_mem hir]
      rw [e]
    rw [hsame _ fun x hx=>(List.mem_filter.1 hx).1]
    exact hRk
   ·rw [hnd.mem_erase_iff,hrem,hset]
    by_cases e:j=i
    ·simp [e]
    ·simp [e]
  rcases hinv with ⟨hnone,hsim⟩ | ⟨rem,st,hnd,hrem,hsim,hRk,hlt2⟩
  ·by_cases hqi:q i=true
   ·refine stepA (fun j=>listed.getD j false) i hlt hqi hXi hcl (fun oi hoi e he hb=>?_) a w _ hsim fun a' w' hs=>next a' w' (.inl ⟨fun j hj=>?_,?_⟩)
    ·rw [hol] at hoi;simp only [Option.some.injEq] at hoi;subst hoi
     exact hed e (by simpa using he) hb
    ·rw [hset,if_neg (by rintro rfl;rw [hqi] at hj;cases hj)];exact hnone j hj
    ·rw [hfun];exact hs
   ·have hqi:q i=false:=by simpa using hqi
    have hs:=toB (fun j=>listed.getD j false) a w (fun j cj hcj hqj hXj=>by
     have h1:=(pq j i cj c hqj hqi hcj hc).2
     exact (h1.resolve_left (by
      intro hb
      have h2:listed.getD j false=true:=hwi j hb
      have hXj:listed.getD j false=false:=hXj
      rw [h2] at hXj;cases hXj)).1) hsim
    obtain ⟨hK',hnd',hrem'⟩:=takeR (secs cs q) _ secs_nodup (fun j=>by
     rw [mem_secs,hlen']
     exact ⟨fun h=>⟨h.1,h.2,hnone j h.2⟩,fun h=>⟨h.1,h.2.1⟩⟩) hqi hK
    refine stepQ (fun j=>listed.getD j false) i hlt hqi hcl hwi hXi _ _ a w _ hs hK' fun st' a' w' hs' hR' hl'=>next a' w' (.inr ⟨_,st',hnd',hrem',?_,hR',fun j cj hcj hqj hXj=>?_⟩)
    ·rw [hfun];exact hs'
    ·rw [hset] at hXj
     split at hXj
     ·cases hXj
     ·exact hl' j cj hcj hqj hXj
  ·by_cases hqi:q i=true
   ·refine stepL (fun j=>listed.getD j false) i hlt hqi hXi hcl hwi st a w _ hsim (fun c' hc'=>hlt2 i c' hc' hqi hXi) fun a' w' hs=>next a' w' (.inr ⟨rem,st,hnd,fun j=>?_,?_,hRk,fun j cj hcj hqj hXj=>?_⟩)
    ·rw [hrem,hset]
     by_cases e:j=i
     ·subst e;simp [hqi]
     ·simp [e]
    ·rw [hfun];exact hs
    ·rw [hset] at hXj
     split at hXj
     ·cases hXj
     ·exact hlt2 j cj hcj hqj hXj
   ·have hqi:q i=false:=by simpa using hqi
    obtain ⟨hK',hnd',hrem'⟩:=takeR rem st hnd hrem hqi hRk
    refine stepQ (fun j=>listed.getD j false) i hlt hqi hcl hwi hXi _ st a w _ hsim hK' fun st' a' w' hs' hR' hl'=>next a' w' (.inr ⟨_,st',hnd',hrem',?_,hR',fun j cj hcj hqj hXj=>?_⟩)
    ·rw [hfun];exact hs'
    ·rw [hset] at hXj
     split at hXj
     ·cases hXj
     ·exact hl' j cj hcj hqj hXj
theorem any_drawnL {ops:Array Oper} {cs:List COper} {q:Nat->Bool} (hcs:CompD P ops cs) (hchk:dcheckL ops.toList cs q=true)
 {K:St->Prop} {st:St} {a:Act} {w:World} (hsim:Sim F0 w0 st a w) (h:Qops P st.objs (csP cs q) (fun tmps cr=>RT P (treeL (waits ops.toList) cs q (secs cs q).length (secs cs q)) K ⟨tmps,st.objs++cr⟩) st.tmps []) :
 wpAny P .any ops (Lift F0 w0 fun e st=>e = .normal/\K st) ops.size (Array.replicate ops.size false) a { w with drawn:=w.drawn+1 }:=by
 obtain ⟨tr,hDT,hK⟩:=qops_trace _ _ _ h
 simp only [List.length_nil,Nat.add_zero,List.nil_append] at hDT hK
 have hf:∀ j,(Array.replicate ops.size false).getD j false=false:=by
  intro j;rw [Array.getD_eq_getD_getElem?,Array.getElem?_replicate];split <;> rfl
 refine (drawnL_ok hcs hchk hDT hK ops.size _ a _ (List.range ops.size) (by simp) (fun j hj _=>by simpa using hj) (by simp) (fun i o ho (hX:(Array.replicate ops.size false).getD i false=true)=>by rw [hf] at hX;cases hX) (.inl ⟨fun j _=>hf j,?_⟩))
 have hx:Ext w { w with drawn:=w.drawn+1 }:=Ext.drewN w 1
 obtain ⟨hd,L,g,hs,ht⟩:=hsim
 have e1:tX st.tmps (csP cs q) tr (fun j=>(Array.replicate ops.size false).getD j false)=st.tmps:=by
  refine getD_ext (by rw [tX_len]) fun t ht=>?_
  rw [tX_len] at ht
  rw [tX_get ht]
  unfold look
  rw [List.find?_eq_none.2 (fun j _=>by simp only [hf];simp)]
 have e2:objsOf (fun j=>(Array.replicate ops.size false).getD j false) 0 tr=List.replicate (tr.flatMap (·.2)).length .void:=objsOf_none tr 0 fun j _=>by rw [Nat.zero_add];exact hf j
 unfold stX
 rw [e1,e2]
 have voids:∀ n,∃ hg:Good F0 w0 { w with drawn:=w.drawn+1 } L (st.objs++List.replicate n .void),Later w L st.objs { w with drawn:=w.drawn+1 } L (st.objs++List.replicate n .void):=by
  intro n
  induction n with
  | zero=>simp only [List.replicate_zero,List.append_nil];exact ⟨g.ext' hx,.ext _ _ hx⟩
  | succ n ih =>
   obtain ⟨h1,h2⟩:=ih
   obtain ⟨h3,h4⟩:=good_void h1
   rw [List.replicate_succ',<-List.append_assoc]
   exact ⟨h3,h2.trans h4⟩
 obtain ⟨hg,hl⟩:=voids (tr.flatMap (·.2)).length
 exact ⟨hd,L,hg,hs,fun t h=>(ht t h).stay hl⟩
end Dak
namespace Dak
open Go Go.RowKit
variable [Globs]
variable {P : Program} {F0 : FD} {w0 w : World} {L : Lay} {objs objs0 : List AObj} {nid : Nat}
abbrev Wf (r:Option Nat):Fence:={ Fence.wide with round:=r }
theorem callsIn_Wf {r:Option Nat} {n:Nat} {f:FuncId} {args:Array Value} {w:World} {R:Ending->World->Prop} (h:Calls P f args w R):CallsIn (Wf r) n P f args w R:=by
 show CallsIn Fence.wide n P f args w R
 exact callsIn_wide.2 h
theorem rowsIn_Wf {r:Option Nat} {n:Nat} {row:String} {args:Array Value} {w:World} {R:Value->World->Prop} (h:Rows P row args w R):RowsIn (Wf r) n P row args w R :=
 fun c cs _=>let ⟨v,w',hr,hs⟩:=h c cs;⟨v,w',hr,(stepsIn_wide (P:=P)).2 hs⟩
theorem oper_in {r:Option Nat} {n:Nat} {o:Oper} {a:Act} {next:Act->World->Prop} {Q:Exit->Act->World->Prop} (hd:∀ c,o.op ≠ Op.defer c) (h:o.wp P a w next Q):o.wpIn (Wf r) n P a w next Q:=by
 refine ⟨fun _ _=>trivial,?_⟩
 show o.uponIn (Wf r) n P a next Q ((o.semAt r a.eval).run P w)
 rw [Oper.semAt_eq r _ _ hd]
 unfold Oper.wp at h
 generalize (execOp a.eval o).run P w=res at *
 cases res with
 | ok x w' =>
  cases x <;> simp only [Oper.upon,Oper.uponIn] at h ⊢ <;>
   first
    | exact h
    | exact ⟨fun hh=>by simp [Fence.wide] at hh,callsIn_Wf h⟩
    | exact ⟨fun hh=>by simp [Fence.wide] at hh,rowsIn_Wf h⟩
    | exact h.elim
 | halt x w'=>cases x <;> simp only [Oper.upon,Oper.uponIn] at h ⊢ <;> exact h
theorem ops_in {r:Option Nat} {n:Nat} {ops:Array Oper} {Q:Exit->Act->World->Prop} (hd:∀ (i:Nat) (o:Oper),ops[i]? = some o->∀ c,o.op ≠ Op.defer c) (hQ:¬ LetsOut Q):∀ (l:List Nat) (a:Act) (w:World),wpOps P ops Q l a w->wpOpsIn (Wf r) n P ops Q l a w
 | [],a,w,h=>h
 | i::l,a,w,h=>by
  simp only [wpOps] at h
  simp only [wpOpsIn]
  cases ho:ops[i]? with
  | none=>rw [ho] at h;exact ops_in hd hQ l a w h
  | some o =>
   rw [ho] at h
   simp only at h ⊢
   split
   ·rename_i hw
    rw [if_pos hw] at h
    exact oper_in (hd i o ho) (Oper.wp_mono (fun a w=>ops_in hd hQ l a w) (h.resolve_right fun hh=>hQ hh.2))
   ·rename_i hw
    rw [if_neg hw] at h
    exact ⟨fun _ _=>trivial,ops_in hd hQ l _ w h⟩
theorem any_in {r:Option Nat} {n:Nat} {ops:Array Oper} {Q:Exit->Act->World->Prop} (hd:∀ (i:Nat) (o:Oper),ops[i]? = some o->∀ c,o.op ≠ Op.defer c) (hQ:¬ LetsOut Q):∀ (fuel:Nat) (listed:Array Bool) (a:Act) (w:World),wpAny P .any ops Q fuel listed a w->wpAnyIn (Wf r) n P .any ops Q fuel listed a w
 | 0,listed,a,w,h=>h
 | fuel+1,listed,a,w,h=>by
  refine ⟨h.1,fun i hi=>?_⟩
  have h2:=h.2 i hi
  unfold wpOp at h2
  unfold wpOpIn
  cases ho:ops[i]? with
  | none=>rw [ho] at h2;exact any_in hd hQ fuel _ a w h2
  | some o =>
   rw [ho] at h2
   simp only at h2 ⊢
   split
   ·rename_i hw
    rw [if_pos hw] at h2
    exact oper_in (hd i o ho) (Oper.wp_mono (fun a w=>any_in hd hQ fuel _ a w) (h2.resolve_right fun hh=>hQ hh.2))
   ·rename_i hw
    rw [if_neg hw] at h2
    exact ⟨fun _ _=>trivial,any_in hd hQ fuel _ _ w h2⟩
theorem lift_in {K:St->Prop}:¬ LetsOut (Lift F0 w0 fun e st=>e = .normal/\K st):=by
 rintro ⟨_,_,_,⟨h,_⟩,_⟩;cases h
theorem calm_of {ops:Array Oper} {cs:List COper} (h:ops.toList.mapM (compO P ops)=some cs):∀ (i:Nat) (o:Oper),ops[i]? = some o->∀ c,o.op ≠ Op.defer c:=by
 intro i o ho
 obtain ⟨_,hget⟩:=mapM_get _ _ _ h
 obtain ⟨c,hc,_⟩:=hget i o (by rw [Array.getElem?_toList];exact ho)
 simp only [compO,Option.bind_eq_some_iff] at hc
 obtain ⟨op,hop,_⟩:=hc
 exact compB_calm hop
section
variable {r : Option Nat} {b : Frame} {a : Act} {k : List Item} {cs : List Frame}
theorem stepR_scope {c:Code}:step P (lone (b.atR a (.code (.scope c)::k)) cs w) = .next (lone (b.atR a (.code c::.inScope c::k)) cs w) :=
 step_lone_go (by simp [stepG,stepG.exec,Frame.atR])
theorem stepR_inScope {c:Code}:step P (lone (b.atR a (.inScope c::k)) cs w) = .next (lone (b.atR a k) cs w) :=
 step_lone_go (by simp [stepG,stepG.exec,Frame.atR])
end
theorem wpIn_scope_straight {F:Fence} {n:Nat} {c:Code} {Q:Exit->Act->World->Prop} {a:Act} (h:c.wpIn F n P (Exit.noGoto Q) a w):(Code.scope c).wpIn F n P Q a w:=by
 intro b k cs hro hb hr
 have h0:(lone (b.atR a (.code (.scope c)::k)) cs w).fenced P F:=fenced_calm hb hr rfl
 obtain ⟨e,a₁,w₁,hq,harr⟩:=h b (.inScope c::k) cs hro hb hr
 cases e with
 | normal=>exact ⟨.normal,a₁,w₁,hq,.head h0 stepR_scope (StepsIn.trans harr (.one (fenced_calm hb hr rfl) stepR_inScope))⟩
 | exit id =>
  have hx:exitTo id (.inScope c::k)=exitTo id k:=by simp [exitTo]
  exact ⟨.exit id,a₁,w₁,hq,fun k' hk=>.head h0 stepR_scope (harr.1 k' (by rw [hx];exact hk)),
   fun hr' hk=>let ⟨k₁,h1,h2⟩:=harr.2 hr' (by rw [hx];exact hk);⟨k₁,h1,.head h0 stepR_scope h2⟩⟩
 | goto l=>exact hq.elim
 | ret=>exact ⟨_,a₁,w₁,hq,.of_steps (.one h0 stepR_scope) harr⟩
 | panic ch=>exact ⟨_,a₁,w₁,hq,.of_steps (.one h0 stepR_scope) harr⟩
 | outgrown=>exact ⟨_,a₁,w₁,hq,.of_steps (.one h0 stepR_scope) harr⟩
theorem region_drawn_in {r:Option Nat} {n:Nat} {ops:Array Oper} {cs:List COper} {q:Nat->Bool} {id:Nat} (hd:∀ (i:Nat) (o:Oper),ops[i]? = some o->∀ c,o.op ≠ Op.defer c) (hmix:P.follows .mixedOrders=true) (hcs:CompD P ops cs) (hchk:dcheck ops.toList cs q=true)
 {K:St->Prop} {st:St} {a:Act} {w:World} (hsim:Sim F0 w0 st a w) (h:Qops P st.objs (csP cs q) (fun tmps cr=>RopsL P (restQ cs (waits ops.toList) q 0) K ⟨tmps,st.objs++cr⟩) st.tmps []) :
 (Code.region id ops true).wpIn (Wf r) n P (Lift F0 w0 fun e st=>e = .normal/\K st) a w:=wpIn_region_any hmix (any_in hd lift_in _ _ _ _ (any_drawn hcs hchk hsim h))
theorem region_drawnL_in {r:Option Nat} {n:Nat} {ops:Array Oper} {cs:List COper} {q:Nat->Bool} {id:Nat} (hd:∀ (i:Nat) (o:Oper),ops[i]? = some o->∀ c,o.op ≠ Op.defer c) (hmix:P.follows .mixedOrders=true) (hcs:CompD P ops cs) (hchk:dcheckL ops.toList cs q=true)
 {K:St->Prop} {st:St} {a:Act} {w:World} (hsim:Sim F0 w0 st a w) (h:Qops P st.objs (csP cs q) (fun tmps cr=>RT P (treeL (waits ops.toList) cs q (secs cs q).length (secs cs q)) K ⟨tmps,st.objs++cr⟩) st.tmps []) :
 (Code.region id ops true).wpIn (Wf r) n P (Lift F0 w0 fun e st=>e = .normal/\K st) a w:=wpIn_region_any hmix (any_in hd lift_in _ _ _ _ (any_drawnL hcs hchk hsim h))
theorem region_drawn_s {r:Option Nat} {n:Nat} {ops:Array Oper} {cs:List COper} {q:Nat->Bool} {id:Nat} (hmix:P.follows .mixedOrders=true) (hm:(strong ops).toList.mapM (compO P (strong ops))=some cs) (hchk:dcheck (strong ops).toList cs q=true)
 {K:St->Prop} {st:St} {a:Act} {w:World} (hsim:Sim F0 w0 st a w) (h:Qops P st.objs (csP cs q) (fun tmps cr=>RopsL P (restQ cs (waits (strong ops).toList) q 0) K ⟨tmps,st.objs++cr⟩) st.tmps []) :
 (Code.region id ops true).wpIn (Wf r) n P (Lift F0 w0 fun e st=>e = .normal/\K st) a w:=by
 refine wpIn_region_any hmix (any_in (fun i o ho c=>?_) lift_in _ _ _ _ (any_strong lift_in (fun c a w hh=>?_) ?_))
 ·obtain ⟨o',h1,h2⟩:=strong_op ho
  rw [<-h2]
  exact calm_of hm i o' h1 c
 ·obtain ⟨_,⟨hh,_⟩,_⟩:=hh
  cases hh
 ·have:=any_drawn (P:=P) (ops:=strong ops) ⟨cs,hm,.inl rfl⟩ hchk hsim h
  rwa [strong_size] at this
theorem region_cut_in {r:Option Nat} {n:Nat} {ops:Array Oper} {b:Nat} {cs1 cs:List COper} {q:Nat->Bool} {id:Nat} (hd:∀ (i:Nat) (o:Oper),ops[i]? = some o->∀ c,o.op ≠ Op.defer c) (hmix:P.follows .mixedOrders=true) (hb:b<=ops.size) (hbar:barrier ops.toList b=true) (hcs1:CompD P (ops.extract 0 b) cs1) (hchk:dcheck (ops.extract 0 b).toList cs1 q=true)
 (hcs:ops.toList.mapM (compO P ops)=some cs) {K:St->Prop} {st:St} {a:Act} {w:World} (hsim:Sim F0 w0 st a w)
 (h:Qops P st.objs (csP cs1 q) (fun tmps cr=>RopsL P (restQ cs1 (waits (ops.extract 0 b).toList) q 0) (RT P (treeT (waits ops.toList) cs (ops.size-b) (List.range' b (ops.size-b))) K) ⟨tmps,st.objs++cr⟩) st.tmps []) :
 (Code.region id ops true).wpIn (Wf r) n P (Lift F0 w0 fun e st=>e = .normal/\K st) a w:=wpIn_region_any hmix (any_in hd lift_in _ _ _ _ (any_cut hb hbar hcs1 hchk hcs hsim h))
inductive CCode where
 | skip
 | region (ops:List COper)
 | drawn (pre:List COper) (post:List (COper × List COper))
 | cut (pre:List COper) (post:List (COper × List COper)) (t:PT)
 | seq (a b:CCode)
 | cond (c:Operand) (a b:CCode)
 | block (id:Nat) (b:CCode)
 | loop (b:CCode)
 | rangeF (g:Operand) (ps:List Nat) (asg body:CCode)
 | exit (id:Nat)
 | scope (b:CCode)
 | ret
 deriving Inhabited
def quietB (how:Option Bool) (ops:List Oper) (cs:List COper):Nat->Bool :=
 let ws:=waits ops
 let loud:Nat:=cs.zipIdx.foldl (fun s p=>match p.1.op with
  | .store .. | .append .. | .copy .. | .appendZ .. | .mset ..=>s ||| 2 ^ p.2
  | .call ..=>match how with | none=>s | some any=>if (List.range cs.length).all fun j=>j == p.2 || (ws.getD p.2 0).testBit j || (ws.getD j 0).testBit p.2 || (match cs[j]? with | some c=>c.lateable && (any || match c.op with | .mov _=>true | _=>false) | none=>false) then s ||| 2 ^ p.2 else s
  | _=>s) 0
 fun i=>!(loud.testBit i) && ((waits ops).getD i 0) &&& loud == 0
abbrev quietSet:=quietB (some false)
def preOf (cs:List COper) (q:Nat->Bool):List COper:=cs.zipIdx.filterMap fun p=>if q p.2 then some p.1 else none
theorem qops_pre {K:List AV->List AObj->Prop} (q:Nat->Bool):∀ (cs:List COper) (k:Nat) (tmps:List AV) (cr:List AObj),Qops P objs0 ((cs.zipIdx k).filterMap fun p=>if q p.2 then some p.1 else none) K tmps cr ->
 Qops P objs0 ((cs.zipIdx k).map fun p=>if q p.2 then p.1 else nullOp) K tmps cr
 | [],_,_,_,h=>h
 | c::cs,k,tmps,cr,h=>by
  simp only [List.zipIdx_cons,List.filterMap_cons,List.map_cons] at h ⊢
  have ih:=qops_pre (K:=K) q cs (k+1)
  cases hq:q k with
  | false =>
   rw [hq] at h
   simp only [Bool.false_eq_true,if_false] at h ⊢
   simp only [Qops,nullOp,qstepK,COp.stores,List.all_nil,if_true,qop,St.put]
   exact ih _ _ h
  | true =>
   rw [hq] at h
   simp only [if_true] at h ⊢
   have go:∀ tmps cr,Qops P objs0 ((cs.zipIdx (k+1)).filterMap fun p=>if q p.2 then some p.1 else none) K tmps cr->Qops P objs0 ((cs.zipIdx (k+1)).map fun p=>if q p.2 then p.1 else nullOp) K tmps cr:=ih
   simp only [Qops] at h ⊢
   split at h
   ·split at h
    ·obtain ⟨r,no,h1,h2⟩:=h;exact ⟨r,no,h1,go _ _ h2⟩
    ·split at h <;> first | exact go _ _ h | exact h
   ·split at h
    ·refine ⟨fun e=>?_,fun e=>go _ _ (h.2 e)⟩
     have h1:=h.1 e
     split at h1
     ·obtain ⟨r,no,h1,h2⟩:=h1;exact ⟨r,no,h1,go _ _ h2⟩
     ·split at h1 <;> first | exact go _ _ h1 | exact h1
    ·exact h
def altOk (cs:List COper):Bool:=cs.all fun c=>match c.op with
 | .append _ _ _ (.tmp t) _=>cs.any fun d=>d.dst == some t && (match d.op with | .bslice _ _ []=>true | _=>false)
 | .append ..=>false
 | _=>true
def pickD (P:Program) (ops:Array Oper) (cs:List COper):Option (List COper × Option Bool) :=
 if dcheck ops.toList cs (quietB (some true) ops.toList cs)=true/\P.follows .mixedOrders=true then some (cs,some true) else
 if dcheck ops.toList cs (quietSet ops.toList cs)=true/\P.follows .mixedOrders=true then some (cs,some false) else
 if dcheck ops.toList (cs.map altC) (quietSet ops.toList (cs.map altC))=true/\P.follows .mixedOrders=true/\altOk cs=true then some (cs.map altC,some false) else
 if dcheck ops.toList cs (quietB none ops.toList cs)=true/\P.follows .mixedOrders=true then some (cs,none) else none
abbrev pickD2 (P:Program) (ops:Array Oper) (cs:List COper):Option (List COper × Option Bool):=pickD P ops cs
def quietL (ops:List Oper) (cs:List COper):Nat->Bool :=
 let ws:=waits ops
 let l0:Nat:=cs.zipIdx.foldl (fun s p=>match p.1.op with
  | .store .. | .append .. | .copy .. | .appendZ .. | .mset .. | .call ..=>s ||| 2 ^ p.2
  | _=>s) 0
 let l1:Nat:=cs.zipIdx.foldl (fun s p=>if p.1.op.creates && !(l0.testBit p.2) && (List.range cs.length).any (fun j=>l0.testBit j && !((ws.getD j 0).testBit p.2)) then s ||| 2 ^ p.2 else s) l0
 fun i=>!(l1.testBit i) && (ws.getD i 0) &&& l1 == 0
def pickL (P:Program) (ops:Array Oper) (cs:List COper):Option CCode :=
 if dcheckL ops.toList cs (quietL ops.toList cs)=true/\P.follows .mixedOrders=true/\(secs cs (quietL ops.toList cs)).length<=12 then
  some (.cut (preOf cs (quietL ops.toList cs)) [] (treeL (waits ops.toList) cs (quietL ops.toList cs) (secs cs (quietL ops.toList cs)).length (secs cs (quietL ops.toList cs)))) else none
theorem pickL_ok {ops:Array Oper} {cs:List COper} {c:CCode} (h:pickL P ops cs=some c):∃ q,dcheckL ops.toList cs q=true/\P.follows .mixedOrders=true/\c = .cut (preOf cs q) [] (treeL (waits ops.toList) cs q (secs cs q).length (secs cs q)):=by
 unfold pickL at h
 split at h
 ·rename_i hh
  exact ⟨_,hh.1,hh.2.1,(Option.some.inj h).symm⟩
 ·cases h
def pickCut (P:Program) (ops:Array Oper) (cs:List COper):Option CCode :=
 (List.range ops.size).reverse.findSome? fun b =>
  if barrier ops.toList b=true/\P.follows .mixedOrders=true then
   ((ops.extract 0 b).toList.mapM (compO P (ops.extract 0 b))).bind fun c1=>(pickD2 P (ops.extract 0 b) c1).map fun q =>
    .cut (preOf q.1 (quietB q.2 (ops.extract 0 b).toList q.1)) (restQ q.1 (waits (ops.extract 0 b).toList) (quietB q.2 (ops.extract 0 b).toList q.1) 0) (treeT (waits ops.toList) cs (ops.size-b) (List.range' b (ops.size-b)))
  else none
def pickS (P:Program) (ops:Array Oper):Option (List COper) :=
 ((strong ops).toList.mapM (compO P (strong ops))).bind fun cs=>if dcheck (strong ops).toList cs (quietB (some true) (strong ops).toList cs)=true/\P.follows .mixedOrders=true then some cs else none
theorem pickS_ok {ops:Array Oper} {cs:List COper} (h:pickS P ops=some cs):(strong ops).toList.mapM (compO P (strong ops))=some cs/\dcheck (strong ops).toList cs (quietB (some true) (strong ops).toList cs)=true/\P.follows .mixedOrders=true:=by
 unfold pickS at h
 simp only [Option.bind_eq_some_iff,Option.ite_none_right_eq_some,Option.some.injEq] at h
 obtain ⟨cs',h1,h2,rfl⟩:=h
 exact ⟨h1,h2⟩
def compC (P:Program):Code->Option CCode
 | .skip=>some .skip
 | .region _ ops false=>(ops.toList.mapM (compO P ops)).map .region
 | .region _ ops true=>match pickS P ops with
  | some cs=>some (.drawn (preOf cs (quietB (some true) (strong ops).toList cs)) (restQ cs (waits (strong ops).toList) (quietB (some true) (strong ops).toList cs) 0))
  | none=>(ops.toList.mapM (compO P ops)).bind fun cs=>match pickD P ops cs with
   | some q=>some (.drawn (preOf q.1 (quietB q.2 ops.toList q.1)) (restQ q.1 (waits ops.toList) (quietB q.2 ops.toList q.1) 0))
   | none=>match pickL P ops cs with
    | some c=>some c
    | none=>pickCut P ops cs
 | .seq a b=>(compC P a).bind fun a=>(compC P b).map fun b=>.seq a b
 | .cond c a b=>(compC P a).bind fun a=>(compC P b).map fun b=>.cond c a b
 | .block id b=>(compC P b).map fun b=>.block id b
 | .loop b=>(compC P b).map fun b=>.loop b
 | .exit id=>some (.exit id)
 | .scope b=>(compC P b).map fun b=>.scope b
 | .ret=>some .ret
 | .label _=>some .skip
 | .rangeFunc g ps assign body=>(compC P assign).bind fun a=>(compC P body).map fun b=>.rangeF g ps.toList a b
 | _=>none
def mark (D:Nat):Deferred:={ target:=.collected D,args:=#[] }
structure Mk (F0:FD) (w0:World) (F1:FD) (w1:World):Prop where
 F:F1.F=F0.F
 kept:Kept F0.K w0 w1
 ds:∃ Ds:List Nat,F1.ds=Ds.map mark++F0.ds/\Ds.Nodup/\(∀ b,F1.K b ↔ F0.K b \/ b ∈ Ds)/\∀ D ∈ Ds,w1.heap[D]? = some (.deferred (some []))/\¬ F0.K D/\w0.heap.size<=D
theorem Mk.refl {F0:FD} {w0:World} (h:∀ b,F0.K b->b<w0.heap.size):Mk F0 w0 F0 w0:=⟨rfl,Kept.refl h,[],rfl,List.nodup_nil,fun b=>by simp,fun D h=>by cases h⟩
theorem Mk.trans {F0 F1 F2:FD} {w0 w1 w2:World} (h:Mk F0 w0 F1 w1) (k:Mk F1 w1 F2 w2):Mk F0 w0 F2 w2:=by
 obtain ⟨Ds1,e1,n1,k1,d1⟩:=h.ds
 obtain ⟨Ds2,e2,n2,k2,d2⟩:=k.ds
 refine ⟨k.F.trans h.F,⟨k.kept.os.trans h.kept.os,k.kept.tape.trans h.kept.tape,k.kept.output.trans h.kept.output,Nat.le_trans h.kept.size k.kept.size,fun b hb=>(k.kept.block b ((k1 b).2 (.inl hb))).trans (h.kept.block b hb),h.kept.lt⟩,
  Ds2++Ds1,by rw [e2,e1,List.map_append,List.append_assoc],?_,fun b=>by rw [k2,k1,List.mem_append,or_assoc,or_comm (a:=b ∈ Ds1)],fun D hD=>?_⟩
 ·refine List.nodup_append.2 ⟨n2,n1,fun a ha c hc e=>?_⟩
  subst e
  exact (d2 a ha).2.1 ((k1 a).2 (.inr hc))
 ·rcases List.mem_append.1 hD with hD | hD
  ·exact ⟨(d2 D hD).1,fun hk=>(d2 D hD).2.1 ((k1 D).2 (.inl hk)),Nat.le_trans h.kept.size (d2 D hD).2.2⟩
  ·exact ⟨(k.kept.block D ((k1 D).2 (.inr hD))).trans (d1 D hD).1,(d1 D hD).2⟩
theorem Good.back {F1:FD} {w1:World} (g:Good F1 w1 w L objs) (h:Mk F0 w0 F1 w1):Good F0 w0 w L objs:=by
 obtain ⟨Ds,e,n,k,d⟩:=h.ds
 refine ⟨g.obj,g.out,g.inj,fun id b o n hb=>?_,fun b hb=>⟨?_,(g.old b hb).2⟩,?_,g.gl⟩
 ·have h1:=g.own _ _ _ _ hb
  exact ⟨h1.1,fun hk=>h1.2.1 ((k b).2 (.inl hk)),h1.2.2⟩
 ·rcases (g.old b hb).1 with h1 | h1
  ·exact .inl (by rw [<-h.F];exact h1)
  ·exact .inr fun hk=>h1 ((k b).2 (.inl hk))
 ·exact ⟨g.ext.os.trans h.kept.os,g.ext.tape.trans h.kept.tape,g.ext.output.trans h.kept.output,Nat.le_trans h.kept.size g.ext.size,fun b hb=>(g.ext.block b ((k b).2 (.inl hb))).trans (h.kept.block b hb),h.kept.lt⟩
def LiftM (F0:FD) (w0:World) (Q:Exit->St->Prop) (e:Exit) (a:Act) (w:World):Prop:=∃ F1 w1,Mk F0 w0 F1 w1/\Lift F1 w1 Q e a w
theorem LiftM.back {F1:FD} {w1:World} {Q:Exit->St->Prop} {e:Exit} {a:Act} (hm:Mk F0 w0 F1 w1) (h:LiftM F1 w1 Q e a w):LiftM F0 w0 Q e a w:=by
 obtain ⟨F2,w2,hm2,h⟩:=h
 exact ⟨F2,w2,hm.trans hm2,h⟩
theorem Sim.lt {st:St} {a:Act} (h:Sim F0 w0 st a w):∀ b,F0.K b->b<w0.heap.size:=by
 obtain ⟨_,L,g,_⟩:=h
 exact g.ext.lt
theorem LiftM.of {Q:Exit->St->Prop} {e:Exit} {a:Act} (h:Lift F0 w0 Q e a w):LiftM F0 w0 Q e a w:=by
 obtain ⟨st,hq,hs⟩:=h
 exact ⟨F0,w0,Mk.refl hs.lt,st,hq,hs⟩
theorem LiftM.mk {Q:Exit->St->Prop} {e:Exit} {a:Act} {st:St} (hq:Q e st) (hs:Sim F0 w0 st a w):LiftM F0 w0 Q e a w:=.of ⟨st,hq,hs⟩
def CCode.noRF:CCode->Bool
 | .rangeF ..=>false
 | .seq a b=>a.noRF && b.noRF
 | .cond _ a b=>a.noRF && b.noRF
 | .block _ b=>b.noRF
 | .loop b=>b.noRF
 | .scope b=>b.noRF
 | _=>true
theorem ro_l {r:Option Nat} {x y:Bool} (h:r=none \/ (x && y)=true):r=none \/ x=true:=h.imp id fun h=>(Bool.and_eq_true_iff.1 h).1
theorem ro_r {r:Option Nat} {x y:Bool} (h:r=none \/ (x && y)=true):r=none \/ y=true:=h.imp id fun h=>(Bool.and_eq_true_iff.1 h).2
def Cwp (P:Program) (F0:FD) (w0:World) (c:CCode) (Q:Exit->St->Prop) (st:St):Prop :=
 ∀ F1 w1,Mk F0 w0 F1 w1->∀ (r:Option Nat) (n:Nat) (code:Code),compC P code=some c->(r=none \/ c.noRF=true)->∀ a w,Sim F1 w1 st a w->code.wpIn (Wf r) (n+3) P (LiftM F1 w1 Q) a w
theorem Cwp.ext {F1:FD} {w1:World} {c:CCode} {Q:Exit->St->Prop} {st:St} (h:Cwp P F0 w0 c Q st) (m:Mk F0 w0 F1 w1):Cwp P F1 w1 c Q st:=fun F2 w2 m2=>h F2 w2 (m.trans m2)
def andThen (K:St->Prop) (Q:Exit->St->Prop):Exit->St->Prop
 | .normal,s=>K s
 | e,s=>Q e s
def inBlock (id:Nat) (Q:Exit->St->Prop):Exit->St->Prop
 | .exit i,s=>if i=id then Q .normal s else Q (.exit i) s
 | e,s=>Q e s
def noGoto (Q:Exit->St->Prop):Exit->St->Prop
 | .goto _,_=>False
 | e,s=>Q e s
def vc (P:Program) (F0:FD) (w0:World):CCode->(Exit->St->Prop)->St->Prop
 | .skip,Q,st=>Q .normal st
 | .region cs,Q,st=>Rops P cs (Q .normal) st
 | .drawn pre post,Q,st=>Qops P st.objs pre (fun tmps cr=>RopsL P post (Q .normal) ⟨tmps,st.objs++cr⟩) st.tmps []
 | .cut pre post t,Q,st=>Qops P st.objs pre (fun tmps cr=>RopsL P post (RT P t (Q .normal)) ⟨tmps,st.objs++cr⟩) st.tmps []
 | .seq a b,Q,st=>vc P F0 w0 a (andThen (vc P F0 w0 b Q) Q) st
 | .cond c a b,Q,st=>match asB (St.ev st.tmps c) with
  | some t=>(t=true->vc P F0 w0 a Q st)/\(t=false->vc P F0 w0 b Q st)
  | none=>False
 | .block id b,Q,st=>vc P F0 w0 b (inBlock id Q) st
 | .loop b,Q,st=>Cwp P F0 w0 (.loop b) Q st
 | .rangeF g ps a b,Q,st=>Cwp P F0 w0 (.rangeF g ps a b) Q st
 | .exit id,Q,st=>Q (.exit id) st
 | .scope b,Q,st=>vc P F0 w0 b (noGoto Q) st
 | .ret,Q,st=>Q .ret st
theorem liftM_then {K:St->Prop} {Q:Exit->St->Prop} {next:Act->World->Prop} (h:∀ F1 w1 st a w,Mk F0 w0 F1 w1->K st->Sim F1 w1 st a w->next a w):∀ e a w,LiftM F0 w0 (andThen K Q) e a w->Exit.then next (LiftM F0 w0 Q) e a w:=by
 rintro e a w ⟨F1,w1,hm,st,hq,hs⟩
 cases e with
 | normal=>exact h F1 w1 st a w hm hq hs
 | _=>exact ⟨F1,w1,hm,st,hq,hs⟩
theorem Cwp.mono {c:CCode} {Q Q':Exit->St->Prop} {s:St} (h:Cwp P F0 w0 c Q s) (k:∀ e s,Q e s->Q' e s):Cwp P F0 w0 c Q' s:=fun F1 w1 m r n code hc hro a w hs=>wpIn_mono (h F1 w1 m r n code hc hro a w hs) fun e a w ⟨F2,w2,hm,st,hq,hs⟩=>⟨F2,w2,hm,st,k _ _ hq,hs⟩
theorem vc_mono:∀ (c:CCode) {Q Q':Exit->St->Prop} (st:St),(∀ e s,Q e s->Q' e s)->vc P F0 w0 c Q st->vc P F0 w0 c Q' st:=by
 have rmono:∀ (cs:List COper) {K K':St->Prop} (st:St),(∀ s,K s->K' s)->Rops P cs K st->Rops P cs K' st:=by
  intro cs
  induction cs with
  | nil=>intro K K' st h hh;exact h _ hh
  | cons c rest ih =>
   intro K K' st h hh
   have step:Rstep P c (Rops P rest K) st->Rstep P c (Rops P rest K') st:=by
    intro h2
    unfold Rstep at h2 ⊢
    split at h2
    ·obtain ⟨r,o3,h3,h4⟩:=h2;exact ⟨r,o3,h3,ih _ h h4⟩
    ·split at h2
     ·exact ih _ h h2
     ·exact h2
   simp only [Rops] at hh ⊢
   split at hh
   ·exact step hh
   ·split at hh
    ·exact ⟨fun e=>step (hh.1 e),fun e=>ih _ h (hh.2 e)⟩
    ·exact hh
 have rstep:∀ (c:COper) {K K':St->Prop} (st:St),(∀ s,K s->K' s)->Rstep P c K st->Rstep P c K' st:=by
  intro c K K' st h h2
  unfold Rstep at h2 ⊢
  split at h2
  ·obtain ⟨r,o3,h3,h4⟩:=h2;exact ⟨r,o3,h3,h _ h4⟩
  ·split at h2
   ·exact h _ h2
   ·exact h2
 have lmono:∀ (cs:List (COper × List COper)) {K K':St->Prop} (st:St),(∀ s,K s->K' s)->RopsL P cs K st->RopsL P cs K' st:=by
  intro cs
  induction cs with
  | nil=>intro K K' st h hh;exact h _ hh
  | cons cl rest ih =>
   intro K K' st h hh
   obtain ⟨c,ls⟩:=cl
   simp only [RopsL] at hh ⊢
   split at hh
   ·exact rstep c st (fun s hs=>⟨hs.1,ih s h hs.2⟩) hh
   ·split at hh
    ·exact ⟨fun e=>rstep c st (fun s hs=>⟨hs.1,ih s h hs.2⟩) (hh.1 e),fun e=>⟨(hh.2 e).1,ih _ h (hh.2 e).2⟩⟩
    ·exact hh
 have tmono:∀ (t:PT) {K K':St->Prop} (st:St),(∀ s,K s->K' s)->RT P t K st->RT P t K' st:=by
  intro t
  induction t with
  | done=>intro K K' st h hh;exact h _ hh
  | stop=>intro K K' st h hh;trivial
  | alt c ls sub next ih1 ih2 =>
   intro K K' st h hh
   refine ⟨?_,ih2 st h hh.2⟩
   have hh:=hh.1
   simp only [RG] at hh ⊢
   split at hh
   ·exact rstep c st (fun s hs=>⟨hs.1,ih1 s h hs.2⟩) hh
   ·split at hh
    ·exact ⟨fun e=>rstep c st (fun s hs=>⟨hs.1,ih1 s h hs.2⟩) (hh.1 e),fun e=>⟨(hh.2 e).1,ih1 _ h (hh.2 e).2⟩⟩
    ·exact hh
 have qmono:∀ (objs0:List AObj) (cs:List COper) {K K':List AV->List AObj->Prop} (tmps:List AV) (cr:List AObj),(∀ t c,K t c->K' t c)->Qops P objs0 cs K tmps cr->Qops P objs0 cs K' tmps cr:=by
  intro objs0 cs
  induction cs with
  | nil=>intro K K' tmps cr h hh;exact h _ _ hh
  | cons c rest ih =>
   intro K K' tmps cr h hh
   simp only [Qops] at hh ⊢
   split at hh
   ·split at hh
    ·obtain ⟨r,no,h3,h4⟩:=hh;exact ⟨r,no,h3,ih _ _ h h4⟩
    ·split at hh <;> first | exact ih _ _ h hh | exact hh
   ·split at hh
    ·refine ⟨fun e=>?_,fun e=>ih _ _ h (hh.2 e)⟩
     have hh1:=hh.1 e
     split at hh1
     ·obtain ⟨r,no,h3,h4⟩:=hh1;exact ⟨r,no,h3,ih _ _ h h4⟩
     ·split at hh1 <;> first | exact ih _ _ h hh1 | exact hh1
    ·exact hh
 intro c
 induction c with
 | skip=>intro Q Q' st h hh;exact h _ _ hh
 | region cs=>intro Q Q' st h hh;exact rmono cs st (h _) hh
 | drawn pre post=>intro Q Q' st h hh;exact qmono _ pre _ _ (fun t c hk=>lmono post _ (h _) hk) hh
 | cut pre post t=>intro Q Q' st h hh;exact qmono _ pre _ _ (fun _ c hk=>lmono post _ (fun s hs=>tmono t s (h _) hs) hk) hh
 | seq a b iha ihb =>
  intro Q Q' st h hh
  refine iha st (fun e s hq=>?_) hh
  cases e with
  | normal=>exact ihb s h hq
  | _=>exact h _ _ hq
 | cond c a b iha ihb =>
  intro Q Q' st h hh
  simp only [vc] at hh ⊢
  split at hh
  ·exact ⟨fun e=>iha st h (hh.1 e),fun e=>ihb st h (hh.2 e)⟩
  ·exact hh
 | block id b ih =>
  intro Q Q' st h hh
  refine ih st (fun e s hq=>?_) hh
  cases e with
  | exit i=>simp only [inBlock] at hq ⊢;split <;> rename_i e <;> simp only [e,if_true,if_false] at hq <;> exact h _ _ hq
  | _=>exact h _ _ hq
 | loop b=>intro Q Q' st h hh;exact Cwp.mono hh h
 | rangeF g ps a b ih=>intro Q Q' st h hh;exact Cwp.mono hh h
 | exit id=>intro Q Q' st h hh;exact h _ _ hh
 | scope b ih =>
  intro Q Q' st h hh
  refine ih st (fun e s hq=>?_) hh
  cases e with
  | goto l=>exact hq
  | _=>exact h _ _ hq
 | ret=>intro Q Q' st h hh;exact h _ _ hh
theorem vc_ext {F1:FD} {w1:World} (m:Mk F0 w0 F1 w1):∀ (c:CCode) (Q:Exit->St->Prop) (st:St),vc P F0 w0 c Q st->vc P F1 w1 c Q st
 | .skip,_,_,h=>h
 | .region _,_,_,h=>h
 | .drawn _ _,_,_,h=>h
 | .cut _ _ _,_,_,h=>h
 | .seq x y,Q,st,h=>by
  refine vc_mono x st (fun e s hq=>?_) (vc_ext m x _ st h)
  cases e with
  | normal=>exact vc_ext m y Q s hq
  | _=>exact hq
 | .cond c x y,Q,st,h=>by
  simp only [vc] at h ⊢
  split at h
  ·exact ⟨fun e=>vc_ext m x Q st (h.1 e),fun e=>vc_ext m y Q st (h.2 e)⟩
  ·exact h
 | .block id b,Q,st,h=>vc_ext m b _ st h
 | .loop b,Q,st,h=>Cwp.ext h m
 | .rangeF _ _ _ _,Q,st,h=>Cwp.ext h m
 | .exit _,_,_,h=>h
 | .scope b,Q,st,h=>vc_ext m b _ st h
 | .ret,_,_,h=>h
theorem pickD_ok {ops:Array Oper} {cs0 cs1:List COper} {b:Option Bool} (hcs:ops.toList.mapM (compO P ops)=some cs0) (hp:pickD P ops cs0=some (cs1,b)):CompD P ops cs1/\dcheck ops.toList cs1 (quietB b ops.toList cs1)=true/\P.follows .mixedOrders=true:=by
 unfold pickD at hp
 split at hp
 ·rename_i hh
  simp only [Option.some.injEq,Prod.mk.injEq] at hp
  obtain ⟨rfl,rfl⟩:=hp
  exact ⟨⟨cs0,hcs,.inl rfl⟩,hh.1,hh.2⟩
 ·split at hp
  ·rename_i hh
   simp only [Option.some.injEq,Prod.mk.injEq] at hp
   obtain ⟨rfl,rfl⟩:=hp
   exact ⟨⟨cs0,hcs,.inl rfl⟩,hh.1,hh.2⟩
  ·split at hp
   ·rename_i hh
    simp only [Option.some.injEq,Prod.mk.injEq] at hp
    obtain ⟨rfl,rfl⟩:=hp
    exact ⟨⟨cs0,hcs,.inr rfl⟩,hh.1,hh.2.1⟩
   ·split at hp
    ·rename_i hh
     simp only [Option.some.injEq,Prod.mk.injEq] at hp
     obtain ⟨rfl,rfl⟩:=hp
     exact ⟨⟨cs0,hcs,.inl rfl⟩,hh.1,hh.2⟩
    ·cases hp
theorem pickD2_ok {ops:Array Oper} {cs0 cs1:List COper} {b:Option Bool} (hcs:ops.toList.mapM (compO P ops)=some cs0) (hp:pickD2 P ops cs0=some (cs1,b)):CompD P ops cs1/\dcheck ops.toList cs1 (quietB b ops.toList cs1)=true/\P.follows .mixedOrders=true:=pickD_ok hcs hp
theorem pickCut_ok {ops:Array Oper} {cs0:List COper} {c:CCode} (hp:pickCut P ops cs0=some c):∃ b cs1 q,b<=ops.size/\barrier ops.toList b=true/\CompD P (ops.extract 0 b) cs1/\dcheck (ops.extract 0 b).toList cs1 q=true/\P.follows .mixedOrders=true /\
 c = .cut (preOf cs1 q) (restQ cs1 (waits (ops.extract 0 b).toList) q 0) (treeT (waits ops.toList) cs0 (ops.size-b) (List.range' b (ops.size-b))):=by
 unfold pickCut at hp
 obtain ⟨b,hb,hp⟩:=List.exists_of_findSome?_eq_some hp
 split at hp
 ·rename_i hh
  simp only [Option.bind_eq_some_iff,Option.map_eq_some_iff] at hp
  obtain ⟨c1,hc1,⟨cs1,bb⟩,hq,rfl⟩:=hp
  obtain ⟨h1,h2,h3⟩:=pickD2_ok hc1 hq
  refine ⟨b,cs1,_,?_,hh.1,h1,h2,hh.2,rfl⟩
  simp at hb;omega
 ·cases hp
theorem compC_reg {id:Nat} {ops:Array Oper} {d:Bool} {c:CCode} (h:compC P (.region id ops d)=some c):(d=false/\∃ cs,c = .region cs) \/ (∃ pre post,c = .drawn pre post) \/ ∃ pre post t,c = .cut pre post t:=by
 cases d with
 | false =>
  simp only [compC,Option.map_eq_some_iff] at h
  obtain ⟨cs,_,rfl⟩:=h
  exact .inl ⟨rfl,cs,rfl⟩
 | true =>
  simp only [compC] at h
  split at h
  ·simp only [Option.some.injEq] at h;exact .inr (.inl ⟨_,_,h.symm⟩)
  simp only [Option.bind_eq_some_iff] at h
  obtain ⟨cs,_,h⟩:=h
  split at h
  ·simp only [Option.some.injEq] at h;exact .inr (.inl ⟨_,_,h.symm⟩)
  ·split at h
   ·rename_i hp
    simp only [Option.some.injEq] at h
    obtain ⟨_,_,_,hc⟩:=pickL_ok hp
    exact .inr (.inr ⟨_,_,_,h ▸ hc⟩)
   ·obtain ⟨_,_,_,_,_,_,_,_,hc⟩:=pickCut_ok h
    exact .inr (.inr ⟨_,_,_,hc⟩)
theorem vc_run:∀ (c:CCode) (F0:FD) (w0:World) (Q:Exit->St->Prop) (st:St),vc P F0 w0 c Q st->∀ (r:Option Nat) (n:Nat) (code:Code),compC P code=some c->(r=none \/ c.noRF=true)->∀ a w,Sim F0 w0 st a w->code.wpIn (Wf r) (n+3) P (LiftM F0 w0 Q) a w
 | .skip,F0,w0,Q,st,h=>by
  intro r n code hc hro a w hs
  cases code with
  | skip=>exact wpIn_skip (.mk h hs)
  | label l=>exact wpIn_label (.mk h hs)
  | region id ops d=>rcases compC_reg hc with ⟨_,_,h⟩ | ⟨_,_,h⟩ | ⟨_,_,_,h⟩ <;> cases h
  | _=>simp [compC,Option.bind_eq_some_iff] at hc
 | .region cs,F0,w0,Q,st,h=>by
  intro r n code hc hro a w hs
  cases code with
  | region id ops d =>
   cases d with
   | false =>
    simp only [compC,Option.map_eq_some_iff,CCode.region.injEq] at hc
    obtain ⟨cs',hcs,rfl⟩:=hc
    refine wpIn_mono (wpIn_region (ops_in (calm_of hcs) lift_in _ _ _ ?_)) (Q:=Lift F0 w0 fun e st=>e = .normal/\Q .normal st) ?_
    ·have:=rops_ok (F0:=F0) (w0:=w0) (K:=Q .normal) ops ops.toList cs' 0 (fun j=>by simp) hcs st a w hs h
     rw [<-List.range_eq_range'] at this
     simpa using this
    ·rintro e a' w' ⟨st',⟨rfl,hq⟩,hs'⟩;exact .mk hq hs'
   | true=>rcases compC_reg hc with ⟨h,_⟩ | ⟨_,_,h⟩ | ⟨_,_,_,h⟩ <;> cases h
  | _=>simp [compC,Option.bind_eq_some_iff] at hc
 | .drawn pre post,F0,w0,Q,st,h=>by
  intro r n code hc hro a w hs
  cases code with
  | region id ops d =>
   cases d with
   | false=>simp [compC] at hc
   | true =>
    simp only [compC] at hc
    split at hc
    ·rename_i cs hps
     simp only [Option.some.injEq,CCode.drawn.injEq] at hc
     obtain ⟨rfl,rfl⟩:=hc
     obtain ⟨hm,hck,hmix⟩:=pickS_ok hps
     refine wpIn_mono (region_drawn_s (K:=Q .normal) hmix hm hck hs (qops_pre _ cs 0 _ _ h)) ?_
     rintro e a' w' ⟨st',⟨rfl,hq⟩,hs'⟩;exact .mk hq hs'
    simp only [Option.bind_eq_some_iff] at hc
    obtain ⟨cs0,hcs,hc⟩:=hc
    split at hc
    rotate_left
    ·split at hc
     ·rename_i hp
      simp only [Option.some.injEq] at hc
      obtain ⟨_,_,_,hc'⟩:=pickL_ok hp
      rw [hc] at hc';cases hc'
     ·obtain ⟨_,_,_,_,_,_,_,_,hc⟩:=pickCut_ok hc;cases hc
    rename_i q hp
    obtain ⟨cs',b⟩:=q
    simp only [Option.some.injEq,CCode.drawn.injEq] at hc
    obtain ⟨rfl,rfl⟩:=hc
    obtain ⟨hcd,hck,hmix⟩:=pickD_ok hcs hp
    refine wpIn_mono (region_drawn_in (K:=Q .normal) (calm_of hcs) hmix hcd hck hs (qops_pre _ cs' 0 _ _ h)) ?_
    rintro e a' w' ⟨st',⟨rfl,hq⟩,hs'⟩;exact .mk hq hs'
  | _=>simp [compC,Option.bind_eq_some_iff] at hc
 | .cut pre post t,F0,w0,Q,st,h=>by
  intro r n code hc hro a w hs
  cases code with
  | region id ops d =>
   cases d with
   | false=>simp [compC] at hc
   | true =>
    simp only [compC] at hc
    split at hc
    ·simp at hc
    simp only [Option.bind_eq_some_iff] at hc
    obtain ⟨cs0,hcs,hc⟩:=hc
    split at hc
    ·simp at hc
    ·split at hc
     ·rename_i hp
      simp only [Option.some.injEq] at hc
      obtain ⟨q,hck,hmix,hc'⟩:=pickL_ok hp
      rw [hc] at hc'
      simp only [CCode.cut.injEq] at hc'
      obtain ⟨rfl,rfl,rfl⟩:=hc'
      refine wpIn_mono (region_drawnL_in (K:=Q .normal) (calm_of hcs) hmix ⟨cs0,hcs,.inl rfl⟩ hck hs (qops_pre q cs0 0 _ _ h)) ?_
      rintro e a' w' ⟨st',⟨rfl,hq⟩,hs'⟩;exact .mk hq hs'
     obtain ⟨b,cs1,q,hb,hbar,hcd,hck,hmix,hc⟩:=pickCut_ok hc
     simp only [CCode.cut.injEq] at hc
     obtain ⟨rfl,rfl,rfl⟩:=hc
     refine wpIn_mono (region_cut_in (K:=Q .normal) (calm_of hcs) hmix hb hbar hcd hck hcs hs (qops_pre _ cs1 0 _ _ h)) ?_
     rintro e a' w' ⟨st',⟨rfl,hq⟩,hs'⟩;exact .mk hq hs'
  | _=>simp [compC,Option.bind_eq_some_iff] at hc
 | .seq x y,F0,w0,Q,st,h=>by
  intro r n code hc hro a w hs
  cases code with
  | seq a' b' =>
   simp only [compC,Option.bind_eq_some_iff,Option.map_eq_some_iff,CCode.seq.injEq] at hc
   obtain ⟨x',hx,y',hy,rfl,rfl⟩:=hc
   refine wpIn_seq (wpIn_mono (vc_run x' F0 w0 _ st h r n _ hx (ro_l hro) a w hs) (liftM_then fun F1 w1 st' a' w' hm h' hs'=>wpIn_mono (vc_run y' F1 w1 _ st' (vc_ext hm _ _ _ h') r n _ hy (ro_r hro) a' w' hs') fun _ _ _=>LiftM.back hm))
  | region id ops d=>rcases compC_reg hc with ⟨_,_,h⟩ | ⟨_,_,h⟩ | ⟨_,_,_,h⟩ <;> cases h
  | _=>simp [compC,Option.bind_eq_some_iff] at hc
 | .cond c x y,F0,w0,Q,st,h=>by
  intro r n code hc hro a w hs
  cases code with
  | cond c' a' b' =>
   simp only [compC,Option.bind_eq_some_iff,Option.map_eq_some_iff,CCode.cond.injEq] at hc
   obtain ⟨x',hx,y',hy,rfl,rfl,rfl⟩:=hc
   simp only [vc] at h
   split at h
   ·rename_i t ht
    have hv:a.eval c' = .bool t:=by
     obtain ⟨hd,L,g,hs1,ht1⟩:=hs
     exact asB_ok (ev_ok (objs:=st.objs) g.gl hs1 ht1 c') ht
    refine wpIn_cond hv ?_
    cases t with
    | true=>exact vc_run x' F0 w0 _ st (h.1 rfl) r n _ hx (ro_l hro) a w hs
    | false=>exact vc_run y' F0 w0 _ st (h.2 rfl) r n _ hy (ro_r hro) a w hs
   ·exact h.elim
  | region id ops d=>rcases compC_reg hc with ⟨_,_,h⟩ | ⟨_,_,h⟩ | ⟨_,_,_,h⟩ <;> cases h
  | _=>simp [compC,Option.bind_eq_some_iff] at hc
 | .block id b,F0,w0,Q,st,h=>by
  intro r n code hc hro a w hs
  cases code with
  | block id' b' =>
   simp only [compC,Option.map_eq_some_iff,CCode.block.injEq] at hc
   obtain ⟨x',hx,rfl,rfl⟩:=hc
   refine wpIn_block (wpIn_mono (vc_run x' F0 w0 _ st h r n _ hx hro a w hs) ?_)
   rintro e a1 w1 ⟨F1,w1',hm,st',hq,hs'⟩
   cases e with
   | exit i =>
    simp only [Exit.inBlock,inBlock] at hq ⊢
    split
    ·rename_i hi;rw [if_pos hi] at hq;exact ⟨F1,w1',hm,st',hq,hs'⟩
    ·rename_i hi;rw [if_neg hi] at hq;exact ⟨F1,w1',hm,st',hq,hs'⟩
   | _=>exact ⟨F1,w1',hm,st',hq,hs'⟩
  | region id ops d=>rcases compC_reg hc with ⟨_,_,h⟩ | ⟨_,_,h⟩ | ⟨_,_,_,h⟩ <;> cases h
  | _=>simp [compC,Option.bind_eq_some_iff] at hc
 | .loop b,F0,w0,Q,st,h=>fun r n code hc hro a w hs=>h F0 w0 (Mk.refl hs.lt) r n code hc hro a w hs
 | .rangeF _ _ _ _,F0,w0,Q,st,h=>fun r n code hc hro a w hs=>h F0 w0 (Mk.refl hs.lt) r n code hc hro a w hs
 | .exit id,F0,w0,Q,st,h=>by
  intro r n code hc hro a w hs
  cases code with
  | exit id' =>
   simp only [compC,Option.some.injEq,CCode.exit.injEq] at hc
   subst hc
   exact wpIn_exit (.mk h hs)
  | region id ops d=>rcases compC_reg hc with ⟨_,_,h⟩ | ⟨_,_,h⟩ | ⟨_,_,_,h⟩ <;> cases h
  | _=>simp [compC,Option.bind_eq_some_iff] at hc
 | .scope b,F0,w0,Q,st,h=>by
  intro r n code hc hro a w hs
  cases code with
  | scope b' =>
   simp only [compC,Option.map_eq_some_iff,CCode.scope.injEq] at hc
   obtain ⟨x',hx,rfl⟩:=hc
   refine wpIn_scope_straight (wpIn_mono (vc_run x' F0 w0 _ st h r n _ hx hro a w hs) ?_)
   rintro e a1 w1 ⟨F1,w1',hm,st',hq,hs'⟩
   cases e with
   | goto l=>exact hq.elim
   | _=>exact ⟨F1,w1',hm,st',hq,hs'⟩
  | region id ops d=>rcases compC_reg hc with ⟨_,_,h⟩ | ⟨_,_,h⟩ | ⟨_,_,_,h⟩ <;> cases h
  | _=>simp [compC,Option.bind_eq_some_iff] at hc
 | .ret,F0,w0,Q,st,h=>by
  intro r n code hc hro a w hs
  cases code with
  | ret=>exact wpIn_ret (.mk h hs)
  | region id ops d=>rcases compC_reg hc with ⟨_,_,h⟩ | ⟨_,_,h⟩ | ⟨_,_,_,h⟩ <;> cases h
  | _=>simp [compC,Option.bind_eq_some_iff] at hc
theorem vc_ok (c:CCode) (Q:Exit->St->Prop) (st:St) (h:vc P F0 w0 c Q st):Cwp P F0 w0 c Q st:=fun F1 w1 m=>vc_run c F1 w1 Q st (vc_ext m c Q st h)
def Wk (s s':St):Prop:=∀ F0 w0 a w,Sim F0 w0 s a w->Sim F0 w0 s' a w
theorem Wk.refl (s:St):Wk s s:=fun _ _ _ _ h=>h
theorem Wk.trans {a b c:St} (h:Wk a b) (k:Wk b c):Wk a c:=fun _ _ _ _ x=>k _ _ _ _ (h _ _ _ _ x)
theorem Cwp.wk {c:CCode} {Q:Exit->St->Prop} {s s':St} (h:Wk s s') (k:Cwp P F0 w0 c Q s'):Cwp P F0 w0 c Q s:=fun F1 w1 m r n code hc hro a w hs=>k F1 w1 m r n code hc hro a w (h _ _ _ _ hs)
def Round (I:Nat->St->Prop) (n:Nat) (Q:Exit->St->Prop):Exit->St->Prop:=andThen (fun s=>∃ m s',m<n/\Wk s s'/\I m s') Q
theorem Cwp.loop {b:CCode} {Q:Exit->St->Prop} {s s0:St} (I:Nat->St->Prop) (n:Nat) (hw:Wk s s0) (h0:I n s0) (round:∀ n s,I n s->vc P F0 w0 b (Round I n Q) s):Cwp P F0 w0 (.loop b) Q s:=by
 intro F1 w1 hm1 r rn code hc hro a w hs
 cases code with
 | loop b' =>
  simp only [compC,Option.map_eq_some_iff,CCode.loop.injEq] at hc
  obtain ⟨x',hx,rfl⟩:=hc
  refine wpIn_loop_ghost (fun n a w=>∃ F2 w2,Mk F1 w1 F2 w2/\∃ s,I n s/\Sim F2 w2 s a w) n ⟨F1,w1,Mk.refl hs.lt,s0,h0,hw _ _ _ _ hs⟩ ?_
  rintro n a w ⟨F2,w2,hm2,s,hI,hs⟩
  refine wpIn_mono (vc_run _ F2 w2 _ _ (vc_ext (hm1.trans hm2) _ _ _ (round n s hI)) r rn _ hx hro a w hs) ?_
  rintro e a1 w3 ⟨F3,w3',hm3,st',hq,hs'⟩
  cases e with
  | normal =>
   obtain ⟨m,s'',hm,hwk,hI'⟩:=hq
   first
    | exact ⟨m,hm,F3,w3',hm2.trans hm3,s'',hI',hwk _ _ _ _ hs'⟩
    | exact ⟨⟨m,hm,F3,w3',hm2.trans hm3,s'',hI',hwk _ _ _ _ hs'⟩⟩
  | _=>exact ⟨F3,w3',hm2.trans hm3,st',hq,hs'⟩
 | region id ops d=>rcases compC_reg hc with ⟨_,_,h⟩ | ⟨_,_,h⟩ | ⟨_,_,_,h⟩ <;> cases h
 | _=>simp [compC,Option.bind_eq_some_iff] at hc
inductive CRes where
 | tmp (t:Nat)
 | cell (a:Nat) (agg:Bool) (n:Nat)
 deriving Inhabited
def resC (P:Program):ResultVar->Option CRes
 | .tmp t=>some (.tmp t)
 | .cell a t =>
  match tagg P t,tsize P t with
  | some ag,some n=>some (.cell a ag n)
  | _,_=>none
def resA (st:St):CRes->Option AV
 | .tmp t=>some (st.tmps.getD t .junk)
 | .cell a ag n=>do
  let cs <-cellsAt st.objs (st.tmps.getD a .junk)
  if ag then if n<=cs.length then some (AV.agg (cs.take n)) else none else cs[0]?
def resAll (st:St) (rs:List CRes):Option AV :=
 (rs.mapM (resA st)).map fun
  | [x]=>x
  | xs=>.tup xs
def retQ (rs:List CRes) (r:AV):Exit->St->Prop
 | .normal,st=>∃ y,resAll st rs=some y/\Snap st.objs y r
 | .ret,st=>∃ y,resAll st rs=some y/\Snap st.objs y r
 | _,_=>False
def fnC (P:Program) (f:FuncId):Option (CCode × Nat × List CRes) :=
 match P.funcs[f]? with
 | some fn =>
  if fn.name == "runtime.NumGoroutine" then none else
  match fn.body with
  | some code=>(compC P code).bind fun c=>(fn.results.toList.mapM (resC P)).map fun rs=>(c,fn.ntmps,rs)
  | none=>none
 | none=>none
def resF (tmps:Array Value):ResultVar->Sem Value
 | .tmp t=>pure (tmps.getD t undef)
 | .cell c t=>do loadVar t (<-asAddr (tmps.getD c undef))
theorem results_eq (fn:Func) (tmps:Array Value):results fn tmps=(fn.results.mapM (resF tmps)) >>= fun vs=>pure (if h:vs.size=1 then vs[0] else .tuple vs):=rfl
theorem results_ok {fn:Func} {rs:List CRes} (hrs:fn.results.toList.mapM (resC P)=some rs) {st:St} {a:Act} (g:Good F0 w0 w L st.objs) (hs:a.tmps.size=st.tmps.length)
 (ht:∀ t (h:t<st.tmps.length),VR w L st.objs st.tmps[t] (a.tmps.getD t undef)) {y:AV} (hy:resAll st rs=some y):∃ v,(results fn a.tmps).run P w = .ok v w/\VR w L st.objs y v:=by
 have he:=ev_ok (objs:=st.objs) g.gl hs ht
 unfold resAll at hy
 obtain ⟨ys,hys,rfl⟩:=Option.map_eq_some_iff.1 hy
 have key:∀ (l:List ResultVar) (rs:List CRes) (ys:List AV),l.mapM (resC P)=some rs->rs.mapM (resA st)=some ys ->
  ∃ vs:List Value,(l.mapM (resF a.tmps)).run P w = .ok vs w/\vs.length=ys.length /\
   ∀ i (h:i<ys.length) (h2:i<vs.length),VR w L st.objs ys[i] vs[i]:=by
  intro l
  induction l with
  | nil =>
   intro rs ys h1 h2
   simp at h1;subst h1
   simp at h2;subst h2
   exact ⟨[],rfl,rfl,fun i h=>absurd h (by simp)⟩
  | cons x l ih =>
   intro rs ys h1 h2
   simp only [List.mapM_cons,Option.bind_eq_bind,Option.bind_eq_some_iff,Option.pure_def,Option.some.injEq] at h1
   obtain ⟨r,hr,rs',hrs',rfl⟩:=h1
   simp only [List.mapM_cons,Option.bind_eq_bind,Option.bind_eq_some_iff,Option.pure_def,Option.some.injEq] at h2
   obtain ⟨y,hy,ys',hys',rfl⟩:=h2
   obtain ⟨vs,hv1,hv2,hv3⟩:=ih rs' ys' hrs' hys'
   have one:∃ v,(resF a.tmps x).run P w = .ok v w/\VR w L st.objs y v:=by
    cases x with
    | tmp t =>
     simp only [resC,Option.some.injEq] at hr;subst hr
     simp only [resA,Option.some.injEq] at hy;subst hy
     exact ⟨_,rfl,he (.tmp t)⟩
    | cell c t =>
     simp only [resC] at hr
     split at hr
     ·rename_i ag n hag hn
      simp only [Option.some.injEq] at hr;subst hr
      have hx:=he (.tmp c)
      simp only [resA] at hy
      obtain ⟨u,hu,hv⟩:=load_ok (P:=P) g hag hn hx hy
      simp only [Option.bind_eq_bind,Option.bind_eq_some_iff] at hy
      obtain ⟨cs,hcs,_⟩:=hy
      obtain ⟨b,o,hp,_⟩:=cellsAt_ok g hx hcs
      simp only [Act.eval] at hp hu
      refine ⟨u,?_,hv⟩
      simp only [resF]
      rw [hp] at hu ⊢
      simpa [Instr.loadAt,Instr.sureAddr,asAddr] using hu
     ·cases hr
   obtain ⟨v,hv,hvr⟩:=one
   refine ⟨v::vs,?_,by simp [hv2],fun i h h2=>?_⟩
   ·rw [List.mapM_cons]
    simp only [Sem.run_bind,hv,Result.andThen_ok,hv1,Sem.run_pure]
   ·cases i with
    | zero=>exact hvr
    | succ i=>simpa using hv3 i (by simpa using h) (by simpa using h2)
 obtain ⟨vs,hv1,hv2,hv3⟩:=key _ _ _ hrs hys
 have hm:(fn.results.mapM (resF a.tmps)).run P w = .ok vs.toArray w:=by
  rw [Array.mapM_eq_mapM_toList]
  simp only [Sem.run_map,hv1,Result.andThen_ok]
 rw [results_eq]
 simp only [Sem.run_bind,hm,Result.andThen_ok,Sem.run_pure]
 refine ⟨_,rfl,?_⟩
 match ys,vs,hv2,hv3 with
 | [y],[v],_,hv3=>simpa using hv3 0 (by simp) (by simp)
 | [],[],_,_=>exact .tup _ _ rfl fun i h=>absurd h (by simp)
 | y1::y2::ys,v1::v2::vs,h,hv3 =>
  rw [dif_neg (by simp)]
  exact .tup _ _ (by simp at h;simp [h]) fun i h1 h2=>by simpa using hv3 i h1 (by simpa using h2)
theorem Blk.not_def {e:TypeId} {cur:Array Value} {d:Option (List Deferred)} (h:Blk e cur (some (.deferred d))):False:=by
 unfold Blk at h
 split at h
 ·cases h
 ·obtain ⟨_,⟨_,_,h,_⟩,_⟩:=h;cases h
theorem Good.leave (g:Good F0 w0 w L objs) {D:Nat} (hD:w.heap[D]? = some (.deferred (some []))) (hF:¬ L.F D) (hK:¬ F0.K D):Good F0 w0 (w.putObj D (.deferred none)) L objs/\Later w L objs (w.putObj D (.deferred none)) L objs:=by
 have hsame:∀ b,b ≠ D->(w.putObj D (.deferred none)).heap[b]? = w.heap[b]?:=fun b hb=>World.putObj_heap_other hb
 have hsz:(w.putObj D (.deferred none)).heap.size=w.heap.size:=by simp
 have hl:Later w L objs (w.putObj D (.deferred none)) L objs:=⟨fun b hb _=>⟨hsame b fun e=>hF (e ▸ hb),hb⟩,fun _ _ h=>h,fun _ _ _ h=>.inr ⟨h,rfl⟩⟩
 refine ⟨⟨fun id o ho=>?_,g.out,g.inj,fun id b o n hb=>?_,fun b hb=>?_,?_,g.gl.stay hl.wk⟩,hl⟩
 ·have:=g.obj id o ho
  cases o with
  | void=>exact this
  | dead=>exact this
  | probe k st li bk ps=>exact this.probe_stay hl rfl
  | arr gen size elem xs =>
   unfold OR at this ⊢
   cases hbk:L.blk id with
   | none=>rw [hbk] at this;exact this
   | some q =>
    obtain ⟨b,o',n⟩:=q
    rw [hbk] at this
    obtain ⟨cur,hc,hn,hr⟩:=this
    exact ⟨cur,hc.tr (hsame b fun e=>by rw [e,hD] at hc;exact hc.not_def),hn,hr.stay hl⟩
 ·have:=g.own _ _ _ _ hb
  exact ⟨this.1,this.2.1,by rw [hsz];exact this.2.2⟩
 ·have:=g.old b hb
  exact ⟨this.1,by rw [hsz];exact this.2⟩
 ·exact ⟨g.ext.os,g.ext.tape,g.ext.output,by rw [hsz];exact g.ext.size,fun b hb=>(hsame b fun e=>hK (e ▸ hb)).trans (g.ext.block b hb),g.ext.lt⟩
theorem leavesM {Fn:Fence} {n:Nat} {fn:Func} {R:Ending->World->Prop} {F1:FD} {w1:World} {st:St} {a:Act} (hF:∀ b,F0.F b->b<w0.heap.size) (hm:Mk F0 w0 F1 w1) (hs:Sim F1 w1 st a w)
 (fin:∀ W,Sim F0 w0 st { a with defers:=F0.ds } W->LeavesInM Fn n P fn a.tmps R F0.ds .returning W):LeavesInM Fn n P fn a.tmps R a.defers .returning w:=by
 obtain ⟨hd,L,g,hsz,ht⟩:=hs
 obtain ⟨Ds,e,hn,hK,hD⟩:=hm.ds
 have hDs:∀ D ∈ Ds,w.heap[D]? = some (.deferred (some []))/\¬ L.F D/\¬ F0.K D:=fun D h=>by
  refine ⟨(g.ext.block D ((hK D).2 (.inr h))).trans (hD D h).1,fun hl=>?_,(hD D h).2.1⟩
  rcases (g.old D hl).1 with h1 | h1
  ·have:=hF D (by rw [<-hm.F];exact h1)
   have:=(hD D h).2.2
   omega
  ·exact h1 ((hK D).2 (.inr h))
 have g0:=g.back hm
 rw [hd,e]
 clear hd e hK hD g hm
 induction Ds generalizing w with
 | nil=>exact fin w ⟨rfl,L,g0,hsz,ht⟩
 | cons D Ds ih =>
  obtain ⟨h1,h2,h3⟩:=hDs D (by simp)
  obtain ⟨h4,h5⟩:=List.nodup_cons.1 hn
  obtain ⟨g1,hl⟩:=g0.leave h1 h2 h3
  refine ⟨by simp,.inl ⟨D,_,rfl,run_takeDeferred h1,ih (fun t h=>(ht t h).stay hl) h5 (fun D' hD'=>⟨?_,(hDs D' (by simp [hD'])).2⟩) g1⟩⟩
  rw [World.putObj_heap_other (fun e=>h4 (by rw [<-e];exact hD'))]
  exact (hDs D' (by simp [hD'])).1
theorem spec_ofC {f:FuncId} {c:CCode} {n:Nat} {rs:List CRes} (hf:fnC P f=some (c,n,rs)) {xs:List AV} {r:AV} (h:∀ F0 w0,Cwp P F0 w0 c (retQ rs r) ⟨xs++List.replicate (n-xs.length) .junk,[]⟩):Ctr P f xs r:=by
 unfold fnC at hf
 split at hf
 rotate_left
 ·cases hf
 rename_i fn hfn
 split at hf
 ·cases hf
 rename_i hname
 split at hf
 rotate_left
 ·cases hf
 rename_i code hbody
 simp only [Option.bind_eq_some_iff,Option.map_eq_some_iff,Prod.mk.injEq] at hf
 obtain ⟨c',hc,rs',hrs,rfl,rfl,rfl⟩:=hf
 refine ⟨by unfold Enters;rw [hfn];simp only [hbody,Option.isSome_some,Bool.and_true];simpa using hname,fun w F vs hgl hl ht=>?_⟩
 refine callsIn_wide.1 (callsIn_of_wp_marks (n:=3) hfn hbody trivial ?_)
 have hsim:Sim ⟨fun b=>F b/\b<w.heap.size,(· < w.heap.size),[]⟩ w ⟨xs++List.replicate (fn.ntmps-xs.length) .junk,[]⟩ { tmps:=vs++Array.replicate (fn.ntmps-vs.size) undef,defers:=[] } w:=by
  refine ⟨rfl,⟨fun b=>F b/\b<w.heap.size,fun _=>none⟩,⟨fun id o h=>by simp at h,fun _ _=>rfl,fun _ _ _ _ _ _ _ h=>by simp at h,fun _ _ _ _ h=>by simp at h,fun b hb=>⟨.inl hb,hb.2⟩,Kept.refl fun _ h=>h,hgl.stay fun b hb hl=>⟨rfl,hb,hl⟩⟩,by simp [hl],fun t h=>?_⟩
  by_cases hlt:t<xs.length
  ·rw [List.getElem_append_left hlt,Array.getD_eq_getD_getElem?,Array.getElem?_append_left (by omega),Array.getElem?_eq_getElem (by omega)]
   exact .tree ((ht t hlt (by omega)).mono fun b hb hbl=>⟨hb,hbl⟩)
  ·rw [List.getElem_append_right (by omega),List.getElem_replicate]
   exact .junk _
 refine wpIn_mono (h ⟨fun b=>F b/\b<w.heap.size,(· < w.heap.size),[]⟩ w _ _ (Mk.refl hsim.lt) none 0 _ hc (.inl rfl) _ w hsim) ?_
 rintro e a' w' ⟨F1,w1,hm,st,hq,hsm⟩
 have fin:(∃ y,resAll st rs'=some y/\Snap st.objs y r)->LeavesInM Fence.wide 3 P fn a'.tmps (fun e w'=>∃ v,e=Ending.returned v/\Ext w w'/\TR w' (fun b=>F b \/ w.heap.size<=b) r v) a'.defers .returning w':=by
  rintro ⟨y,hy,hsn⟩
  refine leavesM (F0:=⟨fun b=>F b/\b<w.heap.size,(· < w.heap.size),[]⟩) (fun b (hb:F b/\b<w.heap.size)=>hb.2) hm hsm fun W hsW=>?_
  obtain ⟨hd,L,g,hs,ht'⟩:=hsW
  obtain ⟨v,hv,hvr⟩:=results_ok hrs g hs ht' hy
  exact ⟨v,hv,v,rfl,g.ext.ext,snap_ok g (fun _ _ _ _ _ h=>h) (fun b hb=>(g.old b hb).1.imp (fun h=>h.1) Nat.le_of_not_lt) (fun id _ _ _ _ _ b o n hb=>.inr (Nat.le_of_not_lt (g.own _ _ _ _ hb).2.1)) hsn _ hvr⟩
 cases e with
 | normal=>exact fin hq
 | ret=>exact fin hq
 | _=>exact hq.elim
theorem spec_of {f:FuncId} {c:CCode} {n:Nat} {rs:List CRes} (hf:fnC P f=some (c,n,rs)) {xs:List AV} {r:AV} (h:∀ F0 w0,vc P F0 w0 c (retQ rs r) ⟨xs++List.replicate (n-xs.length) .junk,[]⟩):Ctr P f xs r:=spec_ofC hf fun F0 w0=>vc_ok _ _ _ (h F0 w0)
end Dak
