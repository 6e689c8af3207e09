/- Lemmas used by Next. -/
import Derived.Test.YtdadmhahbeehhaaJa
import Derived.Test.YtdadmhahbeehhaaJb
import Derived.Test.YtdadmhahbeehhaaJc
import Derived.Test.YtdadmhahbeehhaaJd
import Derived.Test.YtdadmhahbeehhaaJe
import Derived.Test.YtdadmhahbeehhaaJf
import Derived.Test.YtdadmhahbeehhaaJg
import Derived.Test.YtdadmhahbeehhaaJh
import Derived.Test.YtdadmhahbeehhaaJi
import Derived.Test.YtdadmhahbeehhaaJj
import Derived.Test.YtdadmhahbeehhaaJl
import Derived.Test.YtdadmhahbeehhaaJm
set_option linter.unusedSimpArgs false
set_option linter.unusedVariables false
set_option linter.unusedSectionVars false
set_option maxRecDepth 100000
namespace Dak
open Go Go.RowKit
variable [Globs]
variable {P : Program} {F0 : FD} {w0 w : World} {L : Lay} {objs objs0 : List AObj} {nid : Nat}
theorem live_set_same {id gen size:Nat} {elem:TypeId} {xs xs':List AV} (ho:objs[id]? = some (.arr gen size elem xs)):Later w L objs w L (objs.set id (.arr gen size elem xs')):=by
 have hid:=(List.getElem?_eq_some_iff.1 ho).1
 refine ⟨fun b hF hb=>⟨rfl,hF⟩,stale_next ho (Nat.le_refl _),fun i g s h=>.inr ⟨?_,rfl⟩⟩
 by_cases e:id=i
 ·subst e
  obtain ⟨e',ys,h⟩:=h
  rw [ho] at h;simp only [Option.some.injEq,AObj.arr.injEq] at h
  obtain ⟨rfl,rfl,rfl,rfl⟩:=h
  exact ⟨_,_,List.getElem?_set_self hid⟩
 ·unfold live at h ⊢;rwa [List.getElem?_set_ne e]
theorem good_recell {L':Lay} {objs':List AObj} (g:Good F0 w0 w L objs) (g':Good F0 w0 w L' objs') (hl:Later w L objs w L' objs') {id gen size el c:Nat} {elem:TypeId} {xs:List AV} {y x0 x1:AV}
 (ho:objs[id]? = some (.arr gen size elem xs)) (ho':objs'[id]? = some (.arr gen size elem xs)) (hbk:L'.blk id=L.blk id) (hy:xs[el]? = some y) (hc:y.cells[c]? = some x0) (hx:∀ u,u.oneCell'=true->VR w L objs x0 u->VR w L' objs' x1 u) (h1:∀ ds,x1 ≠ .agg ds) :
 Good F0 w0 w L' (objs'.set id (.arr gen size elem (xs.set el (recell y (y.cells.set c x1))))):=by
 have hid:=(List.getElem?_eq_some_iff.1 ho').1
 have hl2:Later w L' objs' w L' (objs'.set id (.arr gen size elem (xs.set el (recell y (y.cells.set c x1))))):=live_set_same ho'
 refine ⟨fun i o hi=>?_,fun i hi=>g'.out i (by rw [List.length_set] at hi;exact hi),g'.inj,g'.own,g'.old,g'.ext,g'.gl⟩
 by_cases e:i=id
 ·subst e
  rw [List.getElem?_set_self hid] at hi
  simp only [Option.some.injEq] at hi;subst hi
  have:=g.obj _ _ ho
  unfold OR at this ⊢
  rw [hbk]
  cases hb:L.blk i with
  | none =>
   rw [hb] at this
   simp only at this
   subst this;simp at hy
  | some q =>
   obtain ⟨b,o,n⟩:=q
   rw [hb] at this
   obtain ⟨cur,hcur,hn,hr1,hr2⟩:=this
   obtain ⟨hel,rfl⟩:=List.getElem?_eq_some_iff.1 hy
   obtain ⟨hcl,rfl⟩:=List.getElem?_eq_some_iff.1 hc
   have hna:∀ c' ∈ xs[el].cells.set c x1,∀ ds,c' ≠ .agg ds:=by
    intro c' hc' ds
    obtain ⟨k,hk,rfl⟩:=List.getElem_of_mem hc'
    rw [List.getElem_set]
    split
    ·exact h1 ds
    ·obtain ⟨u,_,ho1,hv⟩:=(hr2 el hel).2 k (by simpa using hk)
     exact one_not_agg hv ho1 ds
   have hrc:=recell_cells xs[el] _ hna
   refine ⟨cur,hcur,hn,by rw [List.length_set];exact hr1,fun j hj=>?_⟩
   rw [List.length_set] at hj
   by_cases ej:el=j
   ·subst ej
    rw [List.getElem_set_self,hrc]
    refine ⟨by rw [List.length_set];exact (hr2 el hel).1,fun k hk=>?_⟩
    rw [List.length_set] at hk
    obtain ⟨u,hu,ho1,hv⟩:=(hr2 el hel).2 k hk
    refine ⟨u,hu,ho1,?_⟩
    rw [List.getElem_set]
    split
    ·rename_i ek;subst ek;exact (hx u ho1 hv).stay hl2
    ·exact (hv.stay hl).stay hl2
   ·rw [List.getElem_set_ne ej]
    refine ⟨(hr2 j hj).1,fun k hk=>?_⟩
    obtain ⟨u,hu,ho1,hv⟩:=(hr2 j hj).2 k hk
    exact ⟨u,hu,ho1,(hv.stay hl).stay hl2⟩
 ·rw [List.getElem?_set_ne (Ne.symm e)] at hi
  have:=g'.obj i o hi
  cases o with
  | void=>exact this
  | dead=>exact this
  | probe k st li bk ps=>exact this.probe_stay hl2 rfl
  | arr gen size elem xs =>
   unfold OR at this ⊢
   cases hbk:L'.blk i with
   | none=>rw [hbk] at this;exact this
   | some q =>
    obtain ⟨b,o',n⟩:=q
    rw [hbk] at this
    obtain ⟨cur,hc,hn,hr⟩:=this
    exact ⟨cur,hc,hn,hr.stay hl2⟩
theorem good_dead (g:Good F0 w0 w L objs) {id gen size:Nat} {elem:TypeId} {xs:List AV} (ho:objs[id]? = some (.arr gen size elem xs)) :
 ∃ L':Lay,Good F0 w0 w L' (objs.set id .dead)/\Later w L objs w L' (objs.set id .dead)/\(∀ b,L.F b->L'.F b)/\(∀ b o n,L.blk id=some (b,o,n)->L'.F b)/\∀ i,i ≠ id->L'.blk i=L.blk i:=by
 have hid:=(List.getElem?_eq_some_iff.1 ho).1
 let L':Lay:=⟨fun b=>L.F b \/ ∃ o n,L.blk id=some (b,o,n),fun i=>if i=id then none else L.blk i⟩
 have hlater:Later w L objs w L' (objs.set id .dead):=by
  refine ⟨fun b hF hb=>⟨rfl,.inl hF⟩,fun i g' hst=>?_,fun i g' s' hl=>?_⟩
  ·by_cases e:id=i
   ·subst e;exact .inl (List.getElem?_set_self hid)
   ·unfold stale at hst ⊢;rwa [List.getElem?_set_ne e]
  ·by_cases e:id=i
   ·subst e;exact .inl (.inl (List.getElem?_set_self hid))
   ·refine .inr ⟨?_,if_neg (Ne.symm e)⟩
    unfold live at hl ⊢;rwa [List.getElem?_set_ne e]
 refine ⟨L',⟨fun i o ho'=>?_,fun i hi=>?_,fun i j b o n o' n' h1 h2=>?_,fun i b o n h=>?_,fun b hb=>?_,g.ext,g.gl.stay hlater.wk⟩,hlater,fun b h=>.inl h,fun b o n h=>.inr ⟨o,n,h⟩,fun i h=>if_neg h⟩
 ·by_cases e:i=id
  ·subst e
   rw [List.getElem?_set_self hid] at ho'
   simp only [Option.some.injEq] at ho';subst ho'
   exact if_pos rfl
  ·rw [List.getElem?_set_ne (Ne.symm e)] at ho'
   have:=g.obj i o ho'
   have hbe:L'.blk i=L.blk i:=if_neg e
   cases o with
   | void=>unfold OR at this ⊢;rw [hbe];exact this
   | dead=>unfold OR at this ⊢;rw [hbe];exact this
   | probe k st li bk ps=>exact this.probe_stay hlater hbe
   | arr gen size elem xs =>
    unfold OR at this ⊢
    rw [hbe]
    cases hbk:L.blk i with
    | none=>rw [hbk] at this;exact this
    | some q =>
     obtain ⟨b,o',n⟩:=q
     rw [hbk] at this
     obtain ⟨cur,hc,hn,hr⟩:=this
     exact ⟨cur,hc,hn,hr.stay hlater⟩
 ·rw [List.length_set] at hi
  show (if i=id then none else L.blk i)=none
  split
  ·rfl
  ·exact g.out i hi
 ·have h1':(if i=id then none else L.blk i)=some (b,o,n):=h1
  have h2':(if j=id then none else L.blk j)=some (b,o',n'):=h2
  split at h1' <;> split at h2' <;> first | exact g.inj _ _ _ _ _ _ _ h1' h2' | cases h1' | cases h2'
 ·have h':(if i=id then none else L.blk i)=some (b,o,n):=h
  split at h'
  ·cases h'
  ·rename_i e
   have:=g.own _ _ _ _ h'
   refine ⟨?_,this.2⟩
   rintro (hF | ⟨o2,n2,hF⟩)
   ·exact this.1 hF
   ·exact e (g.inj _ _ _ _ _ _ _ h' hF)
 ·rcases hb with hb | ⟨o,n,hb⟩
  ·exact g.old b hb
  ·have:=g.own _ _ _ _ hb
   exact ⟨.inr this.2.1,this.2.2⟩
theorem own_data (gd:Good F0 w0 w L objs) {id g off len size:Nat} {elem:TypeId} {xs:List AV} (ho:objs[id]? = some (.arr g size elem xs)) (hle:off+len<=xs.length) (hT:(xs.all AV.isT)=true) (hem:elem<mapT) {G:Nat->Prop} (hF:∀ b,L.F b->G b) (hG:∀ b o n,L.blk id=some (b,o,n)->G b)
 {v:Value} (h:VR w L objs (.own id g off len) v):TR w G (.list size ((xs.drop off).take len)) v:=by
 have hsn:Snap (List.replicate id .dead++[.arr g size elem xs]) (.own id g off len) (.list size ((xs.drop off).take len)):=by
  have hl:((xs.drop off).take len).length=len:=by simp;omega
  refine .own id g off len size elem xs _ (by rw [List.getElem?_append_right (by simp)];simp) hle hl (fun i hi=>?_) hem
  rw [List.getElem_take,List.getElem_drop]
  exact .tree _ (List.all_eq_true.1 hT _ (List.getElem_mem _))
 have only:∀ (i g' s':Nat) (e':TypeId) (xs':List AV),(List.replicate id AObj.dead++[AObj.arr g size elem xs])[i]? = some (AObj.arr g' s' e' xs')->i=id/\AObj.arr g size elem xs=AObj.arr g' s' e' xs':=by
  intro i g' s' e' xs' hi
  by_cases hlt:i<id
  ·rw [List.getElem?_append_left (by simpa using hlt),List.getElem?_replicate,if_pos hlt] at hi;simp at hi
  ·have:i=id:=by have:=(List.getElem?_eq_some_iff.1 hi).1;simp at this;omega
   subst this
   rw [List.getElem?_append_right (by simp)] at hi
   simp only [List.length_replicate,Nat.sub_self,List.getElem?_cons_zero,Option.some.injEq] at hi
   exact ⟨rfl,hi⟩
 refine snap_ok gd ?_ hF ?_ hsn _ h
 ·intro i g' s' e' xs' hi
  obtain ⟨rfl,e⟩:=only i g' s' e' xs' hi
  rw [<-e];exact ho
 ·intro i g' s' e' xs' hi b o n hb
  obtain ⟨rfl,_⟩:=only i g' s' e' xs' hi
  exact hG b o n hb
theorem WkE.freezeCell {n:Nat} {env:List (Nat × AV)} {objs:List AObj} (id gen sz el c id2 g2 off len size:Nat) (et elem:TypeId) (xs ys:List AV) (y:AV) (ho:objs[id]? = some (.arr gen sz et xs)) (hy:xs[el]? = some y) (hc:y.cells[c]? = some (.own id2 g2 off len))
 (ho2:objs[id2]? = some (.arr g2 size elem ys)) (hne:id ≠ id2) (hle:off+len<=ys.length) (hT:(ys.all AV.isT)=true) (hem:elem<mapT:=by decide) :
 WkE n ⟨env,objs⟩ ⟨env,(objs.set id2 .dead).set id (.arr gen sz et (xs.set el (recell y (y.cells.set c (.list size ((ys.drop off).take len))))))⟩:=by
 intro hk
 refine ⟨hk,fun F0 w0 a w hs=>?_⟩
 obtain ⟨hd,L,g,hs,ht⟩:=sim_slots hk hs
 obtain ⟨L',g',hl,h1,h2,h3⟩:=good_dead g ho2
 have ho':(objs.set id2 .dead)[id]? = some (.arr gen sz et xs):=by rw [List.getElem?_set_ne (Ne.symm hne)];exact ho
 have hg:=good_recell (x1:=.list size ((ys.drop off).take len)) g g' hl ho ho' (h3 id hne) hy hc (fun u _ hu=>.tree (own_data g ho2 hle hT hem h1 h2 hu)) (fun ds=>by simp)
 exact sim_mk (s:=⟨env,_⟩) hd hg hs fun t h=>(ht t h).stay (hl.trans (live_set_same ho'))
end Dak
namespace Dak
open Go Go.RowKit
variable [Globs]
end Dak
namespace Dak
open Go Go.RowKit
variable [Globs]
variable {P : Program} {F0 : FD} {w0 : World}
end Dak
namespace Go.Proofs.Ytdadmhahbeehhaa
open Dak
def c15:CCode :=
 (sR [oo 6 (.mov (kk 0)),oo 7 (.mov (kk 0)),oo 8 (.mov (kk 0))]
 (.seq (sR [vv 12 0,vv 13 1,vv 14 2,oo 15 (cL 26 [T 12,T 13,T 14]),oo 16 (.lnot (T 15))]
 (.cond (T 16)
 (sR [oo 6 (.mov (kk 0)),oo 7 (.mov (kk 0)),oo 8 (.mov (kk 1))]
 .ret)
 .skip))
 (sR [vv 18 0,vv 19 1,vv 20 2,oo 21 (cL 27 [T 18,T 19,T 20]),vv 17 21,oo 22 (eX 17 0),oo 23 (eX 17 1),vv 9 22,vv 10 23]
 (sR [vv 24 9,vv 25 10,oo 26 (iB .add 24 25),oo 27 (iK .add 26 20),oo 28 (iK .quo 27 2),oo 29 (iK .sub 28 10),vv 11 29]
 (sR [vv 30 11,vv 31 11,vv 32 9,oo 33 (iB .sub 31 32),vv 34 10,vv 35 11,oo 36 (iB .sub 34 35),oo 37 (.imax (T 33) (T 36)),vv 6 30,vv 7 37,oo 8 (.mov (kk 0))]
 .ret)))))
theorem f15:fnC Try.lprog 15=some (c15,38,[(.tmp 6),(.tmp 7),(.tmp 8)]):=by kernel_rfl
end Go.Proofs.Ytdadmhahbeehhaa
namespace Go.Proofs.Ytdadmhahbeehhaa
open Go.RowKit Dak A42
theorem rLevel_s (L asked right:List Int) (hL:L.length<=9223372036854775806) (hA:asked.length<=9223372036854775806) (hR:right.length<=9223372036854775806):Ctr Try.lprog 15 [vints L,vints asked,vints right] (vtr (LevelM L asked right)):=by
 have hra:=rAnswers_s L asked right hL hA hR
 refine specC f15 (by simp) fun F0 w0=>CwpE.vc ?_
 by_cases hok:okAns L asked right=true
 rotate_left
 ·have hno:okAns L asked right=false:=by simpa using hok
  have e1:LevelM L asked right=(0,0,1):=by unfold LevelM;rw [if_neg hok]
  rw [e1]
  simp only [c15,go_sem,↓reduceIte,reduceCtorEq,Nat.reduceLT,Nat.reduceEqDiff,Nat.reduceAdd]
  refine callT hra rfl ?_
  simp only [go_sem,hno]
  exact .tree _ rfl
 obtain ⟨he,hO⟩:=ok_iff.1 hok
 have hb:=shown_bd hO.len
 have hss:=rShown_s L asked right he hO
 have e1:LevelM L asked right=(floorM ((shown L (asked.zip right)).1+(shown L (asked.zip right)).2),max (floorM ((shown L (asked.zip right)).1+(shown L (asked.zip right)).2)-(shown L (asked.zip right)).1) ((shown L (asked.zip right)).2-floorM ((shown L (asked.zip right)).1+(shown L (asked.zip right)).2)),0):=by
  unfold LevelM;rw [if_pos hok]
 generalize shown L (asked.zip right)=s at hb hss e1
 obtain ⟨f,l⟩:=s
 dsimp only at hb e1 hss
 rw [e1]
 have hfl:=floor_eq (n:=f+l) (by omega)
 have w1:IntKind.i64.wrap (f+l)=f+l:=wrap_id (by omega) (by omega)
 have w2:IntKind.i64.wrap (f+l+20)=f+l+20:=wrap_id (by omega) (by omega)
 have hq:(f+l+20).tdiv 2=(f+l+20) / 2:=Int.tdiv_eq_ediv_of_nonneg (by omega)
 have w3:IntKind.i64.wrap ((f+l+20).tdiv 2)=(f+l+20).tdiv 2:=wrap_id (by omega) (by omega)
 have w4:IntKind.i64.wrap ((f+l+20).tdiv 2-10)=floorM (f+l):=by rw [wrap_id (by omega) (by omega)];omega
 have w5:IntKind.i64.wrap (floorM (f+l)-f)=floorM (f+l)-f:=wrap_id (by omega) (by omega)
 have w6:IntKind.i64.wrap (l-floorM (f+l))=l-floorM (f+l):=wrap_id (by omega) (by omega)
 simp only [c15,go_sem,↓reduceIte,reduceCtorEq,Nat.reduceLT,Nat.reduceEqDiff,Nat.reduceAdd]
 refine callT hra rfl ?_
 simp only [go_sem,hok]
 refine callT hss rfl ?_
 simp only [go_sem,Int.reduceEq,w1,w2,w3,w4,w5,w6]
 have:(if floorM (f+l)-f<l-floorM (f+l) then l-floorM (f+l) else floorM (f+l)-f)=max (floorM (f+l)-f) (l-floorM (f+l)):=by split <;> omega
 rw [this]
 exact .tree _ rfl
def LeT (x y:AV):Prop:=∀ (w:Go.World) (F:Nat->Prop) (v:Go.Value),TR w F x v->TR w F y v
theorem LeT.refl (x:AV):LeT x x:=fun _ _ _ h=>h
theorem LeT.nil:LeT (.val (.slice none 0 0)) (.list 1 []):=fun w F v h=>by
 cases h
 exact .nolist _ _ _ (by simp [maxLen])
theorem LeT.row {xs ys:List AV} (hl:xs.length=ys.length) (hc:∀ i (h:i<xs.length) (h':i<ys.length),∃ a b,xs[i].cells=[a]/\ys[i].cells=[b]/\LeT a b):LeT (.list 1 xs) (.list 1 ys):=fun w F v h=>by
 cases h with
 | nolist _ ad cap h =>
  obtain rfl:=List.length_eq_zero_iff.1 hl.symm
  exact .nolist _ _ _ h
 | list _ _ b o cap us hF hb hn hm hs hcell h1 hr =>
  rw [hl]
  refine .list 1 ys b o cap us hF hb (by omega) hm (fun i hi=>?_) (fun i j hi hj=>hcell i j (by omega) hj) (fun i j hi hj=>h1 i j (by omega) hj) fun i hi j hj=>?_
  ·obtain ⟨a,b',e1,e2,_⟩:=hc i (by omega) hi
   rw [e2];rfl
  ·obtain ⟨a,b',e1,e2,hle⟩:=hc i (by omega) hi
   have hj1:j<xs[i].cells.length:=by rw [e1];rw [e2] at hj;exact hj
   have:=hr i (by omega) j hj1
   simp only [e1] at this
   simp only [e2]
   rw [e2] at hj
   obtain rfl:j=0:=by simp at hj;omega
   exact hle w F _ this
theorem WkE.rows {n:Nat} {env:List (Nat × AV)} {objs:List AObj} (k:Nat) (xs:List AV) (y:AV) (hkn:k<n) (h:lk env k = .list 1 xs) (hle:LeT (.list 1 xs) y):WkE n ⟨env,objs⟩ ⟨(k,y)::env,objs⟩:=by
 intro hk
 refine ⟨fun t ht=>?_,fun F0 w0 a w hs=>?_⟩
 ·simp only [lk];rw [if_neg (by omega)];exact hk t ht
 ·obtain ⟨hd,L,g,hs,ht⟩:=sim_slots hk hs
  refine sim_mk (s:=⟨(k,y)::env,objs⟩) hd g hs fun t h'=>?_
  show VR w L objs (lk ((k,y)::env) t) _
  simp only [lk]
  split
  ·rename_i e
   subst e
   have h2:=ht k h'
   change VR w L objs (lk env k) _ at h2
   rw [h] at h2
   cases h2 with
   | tree h2=>exact .tree (hle _ _ _ h2)
  ·exact ht t h'
set_option maxHeartbeats 4000000 in
theorem AdaptiveNext_s (l m k:List Int) (at_ by_:Int) (hl:∀ x ∈ l,I64 x) (hm:∀ x ∈ m,I64 x) (hk:∀ x ∈ k,I64 x) (ha:I64 at_) (hb:I64 by_):Ctr Try.lprog 3 [vints l,vints m,vints k,vi at_,vi by_] (vb true):=by
 have hlen:=levels_len l
 have hI:=some_I (levelsM l) m
 have hIl:=hI.len
 have hLe:=Levels_s l hl
 have hSo:=Some_s (levelsM l) m (by omega) hm
 have hRi:=rights_s k (someM (levelsM l) m).length hk (by omega)
 have hRl:=rights_len k (someM (levelsM l) m).length
 have hO1:=odd_s (levelsM l) at_ by_ (by omega) ha hb
 have hO2:=odd_s (someM (levelsM l) m) at_ by_ (by omega) ha hb
 have hO3:=odd_s (rightsK k (someM (levelsM l) m).length) at_ by_ (by omega) ha hb
 have l1:=odd_len (levelsM l) at_ by_
 have l2:=odd_len (someM (levelsM l) m) at_ by_
 have l3:=odd_len (rightsK k (someM (levelsM l) m).length) at_ by_
 generalize rightsK k (someM (levelsM l) m).length=R at *
 generalize someM (levelsM l) m=A at *
 generalize levelsM l=L at *
 generalize oddM L at_ by_=L2 at *
 generalize oddM A at_ by_=A2 at *
 generalize oddM R at_ by_=R2 at *
 refine specC f3 (by simp) fun F0 w0=>?_
 unfold cn3
 refine CwpE.cut (st:=⟨[(0,vints l),(1,vints m),(2,vints k),(3,vi at_),(4,vi by_)],[]⟩) ?_ ?_
 ·simp only [go_sem]
  exact ⟨_,WkE.kp,rfl⟩
 refine CwpE.cut (st:=⟨[(1,vints m),(2,vints k),(3,vi at_),(4,vi by_),(11,vints L)],[]⟩) ?_ ?_
 ·simp only [go_sem]
  refine callT hLe rfl ?_
  simp only [go_sem]
  exact ⟨_,WkE.kp,rfl⟩
 refine CwpE.cut (st:=⟨[(2,vints k),(3,vi at_),(4,vi by_),(11,vints L),(12,vints A)],[]⟩) ?_ ?_
 ·simp only [go_sem]
  refine callT hSo rfl ?_
  simp only [go_sem]
  exact ⟨_,WkE.kp,rfl⟩
 refine CwpE.cut (st:=⟨[(3,vi at_),(4,vi by_),(11,vints L),(12,vints A),(13,vints R)],[]⟩) ?_ ?_
 ·simp only [go_sem,List.length_map]
  refine callT hRi rfl ?_
  simp only [go_sem]
  exact ⟨_,WkE.kp,rfl⟩
 have hcond:(0:Int)<=257/\(257:Int)<=257/\((8:Nat):Int)*257<=281474976710656/\(257:Int)<=9223372036854775807:=by decide
 have hsn:Snap [.dead,.arr 4 1 22 [vints L,vints L2,.list 1 (((List.replicate 257 (vi 0)).drop 0).take 257),.val (.slice none 0 0)]] (.own 1 4 0 4) (vrow [L,L2,List.replicate 257 0,[]]):=by
  refine .own 1 4 0 4 1 22 _ [vints L,vints L2,vints (List.replicate 257 0),vints []] rfl (by simp) (by simp) fun j hj=>?_
  match j,hj with
  | 0,_=>exact .tree _ rfl
  | 1,_=>exact .tree _ rfl
  | 2,_ =>
   have e:(((List.replicate 257 (vi 0)).drop 0).take 257)=(List.replicate 257 (0:Int)).map vi:=by
    rw [List.drop_zero,List.take_replicate,List.map_replicate];rfl
   show Snap _ (.list 1 (((List.replicate 257 (vi 0)).drop 0).take 257)) (vints (List.replicate 257 0))
   rw [e]
   exact .tree _ rfl
  | 3,_=>exact .nil 1
 refine CwpE.cut (st:=⟨[(3,vi at_),(4,vi by_),(12,vints A),(13,vints R),(14,vrow [L,L2,List.replicate 257 0,[]])],[.dead,.dead]⟩) ?_ ?_
 ·simp only [go_sem]
  refine callT hO1 rfl ?_
  simp only [go_sem,if_pos hcond]
  refine ⟨_,(WkE.freezeCell 1 4 1 2 0 0 257 0 257 1 22 3 [vints L,vints L2,.own 0 257 0 257,.val (.slice none 0 0)] (List.replicate 257 (vi 0)) (.own 0 257 0 257) rfl rfl rfl rfl (by omega) (by rw [List.length_replicate];omega) (by simp [AV.isT,AV.isT1])).trans ((WkE.freezeS 14 1 4 1 22 [vints L,vints L2,.list 1 (((List.replicate 257 (vi 0)).drop 0).take 257),.val (.slice none 0 0)] (.own 1 4 0 4) (vrow [L,L2,List.replicate 257 0,[]]) (by omega) rfl rfl hsn).trans (WkE.keep ?_)),rfl⟩
  simp only [go_sem];try trivial
 obtain ⟨B,hB⟩:∃ B,[L,L2,List.replicate 257 0,[]]=B:=⟨_,rfl⟩
 obtain ⟨P,hP⟩:∃ P,[(A,R),(A2,R),(A,R2),(([]:List Int),([]:List Int))]=P:=⟨_,rfl⟩
 refine CwpE.cut (st:=⟨[(14,vrow [L,L2,List.replicate 257 0,[]]),(15,.list 1 (P.map fun p=>vrow [p.1,p.2]))],[.dead,.dead]⟩) ?_ ?_
 ·subst hP
  simp only [go_sem,List.replicate_succ]
  refine callT hO2 rfl ?_
  simp only [go_sem]
  refine callT hO3 rfl ?_
  simp only [go_sem]
  refine ⟨_,(WkE.rows 15 _ (.list 1 [vrow [A,R],vrow [A2,R],vrow [A,R2],vrow [[],[]]]) (by omega) rfl ?_).trans (WkE.keep ?_),rfl⟩
  rotate_left
  ·simp only [go_sem];try trivial
  refine LeT.row rfl fun i h h'=>?_
  match i,h with
  | 0,_=>exact ⟨_,_,rfl,rfl,.refl _⟩
  | 1,_=>exact ⟨_,_,rfl,rfl,.refl _⟩
  | 2,_=>exact ⟨_,_,rfl,rfl,.refl _⟩
  | 3,_ =>
   refine ⟨_,_,rfl,rfl,LeT.row rfl fun i h h'=>?_⟩
   match i,h with
   | 0,_=>exact ⟨_,_,rfl,rfl,.nil⟩
   | 1,_=>exact ⟨_,_,rfl,rfl,.nil⟩
 rw [hB]
 have hBl:B.length=4:=by rw [<-hB];rfl
 have hPl:P.length=4:=by rw [<-hP];rfl
 have hBs:∀ i (h:i<B.length),B[i].length<=257:=by
  have:∀ x ∈ B,x.length<=257:=by
   rw [<-hB]
   intro x hx
   simp only [List.mem_cons,List.not_mem_nil,or_false] at hx
   rcases hx with rfl | rfl | rfl | rfl
   ·omega
   ·omega
   ·rw [List.length_replicate];omega
   ·simp
  exact fun i h=>this _ (List.getElem_mem h)
 have hPs:∀ i (h:i<P.length),P[i].1.length<=257/\P[i].2.length<=257:=by
  have:∀ x ∈ P,x.1.length<=257/\x.2.length<=257:=by
   rw [<-hP]
   intro x hx
   simp only [List.mem_cons,List.not_mem_nil,or_false] at hx
   rcases hx with rfl | rfl | rfl | rfl
   ·exact ⟨by dsimp only;omega,by dsimp only;omega⟩
   ·exact ⟨by dsimp only;omega,by dsimp only;omega⟩
   ·exact ⟨by dsimp only;omega,by dsimp only;omega⟩
   ·exact ⟨by simp,by simp⟩
  exact fun i h=>this _ (List.getElem_mem h)
 clear hB hP
 obtain ⟨vB,hvB⟩:∃ v,vrow B=v:=⟨_,rfl⟩
 obtain ⟨vP,hvP⟩:∃ v,AV.list 1 (P.map fun p=>vrow [p.1,p.2])=v:=⟨_,rfl⟩
 rw [hvB,hvP]
 refine CwpE.seqJ (fun z=>z=⟨[],[]⟩) ?_ ?_
 rotate_left
 ·rintro _ rfl
  refine CwpE.vc ?_
  simp only [go_sem]
  refine callT lives_s rfl ?_
  simp only [go_sem]
  exact .tree _ rfl
 refine CwpE.cut (st:=⟨[(14,vB),(15,vP),(16,vi (0:Nat))],[.dead,.dead]⟩) ?_ ?_
 ·simp only [go_sem]
  exact ⟨⟨[(14,vB),(15,vP),(16,vi (0:Nat))],[.dead,.dead]⟩,WkE.kp,rfl⟩
 refine CwpE.block ?_
 refine loopXC 0 (fun m' s=>∃ i:Nat,m'=4-i/\i<=4/\s=⟨[(14,vB),(15,vP),(16,vi i)],[.dead,.dead]⟩) (fun z=>z=⟨[],[]⟩) 4 _ (.refl _ _) ⟨0,rfl,by omega,rfl⟩ ?_ ?_
 rotate_left
 ·rintro s rfl
  simp only [go_sem]
  exact ⟨_,.refl _ _,rfl⟩
 rintro m' s ⟨i,rfl,hi,rfl⟩
 by_cases hlt:i<4
 rotate_left
 ·obtain rfl:i=4:=by omega
  refine CwpE.vc ?_
  subst hvB
  simp only [go_sem,hBl,List.length_map,Int.lt_irrefl]
  exact ⟨⟨[],[]⟩,WkE.round trivial rfl rfl rfl,rfl⟩
 have i0:(0:Int)<=(i:Int):=by omega
 have i1:(i:Int)<((4:Nat):Int):=by omega
 have wi:=wrap_s i (by omega)
 have hBi:(B.map vints)[i]? = some (vints B[i]):=by rw [List.getElem?_map,List.getElem?_eq_getElem (by omega)];rfl
 have hsi:=hBs i (by omega)
 generalize B[i]=Bi at hBi hsi
 refine CwpE.cut (st:=⟨[(14,vB),(15,vP),(16,vi i)],[.dead,.dead]⟩) ?_ ?_
 ·subst hvB
  simp only [go_sem,hBl,List.length_map,i1]
  exact ⟨_,WkE.kp,rfl⟩
 refine CwpE.seqJ (fun z=>z=⟨[(14,vB),(15,vP),(16,vi i)],[.dead,.dead]⟩) (CwpE.block ?_) ?_
 rotate_left
 ·rintro _ rfl
  refine CwpE.vc ?_
  simp only [go_sem,wi]
  exact ⟨4-(i+1),⟨[(14,vB),(15,vP),(16,vi ((i+1:Nat):Int))],[.dead,.dead]⟩,by omega,WkE.kp,i+1,rfl,by omega,rfl⟩
 refine CwpE.cut (st:=⟨[(14,vB),(15,vP),(16,vi i),(17,vi (0:Nat))],[.dead,.dead]⟩) ?_ ?_
 ·simp only [go_sem]
  exact ⟨⟨[(14,vB),(15,vP),(16,vi i),(17,vi (0:Nat))],[.dead,.dead]⟩,WkE.kp,rfl⟩
 refine CwpE.block ?_
 refine loopXC 2 (fun m' s=>∃ j:Nat,m'=4-j/\j<=4/\s=⟨[(14,vB),(15,vP),(16,vi i),(17,vi j)],[.dead,.dead]⟩) (fun z=>z=⟨[(14,vB),(15,vP),(16,vi i)],[.dead,.dead]⟩) 4 _ (.refl _ _) ⟨0,rfl,by omega,rfl⟩ ?_ ?_
 rotate_left
 ·rintro s rfl
  simp only [go_sem]
  exact ⟨_,.refl _ _,rfl⟩
 rintro m' s ⟨j,rfl,hj,rfl⟩
 by_cases hjt:j<4
 rotate_left
 ·obtain rfl:j=4:=by omega
  refine CwpE.vc ?_
  subst hvP
  simp only [go_sem,hPl,List.length_map,Int.lt_irrefl]
  exact ⟨_,WkE.keep (env':=[(14,vB),(15,.list 1 (P.map fun p=>vrow [p.1,p.2])),(16,vi i)]) (by simp only [go_sem];try trivial),rfl⟩
 have j0:(0:Int)<=(j:Int):=by omega
 have j1:(j:Int)<((4:Nat):Int):=by omega
 have wj:=wrap_s j (by omega)
 have hPj:(P.map fun p=>vrow [p.1,p.2])[j]? = some (vrow [P[j].1,P[j].2]):=by rw [List.getElem?_map,List.getElem?_eq_getElem (by omega)];rfl
 obtain ⟨s1,s2⟩:=hPs j (by omega)
 generalize P[j].1=a at hPj s1
 generalize P[j].2=r at hPj s2
 have hN:=Next_s Bi a r (by omega) (by omega) (by omega)
 have hrN:=rNext_s Bi a r (by omega) (by omega) (by omega)
 have hLv:=Level_s Bi a r (by omega) (by omega) (by omega)
 have hrL:=rLevel_s Bi a r (by omega) (by omega) (by omega)
 generalize NextM Bi a r=nx at hN hrN
 generalize LevelM Bi a r=lvl at hLv hrL
 refine CwpE.cut (st:=⟨[(14,vB),(15,vP),(16,vi i),(17,vi j)],[.dead,.dead]⟩) ?_ ?_
 ·subst hvP
  simp only [go_sem,hPl,List.length_map,j1]
  exact ⟨_,WkE.kp,rfl⟩
 refine CwpE.seqJ (fun z=>z=⟨[(14,vB),(15,vP),(16,vi i),(17,vi j)],[.dead,.dead]⟩) (CwpE.block ?_) ?_
 rotate_left
 ·rintro _ rfl
  refine CwpE.vc ?_
  simp only [go_sem,wj]
  exact ⟨4-(j+1),⟨[(14,vB),(15,vP),(16,vi i),(17,vi ((j+1:Nat):Int))],[.dead,.dead]⟩,by omega,WkE.kp,j+1,rfl,by omega,rfl⟩
 refine CwpE.cut (st:=⟨[(14,vB),(15,vP),(16,vi i),(17,vi j),(18,.ptr [vints Bi])],[.dead,.dead,.dead]⟩) ?_ ?_
 ·subst hvB
  simp only [go_sem,i0,hBi]
  refine ⟨_,(WkE.freezeS 18 2 1 1 30 [vbank Bi] _ (.ptr [vints Bi]) (by omega) rfl rfl (.ref _ _ _ _ _ _ rfl rfl fun i h1 h2=>by match i,h1 with | 0,_=>exact .tree _ rfl)).trans (WkE.keep ?_),rfl⟩
  simp only [go_sem];try trivial
 refine CwpE.cut (st:=⟨[(14,vB),(15,vP),(16,vi i),(17,vi j),(18,.ptr [vints Bi]),(19,vi nx.1),(20,vi nx.2)],[.dead,.dead,.dead]⟩) ?_ ?_
 ·subst hvP
  simp only [go_sem,Int.reduceLE,Int.le_refl,j0,hPj]
  refine callT hN rfl ?_
  simp only [go_sem]
  exact ⟨_,WkE.kp,rfl⟩
 refine CwpE.cut (st:=⟨[(14,vB),(15,vP),(16,vi i),(17,vi j),(18,.ptr [vints Bi]),(19,vi nx.1),(20,vi nx.2),(21,vi nx.1),(22,vi nx.2)],[.dead,.dead,.dead]⟩) ?_ ?_
 ·subst hvP hvB
  simp only [go_sem,Int.reduceLE,Int.le_refl,j0,hPj,i0,hBi]
  refine callT hrN rfl ?_
  simp only [go_sem]
  exact ⟨_,WkE.kp,rfl⟩
 refine CwpE.cut (st:=⟨[(14,vB),(15,vP),(16,vi i),(17,vi j),(19,vi nx.1),(20,vi nx.2),(21,vi nx.1),(22,vi nx.2),(23,vi lvl.1),(24,vi lvl.2.1),(25,vi lvl.2.2)],[.dead,.dead,.dead]⟩) ?_ ?_
 ·subst hvP
  simp only [go_sem,Int.reduceLE,Int.le_refl,j0,hPj]
  refine callT hLv rfl ?_
  simp only [go_sem]
  exact ⟨_,WkE.kp,rfl⟩
 refine CwpE.cut (st:=⟨[(14,vB),(15,vP),(16,vi i),(17,vi j),(19,vi nx.1),(20,vi nx.2),(21,vi nx.1),(22,vi nx.2),(23,vi lvl.1),(24,vi lvl.2.1),(25,vi lvl.2.2),(26,vi lvl.1),(27,vi lvl.2.1),(28,vi lvl.2.2)],[.dead,.dead,.dead]⟩) ?_ ?_
 ·subst hvP hvB
  simp only [go_sem,Int.reduceLE,Int.le_refl,j0,hPj,i0,hBi]
  refine callT hrL rfl ?_
  simp only [go_sem]
  exact ⟨_,WkE.kp,rfl⟩
 refine CwpE.vc ?_
 obtain ⟨n1,n2⟩:=nx
 obtain ⟨v1,v2,v3⟩:=lvl
 simp only [go_sem]
 refine ⟨⟨[(14,vB),(15,vP),(16,vi i),(17,vi j)],[.dead,.dead]⟩,WkE.round (by simp only [go_sem];try trivial) ?_ rfl rfl,rfl⟩
 subst hvB hvP
 rfl
end Go.Proofs.Ytdadmhahbeehhaa
