/- Lemmas used by all laws. -/
import Derived.Test.YtdadmhahbeehhaaJa
set_option linter.unusedSimpArgs false
set_option linter.unusedVariables false
set_option linter.unusedSectionVars false
set_option maxRecDepth 100000
namespace Dak
open Go Go.RowKit
variable [Globs]
end Dak
namespace Dak
open Go Go.RowKit
variable [Globs]
section
variable {F0 : FD} {w0 w : World} {L : Lay} {objs : List AObj}
section
variable {σ : Nat -> Nat} {base : List AObj}
theorem ren_live (h:∀ (i g s:Nat) (e:TypeId) (xs:List AV),base[i]? = some (AObj.arr g s e xs)->objs[σ i]? = some (AObj.arr g s e (xs.map (AV.ren σ)))) {i g s:Nat} (hl:live base i g s):live objs (σ i) g s:=by
 obtain ⟨e,xs,hl⟩:=hl
 exact ⟨e,_,h _ _ _ _ _ hl⟩
theorem ren_stale (h:∀ (i g s:Nat) (e:TypeId) (xs:List AV),base[i]? = some (AObj.arr g s e xs)->objs[σ i]? = some (AObj.arr g s e (xs.map (AV.ren σ)))) (hd:∀ i:Nat,base[i]? ≠ some AObj.dead) {i g:Nat} (hl:stale base i g):stale objs (σ i) g:=by
 rcases hl with hl | ⟨g',s,e,xs,hl,hlt⟩
 ·exact absurd hl (hd i)
 ·exact .inr ⟨g',s,e,_,h _ _ _ _ _ hl,hlt⟩
theorem unren_live (h:Ren σ base objs) {i g s:Nat} (hi:isArr base i=true) (hl:live objs (σ i) g s):live base i g s:=by
 obtain ⟨g',s',e',xs',hb⟩:=isArr_some hi
 obtain ⟨e,xs,hl⟩:=hl
 rw [h.at_ _ _ _ _ _ hb] at hl
 simp only [Option.some.injEq,AObj.arr.injEq] at hl
 obtain ⟨rfl,rfl,rfl,_⟩:=hl
 exact ⟨_,_,hb⟩
theorem unren_stale (h:Ren σ base objs) {i g:Nat} (hi:isArr base i=true) (hl:stale objs (σ i) g):stale base i g:=by
 obtain ⟨g',s',e',xs',hb⟩:=isArr_some hi
 unfold stale at hl
 rw [h.at_ _ _ _ _ _ hb] at hl
 rcases hl with hl | ⟨g2,s2,e2,xs2,hl,hlt⟩
 ·cases hl
 ·simp only [Option.some.injEq,AObj.arr.injEq] at hl
  obtain ⟨rfl,rfl,rfl,_⟩:=hl
  exact .inr ⟨_,_,_,_,hb,hlt⟩
theorem ren1_vr {w':World} {L' L2:Lay} {objs':List AObj} (hF:∀ b,L'.F b->L2.F b) (hl:∀ i g s,live base i g s->live objs' (σ i) g s/\L2.blk (σ i)=L'.blk i) (hs:∀ i g,stale base i g->stale objs' (σ i) g) {x:AV} {v:Value} (h:VR w' L' base x v) (hx:x.inR1 base=true) :
 VR w' L2 objs' (x.ren1 σ) v:=by
 have tr:∀ {x:AV} {v:Value},TR w' L'.F x v->VR w' L2 objs' x v:=fun h=>.tree (h.mono fun b h _=>hF b h)
 cases h with
 | tree h =>
  have e:x.ren1 σ = x:=by cases h <;> rfl
  rw [e];exact tr h
 | junk=>exact .junk _
 | ownS id g o l v h=>exact .ownS _ _ _ _ _ (hs _ _ h)
 | ownN id g o ad s h=>exact .ownN _ _ _ _ s (hl _ _ _ h).1
 | ownL id g o l cap s b o' n h hn hc hm hr=>exact .ownL _ _ _ _ _ _ _ _ _ (hl _ _ _ h).1 (by rw [(hl _ _ _ h).2];exact hn) hc hm hr
 | refS id g e c v h=>exact .refS _ _ _ _ _ (hs _ _ h)
 | refL id g e c s b o n h hn=>exact .refL _ _ _ _ _ _ _ _ (hl _ _ _ h).1 (by rw [(hl _ _ _ h).2];exact hn)
 | mapS id g v h=>exact .mapS _ _ _ (hs _ _ h)
 | mapL id g s b o n h hn=>exact .mapL _ _ _ _ _ _ (hl _ _ _ h).1 (by rw [(hl _ _ _ h).2];exact hn)
 | agg=>simp [AV.inR1] at hx
 | tup=>simp [AV.inR1] at hx
 | clo fn cs vs hl hr =>
  have:cs=[]:=by simpa [AV.inR1] using hx
  subst this
  exact .clo _ _ _ hl fun i h _=>absurd h (by simp)
theorem renA_vr {w':World} {L' L2:Lay} {objs':List AObj} (hF:∀ b,L'.F b->L2.F b) (hl:∀ i g s,live base i g s->live objs' (σ i) g s/\L2.blk (σ i)=L'.blk i) (hs:∀ i g,stale base i g->stale objs' (σ i) g) {x:AV} {v:Value} (h:VR w' L' base x v) (hx:x.inRA base=true) :
 VR w' L2 objs' (x.renA σ) v:=by
 cases x with
 | agg cs =>
  obtain ⟨vs,rfl,hl',h1,hr⟩:=h.agg_inv
  refine .agg _ _ (by simpa using hl') h1 fun i hi h2=>?_
  rw [List.getElem_map]
  exact ren1_vr hF hl hs (hr i (by simpa using hi) h2) (List.all_eq_true.1 hx _ (List.getElem_mem _))
 | _=>exact ren1_vr hF hl hs h hx
theorem ren_vr {w':World} {L' L2:Lay} {objs':List AObj} (hF:∀ b,L'.F b->L2.F b) (hl:∀ i g s,live base i g s->live objs' (σ i) g s/\L2.blk (σ i)=L'.blk i) (hs:∀ i g,stale base i g->stale objs' (σ i) g) {x:AV} {v:Value} (h:VR w' L' base x v) (hx:x.inR base=true) :
 VR w' L2 objs' (x.ren σ) v:=by
 cases x with
 | agg cs =>
  obtain ⟨vs,rfl,hl',h1,hr⟩:=h.agg_inv
  refine .agg _ _ (by simpa using hl') h1 fun i hi h2=>?_
  rw [List.getElem_map]
  exact ren1_vr hF hl hs (hr i (by simpa using hi) h2) (List.all_eq_true.1 hx _ (List.getElem_mem _))
 | tup cs =>
  obtain ⟨vs,rfl,hl',hr⟩:=h.tup_inv
  refine .tup _ _ (by simpa using hl') fun i hi h2=>?_
  rw [List.getElem_map]
  exact renA_vr hF hl hs (hr i (by simpa using hi) h2) (List.all_eq_true.1 hx _ (List.getElem_mem _))
 | clo fn cs =>
  obtain ⟨vs,rfl,hl',hr⟩:=h.clo_inv
  refine .clo _ _ _ (by simpa using hl') fun i hi h2=>?_
  rw [List.getElem_map]
  exact ren1_vr hF hl hs (hr i (by simpa using hi) h2) (List.all_eq_true.1 hx _ (List.getElem_mem _))
 | _=>exact ren1_vr hF hl hs h hx
def Lay.back (L:Lay) (σ : Nat->Nat) (base:List AObj):Lay:=⟨L.F,fun i=>if isArr base i then L.blk (σ i) else none⟩
theorem unren1_vr (hR:Ren σ base objs) {x:AV} {v:Value} (h:VR w L objs (x.ren1 σ) v) (hx:x.inR1 base=true):VR w (L.back σ base) base x v:=by
 have tr:∀ {x:AV} {v:Value},TR w L.F x v->VR w (L.back σ base) base x v:=fun h=>.tree (h.mono fun b h _=>h)
 have bk:∀ {i},isArr base i=true->(L.back σ base).blk i=L.blk (σ i):=fun h=>if_pos h
 cases x with
 | own id g o l =>
  have hx:isArr base id=true:=hx
  simp only [AV.ren1] at h
  cases h with
  | tree h=>cases h
  | ownS _ _ _ _ _ h=>exact .ownS _ _ _ _ _ (unren_stale hR hx h)
  | ownN _ _ _ ad s h=>exact .ownN _ _ _ _ s (unren_live hR hx h)
  | ownL _ _ _ _ cap s b o' n h hn hc hm hr=>exact .ownL _ _ _ _ _ _ _ _ _ (unren_live hR hx h) (by rw [bk hx];exact hn) hc hm hr
 | ref id g e c =>
  have hx:isArr base id=true:=hx
  simp only [AV.ren1] at h
  cases h with
  | tree h=>cases h
  | refS _ _ _ _ _ h=>exact .refS _ _ _ _ _ (unren_stale hR hx h)
  | refL _ _ _ _ s b o n h hn=>exact .refL _ _ _ _ _ _ _ _ (unren_live hR hx h) (by rw [bk hx];exact hn)
 | mref id g =>
  have hx:isArr base id=true:=hx
  simp only [AV.ren1] at h
  cases h with
  | tree h=>cases h
  | mapS _ _ _ h=>exact .mapS _ _ _ (unren_stale hR hx h)
  | mapL _ _ s b o n h hn=>exact .mapL _ _ _ _ _ _ (unren_live hR hx h) (by rw [bk hx];exact hn)
 | agg=>simp [AV.inR1] at hx
 | tup=>simp [AV.inR1] at hx
 | clo fn cs =>
  have:cs=[]:=by simpa [AV.inR1] using hx
  subst this
  obtain ⟨vs,rfl,hl,_⟩:=VR.clo_inv (cs:=[]) h
  exact .clo _ _ _ hl fun i h _=>absurd h (by simp)
 | junk=>exact .junk _
 | _ =>
  simp only [AV.ren1] at h
  cases h with
  | tree h=>exact tr h
theorem unrenA_vr (hR:Ren σ base objs) {x:AV} {v:Value} (h:VR w L objs (x.renA σ) v) (hx:x.inRA base=true):VR w (L.back σ base) base x v:=by
 cases x with
 | agg cs =>
  obtain ⟨vs,rfl,hl,h1,hr⟩:=VR.agg_inv (cs:=cs.map (AV.ren1 σ)) h
  refine .agg _ _ (by simpa using hl) h1 fun i hi h2=>?_
  have:=hr i (by simpa using hi) h2
  rw [List.getElem_map] at this
  exact unren1_vr hR this (List.all_eq_true.1 hx _ (List.getElem_mem _))
 | _=>exact unren1_vr hR h hx
theorem unren_vr (hR:Ren σ base objs) {x:AV} {v:Value} (h:VR w L objs (x.ren σ) v) (hx:x.inR base=true):VR w (L.back σ base) base x v:=by
 cases x with
 | agg cs =>
  obtain ⟨vs,rfl,hl,h1,hr⟩:=VR.agg_inv (cs:=cs.map (AV.ren1 σ)) h
  refine .agg _ _ (by simpa using hl) h1 fun i hi h2=>?_
  have:=hr i (by simpa using hi) h2
  rw [List.getElem_map] at this
  exact unren1_vr hR this (List.all_eq_true.1 hx _ (List.getElem_mem _))
 | tup cs =>
  obtain ⟨vs,rfl,hl,hr⟩:=VR.tup_inv (cs:=cs.map (AV.renA σ)) h
  refine .tup _ _ (by simpa using hl) fun i hi h2=>?_
  have:=hr i (by simpa using hi) h2
  rw [List.getElem_map] at this
  exact unrenA_vr hR this (List.all_eq_true.1 hx _ (List.getElem_mem _))
 | clo fn cs =>
  obtain ⟨vs,rfl,hl,hr⟩:=VR.clo_inv (cs:=cs.map (AV.ren1 σ)) h
  refine .clo _ _ _ (by simpa using hl) fun i hi h2=>?_
  have:=hr i (by simpa using hi) h2
  rw [List.getElem_map] at this
  exact unren1_vr hR this (List.all_eq_true.1 hx _ (List.getElem_mem _))
 | _=>exact unren1_vr hR h hx
theorem ren_cells (x:AV):(x.ren σ).cells.length=x.cells.length/\∀ j (h:j<x.cells.length) (h2:j<(x.ren σ).cells.length),(x.ren σ).cells[j]=(x.cells[j]).ren σ \/ ∃ cs,x = .agg cs/\(x.ren σ).cells[j]=(x.cells[j]).ren1 σ:=by
 cases x with
 | agg cs=>exact ⟨by simp [AV.ren,AV.cells],fun j h h2=>.inr ⟨cs,rfl,by simp [AV.ren,AV.cells]⟩⟩
 | _ =>
  refine ⟨rfl,fun j h h2=>.inl ?_⟩
  have:j=0:=by simp [AV.cells] at h;omega
  subst this;rfl
theorem inR_cells {x:AV} (hx:x.inR base=true):∀ c ∈ x.cells,c.inR base=true:=by
 have b1:∀ {c:AV},c.inR1 base=true->c.inR base=true:=by
  intro c h
  cases c with
  | agg=>cases h
  | tup=>cases h
  | clo fn cs =>
   have:cs=[]:=by simpa [AV.inR1] using h
   subst this;rfl
  | _=>exact h
 intro c hc
 cases x with
 | agg cs=>exact b1 (List.all_eq_true.1 hx c hc)
 | _=>simp only [AV.cells,List.mem_singleton] at hc;subst hc;exact hx
def renFD (F0:FD) (L:Lay) (σ : Nat->Nat) (base:List AObj):FD:=⟨L.F,fun b=>F0.K b \/ L.F b \/ ∃ id o n,(∀ i,isArr base i=true->σ i ≠ id)/\L.blk id=some (b,o,n),[]⟩
theorem ren_in (hR:Ren σ base objs) (g:Good F0 w0 w L objs) (hi:(base.all fun o=>o.inRO base)=true):Good (renFD F0 L σ base) w w (L.back σ base) base:=by
 have bk:∀ {i},isArr base i=true->(L.back σ base).blk i=L.blk (σ i):=fun h=>if_pos h
 have bn:∀ {i b o n},(L.back σ base).blk i=some (b,o,n)->isArr base i=true/\L.blk (σ i)=some (b,o,n):=by
  intro i b o n h
  have h:(if isArr base i then L.blk (σ i) else none)=some (b,o,n):=h
  split at h
  ·rename_i hi;exact ⟨hi,h⟩
  ·cases h
 refine ⟨fun id o ho=>?_,fun id hid=>?_,fun i j b o n o' n' h1 h2=>?_,fun id b o n hbk=>?_,fun b hF=>⟨.inl hF,(g.old b hF).2⟩,Kept.refl fun b hK=>?_,g.gl⟩
 ·have hin:=List.all_eq_true.1 hi _ (List.mem_of_getElem? ho)
  cases o with
  | void =>
   show (if isArr base id then L.blk (σ id) else none)=none
   rw [if_neg (by unfold isArr;rw [ho];simp)]
  | dead=>cases hin
  | probe=>cases hin
  | arr gen size elem xs =>
   have:=g.obj (σ id) _ (hR.at_ _ _ _ _ _ ho)
   unfold OR at this ⊢
   rw [bk (isArr_of ho)]
   cases hbk:L.blk (σ id) with
   | none=>rw [hbk] at this;simpa using this
   | some q =>
    obtain ⟨b,o',n⟩:=q
    rw [hbk] at this
    obtain ⟨cur,hc,hn,hr1,hr2⟩:=this
    refine ⟨cur,hc,hn,by simpa using hr1,fun i hi'=>?_⟩
    have hr2:=hr2 i (by simpa using hi')
    rw [List.getElem_map] at hr2
    obtain ⟨hs,hr3⟩:=hr2
    have hxi:(xs[i]).inR base=true:=List.all_eq_true.1 hin _ (List.getElem_mem _)
    obtain ⟨c1,c2⟩:=ren_cells (σ:=σ) xs[i]
    refine ⟨c1.symm.trans hs,fun j hj=>?_⟩
    obtain ⟨u,hu,ho1',hv⟩:=hr3 j (by rw [c1];exact hj)
    refine ⟨u,hu,ho1',?_⟩
    rcases c2 j hj (by rw [c1];exact hj) with e | ⟨cs,e1,e2⟩
    ·rw [e] at hv;exact unren_vr hR hv (inR_cells hxi _ (List.getElem_mem _))
    ·rw [e2] at hv
     refine unren1_vr hR hv ?_
     generalize xs[i]=x at *
     subst e1
     exact List.all_eq_true.1 hxi _ (List.getElem_mem _)
 ·show (if isArr base id then L.blk (σ id) else none)=none
  rw [if_neg]
  intro h
  have:=isArr_lt h
  omega
 ·obtain ⟨a1,h1⟩:=bn h1
  obtain ⟨a2,h2⟩:=bn h2
  exact hR.inj _ _ a1 a2 (g.inj _ _ _ _ _ _ _ h1 h2)
 ·obtain ⟨a1,hbk⟩:=bn hbk
  have h1:=g.own _ _ _ _ hbk
  refine ⟨h1.1,?_,h1.2.2⟩
  rintro (hk | hk | ⟨id',o',n',hk,hbk'⟩)
  ·exact h1.2.1 hk
  ·exact h1.1 hk
  ·exact hk _ a1 (g.inj _ _ _ _ _ _ _ hbk hbk')
 ·rcases hK with hk | hk | ⟨id',o',n',hk,hbk'⟩
  ·exact Nat.lt_of_lt_of_le (g.ext.lt b hk) g.ext.size
  ·exact (g.old b hk).2
  ·exact (g.own _ _ _ _ hbk').2.2
theorem ren_out {w':World} {L':Lay} {base' objs':List AObj} (hR:Ren σ base objs) (hT:RenTo σ base objs base' objs') (hlen:base'.length=base.length) (g:Good F0 w0 w L objs) (g':Good (renFD F0 L σ base) w w' L' base') (hd:Done base (L.back σ base) base' L')
 (hi:(base'.all fun o=>o.inRO base')=true) :
 ∃ L'',Good F0 w0 w' L'' objs'/\Later w L objs w' L'' objs'/\∀ x v,VR w' L' base' x v->x.inR base'=true->VR w' L'' objs' (x.ren σ) v:=by
 let L2:Lay:=⟨fun b=>L.F b \/ L'.F b,fun id=>match (List.range base.length).find? (fun i=>isArr base i && σ i == id) with
  | some i=>L'.blk i
  | none=>L.blk id⟩
 have b1:∀ i,isArr base i=true->L2.blk (σ i)=L'.blk i:=by
  intro i hi
  show (match (List.range base.length).find? (fun j=>isArr base j && σ j == σ i) with | some i=>L'.blk i | none=>L.blk (σ i))=L'.blk i
  cases hf:(List.range base.length).find? (fun j=>isArr base j && σ j == σ i) with
  | none =>
   rw [List.find?_eq_none] at hf
   have:=hf i (by rw [List.mem_range];exact isArr_lt hi)
   simp [hi] at this
  | some j =>
   have:=List.find?_some hf
   simp only [Bool.and_eq_true,beq_iff_eq] at this
   rw [hR.inj _ _ this.1 hi this.2]
 have b2:∀ id,(∀ i,isArr base i=true->σ i ≠ id)->L2.blk id=L.blk id:=by
  intro id h
  show (match (List.range base.length).find? (fun j=>isArr base j && σ j == id) with | some i=>L'.blk i | none=>L.blk id)=L.blk id
  cases hf:(List.range base.length).find? (fun j=>isArr base j && σ j == id) with
  | none=>rfl
  | some j =>
   have:=List.find?_some hf
   simp only [Bool.and_eq_true,beq_iff_eq] at this
   exact absurd this.2 (h j this.1)
 have dec:∀ id,(∃ i,isArr base i=true/\σ i=id) \/ ∀ i,isArr base i=true->σ i ≠ id:=by
  intro id
  by_cases h:∃ i,isArr base i=true/\σ i=id
  ·exact .inl h
  ·exact .inr fun i h1 h2=>h ⟨i,h1,h2⟩
 have nodead:∀ i:Nat,base'[i]? ≠ some AObj.dead:=fun i h=>by have:=List.all_eq_true.1 hi _ (List.mem_of_getElem? h);cases this
 have arr':∀ {i g s},live base' i g s->isArr base i=true:=by
  intro i g s h
  cases hh:isArr base i with
  | true=>rfl
  | false =>
   obtain ⟨e,xs,h⟩:=h
   have:=hT.no_ i hh
   rw [isArr_of h] at this;cases this
 have hl2:∀ i g s,live base' i g s->live objs' (σ i) g s/\L2.blk (σ i)=L'.blk i:=fun i g s h=>⟨ren_live hT.at_ h,b1 i (arr' h)⟩
 have hs2:∀ i g,stale base' i g->stale objs' (σ i) g:=fun i g h=>ren_stale hT.at_ nodead h
 have hF2:∀ b,L'.F b->L2.F b:=fun b h=>Or.inr h
 have HL:Later w L objs w' L2 objs':=by
  refine ⟨fun b hF hb=>⟨g'.ext.block b (.inr (.inl hF)),.inl hF⟩,fun id gg h=>?_,fun id gg s h=>?_⟩
  ·rcases dec id with ⟨i,hi,rfl⟩ | hn
   ·exact hs2 _ _ (hd.st _ _ (unren_stale hR hi h))
   ·unfold stale at h ⊢;rw [hT.fr _ hn];exact h
  ·rcases dec id with ⟨i,hi,rfl⟩ | hn
   ·rcases hd.li _ _ _ (unren_live hR hi h) with h1 | ⟨h1,e⟩
    ·exact .inl (hs2 _ _ h1)
    ·refine .inr ⟨(hl2 _ _ _ h1).1,?_⟩
     rw [b1 i hi,e]
     exact if_pos hi
   ·refine .inr ⟨?_,b2 _ hn⟩
    unfold live at h ⊢;rw [hT.fr _ hn];exact h
 refine ⟨L2,⟨fun id o ho=>?_,fun id hid=>?_,fun i j b o n o' n' h1 h2=>?_,fun id b o n hbk=>?_,fun b hF=>?_,?_,g.gl.stay HL.wk⟩,HL,fun x v h hin=>ren_vr hF2 hl2 hs2 h hin⟩
 ·rcases dec id with ⟨i,hi',rfl⟩ | hn
  ·obtain ⟨gen,size,elem,xs,hb'⟩:=isArr_some (hT.to_ i hi')
   rw [hT.at_ _ _ _ _ _ hb'] at ho
   simp only [Option.some.injEq] at ho
   subst ho
   have:=g'.obj _ _ hb'
   have hin:=List.all_eq_true.1 hi _ (List.mem_of_getElem? hb')
   unfold OR at this ⊢
   rw [b1 i hi']
   cases hbk:L'.blk i with
   | none=>rw [hbk] at this;subst this;rfl
   | some q =>
    obtain ⟨b,o',n⟩:=q
    rw [hbk] at this
    obtain ⟨cur,hc,hn,hr1,hr2⟩:=this
    refine ⟨cur,hc,hn,by simpa using hr1,fun i hi'=>?_⟩
    rw [List.length_map] at hi'
    obtain ⟨hs,hr3⟩:=hr2 i hi'
    have hxi:(xs[i]).inR base'=true:=List.all_eq_true.1 hin _ (List.getElem_mem _)
    rw [List.getElem_map]
    obtain ⟨c1,c2⟩:=ren_cells (σ:=σ) xs[i]
    refine ⟨c1.trans hs,fun j hj=>?_⟩
    obtain ⟨u,hu,ho1',hv⟩:=hr3 j (by rw [<-c1];exact hj)
    refine ⟨u,hu,ho1',?_⟩
    rcases c2 j (by rw [<-c1];exact hj) hj with e | ⟨cs,e1,e2⟩
    ·rw [e];exact ren_vr hF2 hl2 hs2 hv (inR_cells hxi _ (List.getElem_mem _))
    ·rw [e2]
     refine ren1_vr hF2 hl2 hs2 hv ?_
     generalize xs[i]=x at *
     subst e1
     exact List.all_eq_true.1 hxi _ (List.getElem_mem _)
  ·rw [hT.fr _ hn] at ho
   have:=g.obj id o ho
   cases o with
   | void=>unfold OR at this ⊢;rw [b2 id hn];exact this
   | dead=>unfold OR at this ⊢;rw [b2 id hn];exact this
   | probe k st li bk ps=>exact this.probe_stay HL (b2 id hn)
   | arr gen size elem xs =>
    unfold OR at this ⊢
    rw [b2 id hn]
    cases hbk:L.blk id with
    | none=>rw [hbk] at this;exact this
    | some q =>
     obtain ⟨b,o',n⟩:=q
     rw [hbk] at this
     obtain ⟨cur,hc,hn',hr⟩:=this
     exact ⟨cur,hc.tr (g'.ext.block b (.inr (.inr ⟨id,o',n,hn,hbk⟩))),hn',hr.stay HL⟩
 ·have hn:∀ i,isArr base i=true->σ i ≠ id:=by
   rintro i hi rfl
   obtain ⟨_,_,_,_,hb⟩:=isArr_some hi
   have:=(List.getElem?_eq_some_iff.1 (hR.at_ _ _ _ _ _ hb)).1
   rw [hT.len] at hid
   omega
  rw [b2 id hn]
  exact g.out id (by rw [<-hT.len];exact hid)
 ·rcases dec i with ⟨i',hi1,rfl⟩ | hi1 <;> rcases dec j with ⟨j',hj1,rfl⟩ | hj1
  ·rw [b1 _ hi1] at h1;rw [b1 _ hj1] at h2
   rw [g'.inj _ _ _ _ _ _ _ h1 h2]
  ·rw [b1 _ hi1] at h1;rw [b2 _ hj1] at h2
   exact absurd (.inr (.inr ⟨j,o',n',hj1,h2⟩)) (g'.own _ _ _ _ h1).2.1
  ·rw [b2 _ hi1] at h1;rw [b1 _ hj1] at h2
   exact absurd (.inr (.inr ⟨i,o,n,hi1,h1⟩)) (g'.own _ _ _ _ h2).2.1
  ·rw [b2 _ hi1] at h1;rw [b2 _ hj1] at h2;exact g.inj _ _ _ _ _ _ _ h1 h2
 ·rcases dec id with ⟨i,hi1,rfl⟩ | hn
  ·rw [b1 _ hi1] at hbk
   have h1:=g'.own _ _ _ _ hbk
   exact ⟨fun hF=>hF.elim (fun hF=>h1.2.1 (.inr (.inl hF))) h1.1,fun hk=>h1.2.1 (.inl hk),h1.2.2⟩
  ·rw [b2 _ hn] at hbk
   have h1:=g.own _ _ _ _ hbk
   refine ⟨fun hF=>hF.elim h1.1 fun hF=>?_,h1.2.1,Nat.lt_of_lt_of_le h1.2.2 g'.ext.size⟩
   rcases (g'.old b hF).1 with h2 | h2
   ·exact h1.1 h2
   ·exact h2 (.inr (.inr ⟨id,o,n,hn,hbk⟩))
 ·rcases hF with hF | hF
  ·have h1:=g.old b hF
   exact ⟨h1.1,Nat.lt_of_lt_of_le h1.2 g'.ext.size⟩
  ·have h1:=g'.old b hF
   refine ⟨?_,h1.2⟩
   rcases h1.1 with h2 | h2
   ·exact (g.old b h2).1
   ·exact .inr fun hk=>h2 (.inl hk)
 ·exact ⟨g'.ext.os.trans g.ext.os,g'.ext.tape.trans g.ext.tape,g'.ext.output.trans g.ext.output,Nat.le_trans g.ext.size g'.ext.size,fun b hk=>(g'.ext.block b (.inl hk)).trans (g.ext.block b hk),g.ext.lt⟩
end
theorem new_set {w':World} {L':Lay} {o:AObj} {nid:Nat} (g:Good F0 w0 w L objs) (hv:objs[nid]? = some .void) (g':Good ⟨L.F,(· < w.heap.size),[]⟩ w w' L' [o]) (hi:([o].all fun x=>x.inRO [o])=true) :
 ∃ L2,Good F0 w0 w' L2 (objs.set nid (o.renO fun _=>nid))/\Later w L objs w' L2 (objs.set nid (o.renO fun _=>nid))/\∀ x v,VR w' L' [o] x v->x.inR [o]=true->VR w' L2 (objs.set nid (o.renO fun _=>nid)) (x.ren fun _=>nid) v:=by
 have hx:=g'.ext.ext
 have hnl:=(List.getElem?_eq_some_iff.1 hv).1
 let L2:Lay:=⟨fun b=>L.F b \/ L'.F b,fun id=>if id=nid then L'.blk 0 else L.blk id⟩
 have b1:L2.blk nid=L'.blk 0:=if_pos rfl
 have b2:∀ id,id ≠ nid->L2.blk id=L.blk id:=fun id h=>if_neg h
 have hne:∀ {id gg},stale objs id gg->id ≠ nid:=by
  rintro id gg h rfl
  rcases h with h | ⟨_,_,_,_,h,_⟩ <;> rw [hv] at h <;> cases h
 have hnel:∀ {id gg s},live objs id gg s->id ≠ nid:=by
  rintro id gg s ⟨e,xs,h⟩ rfl
  rw [hv] at h;cases h
 have HL:Later w L objs w' L2 (objs.set nid (o.renO fun _=>nid)):=by
  refine ⟨fun b hF hb=>⟨hx.block b hb,.inl hF⟩,fun id gg h=>?_,fun id gg s h=>.inr ⟨?_,b2 _ (hnel h)⟩⟩
  ·have:=hne h
   unfold stale at h ⊢;rwa [List.getElem?_set_ne (Ne.symm this)]
  ·have:=hnel h
   unfold live at h ⊢;rwa [List.getElem?_set_ne (Ne.symm this)]
 have at0:∀ (i gg s:Nat) (e:TypeId) (xs:List AV),[o][i]? = some (AObj.arr gg s e xs)->(objs.set nid (o.renO fun _=>nid))[(fun _:Nat=>nid) i]? = some (AObj.arr gg s e (xs.map (AV.ren fun _=>nid))):=by
  intro i gg s e xs h
  have hi0:i=0:=by have:=(List.getElem?_eq_some_iff.1 h).1;simp at this;exact this
  subst hi0
  simp only [List.getElem?_cons_zero,Option.some.injEq] at h
  subst h
  simp only [AObj.renO]
  exact List.getElem?_set_self hnl
 have lt1:∀ {i gg s},live [o] i gg s->i=0:=by
  rintro i gg s ⟨e,xs,h⟩
  have:=(List.getElem?_eq_some_iff.1 h).1;simp at this;exact this
 have hl2:∀ i gg s,live [o] i gg s->live (objs.set nid (o.renO fun _=>nid)) ((fun _:Nat=>nid) i) gg s/\L2.blk ((fun _:Nat=>nid) i)=L'.blk i:=fun i gg s h=>⟨ren_live at0 h,by rw [lt1 h];exact b1⟩
 have hs2:∀ i gg,stale [o] i gg->stale (objs.set nid (o.renO fun _=>nid)) ((fun _:Nat=>nid) i) gg:=fun i gg h=>ren_stale at0 (fun i h=>by have:=List.all_eq_true.1 hi _ (List.mem_of_getElem? h);cases this) h
 have hF2:∀ b,L'.F b->L2.F b:=fun b h=>Or.inr h
 have low:∀ {i b o n},L.blk i=some (b,o,n)->b<w.heap.size:=fun h=>(g.own _ _ _ _ h).2.2
 have high:∀ {i b o n},L'.blk i=some (b,o,n)->¬ b<w.heap.size:=fun h=>(g'.own _ _ _ _ h).2.1
 refine ⟨L2,⟨fun id ob ho=>?_,fun id hid=>?_,fun i j b o n o' n' h1 h2=>?_,fun id b o n hbk=>?_,fun b hF=>?_,g.ext.then hx,g.gl.stay HL.wk⟩,HL,fun x v h hin=>ren_vr hF2 hl2 hs2 h hin⟩
 ·by_cases e:id=nid
  ·subst e
   rw [List.getElem?_set_self hnl] at ho
   simp only [Option.some.injEq] at ho
   subst ho
   have:=g'.obj 0 o rfl
   have hin:=List.all_eq_true.1 hi o (by simp)
   cases o with
   | void=>unfold OR at this ⊢;simp only [AObj.renO];rw [b1];exact this
   | dead=>cases hin
   | probe=>cases hin
   | arr gen size elem xs =>
    unfold OR at this ⊢
    simp only [AObj.renO]
    rw [b1]
    cases hbk:L'.blk 0 with
    | none=>rw [hbk] at this;subst this;rfl
    | some q =>
     obtain ⟨b,o',n⟩:=q
     rw [hbk] at this
     obtain ⟨cur,hc,hn,hr1,hr2⟩:=this
     refine ⟨cur,hc,hn,by simpa using hr1,fun i hi'=>?_⟩
     rw [List.length_map] at hi'
     obtain ⟨hs,hr3⟩:=hr2 i hi'
     have hxi:(xs[i]).inR [AObj.arr gen size elem xs]=true:=List.all_eq_true.1 hin _ (List.getElem_mem _)
     rw [List.getElem_map]
     obtain ⟨c1,c2⟩:=ren_cells (σ:=fun _=>id) xs[i]
     refine ⟨c1.trans hs,fun j hj=>?_⟩
     obtain ⟨u,hu,ho1',hv'⟩:=hr3 j (by rw [<-c1];exact hj)
     refine ⟨u,hu,ho1',?_⟩
     rcases c2 j (by rw [<-c1];exact hj) hj with e | ⟨cs,e1,e2⟩
     ·rw [e];exact ren_vr hF2 hl2 hs2 hv' (inR_cells hxi _ (List.getElem_mem _))
     ·rw [e2]
      refine ren1_vr hF2 hl2 hs2 hv' ?_
      generalize xs[i]=x at *
      subst e1
      exact List.all_eq_true.1 hxi _ (List.getElem_mem _)
  ·rw [List.getElem?_set_ne (Ne.symm e)] at ho
   have:=g.obj id ob ho
   cases ob with
   | void=>unfold OR at this ⊢;rw [b2 id e];exact this
   | dead=>unfold OR at this ⊢;rw [b2 id e];exact this
   | probe k st li bk ps=>exact this.probe_stay HL (b2 id e)
   | arr gen size elem xs =>
    unfold OR at this ⊢
    rw [b2 id e]
    cases hbk:L.blk id with
    | none=>rw [hbk] at this;exact this
    | some q =>
     obtain ⟨b,o',n⟩:=q
     rw [hbk] at this
     obtain ⟨cur,hc,hn,hr⟩:=this
     exact ⟨cur,hc.tr (hx.block b (g.own _ _ _ _ hbk).2.2),hn,hr.stay HL⟩
 ·rw [List.length_set] at hid
  rw [b2 id (by omega)];exact g.out id hid
 ·by_cases hi1:i=nid <;> by_cases hj1:j=nid
  ·rw [hi1,hj1]
  ·subst hi1;rw [b1] at h1;rw [b2 j hj1] at h2;exact absurd (low h2) (high h1)
  ·subst hj1;rw [b2 i hi1] at h1;rw [b1] at h2;exact absurd (low h1) (high h2)
  ·rw [b2 i hi1] at h1;rw [b2 j hj1] at h2;exact g.inj _ _ _ _ _ _ _ h1 h2
 ·by_cases hi1:id=nid
  ·subst hi1
   rw [b1] at hbk
   have h1:=g'.own _ _ _ _ hbk
   exact ⟨fun hF=>hF.elim (fun hF=>h1.2.1 (g.old b hF).2) h1.1,g.fresh (Nat.le_of_not_lt h1.2.1),h1.2.2⟩
  ·rw [b2 id hi1] at hbk
   have h1:=g.own _ _ _ _ hbk
   refine ⟨fun hF=>hF.elim h1.1 fun hF=>?_,h1.2.1,Nat.lt_of_lt_of_le h1.2.2 hx.size⟩
   rcases (g'.old b hF).1 with h2 | h2
   ·exact h1.1 h2
   ·exact h2 h1.2.2
 ·rcases hF with hF | hF
  ·have h1:=g.old b hF
   exact ⟨h1.1,Nat.lt_of_lt_of_le h1.2 hx.size⟩
  ·have h1:=g'.old b hF
   refine ⟨?_,h1.2⟩
   rcases h1.1 with h2 | h2
   ·exact (g.old b h2).1
   ·exact .inr (g.fresh (Nat.le_of_not_lt h2))
end
end Dak
namespace Dak
open Go Go.RowKit
variable [Globs]
def tsize (P:Program) (t:TypeId):Option Nat:=(P.info? t).map (·.size)
def tagg (P:Program) (t:TypeId):Option Bool :=
 match P.underlying t with
 | some (.struct _)=>some true
 | some (.array _ _)=>some true
 | some _=>some false
 | none=>none
theorem run_sizeOf {P:Program} {t:TypeId} {n:Nat} (h:tsize P t=some n) (w:World):(Go.sizeOf t).run P w = .ok n w:=by
 unfold tsize at h
 cases hi:P.info? t with
 | none=>rw [hi] at h;cases h
 | some i=>rw [hi] at h;simp at h;subst h;simp [Go.sizeOf,typeInfo,hi]
theorem run_isAgg {P:Program} {t:TypeId} {b:Bool} (h:tagg P t=some b) (w:World):(isAgg t).run P w = .ok b w:=by
 unfold tagg at h
 cases hu:P.underlying t with
 | none=>rw [hu] at h;cases h
 | some d=>rw [hu] at h;cases d <;> first | cases h;done | (simp only [Option.some.injEq] at h;subst h;simp [isAgg,run_underlying hu])
def ofV:Value->AV
 | .agg cs=>if cs.all (·.oneCell') then .agg (cs.toList.map .val) else .junk
 | v=>.val v
theorem ofV_ok {w:World} {L:Lay} {objs:List AObj} (v:Value):VR w L objs (ofV v) v:=by
 unfold ofV
 split
 ·rename_i cs
  split
  ·rename_i h
   refine .agg _ _ (by simp) (fun i hi=>?_) fun i h1 h2=>?_
   ·rw [Array.all_eq_true] at h;exact h i hi
   ·simp only [List.getElem_map,Array.getElem_toList];exact .tree (.val _)
  ·exact .junk _
 ·exact .tree (.val _)
def AV.one:AV->Bool
 | .val v=>v.oneCell'
 | .list .. | .ptr .. | .own .. | .ref .. | .clo .. | .emp | .anyB | .mapd ..=>true
 | _=>false
def AV.fits:AV->Bool
 | .agg _=>true
 | x=>x.one
def AV.isT1:AV->Bool
 | .val _ | .list .. | .ptr _ | .emp | .anyB | .mapd ..=>true
 | .clo _ cap=>cap.isEmpty
 | _=>false
def AV.isT:AV->Bool
 | .agg cs=>cs.all AV.isT1
 | .tup xs=>xs.all AV.isT1
 | .clo _ cs=>cs.all AV.isT1
 | x=>x.isT1
inductive COp where
 | mov (x:Operand)
 | pick (c a b:Operand)
 | alloc (elem:TypeId) (z:AV)
 | box (elem:TypeId) (x:Operand)
 | load (agg:Bool) (n:Nat) (x:Operand)
 | nilCheck (x:Operand)
 | ibin (op:BinOp) (x y:Operand)
 | bbin (op:BinOp) (x y:Operand)
 | aeq (neg:Bool) (n:Nat) (x y:Operand)
 | neg (x:Operand)
 | lnot (x:Operand)
 | conv (k:IntKind) (x:Operand)
 | fieldAddr (off:Nat) (x:Operand)
 | field (agg:Bool) (off n:Nat) (x:Operand)
 | idxS (size:Nat) (x i:Operand)
 | idxA (len size:Nat) (x i:Operand)
 | idxV (agg:Bool) (len size:Nat) (x i:Operand)
 | extract (x:Operand) (i:Nat)
 | slice (size:Nat) (x:Operand) (lo hi:Option Operand)
 | slice3 (size:Nat) (x:Operand) (lo:Option Operand) (hi mx:Operand)
 | mkslice (elem:TypeId) (size bytes:Nat) (z:AV) (len cap:Operand)
 | build (z:List AV) (parts:List (Nat × Nat × Operand))
 | bslice (elem:TypeId) (size:Nat) (parts:List Operand)
 | len (x:Operand)
 | lenA (n:Nat)
 | imin (x y:Operand)
 | imax (x y:Operand)
 | mkfunc (fn:Fn) (cap:List Operand)
 | store (n:Nat) (x v:Operand)
 | append (elem:TypeId) (size bytes:Nat) (s x:Operand)
 | empS
 | appE (elem:TypeId) (size bytes:Nat) (s x:Operand)
 | isNil (sl neg:Bool) (x y:Operand)
 | copy (size:Nat) (x y:Operand)
 | appendZ (e:TypeId) (size bytes:Nat) (z:AV) (s x:Operand)
 | sliceA (len:Nat) (x:Operand) (lo hi:Option Operand)
 | mnew (e:TypeId)
 | mkch (x:Operand)
 | rng (c:Nat) (x:Operand)
 | nxt (x:Operand)
 | ent (x:Operand)
 | mget (c:Nat) (ok:Bool) (z:Value) (m k:Operand)
 | mlen (c:Nat) (m:Operand)
 | mset (c:Nat) (m k v:Operand)
 | str (x:Operand)
 | bad
 | call (f:Operand) (args:List Operand)
 deriving Inhabited
def ibinV (op:BinOp) (k k':IntKind) (m n:Int):Option Value :=
 match op with
 | .shl=>if n<0 then none else some (.int k (k.wrap (m*2 ^ min n.toNat k.bits)))
 | .shr=>if n<0 then none else some (.int k (m.fdiv (2 ^ min n.toNat k.bits)))
 | op =>
  if k ≠ k' then none else
  match op with
  | .add=>some (.int k (k.wrap (m+n)))
  | .sub=>some (.int k (k.wrap (m-n)))
  | .mul=>some (.int k (k.wrap (m*n)))
  | .quo=>if n=0 then none else some (.int k (k.wrap (m.tdiv n)))
  | .rem=>if n=0 then none else some (.int k (m.tmod n))
  | .and=>some (.int k (k.wrap (BitVec.ofInt k.bits m &&& BitVec.ofInt k.bits n).toNat))
  | .or=>some (.int k (k.wrap (BitVec.ofInt k.bits m ||| BitVec.ofInt k.bits n).toNat))
  | .xor=>some (.int k (k.wrap (BitVec.ofInt k.bits m ^^^ BitVec.ofInt k.bits n).toNat))
  | .andNot=>some (.int k (k.wrap (BitVec.ofInt k.bits m &&& ~~~(BitVec.ofInt k.bits n)).toNat))
  | .eql=>some (.bool (decide (m=n)))
  | .neq=>some (.bool (!decide (m=n)))
  | .lss=>some (.bool (decide (m<n)))
  | .leq=>some (.bool (decide (m<=n)))
  | .gtr=>some (.bool (decide (n<m)))
  | .geq=>some (.bool (decide (n<=m)))
  | _=>none
theorem run_ibin {P:Program} (op:BinOp) (t:TypeId) (k k':IntKind) (m n:Int) (v:Value) (h:ibinV op k k' m n=some v) (w:World):(binOp op t (.int k m) (.int k' n)).run P w = .ok v w:=by
 cases op <;> simp only [ibinV] at h <;> (try (split at h)) <;> (try (cases h;done)) <;> simp only [binOp,Op.shift,Op.intArith,Op.intDiv,Op.intBits,Op.intCmp] <;> (try (split at h)) <;> (try (cases h;done)) <;>
  (simp only [Option.some.injEq] at h;subst h) <;> simp_all [Sem.run_pure,Sem.run_ite]
 all_goals (first | rfl | (intro hh;first | omega | exact absurd hh ‹_›))
def upd (cs:List AV) (off:Nat) (xs:List AV):List AV :=
 match xs with
 | [x]=>cs.set off x
 | xs=>cs.take off++xs++cs.drop (off+xs.length)
def fillA (ev:Operand->AV):List AV->List (Nat × Nat × Operand)->Option (List AV)
 | cs,[]=>some cs
 | cs,(off,n,x)::rest =>
  if (ev x).fits/\(ev x).cells.length=n/\off+n<=cs.length then fillA ev (upd cs off (ev x).cells) rest else none
def asI:AV->Option (IntKind × Int)
 | .val (.int k n)=>some (k,n)
 | _=>none
def asB:AV->Option Bool
 | .val (.bool b)=>some b
 | _=>none
def bnd1 (y d:Nat):Option AV->Option Nat
 | none=>some d
 | some x=>(asI x).bind fun q=>if 0<=q.2/\q.2<=(y:Int) then some q.2.toNat else none
def bnd (len:Nat) (lo hi:Option AV):Option (Nat × Nat):=(bnd1 len len hi).bind fun h=>(bnd1 h 0 lo).bind fun l=>some (l,h)
def srcOf (objs:List AObj) (size:Nat):AV->Option (List AV)
 | .list s xs=>if s=size then some xs else none
 | .own id g off len =>
  match objs[id]? with
  | some (.arr g' s e xs)=>if g'=g/\s=size/\off+len<=xs.length/\e<mapT then some ((xs.drop off).take len) else none
  | _=>none
 | .val (.slice none 0 _)=>some []
 | _=>none
def keyOf (c:Nat):AV->Option MK
 | .val (.int k n)=>if c=0/\k = .i64 then some (.i n) else none
 | .val (.string b)=>if c=1 then some (.s b) else none
 | .agg cs=>(cs.mapM asI).bind fun l=>if 2<=c/\l.length=(c-2) / 2/\l.map (·.1)=List.replicate l.length (keyK c) then some (.a (l.map (·.2))) else none
 | _=>none
def mapOwn (objs:List AObj) (c:Nat):AV->Option (List (MK × Value))
 | .mref id g=>match objs[id]? with
  | some (.arr g' s e xs)=>if g'=g/\s=1/\e=mapT+c then match xs with
   | [.val v]=>some (unV v)
   | _=>none
   else none
  | _=>none
 | _=>none
def mapOf (objs:List AObj) (c:Nat):AV->Option (MK->Option Value)
 | .mapd c' m=>if c'=c then some m else none
 | x=>(mapOwn objs c x).map kget
def bytesOf (l:List AV):ByteArray:=⟨(l.map fun x=>match asI x with | some (_,n)=>UInt8.ofNat n.toNat | none=>0).toArray⟩
def ownLit (z:Value) (ps:List Operand):Bool :=
 match z with
 | .int .u8 _=>ps.any fun | .const _=>false | _=>true
 | _=>false
def litE (z:Value) (ps:List Operand) (e:TypeId):TypeId:=if ownLit z ps=true then e+2000000000 else e
theorem litE_cases (z:Value) (ps:List Operand) (e:TypeId):litE z ps e=e \/ litE z ps e=e+2000000000:=by
 unfold litE;split <;> simp
theorem litE_nil (z:Value) (e:TypeId):litE z [] e=e:=by
 have:ownLit z []=false:=by unfold ownLit;split <;> rfl
 simp [litE,this]
def toV1:AV->Option Value
 | .val v=>some v
 | _=>none
def toV:AV->Option Value
 | .val v=>some v
 | .agg cs=>(cs.mapM toV1).map fun vs=>.agg vs.toArray
 | _=>none
def mkF (fn:Fn) (xs:List AV):Option (AV × Option AObj) :=
 match fn with
 | .via _ _ f _=>(xs.mapM toV).map fun vs=>(.val (.func (.func f) vs.toArray #[]),none)
 | fn=>some (.clo fn xs,none)
def qop (objs:List AObj) (ev:Operand->AV) (nid:Nat):COp->Option (AV × Option AObj)
 | .mov x=>some (ev x,none)
 | .pick c a b=>(asB (ev c)).map fun t=>(if t then ev a else ev b,none)
 | .alloc e z=>some (.ref nid 1 0 0,some (.arr 1 z.cells.length e [z]))
 | .box e x=>if (ev x).fits then some (.ref nid 1 0 0,some (.arr 1 (ev x).cells.length e [ev x])) else none
 | .load ag n x=>do
  let cs <-cellsAt objs (ev x)
  if ag then if n<=cs.length then some (.agg (cs.take n),none) else none else (cs[0]?).map fun c=>(c,none)
 | .nilCheck x =>
  match ev x with
  | .ptr cs=>some (.ptr cs,none)
  | .ref id g e c=>match objs[id]? with
   | some (.arr g' _ _ _)=>if g'=g then some (.ref id g e c,none) else none
   | _=>none
  | .clo (.func f) cap=>some (.clo (.func f) cap,none)
  | _=>none
 | .ibin op x y=>do
  let (k,m) <-asI (ev x)
  let (k',n) <-asI (ev y)
  let v <-ibinV op k k' m n
  some (.val v,none)
 | .bbin op x y=>do
  let m <-asB (ev x)
  let n <-asB (ev y)
  match op with
  | .eql=>some (.val (.bool (m == n)),none)
  | .neq=>some (.val (.bool !(m == n)),none)
  | _=>none
 | .aeq neg n x y =>
  match ev x,ev y with
  | .agg cs,.agg ds=>do
   let A <-cs.mapM asI
   let B <-ds.mapM asI
   if A.map (·.1)=B.map (·.1)/\A.length=n then some (.val (.bool (if neg then !decide (A.map (·.2)=B.map (·.2)) else decide (A.map (·.2)=B.map (·.2)))),none) else none
  | _,_=>none
 | .neg x=>(asI (ev x)).map fun (k,n)=>(.val (.int k (k.wrap (0-n))),none)
 | .lnot x=>(asB (ev x)).map fun b=>(.val (.bool !b),none)
 | .conv k x=>(asI (ev x)).map fun (_,n)=>(.val (.int k (k.wrap n)),none)
 | .fieldAddr off x =>
  match ev x with
  | .ptr cs=>some (.ptr (cs.drop off),none)
  | .ref id g e c=>match objs[id]? with
   | some (.arr g' _ _ _)=>if g'=g then some (.ref id g e (c+off),none) else none
   | _=>none
  | _=>none
 | .field ag off n x =>
  match ev x with
  | .agg cs=>if ag then if off+n<=cs.length then some (.agg ((cs.drop off).take n),none) else none else (cs[off]?).map fun c=>(c,none)
  | _=>none
 | .idxS size x i=>do
  let (_,i) <-asI (ev i)
  match ev x with
  | .list s xs=>if s=size/\0<=i then (xs[i.toNat]?).map fun x=>(.ptr x.cells,none) else none
  | .own id g off len=>match objs[id]? with
   | some (.arr g' s _ _)=>if g'=g/\s=size/\0<=i/\i<(len:Int) then some (.ref id g (off+i.toNat) 0,none) else none
   | _=>none
  | _=>none
 | .idxA len size x i=>do
  let (_,i) <-asI (ev i)
  if 0<=i/\i<(len:Int) then
   match ev x with
   | .ptr cs=>some (.ptr (cs.drop (i.toNat*size)),none)
   | .ref id g e c=>match objs[id]? with
    | some (.arr g' _ _ _)=>if g'=g then some (.ref id g e (c+i.toNat*size),none) else none
    | _=>none
   | _=>none
  else none
 | .idxV ag len size x i=>do
  let (_,i) <-asI (ev i)
  match ev x with
  | .agg cs =>
   if 0<=i/\i<(len:Int) then
    if ag then if i.toNat*size+size<=cs.length then some (.agg ((cs.drop (i.toNat*size)).take size),none) else none
    else (cs[i.toNat*size]?).map fun c=>(c,none)
   else none
  | _=>none
 | .extract x i =>
  match ev x with
  | .tup xs=>(xs[i]?).map fun x=>(x,none)
  | _=>none
 | .slice size x lo hi =>
  match ev x with
  | .list s xs=>if s=size then (bnd xs.length (lo.map ev) (hi.map ev)).map fun (l,h)=>(.list s ((xs.take h).drop l),none) else none
  | .own id g off len=>match objs[id]? with
   | some (.arr g' s _ _)=>if g'=g/\s=size then (bnd len (lo.map ev) (hi.map ev)).map fun (l,h)=>(.own id g (off+l) (h-l),none) else none
   | _=>none
  | _=>none
 | .sliceA len x lo hi =>
  match ev x with
  | .ptr cs=>if cs.length=len/\len<=maxLen/\(cs.all fun c=>c.cells.length == 1)=true then (bnd len (lo.map ev) (hi.map ev)).map fun (l,h)=>(.list 1 ((cs.take h).drop l),none) else none
  | _=>none
 | .slice3 size x lo hi mx=>do
  let (_,m) <-asI (ev mx)
  match ev x with
  | .list s xs=>if s=size/\0<=m/\m<=(xs.length:Int) then (bnd m.toNat (lo.map ev) (some (ev hi))).map fun (l,h)=>(.list s ((xs.take h).drop l),none) else none
  | .own id g off len=>match objs[id]? with
   | some (.arr g' s _ _)=>if g'=g/\s=size/\0<=m/\m<=(len:Int) then (bnd m.toNat (lo.map ev) (some (ev hi))).map fun (l,h)=>(.own id g (off+l) (h-l),none) else none
   | _=>none
  | _=>none
 | .mkslice e size bytes z l c=>do
  let (_,l) <-asI (ev l)
  let (_,c) <-asI (ev c)
  if 0<=l/\l<=c/\(bytes:Int)*c<=281474976710656/\c<=9223372036854775807/\z.cells.length=size then
   some (.own nid l.toNat 0 l.toNat,some (.arr l.toNat size e (List.replicate l.toNat z))) else none
 | .build z parts=>(fillA ev z parts).map fun cs=>(.agg cs,none)
 | .bslice e size parts =>
  if (parts.all fun x=>(ev x).fits && (ev x).cells.length == size)/\parts.length*size<=2 ^ 24 then
   if parts.length=0 \/ (parts.all fun x=>(ev x).isT)=false \/ 2000000000<=e then some (.own nid parts.length 0 parts.length,some (.arr parts.length size (if 2000000000<=e then e-2000000000 else e) (parts.map ev)))
   else some (.list size (parts.map ev),none)
  else none
 | .len x =>
  match ev x with
  | .list _ xs=>some (.val (.int .i64 xs.length),none)
  | .own id g _ len=>match objs[id]? with
   | some (.arr g' _ _ _)=>if g'=g then some (.val (.int .i64 len),none) else none
   | _=>none
  | .val (.slice none n _)=>some (.val (.int .i64 n),none)
  | _=>none
 | .lenA n=>some (.val (.int .i64 n),none)
 | .imin x y=>do
  let (k,m) <-asI (ev x)
  let (_,n) <-asI (ev y)
  some (.val (.int k (if n<m then n else m)),none)
 | .imax x y=>do
  let (k,m) <-asI (ev x)
  let (_,n) <-asI (ev y)
  some (.val (.int k (if m<n then n else m)),none)
 | .mkfunc fn cap=>mkF fn (cap.map ev)
 | .empS=>some (.emp,none)
 | .isNil sl neg x y =>
  match sl with
  | false =>
   match ev y with
   | .val (.pointer none) =>
    match ev x with
    | .val (.pointer none)=>some (.val (.bool !neg),none)
    | .ptr _=>some (.val (.bool neg),none)
    | .ref id g _ _=>match objs[id]? with
     | some (.arr g' _ _ _)=>if g'=g then some (.val (.bool neg),none) else none
     | _=>none
    | _=>none
   | _=>none
  | true =>
   match ev y with
   | .val (.slice none _ _) =>
    match ev x with
    | .val (.slice none _ _)=>some (.val (.bool !neg),none)
    | .own id g _ len=>match objs[id]? with
     | some (.arr g' _ _ _)=>if g'=g then (if 0<len then some (.val (.bool neg),none) else some (.anyB,none)) else none
     | _=>none
    | .list _ xs=>if 0<xs.length then some (.val (.bool neg),none) else some (.anyB,none)
    | .emp=>some (.anyB,none)
    | _=>none
   | _=>none
 | .appE e size bytes s x =>
  match ev s with
  | .emp=>(srcOf objs size (ev x)).bind fun ys=>if ys.length*bytes<=140737488355328 then some (.own nid ys.length 0 ys.length,some (.arr ys.length size e ys)) else none
  | _=>none
 | .mkch x=>(asI (ev x)).bind fun m=>if m.2=0 then some (.junk,none) else none
 | .mnew e=>some (.mref nid 1,some (.arr 1 1 e [.val (mapV [])]))
 | .mget c ok z m k=>(keyOf c (ev k)).bind fun k=>(mapOf objs c (ev m)).map fun m=>(if ok then .tup [.val ((m k).getD z),.val (.bool (m k).isSome)] else .val ((m k).getD z),none)
 | .mlen c m=>(mapOwn objs c (ev m)).map fun ks=>(.val (.int .i64 ks.length),none)
 | .str x=>(srcOf objs 1 (ev x)).bind fun ys=>if (ys.all fun y=>match asI y with | some (.u8,_)=>true | _=>false)=true then some (.val (.string (bytesOf ys)),none) else none
 | _=>none
end Dak
namespace Dak
open Go Go.RowKit
variable [Globs]
def putO (objs:List AObj) (nid:Nat):Option AObj->List AObj
 | none=>objs
 | some o=>objs.set nid o
def Sub (objs0 objs:List AObj):Prop:=∀ (id g s:Nat) (e:TypeId) (xs:List AV),objs0[id]? = some (AObj.arr g s e xs)->objs[id]? = some (AObj.arr g s e xs)
def Does (P:Program) (s:Sem Next) (F0:FD) (w0 w:World) (L:Lay) (objs:List AObj) (nid:Nat) (r:AV) (no:Option AObj):Prop :=
 ∃ v w' L',s.run P w = .ok (.value v) w'/\Good F0 w0 w' L' (putO objs nid no)/\Later w L objs w' L' (putO objs nid no)/\VR w' L' (putO objs nid no) r v
variable {P : Program} {F0 : FD} {w0 w : World} {L : Lay} {objs objs0 : List AObj} {nid : Nat}
theorem Does.pure (g:Good F0 w0 w L objs) {s:Sem Next} {r:AV} {v:Value} (hs:s.run P w = .ok (.value v) w) (hv:VR w L objs r v):Does P s F0 w0 w L objs nid r none :=
 ⟨v,w,L,hs,g,.refl _ _ _,hv⟩
theorem one_ok {x:AV} {v:Value} (h:VR w L objs x v) (h1:x.one=true) (hs:∀ id g,(∃ o l,x = .own id g o l) \/ (∃ e c,x = .ref id g e c)->∃ s,live objs id g s):v.oneCell'=true:=by
 cases x with
 | junk=>cases h1
 | val v'=>rw [h.val_inv];exact h1
 | agg cs=>cases h1
 | tup cs=>cases h1
 | list s xs=>have:=h.list_inv;cases this <;> rfl
 | ptr cs=>have:=h.ptr_inv;cases this;rfl
 | clo fn cs=>obtain ⟨vs,rfl,_⟩:=h.clo_inv;rfl
 | emp=>obtain ⟨ad,rfl⟩:=h.emp_inv;rfl
 | anyB=>obtain ⟨b,rfl⟩:=h.anyB_inv;rfl
 | mapd c ks=>obtain ⟨b,rfl,_⟩:=h.mapd_inv;rfl
 | mref=>cases h1
 | own id g o l =>
  obtain ⟨s,hs⟩:=hs id g (.inl ⟨o,l,rfl⟩)
  rcases h.own_inv hs with ⟨_,ad,rfl⟩ | ⟨_,_,_,_,_,rfl,_⟩ <;> rfl
 | ref id g e c =>
  obtain ⟨s,hs⟩:=hs id g (.inr ⟨e,c,rfl⟩)
  obtain ⟨_,_,_,_,rfl⟩:=h.ref_inv hs
  rfl
theorem isT1_ok {x:AV} {v:Value} (h:VR w L objs x v) (h1:x.isT1=true):TR w L.F x v:=by
 cases x with
 | val v'=>have:=h.val_inv;subst this;exact .val _
 | list s xs=>exact h.list_inv
 | ptr cs=>exact h.ptr_inv
 | emp=>obtain ⟨ad,rfl⟩:=h.emp_inv;exact .emp ad
 | anyB=>obtain ⟨b,rfl⟩:=h.anyB_inv;exact .anyB b
 | mapd c ks=>obtain ⟨b,rfl,hF,hm⟩:=h.mapd_inv;exact .mapd _ _ b hF hm
 | clo fn cs =>
  obtain ⟨vs,rfl,hl,hr⟩:=h.clo_inv
  have:cs=[]:=by simpa [AV.isT1] using h1
  subst this
  exact .clo _ _ _ hl fun i h _=>absurd h (by simp)
 | _=>cases h1
theorem isT_ok {x:AV} {v:Value} (h:VR w L objs x v) (h1:x.isT=true):TR w L.F x v:=by
 cases x with
 | agg cs =>
  obtain ⟨vs,rfl,hl,ho,hr⟩:=h.agg_inv
  exact .agg _ _ hl ho fun i hi h2=>isT1_ok (hr i hi h2) (List.all_eq_true.1 h1 _ (List.getElem_mem hi))
 | tup cs =>
  obtain ⟨vs,rfl,hl,hr⟩:=h.tup_inv
  exact .tup _ _ hl fun i hi h2=>isT1_ok (hr i hi h2) (List.all_eq_true.1 h1 _ (List.getElem_mem hi))
 | clo fn cs =>
  obtain ⟨vs,rfl,hl,hr⟩:=h.clo_inv
  exact .clo _ _ _ hl fun i hi h2=>isT1_ok (hr i hi h2) (List.all_eq_true.1 h1 _ (List.getElem_mem hi))
 | val v=>exact isT1_ok h rfl
 | list s xs=>exact isT1_ok h rfl
 | ptr cs=>exact isT1_ok h rfl
 | emp=>exact isT1_ok h rfl
 | anyB=>exact isT1_ok h rfl
 | mapd=>exact isT1_ok h rfl
 | _=>cases h1
theorem asI_ok {x:AV} {v:Value} {k:IntKind} {n:Int} (h:VR w L objs x v) (hi:asI x=some (k,n)):v = .int k n:=by
 cases x with
 | val u=>rw [h.val_inv];cases u <;> simp [asI] at hi;obtain ⟨rfl,rfl⟩:=hi;rfl
 | _=>simp [asI] at hi
def nov:AV:=.val undef
def gdB:AV->Option (Option Bool)
 | .val (.bool b)=>some (some b)
 | .val _=>some none
 | _=>none
def boolOf:Value->Option Bool
 | .bool b=>some b
 | _=>none
theorem gdB_ok {x:AV} {v:Value} {o:Option Bool} (h:VR w L objs x v) (hi:gdB x=some o):boolOf v=o:=by
 cases x with
 | val u =>
  rw [h.val_inv]
  cases u <;> simp [gdB] at hi <;> subst hi <;> rfl
 | _=>simp [gdB] at hi
theorem asB_ok {x:AV} {v:Value} {b:Bool} (h:VR w L objs x v) (hi:asB x=some b):v = .bool b:=by
 cases x with
 | val u=>rw [h.val_inv];cases u <;> simp [asB] at hi;subst hi;rfl
 | _=>simp [asB] at hi
theorem loadCells_ok {b o:Nat} {cs:List AV} (n:Nat) (hn:n<=cs.length) (hc:∀ j (hj:j<cs.length),∃ u,w.cell? ⟨b,o+j,none⟩=some u/\u.oneCell'=true/\VR w L objs cs[j] u) :
 ∃ vs:Array Value,(loadCells ⟨b,o,none⟩ n).run P w = .ok vs w/\vs.size=n/\(∀ i (h:i<vs.size),vs[i].oneCell'=true)/\∀ i (h:i<cs.length) (h2:i<vs.size),VR w L objs cs[i] vs[i]:=by
 have hadd:∀ j,(⟨b,o,none⟩:Addr).add j=⟨b,o+j,none⟩:=by intro j;unfold Addr.add;split <;> simp_all
 let f:Nat->Value:=fun j=>(w.cell? ⟨b,o+j,none⟩).getD undef
 have hf:∀ j,j<n->w.cell? ⟨b,o+j,none⟩=some (f j):=by
  intro j hj
  obtain ⟨u,hu,_⟩:=hc j (by omega)
  simp [f,hu]
 have:=run_loadCells (P:=P) (w:=w) ⟨b,o,none⟩ n f (fun j hj=>by rw [hadd];exact hf j hj)
 refine ⟨_,this,by simp,fun i hi=>?_,fun i hi h2=>?_⟩
 ·have hi':i<n:=by simpa using hi
  obtain ⟨u,hu,h1,_⟩:=hc i (by omega)
  simpa [f,hu] using h1
 ·obtain ⟨u,hu,_,hv⟩:=hc i hi
  simpa [f,hu] using hv
theorem run_addr0 (b o j:Nat):(⟨b,o,none⟩:Addr).add j=⟨b,o+j,none⟩:=by unfold Addr.add;split <;> simp_all
theorem load_ok (g:Good F0 w0 w L objs) {t:TypeId} {ag:Bool} {n:Nat} {x:AV} {v:Value} {r:AV} (ht:tagg P t=some ag) (hn:tsize P t=some n) (hx:VR w L objs x v)
 (h:(do let cs <-cellsAt objs x;if ag then if n<=cs.length then some (AV.agg (cs.take n)) else none else cs[0]? : Option AV)=some r) :
 ∃ u,(Instr.loadAt t v).run P w = .ok u w/\VR w L objs r u:=by
 simp only [Option.bind_eq_bind,Option.bind_eq_some_iff] at h
 obtain ⟨cs,hcs,h⟩:=h
 obtain ⟨b,o,rfl,hc⟩:=cellsAt_ok g hx hcs
 simp only [Instr.loadAt,Instr.sureAddr,Sem.run_bind,Sem.run_pure,Result.andThen_ok,loadVar,run_isAgg ht]
 cases ag with
 | true =>
  simp only [if_true,Option.ite_none_right_eq_some,Option.some.injEq] at h
  obtain ⟨hle,rfl⟩:=h
  obtain ⟨vs,hr,hl,h1,hv⟩:=loadCells_ok (P:=P) n hle hc
  refine ⟨.agg vs,by simp [run_sizeOf hn,hr],.agg _ _ (by simp [hl];omega) h1 fun i hi h2=>?_⟩
  rw [List.getElem_take];exact hv i (by simp at hi;omega) h2
 | false =>
  simp only [Bool.false_eq_true,if_false] at h
  obtain ⟨h0,rfl⟩:=List.getElem?_eq_some_iff.1 h
  obtain ⟨u,hu,_,hv⟩:=hc 0 h0
  exact ⟨u,by simp at hu;simp [hu],hv⟩
def Known (objs:List AObj) (x:AV):Prop:=∀ id g,(∃ o l,x = .own id g o l) \/ (∃ e c,x = .ref id g e c)->∃ s,live objs id g s
theorem fits_cells {x:AV} {v:Value} (h:VR w L objs x v) (h1:x.fits=true) (hk:Known objs x) :
 v.cells.size=x.cells.length/\(∀ j (hj:j<v.cells.size),v.cells[j].oneCell'=true)/\∀ j (hj:j<x.cells.length) (hj2:j<v.cells.size),VR w L objs x.cells[j] v.cells[j]:=by
 refine h.cells ?_
 by_cases ha:∃ cs,x = .agg cs
 ·exact .inl ha
 ·refine .inr (one_ok h ?_ hk)
  cases x <;> first | exact h1 | exact absurd ⟨_,rfl⟩ ha
theorem row_one {x:AV} {v:Value} (h:VR w L objs x v) (h1:x.fits=true) (hk:Known objs x):Row w L objs v.cells 0 x.cells.length [x]:=by
 obtain ⟨hs,ho,hv⟩:=fits_cells h h1 hk
 refine ⟨by simp [hs],fun i hi=>?_⟩
 have:i=0:=by simpa using hi
 subst this
 refine ⟨rfl,fun j hj=>?_⟩
 have hj':j<x.cells.length:=hj
 exact ⟨v.cells[j]'(by omega),by simp only [Nat.zero_mul,Nat.zero_add];exact Array.getElem?_eq_getElem (by omega),ho j (by omega),hv j hj' (by omega)⟩
theorem live_self {id gen size:Nat} {e:TypeId} {xs:List AV} (hid:id<objs.length):live (objs.set id (.arr gen size e xs)) id gen size:=⟨e,xs,List.getElem?_set_self hid⟩
theorem new_ok (g:Good F0 w0 w L objs) (hv:objs[nid]? = some .void) {s:Sem Next} {e:TypeId} (hem:e<mapT) {x:AV} {v:Value} (hx:VR w L objs x v) (h1:x.fits=true) (hk:Known objs x)
 (hs:s.run P w = .ok (.value (.pointer (some ⟨w.heap.size,0,none⟩))) (w.alloc (.cells v.cells e))) :
 Does P s F0 w0 w L objs nid (.ref nid 1 0 0) (some (.arr 1 x.cells.length e [x])):=by
 have hr:=row_one hx h1 hk
 have hid:=(List.getElem?_eq_some_iff.1 hv).1
 refine ⟨_,_,_,hs,g.new (gen:=1) (elem:=e) hv v.cells hem hr,.new hv _ _,?_⟩
 have:=VR.refL (w:=w.alloc (.cells v.cells e)) (L:=L.put nid (some (w.heap.size,0,v.cells.size))) (objs:=objs.set nid (.arr 1 x.cells.length e [x])) nid 1 0 0 x.cells.length w.heap.size 0 v.cells.size (live_self hid) (by simp [Lay.put])
 simpa [putO] using this
theorem run_newVar {e:TypeId} {v:Value} (w:World):(newVar e v).run P w = .ok ⟨w.heap.size,0,none⟩ (w.alloc (.cells v.cells e)):=by
 simp [newVar,newRow]
theorem part_ok {t:TypeId} {ag:Bool} {n off:Nat} {cs:List AV} {vs:Array Value} {r:AV} (ht:tagg P t=some ag) (hn:tsize P t=some n) (hl:vs.size=cs.length)
 (h1:∀ i (h:i<vs.size),vs[i].oneCell'=true) (hv:∀ i (h:i<cs.length) (h2:i<vs.size),VR w L objs cs[i] vs[i])
 (h:(if ag then if off+n<=cs.length then some (AV.agg ((cs.drop off).take n)) else none else cs[off]?)=some r) :
 ∃ u,(part t vs off).run P w = .ok u w/\VR w L objs r u:=by
 simp only [part,Sem.run_bind,run_isAgg ht,Result.andThen_ok]
 cases ag with
 | true =>
  simp only [if_true,Option.ite_none_right_eq_some,Option.some.injEq] at h
  obtain ⟨hle,rfl⟩:=h
  refine ⟨.agg (vs.extract off (off+n)),by simp [run_sizeOf hn],.agg _ _ (by simp;omega) (fun i hi=>?_) fun i hi h2=>?_⟩
  ·simp only [Array.getElem_extract];exact h1 _ _
  ·simp only [List.getElem_take,List.getElem_drop,Array.getElem_extract]
   exact hv _ _ _
 | false =>
  simp only [Bool.false_eq_true,if_false] at h
  obtain ⟨h0,rfl⟩:=List.getElem?_eq_some_iff.1 h
  exact ⟨vs[off],by simp [Array.getElem?_eq_getElem (show off<vs.size by omega)],hv _ _ _⟩
theorem foldl_put (off:Nat):∀ (l:List Value) (s:Nat) (cs:Array Value),off+s+l.length<=cs.size ->
 ((l.zipIdx s).foldl (fun cs (x:Value × Nat)=>cs.setIfInBounds (off+x.2) x.1) cs).size=cs.size /\
 ∀ k,((l.zipIdx s).foldl (fun cs (x:Value × Nat)=>cs.setIfInBounds (off+x.2) x.1) cs)[k]? = if off+s<=k/\k<off+s+l.length then l[k-off-s]? else cs[k]?
 | [],s,cs,_=>⟨rfl,fun k=>by simp;intro h1 h2;omega⟩
 | v::l,s,cs,h=>by
  simp only [List.length_cons] at h
  have ih:=foldl_put off l (s+1) (cs.setIfInBounds (off+s) v) (by simp;omega)
  simp only [List.zipIdx_cons,List.foldl_cons]
  refine ⟨by rw [ih.1];simp,fun k=>?_⟩
  rw [ih.2 k]
  simp only [List.length_cons]
  by_cases h1:off+(s+1)<=k/\k<off+(s+1)+l.length
  ·rw [if_pos h1,if_pos (by omega)]
   rw [show k-off-s=(k-off-(s+1))+1 from by omega,List.getElem?_cons_succ]
  ·rw [if_neg h1]
   by_cases h2:k=off+s
   ·subst h2
    rw [if_pos (by omega),show off+s-off-s=0 from by omega,Array.getElem?_setIfInBounds_self_of_lt (by omega)];rfl
   ·rw [if_neg (by omega),Array.getElem?_setIfInBounds_ne (by omega)]
def CR (w:World) (L:Lay) (objs:List AObj) (cs:List AV) (vs:Array Value):Prop :=
 vs.size=cs.length/\∀ (k:Nat) (x:AV),cs[k]? = some x->∃ u,vs[k]? = some u/\u.oneCell'=true/\VR w L objs x u
theorem CR.agg {cs:List AV} {vs:Array Value} (h:CR w L objs cs vs):VR w L objs (.agg cs) (.agg vs):=by
 refine .agg _ _ h.1 (fun i hi=>?_) fun i h1 h2=>?_
 ·obtain ⟨u,hu,ho,_⟩:=h.2 i _ (List.getElem?_eq_getElem (by rw [<-h.1];exact hi))
  obtain ⟨_,rfl⟩:=Array.getElem?_eq_some_iff.1 hu
  exact ho
 ·obtain ⟨u,hu,_,hv⟩:=h.2 i _ (List.getElem?_eq_getElem h1)
  obtain ⟨_,rfl⟩:=Array.getElem?_eq_some_iff.1 hu
  exact hv
theorem upd_get (cs xs:List AV) (off k:Nat) (h:off+xs.length<=cs.length):(upd cs off xs)[k]? = if off<=k/\k<off+xs.length then xs[k-off]? else cs[k]?:=by
 unfold upd
 split
 ·rename_i x
  simp only [List.length_singleton] at h ⊢
  by_cases h1:k=off
  ·subst h1
   rw [List.getElem?_set_self (by omega),if_pos (by omega),Nat.sub_self];rfl
  ·rw [List.getElem?_set_ne (by omega),if_neg (by omega)]
 ·rw [List.append_assoc,List.getElem?_append,List.length_take,Nat.min_eq_left (by omega)]
  split
  ·rw [if_neg (by omega),List.getElem?_take,if_pos (by omega)]
  ·rw [List.getElem?_append]
   split
   ·rw [if_pos (by omega)]
   ·rw [if_neg (by omega),List.getElem?_drop];congr 1;omega
theorem upd_len (cs xs:List AV) (off:Nat) (h:off+xs.length<=cs.length):(upd cs off xs).length=cs.length:=by
 unfold upd
 split
 ·simp
 ·simp only [List.length_append,List.length_take,List.length_drop];omega
theorem CR.put {cs xs:List AV} {vs us:Array Value} {off:Nat} (h:CR w L objs cs vs) (k:CR w L objs xs us) (hl:off+xs.length<=cs.length) :
 CR w L objs (upd cs off xs) (us.zipIdx.foldl (fun cs (x:Value × Nat)=>cs.setIfInBounds (off+x.2) x.1) vs):=by
 have hf:=foldl_put off us.toList 0 vs (by simp [k.1,h.1];omega)
 have e:us.zipIdx.foldl (fun cs (x:Value × Nat)=>cs.setIfInBounds (off+x.2) x.1) vs=(us.toList.zipIdx 0).foldl (fun cs (x:Value × Nat)=>cs.setIfInBounds (off+x.2) x.1) vs:=by
  rw [<-Array.foldl_toList,Array.toList_zipIdx]
 rw [e]
 refine ⟨by rw [hf.1,upd_len _ _ _ hl];exact h.1,fun i x hx=>?_⟩
 rw [hf.2 i]
 rw [upd_get _ _ _ _ hl] at hx
 have hu:us.toList.length=xs.length:=by simpa using k.1
 rw [hu]
 simp only [Nat.add_zero,Nat.sub_zero] at *
 split at hx
 ·rename_i h1
  rw [if_pos h1]
  obtain ⟨u,hu,ho⟩:=k.2 _ _ hx
  exact ⟨u,by simpa using hu,ho⟩
 ·rename_i h1
  rw [if_neg h1]
  exact h.2 _ _ hx
theorem fits_CR {x:AV} {v:Value} (h:VR w L objs x v) (h1:x.fits=true) (hk:Known objs x):CR w L objs x.cells v.cells:=by
 obtain ⟨hs,ho,hv⟩:=fits_cells h h1 hk
 refine ⟨hs,fun k y hy=>?_⟩
 obtain ⟨hlt,rfl⟩:=List.getElem?_eq_some_iff.1 hy
 exact ⟨v.cells[k]'(by omega),Array.getElem?_eq_getElem (by omega),ho _ _,hv _ _ _⟩
theorem fill_ok {ev:Operand->AV} {ρ : Operand->Value} (he:∀ x,VR w L objs (ev x) (ρ x)) (place:Nat->Option (Nat × Nat)) :
 ∀ (ps:List (Nat × Operand)) (qs:List (Nat × Nat × Operand)) (cs:List AV) (vs:Array Value) (rs:List AV),(∀ x ∈ qs.map (·.2.2),Known objs (ev x)) ->
  ps.mapM (fun p=>(place p.1).map fun q=>(q.1,q.2,p.2))=some qs->CR w L objs cs vs->fillA ev cs qs=some rs ->
  ∃ us,Instr.fill place vs (ps.map fun p=>(p.1,ρ p.2))=some us/\CR w L objs rs us
 | [],qs,cs,vs,rs,_,hq,hc,hf=>by
  simp at hq;subst hq
  simp only [fillA,Option.some.injEq] at hf;subst hf
  exact ⟨vs,rfl,hc⟩
 | (i,x)::ps,qs,cs,vs,rs,hk,hq,hc,hf=>by
  simp only [List.mapM_cons,Option.bind_eq_bind,Option.bind_eq_some_iff,Option.map_eq_some_iff,Option.pure_def,Option.some.injEq] at hq
  obtain ⟨_,⟨⟨off,n⟩,hp,rfl⟩,qs',hq',rfl⟩:=hq
  simp only [fillA] at hf
  split at hf
  ·rename_i hh
   have hcr:=fits_CR (he x) hh.1 (hk x (by simp))
   have hput:=hc.put hcr (by omega) (off:=off)
   obtain ⟨us,hu,hcr'⟩:=fill_ok he place ps qs' _ _ rs (fun y hy=>hk y (by simp at hy ⊢;exact .inr hy)) hq' hput hf
   refine ⟨us,?_,hcr'⟩
   simp only [List.map_cons,Instr.fill,hp]
   have h1:(ρ x).cells.size=n:=by rw [hcr.1];exact hh.2.1
   have h2:¬ (off+(ρ x).cells.size > vs.size):=by rw [hc.1,h1];omega
   rw [if_neg (by simp [h1];omega)]
   exact hu
  ·cases hf
end Dak
namespace Dak
open Go Go.RowKit
variable [Globs]
variable {P : Program} {F0 : FD} {w0 w : World} {L : Lay} {objs objs0 : List AObj} {nid : Nat}
theorem fill_row (size:Nat):∀ (vs:List Value) (s:Nat) (cs:Array Value),(∀ v ∈ vs,v.cells.size=size)->(s+vs.length)*size<=cs.size ->
 ∃ us:Array Value,Instr.fill (fun i=>some (i*size,size)) cs ((vs.zipIdx s).map fun p=>(p.2,p.1))=some us/\us.size=cs.size/\(∀ k,k<s*size->us[k]? = cs[k]?) /\
  ∀ i v,vs[i]? = some v->∀ j,j<size->us[(s+i)*size+j]? = v.cells[j]?
 | [],s,cs,_,_=>⟨cs,rfl,rfl,fun _ _=>rfl,fun i v h=>by simp at h⟩
 | v::vs,s,cs,hv,hl=>by
  simp only [List.length_cons] at hl
  have hvs:=hv v (by simp)
  have e1:(s+(vs.length+1))*size=s*size+size+vs.length*size:=by rw [Nat.add_mul,Nat.add_mul,Nat.one_mul];omega
  have hf:=foldl_put (s*size) v.cells.toList 0 cs (by simp [hvs];omega)
  have e:v.cells.zipIdx.foldl (fun cs (x:Value × Nat)=>cs.setIfInBounds (s*size+x.2) x.1) cs=(v.cells.toList.zipIdx 0).foldl (fun cs (x:Value × Nat)=>cs.setIfInBounds (s*size+x.2) x.1) cs:=by
   rw [<-Array.foldl_toList,Array.toList_zipIdx]
  rw [<-e] at hf
  have e2:(s+1)*size=s*size+size:=by rw [Nat.add_mul,Nat.one_mul]
  obtain ⟨us,hu,hs,ho,hi⟩:=fill_row size vs (s+1) (v.cells.zipIdx.foldl (fun cs (x:Value × Nat)=>cs.setIfInBounds (s*size+x.2) x.1) cs) (fun x hx=>hv x (by simp [hx])) (by
   rw [hf.1,show s+1+vs.length=s+(vs.length+1) from by omega];exact hl)
  refine ⟨us,?_,hs.trans hf.1,fun k hk=>?_,fun i x hx j hj=>?_⟩
  ·simp only [List.zipIdx_cons,List.map_cons,Instr.fill]
   rw [if_neg (by simp [hvs];omega)]
   exact hu
  ·rw [ho k (by omega),hf.2 k,if_neg (by omega)]
  ·cases i with
   | zero =>
    simp at hx;subst hx
    simp only [Nat.add_zero]
    rw [ho _ (by omega),hf.2]
    simp only [Nat.add_zero,Array.length_toList,hvs]
    rw [if_pos (by omega)]
    simp
   | succ i =>
    simp only [List.getElem?_cons_succ] at hx
    have:=hi i x hx j hj
    rwa [show s+1+i=s+(i+1) from by omega] at this
theorem zipIdx_range {α β : Type} (f : α->β):∀ (l:List (Nat × α)) (s:Nat),l.map (·.1)=List.range' s l.length->l.map (fun p=>(p.1,f p.2))=((l.map fun p=>f p.2).zipIdx s).map fun p=>(p.2,p.1)
 | [],_,_=>rfl
 | (i,x)::l,s,h=>by
  simp only [List.map_cons,List.length_cons,List.range'_succ,List.cons.injEq] at h
  obtain ⟨rfl,h⟩:=h
  simp only [List.map_cons,List.zipIdx_cons]
  rw [zipIdx_range f l (i+1) h]
theorem row_of {size:Nat} {xs:List AV} {vs:List Value} {us:Array Value} (hl:vs.length=xs.length) (hs:xs.length*size<=us.size)
 (hf:∀ (i:Nat) (x:AV),xs[i]? = some x->∃ v,vs[i]? = some v/\x.cells.length=size/\CR w L objs x.cells v.cells) (hu:∀ (i:Nat) (v:Value),vs[i]? = some v->∀ j,j<size->us[i*size+j]? = v.cells[j]?):Row w L objs us 0 size xs:=by
 refine ⟨by omega,fun i hi=>?_⟩
 obtain ⟨v,hv,hxs,hcr⟩:=hf i _ (List.getElem?_eq_getElem hi)
 refine ⟨hxs,fun j hj=>?_⟩
 obtain ⟨u,h1,h2,h3⟩:=hcr.2 j _ (List.getElem?_eq_getElem hj)
 exact ⟨u,by rw [Nat.zero_add,hu i v hv j (by omega)];exact h1,h2,h3⟩
theorem tr_new {size:Nat} {xs:List AV} {us:Array Value} {e:TypeId} {w':World} {F:Nat->Prop} (hw:w'=w.alloc (.cells us e)) (hF:F w.heap.size) (hm:xs.length<=maxLen)
 (hF2:∀ b,L.F b->F b) (hs:∀ i (h:i<xs.length),xs[i].cells.length=size)
 (hr:∀ i (h:i<xs.length) j (h2:j<xs[i].cells.length),∃ u,us[i*size+j]? = some u/\u.oneCell'=true/\TR w L.F xs[i].cells[j] u) :
 TR w' F (.list size xs) (.slice (some ⟨w.heap.size,0,none⟩) xs.length xs.length):=by
 subst hw
 let f:Nat->Nat->Value:=fun i j=>(us[i*size+j]?).getD undef
 have hf:∀ i (h:i<xs.length) j (h2:j<xs[i].cells.length),us[i*size+j]? = some (f i j)/\(f i j).oneCell'=true/\TR w L.F xs[i].cells[j] (f i j):=by
  intro i h j h2
  obtain ⟨u,hu,ho,ht⟩:=hr i h j h2
  have:f i j=u:=by simp [f,hu]
  rw [this];exact ⟨hu,ho,ht⟩
 refine .list size xs w.heap.size 0 xs.length f hF ⟨us,e,_,heap_alloc_new w _⟩ (Nat.le_refl _) hm hs (fun i j hi hj=>?_) (fun i j hi hj=>(hf i hi j (by rw [hs i hi];exact hj)).2.1) fun i hi j hj=>?_
 ·simp only [Nat.zero_add]
  unfold World.cell?
  rw [heap_alloc_new w _]
  simpa using (hf i hi j (by rw [hs i hi];exact hj)).1
 ·exact (hf i hi j hj).2.2.stay fun b hb hl=>⟨heap_alloc_old w _ hl,hF2 b hb⟩
theorem Good.alloc_data (g:Good F0 w0 w L objs) (o:Obj):Good F0 w0 (w.alloc o) (L.grow w (w.alloc o)) objs:=g.grow (Ext.alloc w o)
theorem bslice_ok (g:Good F0 w0 w L objs) {t e el:TypeId} (hel:el=e \/ el=e+2000000000) (hem:e<mapT) {size:Nat} {parts:List (Nat × Operand)} {ev:Operand->AV} {ρ : Operand->Value} {r:AV} {no:Option AObj}
 (ht:P.underlying t=some (.slice e)) (hs:tsize P e=some size) (hpos:0<size) (hz:∃ z,(P.info? e).bind (·.zero)=some z) (hp:parts.map (·.1)=List.range parts.length)
 (he:∀ x,VR w L objs (ev x) (ρ x)) (hk:∀ x ∈ parts.map (·.2),Known objs (ev x)) (hno:no.isSome->objs[nid]? = some .void)
 (h:qop objs0 ev nid (.bslice el size (parts.map (·.2)))=some (r,no)) :
 Does P (do pure (.value (<-Instr.buildSlice t parts.length (parts.map fun p=>(p.1,ρ p.2)).toArray))) F0 w0 w L objs nid r no:=by
 simp only [qop,List.length_map] at h
 split at h
 rotate_left
 ·cases h
 rename_i hh
 obtain ⟨hall,hsz⟩:=hh
 have hm:parts.length<=maxLen:=by have:=Nat.le_mul_of_pos_right parts.length hpos;unfold maxLen;omega
 rw [List.all_eq_true] at hall
 have hv:∀ v ∈ (parts.map fun p=>ρ p.2),v.cells.size=size:=by
  intro v hv
  obtain ⟨p,hp,rfl⟩:=List.mem_map.1 hv
  have h1:=hall p.2 (List.mem_map.2 ⟨p,hp,rfl⟩)
  simp only [Bool.and_eq_true,beq_iff_eq] at h1
  rw [(fits_CR (he p.2) h1.1 (hk _ (List.mem_map.2 ⟨p,hp,rfl⟩))).1];exact h1.2
 obtain ⟨z,hz⟩:=hz
 have hinfo:∃ i,P.info? e=some i/\i.zero=some z:=by
  cases hi:P.info? e with
  | none=>rw [hi] at hz;cases hz
  | some i=>rw [hi] at hz;exact ⟨i,rfl,hz⟩
 obtain ⟨i,hi,hiz⟩:=hinfo
 have key:∀ zc:Array Value,∃ us:Array Value,Instr.fill (fun i=>some (i*size,size)) ((Array.range (parts.length*size)).map (zc[· % zc.size]!)) (parts.map fun p=>(p.1,ρ p.2))=some us/\us.size=parts.length*size /\
  ∀ i v,(parts.map fun p=>ρ p.2)[i]? = some v->∀ j,j<size->us[i*size+j]? = v.cells[j]?:=by
  intro zc
  have e:=zipIdx_range ρ parts 0 (by rw [hp,List.range_eq_range'])
  rw [e]
  obtain ⟨us,h1,h2,_,h4⟩:=fill_row size (parts.map fun p=>ρ p.2) 0 ((Array.range (parts.length*size)).map (zc[· % zc.size]!)) hv (by simp)
  exact ⟨us,h1,by rw [h2];simp,fun i v hv j hj=>by have:=h4 i v hv j hj;rwa [Nat.zero_add] at this⟩
 have hrun:∃ us:Array Value,(Instr.buildSlice t parts.length (parts.map fun p=>(p.1,ρ p.2)).toArray).run P w = .ok (.slice (some ⟨w.heap.size,0,none⟩) parts.length parts.length) (w.alloc (.cells us e))/\us.size=parts.length*size /\
  ∀ i v,(parts.map fun p=>ρ p.2)[i]? = some v->∀ j,j<size->us[i*size+j]? = v.cells[j]?:=by
  have n1:¬ (parts.length*size > 2 ^ 24):=by omega
  have hzv:(zeroValue e).run P w = .ok z w:=by simp [zeroValue,typeInfo,hi,hiz]
  by_cases h0:parts.length*size=0
  ·obtain ⟨us,h1,h2,h3⟩:=key #[]
   refine ⟨us,?_,h2,h3⟩
   have e0:∀ f:Nat->Value,(Array.range (parts.length*size)).map f=#[]:=by intro f;rw [h0];simp
   rw [e0] at h1
   simp only [Instr.buildSlice,Sem.run_bind,run_underlying ht,Result.andThen_ok,run_sizeOf hs,Sem.run_ite,if_neg n1,if_pos h0,Sem.run_pure,e0,h1,newRow,run_newObj]
   rfl
  ·obtain ⟨us,h1,h2,h3⟩:=key z.cells
   refine ⟨us,?_,h2,h3⟩
   simp only [Instr.buildSlice,Sem.run_bind,run_underlying ht,Result.andThen_ok,run_sizeOf hs,Sem.run_ite,if_neg n1,if_neg h0,Sem.run_pure,hzv,h1,newRow,run_newObj]
   rfl
 obtain ⟨us,hrun,hus,hcell⟩:=hrun
 have hrow:Row w L objs us 0 size (parts.map fun p=>ev p.2):=by
  refine row_of (vs:=parts.map fun p=>ρ p.2) (by simp) (by simp [hus]) (fun i x hx=>?_) hcell
  rw [List.getElem?_map,Option.map_eq_some_iff] at hx
  obtain ⟨p,hp,rfl⟩:=hx
  have hm:=List.mem_of_getElem? hp
  have h1:=hall p.2 (List.mem_map.2 ⟨p,hm,rfl⟩)
  simp only [Bool.and_eq_true,beq_iff_eq] at h1
  exact ⟨ρ p.2,by rw [List.getElem?_map,hp];rfl,h1.2,fits_CR (he p.2) h1.1 (hk _ (List.mem_map.2 ⟨p,hm,rfl⟩))⟩
 split at h
 ·simp only [Option.some.injEq,Prod.mk.injEq] at h
  obtain ⟨rfl,rfl⟩:=h
  have hv:=hno rfl
  have hid:=(List.getElem?_eq_some_iff.1 hv).1
  have hee:(if 2000000000<=el then el-2000000000 else el)=e:=by
   have h2:e<1000000000:=hem
   rcases hel with rfl | rfl
   ·rw [if_neg (Nat.not_le.2 (Nat.lt_trans h2 (by decide)))]
   ·rw [if_pos (Nat.le_add_left _ _)];exact Nat.add_sub_cancel e 2000000000
  rw [hee]
  simp only [List.map_map] at *
  refine ⟨.slice (some ⟨w.heap.size,0,none⟩) parts.length parts.length,_,_,by simp [hrun],g.new (gen:=parts.length) (elem:=e) hv us hem hrow,.new hv _ _,?_⟩
  have:=VR.ownL (w:=w.alloc (.cells us e)) (L:=L.put nid (some (w.heap.size,0,us.size))) (objs:=objs.set nid (.arr parts.length size e (parts.map fun p=>ev p.2))) nid parts.length 0 parts.length parts.length size w.heap.size 0 us.size
   (live_self hid) (by simp [Lay.put]) (Nat.le_refl _) hm (by simp [hus])
  simpa [putO,Function.comp_def] using this
 ·rename_i hnn
  simp only [Option.some.injEq,Prod.mk.injEq] at h
  obtain ⟨rfl,rfl⟩:=h
  have hT:∀ x ∈ parts.map (·.2),(ev x).isT=true:=by
   have:¬ ((parts.map (·.2)).all fun x=>(ev x).isT)=false:=fun h=>hnn (.inr (.inl h))
   rw [Bool.not_eq_false,List.all_eq_true] at this
   exact this
  simp only [List.map_map] at *
  refine ⟨.slice (some ⟨w.heap.size,0,none⟩) parts.length parts.length,w.alloc (.cells us e),_,by simp [hrun],g.alloc_data _,.grow _ _ (Ext.alloc _ _),.tree ?_⟩
  have hlen:(parts.map fun p=>ev p.2).length=parts.length:=by simp
  have:=tr_new (size:=size) (xs:=parts.map fun p=>ev p.2) (us:=us) (e:=e) (L:=L) (w:=w) (F:=(L.grow w (w.alloc (.cells us e))).F) rfl (.inr ⟨Nat.le_refl _,by simp⟩) (by rw [hlen];exact hm) (fun b hb=>.inl hb)
   (fun i hi=>(hrow.2 i hi).1) (fun i hi j hj=>?_)
  ·rw [hlen] at this;exact this
  ·obtain ⟨u,hu,ho,hv⟩:=(hrow.2 i hi).2 j hj
   refine ⟨u,by simpa using hu,ho,?_⟩
   have h1:(parts.map fun p=>ev p.2)[i].isT=true:=by
    rw [List.getElem_map]
    exact hT _ (List.mem_map.2 ⟨_,List.getElem_mem _,rfl⟩)
   generalize (parts.map fun p=>ev p.2)[i]=x at *
   cases x with
   | agg cs=>exact isT1_ok hv (List.all_eq_true.1 h1 _ (List.getElem_mem _))
   | val v => have : j = 0 := by simp [AV.cells] at hj; omega
              subst this;exact isT1_ok hv rfl
   | list s ys => have : j = 0 := by simp [AV.cells] at hj; omega
                  subst this;exact isT1_ok hv rfl
   | ptr s => have : j = 0 := by simp [AV.cells] at hj; omega
              subst this;exact isT1_ok hv rfl
   | emp => have : j = 0 := by simp [AV.cells] at hj; omega
            subst this;exact isT1_ok hv rfl
   | anyB => have : j = 0 := by simp [AV.cells] at hj; omega
             subst this;exact isT1_ok hv rfl
   | mapd => have : j = 0 := by simp [AV.cells] at hj; omega
             subst this;exact isT1_ok hv rfl
   | clo s ys => have : j = 0 := by simp [AV.cells] at hj; omega
                 subst this;exact isT_ok hv h1
   | tup xs => have : j = 0 := by simp [AV.cells] at hj; omega
               subst this;exact isT_ok hv h1
   | _=>cases h1
theorem empS_ok (g:Good F0 w0 w L objs) {t e:TypeId} {size:Nat} (ht:P.underlying t=some (.slice e)) (hs:tsize P e=some size) :
 Does P (do pure (.value (<-Instr.buildSlice t 0 #[]))) F0 w0 w L objs nid .emp none:=by
 have hrun:(Instr.buildSlice t 0 #[]).run P w = .ok (.slice (some ⟨w.heap.size,0,none⟩) 0 0) (w.alloc (.cells #[] e)):=by
  have e0:∀ f:Nat->Value,(Array.range (0*size)).map f=#[]:=by intro f;simp
  simp only [Instr.buildSlice,Sem.run_bind,run_underlying ht,Result.andThen_ok,run_sizeOf hs,Sem.run_ite,if_neg (show ¬ 0*size > 2 ^ 24 by omega),if_pos (show 0*size=0 by omega),Sem.run_pure,e0,Instr.fill,newRow,run_newObj]
  rfl
 exact ⟨.slice (some ⟨w.heap.size,0,none⟩) 0 0,w.alloc (.cells #[] e),L,by simp [hrun],g.ext' (Ext.alloc _ _),.ext _ _ (Ext.alloc _ _),.tree (.emp _)⟩
end Dak
namespace Dak
open Go Go.RowKit
variable [Globs]
variable {P : Program} {F0 : FD} {w0 w : World} {L : Lay} {objs objs0 : List AObj} {nid : Nat}
theorem known_ofV (v:Value):Known objs (ofV v):=by
 rintro id g (⟨o,l,h⟩ | ⟨o,l,h⟩) <;> (unfold ofV at h;split at h <;> (try (split at h)) <;> cases h)
theorem mkslice_ok (g:Good F0 w0 w L objs) {t e:TypeId} (hem:e<mapT) {size bytes:Nat} {z:Value} {lo co:Operand} {ev:Operand->AV} {ρ : Operand->Value} {r:AV} {no:Option AObj}
 (ht:P.underlying t=some (.slice e)) (hi:(P.info? e).map (fun i=>(i.zero,i.size,i.bytes))=some (some z,size,bytes)) (hf:(ofV z).fits=true) (hpos:0<size)
 (he:∀ x,VR w L objs (ev x) (ρ x)) (hno:no.isSome->objs[nid]? = some .void)
 (h:qop objs0 ev nid (.mkslice e size bytes (ofV z) lo co)=some (r,no)) :
 Does P (do pure (.value (<-Instr.makeSlice t (ρ lo) (ρ co)))) F0 w0 w L objs nid r no:=by
 simp only [qop,Option.bind_eq_bind,Option.bind_eq_some_iff] at h
 obtain ⟨⟨k,l⟩,hl,⟨k',c⟩,hc,h⟩:=h
 split at h
 rotate_left
 ·cases h
 rename_i hh
 obtain ⟨h0,hlc,hb,h63,hzs⟩:=hh
 simp only [Option.some.injEq,Prod.mk.injEq] at h
 obtain ⟨rfl,rfl⟩:=h
 have hv:=hno rfl
 have hid:=(List.getElem?_eq_some_iff.1 hv).1
 rw [asI_ok (he lo) hl,asI_ok (he co) hc]
 obtain ⟨i,hi1,hi2⟩:=Option.map_eq_some_iff.1 hi
 simp only [Prod.mk.injEq] at hi2
 obtain ⟨hz,hsz,hby⟩:=hi2
 have hcr:=fits_CR (ofV_ok (w:=w) (L:=L) (objs:=objs) z) hf (known_ofV z)
 have hrun:=run_make (P:=P) (w:=w) t e i z ht hi1 hz k k' l c h0 hlc (by rw [hby];exact hb) h63
 rw [hsz] at hrun
 have hzc:z.cells.size=size:=by rw [hcr.1,hzs]
 have hcs:(madeCells z.cells (c.toNat*size)).size=c.toNat*size:=size_madeCells _ _
 have hle:l.toNat*size<=c.toNat*size:=Nat.mul_le_mul_right _ (by omega)
 have hrow:Row w L objs (madeCells z.cells (c.toNat*size)) 0 size (List.replicate l.toNat (ofV z)):=by
  refine ⟨by simp [hcs];exact hle,fun a ha=>?_⟩
  rw [List.getElem_replicate]
  refine ⟨hzs,fun j hj=>?_⟩
  obtain ⟨u,hu,ho,hvr⟩:=hcr.2 j _ (List.getElem?_eq_getElem hj)
  refine ⟨u,?_,ho,hvr⟩
  have hal:a<l.toNat:=by simpa using ha
  have h1:a*size+size<=c.toNat*size:=by
   have:=Nat.mul_le_mul_right size (show a+1<=c.toNat by omega)
   rw [Nat.add_mul,Nat.one_mul] at this;exact this
  have h2:(a*size+j) % z.cells.size=j:=by
   rw [hzc,Nat.mul_comm,Nat.mul_add_mod,Nat.mod_eq_of_lt (by omega)]
  have hlt:j<z.cells.size:=by omega
  simp only [madeCells,Nat.zero_add]
  rw [Array.getElem?_map,Array.getElem?_eq_getElem (by simp;omega)]
  simp only [Array.getElem_range,Option.map_some,h2]
  rw [getElem!_pos z.cells j hlt]
  rw [Array.getElem?_eq_getElem hlt] at hu
  exact hu
 refine ⟨.slice (some ⟨w.heap.size,0,none⟩) l.toNat c.toNat,_,_,by simp [hrun],g.new (gen:=l.toNat) (elem:=e) hv _ hem hrow,.new hv _ _,?_⟩
 have:=VR.ownL (w:=w.alloc (.cells (madeCells z.cells (c.toNat*size)) e)) (L:=L.put nid (some (w.heap.size,0,(madeCells z.cells (c.toNat*size)).size))) (objs:=objs.set nid (.arr l.toNat size e (List.replicate l.toNat (ofV z)))) nid l.toNat 0 l.toNat c.toNat size w.heap.size 0 (madeCells z.cells (c.toNat*size)).size
  (live_self hid) (by simp [Lay.put]) (by omega) (by unfold maxLen;omega) (by rw [hcs];simp)
 simpa [putO] using this
theorem live_of {id gen s:Nat} {e:TypeId} {xs:List AV} (hs:Sub objs0 objs) (h:objs0[id]? = some (AObj.arr gen s e xs)):live objs id gen s:=⟨e,xs,hs _ _ _ _ _ h⟩
theorem idxS_ok (g:Good F0 w0 w L objs) (hsub:Sub objs0 objs) {t e:TypeId} {size:Nat} {x i:Operand} {ev:Operand->AV} {ρ : Operand->Value} {r:AV} {no:Option AObj}
 (ht:P.underlying t=some (.slice e)) (hs:tsize P e=some size)
 (he:∀ x,VR w L objs (ev x) (ρ x)) (h:qop objs0 ev nid (.idxS size x i)=some (r,no)) :
 Does P (do pure (.value (<-Instr.indexAt t (ρ x) (ρ i)))) F0 w0 w L objs nid r no:=by
 simp only [qop,Option.bind_eq_bind,Option.bind_eq_some_iff] at h
 obtain ⟨⟨k,n⟩,hn,h⟩:=h
 rw [asI_ok (he i) hn]
 have hx:=he x
 generalize ev x=X at *
 generalize ρ x=V at *
 cases X with
 | list s xs =>
  simp only [Option.ite_none_right_eq_some,Option.map_eq_some_iff,Prod.mk.injEq] at h
  obtain ⟨⟨rfl,h0⟩,y,hy,rfl,rfl⟩:=h
  obtain ⟨hlt,rfl⟩:=List.getElem?_eq_some_iff.1 hy
  have htr:=hx.list_inv
  cases htr with
  | nolist=>simp at hlt
  | list _ _ b o cap us hF hb hn' hm hsz hc h1 hr =>
   have hlt':(n:Int)<(xs.length:Int):=by omega
   have hrun:(Instr.indexAt t (.slice (some ⟨b,o,none⟩) xs.length cap) (.int k n)).run P w = .ok (.pointer (some ⟨b,o+n.toNat*s,none⟩)) w:=by
    simp [Instr.indexAt,asIntOf,run_underlying ht,h0,hlt',run_sizeOf hs,run_addr0]
   refine .pure g (v:=.pointer (some ⟨b,o+n.toNat*s,none⟩)) (by simp [hrun]) (.tree (.ptr _ _ _ (us n.toNat) hF hb (fun j hj=>hc _ _ hlt (by rw [<-hsz _ hlt];exact hj)) (fun j hj=>h1 _ _ hlt (by rw [<-hsz _ hlt];exact hj)) (hr _ hlt)))
 | own id gen off len =>
  simp only at h
  split at h
  ·rename_i g' s e' ys ho
   simp only [Option.ite_none_right_eq_some,Option.some.injEq,Prod.mk.injEq] at h
   obtain ⟨⟨rfl,rfl,h0,hlt⟩,rfl,rfl⟩:=h
   have hl:=live_of hsub ho
   rcases hx.own_inv hl with ⟨rfl,_⟩ | ⟨b,o,nn,cap,hbk,rfl,hc,hm,hr⟩
   ·omega
   ·have hrun:(Instr.indexAt t (.slice (some ⟨b,o+off*s,none⟩) len cap) (.int k n)).run P w = .ok (.pointer (some ⟨b,o+(off+n.toNat)*s+0,none⟩)) w:=by
     simp [Instr.indexAt,asIntOf,run_underlying ht,h0,hlt,run_sizeOf hs,run_addr0,Nat.add_mul,Nat.add_assoc]
    exact .pure g (by simp [hrun]) (.refL _ _ _ _ _ _ _ _ hl hbk)
  ·cases h
 | _=>simp at h
theorem ptr_drop {F:Nat->Prop} {cs:List AV} {b o d:Nat} (h:TR w F (.ptr cs) (.pointer (some ⟨b,o,none⟩))):TR w F (.ptr (cs.drop d)) (.pointer (some ⟨b,o+d,none⟩)):=by
 cases h with
 | ptr _ _ _ us hF hb hc h1 hr =>
  refine .ptr _ _ _ (fun j=>us (d+j)) hF hb (fun j hj=>?_) (fun j hj=>h1 _ (by simp at hj;omega)) fun j hj=>?_
  ·have:=hc (d+j) (by simp at hj;omega)
   rwa [<-Nat.add_assoc] at this
  ·rw [List.getElem_drop];exact hr _ _
theorem idxA_ok (g:Good F0 w0 w L objs) (hsub:Sub objs0 objs) {t e:TypeId} {len size:Nat} {x i:Operand} {ev:Operand->AV} {ρ : Operand->Value} {r:AV} {no:Option AObj}
 (ht:P.underlying t=some (.array len e)) (hs:tsize P e=some size)
 (he:∀ x,VR w L objs (ev x) (ρ x)) (h:qop objs0 ev nid (.idxA len size x i)=some (r,no)) :
 Does P (do pure (.value (<-Instr.indexAt t (ρ x) (ρ i)))) F0 w0 w L objs nid r no:=by
 simp only [qop,Option.bind_eq_bind,Option.bind_eq_some_iff,Option.ite_none_right_eq_some] at h
 obtain ⟨⟨k,n⟩,hn,⟨h0,hlt⟩,h⟩:=h
 rw [asI_ok (he i) hn]
 have hrun:∀ b o,(Instr.indexAt t (.pointer (some ⟨b,o,none⟩)) (.int k n)).run P w = .ok (.pointer (some ⟨b,o+n.toNat*size,none⟩)) w:=by
  intro b o
  simp [Instr.indexAt,asIntOf,Instr.sureAddr,run_underlying ht,h0,hlt,run_sizeOf hs,run_addr0]
 have hx:=he x
 generalize ev x=X at *
 generalize ρ x=V at *
 cases X with
 | ptr cs =>
  simp only [Option.some.injEq,Prod.mk.injEq] at h
  obtain ⟨rfl,rfl⟩:=h
  have htr:=hx.ptr_inv
  have:∃ b o,V = .pointer (some ⟨b,o,none⟩):=by cases htr;exact ⟨_,_,rfl⟩
  obtain ⟨b,o,rfl⟩:=this
  exact .pure g (v:=.pointer (some ⟨b,o+n.toNat*size,none⟩)) (by simp [hrun]) (.tree (ptr_drop htr))
 | ref id gen el c =>
  simp only at h
  split at h
  ·rename_i g' s e' ys ho
   simp only [Option.ite_none_right_eq_some,Option.some.injEq,Prod.mk.injEq] at h
   obtain ⟨rfl,rfl,rfl⟩:=h
   have hl:=live_of hsub ho
   obtain ⟨b,o,nn,hbk,rfl⟩:=hx.ref_inv hl
   refine .pure g (v:=.pointer (some ⟨b,o+el*s+(c+n.toNat*size),none⟩)) (by simp [hrun,Nat.add_assoc]) (.refL _ _ _ _ _ _ _ _ hl hbk)
  ·cases h
 | _=>simp at h
theorem fieldAddr_ok (g:Good F0 w0 w L objs) (hsub:Sub objs0 objs) {t:TypeId} {fs:Array Field} {f:Field} {fi n:Nat} {x:Operand} {ev:Operand->AV} {ρ : Operand->Value} {r:AV} {no:Option AObj}
 (ht:P.underlying t=some (.struct fs)) (hf:fs[fi]? = some f) (hs:tsize P f.type=some (n+1))
 (he:∀ x,VR w L objs (ev x) (ρ x)) (h:qop objs0 ev nid (.fieldAddr f.offset x)=some (r,no)) :
 Does P (do pure (.value (<-Instr.fieldAt t (ρ x) fi))) F0 w0 w L objs nid r no:=by
 simp only [qop] at h
 have hrun:∀ b o,(Instr.fieldAt t (.pointer (some ⟨b,o,none⟩)) fi).run P w = .ok (.pointer (some ⟨b,o+f.offset,none⟩)) w:=by
  intro b o
  simp [Instr.fieldAt,Instr.sureAddr,run_underlying ht,hf,fieldPlace,run_sizeOf hs,run_addr0]
 have hx:=he x
 generalize ev x=X at *
 generalize ρ x=V at *
 cases X with
 | ptr cs =>
  simp only [Option.some.injEq,Prod.mk.injEq] at h
  obtain ⟨rfl,rfl⟩:=h
  have htr:=hx.ptr_inv
  have:∃ b o,V = .pointer (some ⟨b,o,none⟩):=by cases htr;exact ⟨_,_,rfl⟩
  obtain ⟨b,o,rfl⟩:=this
  exact .pure g (v:=.pointer (some ⟨b,o+f.offset,none⟩)) (by simp [hrun]) (.tree (ptr_drop htr))
 | ref id gen el c =>
  simp only at h
  split at h
  ·rename_i g' s e' ys ho
   simp only [Option.ite_none_right_eq_some,Option.some.injEq,Prod.mk.injEq] at h
   obtain ⟨rfl,rfl,rfl⟩:=h
   have hl:=live_of hsub ho
   obtain ⟨b,o,nn,hbk,rfl⟩:=hx.ref_inv hl
   refine .pure g (v:=.pointer (some ⟨b,o+el*s+(c+f.offset),none⟩)) (by simp [hrun,Nat.add_assoc]) (.refL _ _ _ _ _ _ _ _ hl hbk)
  ·cases h
 | _=>simp at h
theorem field_ok (g:Good F0 w0 w L objs) {t:TypeId} {fs:Array Field} {f:Field} {fi n:Nat} {ag:Bool} {x:Operand} {ev:Operand->AV} {ρ : Operand->Value} {r:AV} {no:Option AObj}
 (ht:P.underlying t=some (.struct fs)) (hf:fs[fi]? = some f) (ha:tagg P f.type=some ag) (hs:tsize P f.type=some n)
 (he:∀ x,VR w L objs (ev x) (ρ x)) (h:qop objs0 ev nid (.field ag f.offset n x)=some (r,no)) :
 Does P (do pure (.value (<-Instr.field t (ρ x) fi))) F0 w0 w L objs nid r no:=by
 simp only [qop] at h
 have hx:=he x
 generalize ev x=X at *
 generalize ρ x=V at *
 cases X with
 | agg cs =>
  obtain ⟨vs,rfl,hl,h1,hv⟩:=hx.agg_inv
  have hh:no=none/\(if ag then if f.offset+n<=cs.length then some (AV.agg ((cs.drop f.offset).take n)) else none else cs[f.offset]?)=some r:=by
   cases ag with
   | true =>
    simp only [if_true] at h ⊢
    split at h
    ·rename_i h2;rw [if_pos h2];simp at h;exact ⟨h.2.symm,by rw [h.1]⟩
    ·cases h
   | false =>
    simp only [Bool.false_eq_true,if_false,Option.map_eq_some_iff,Prod.mk.injEq] at h ⊢
    obtain ⟨c,hc,rfl,rfl⟩:=h
    exact ⟨rfl,hc⟩
  obtain ⟨rfl,hh⟩:=hh
  obtain ⟨u,hu,hvu⟩:=part_ok (P:=P) ha hs hl h1 hv hh
  exact .pure g (v:=u) (by simp [Instr.field,run_underlying ht,hf,asAgg,hu]) hvu
 | _=>simp at h
theorem idxV_ok (g:Good F0 w0 w L objs) {t e:TypeId} {len n:Nat} {ag:Bool} {x i:Operand} {ev:Operand->AV} {ρ : Operand->Value} {r:AV} {no:Option AObj}
 (ht:P.underlying t=some (.array len e)) (ha:tagg P e=some ag) (hs:tsize P e=some n)
 (he:∀ x,VR w L objs (ev x) (ρ x)) (h:qop objs0 ev nid (.idxV ag len n x i)=some (r,no)) :
 Does P (do pure (.value (<-Instr.index t (ρ x) (ρ i)))) F0 w0 w L objs nid r no:=by
 simp only [qop,Option.bind_eq_bind,Option.bind_eq_some_iff] at h
 obtain ⟨⟨k,m⟩,hn,h⟩:=h
 rw [asI_ok (he i) hn]
 have hx:=he x
 generalize ev x=X at *
 generalize ρ x=V at *
 cases X with
 | agg cs =>
  simp only [Option.ite_none_right_eq_some] at h
  obtain ⟨⟨h0,hlt⟩,h⟩:=h
  obtain ⟨vs,rfl,hl,h1,hv⟩:=hx.agg_inv
  have hh:no=none/\(if ag then if m.toNat*n+n<=cs.length then some (AV.agg ((cs.drop (m.toNat*n)).take n)) else none else cs[m.toNat*n]?)=some r:=by
   cases ag with
   | true =>
    simp only [if_true] at h ⊢
    split at h
    ·rename_i h2;rw [if_pos h2];simp at h;exact ⟨h.2.symm,by rw [h.1]⟩
    ·cases h
   | false =>
    simp only [Bool.false_eq_true,if_false,Option.map_eq_some_iff,Prod.mk.injEq] at h ⊢
    obtain ⟨c,hc,rfl,rfl⟩:=h
    exact ⟨rfl,hc⟩
  obtain ⟨rfl,hh⟩:=hh
  obtain ⟨u,hu,hvu⟩:=part_ok (P:=P) ha hs hl h1 hv hh
  exact .pure g (v:=u) (by simp [Instr.index,asIntOf,run_underlying ht,h0,hlt,run_sizeOf hs,hu]) hvu
 | _=>simp at h
theorem bound_ok {x:AV} {v:Value} (hx:VR w L objs x v) {k:IntKind} {i:Int} (hi:asI x=some (k,i)) (y:Nat) (h0:0<=i/\i<=(y:Int)) (code:BoundsCode):(Instr.sliceBound v y code).run P w = .ok i.toNat w:=by
 rw [asI_ok hx hi]
 simp [Instr.sliceBound,asIntOf,h0.1,h0.2]
theorem bounds_ok {ev:Operand->AV} {ρ : Operand->Value} (he:∀ x,VR w L objs (ev x) (ρ x)) (lo hi:Option Operand) (len cap l h:Nat) (hc:len<=cap) (hb:bnd len (lo.map ev) (hi.map ev)=some (l,h)) :
 l<=h/\h<=len/\(Instr.sliceBounds true len cap (lo.map ρ) (hi.map ρ) none).run P w = .ok (l,h,cap) w:=by
 unfold bnd at hb
 simp only [Option.bind_eq_some_iff,Option.some.injEq,Prod.mk.injEq] at hb
 obtain ⟨h',hh,l',hl,rfl,rfl⟩:=hb
 have one:∀ (x:Operand) (y Y d r:Nat) (code:BoundsCode),y<=Y->bnd1 y d (some (ev x))=some r->r<=y/\(Instr.sliceBound (ρ x) Y code).run P w = .ok r w:=by
  intro x y Y d r code hy hb
  simp only [bnd1,Option.bind_eq_some_iff] at hb
  obtain ⟨⟨k,i⟩,h1,h2⟩:=hb
  split at h2
  ·rename_i h3
   simp at h2;subst h2
   exact ⟨by omega,bound_ok (he x) h1 Y ⟨h3.1,by omega⟩ _⟩
  ·cases h2
 cases hi with
 | none =>
  simp [bnd1] at hh;subst hh
  cases lo with
  | none=>simp [bnd1] at hl;subst hl;exact ⟨Nat.zero_le _,Nat.le_refl _,by simp [Instr.sliceBounds]⟩
  | some x =>
   have:=one x _ _ _ _ .sliceB (Nat.le_refl _) hl
   exact ⟨this.1,Nat.le_refl _,by simp [Instr.sliceBounds,this.2]⟩
 | some y =>
  have hy:=one y _ cap _ _ .sliceAcap hc hh
  cases lo with
  | none=>simp [bnd1] at hl;subst hl;exact ⟨Nat.zero_le _,hy.1,by simp [Instr.sliceBounds,hy.2]⟩
  | some x =>
   have:=one x _ _ _ _ .sliceB (Nat.le_refl _) hl
   exact ⟨this.1,hy.1,by simp [Instr.sliceBounds,this.2,hy.2]⟩
theorem slice_ok (g:Good F0 w0 w L objs) (hsub:Sub objs0 objs) {t e:TypeId} {size:Nat} {x:Operand} {lo hi:Option Operand} {ev:Operand->AV} {ρ : Operand->Value} {r:AV} {no:Option AObj}
 (ht:P.underlying t=some (.slice e)) (hs:tsize P e=some size)
 (he:∀ x,VR w L objs (ev x) (ρ x)) (h:qop objs0 ev nid (.slice size x lo hi)=some (r,no)) :
 Does P (do pure (.value (<-Instr.sliceAt t (ρ x) (lo.map ρ) (hi.map ρ) none))) F0 w0 w L objs nid r no:=by
 simp only [qop] at h
 have hx:=he x
 generalize ev x=X at *
 generalize ρ x=V at *
 cases X with
 | list s xs =>
  simp only [Option.ite_none_right_eq_some,Option.map_eq_some_iff,Prod.mk.injEq] at h
  obtain ⟨rfl,⟨l,hh⟩,hb,rfl,rfl⟩:=h
  have htr:=hx.list_inv
  cases htr with
  | nolist _ ad cap hm =>
   obtain ⟨h1,h2,h3⟩:=bounds_ok (P:=P) he lo hi 0 cap l hh (Nat.zero_le _) (by simpa using hb)
   obtain rfl:hh=0:=by omega
   obtain rfl:l=0:=by omega
   refine .pure g (v:=.slice ad 0 cap) ?_ (.tree (.nolist _ _ _ hm))
   simp [Instr.sliceAt,Instr.slice,run_underlying ht,h3,run_sizeOf hs]
   intro;cases ad <;> simp [Addr.add]
  | list _ _ b o cap us hF hb' hn' hm hsz hc h1 hr =>
   obtain ⟨b1,b2,b3⟩:=bounds_ok (P:=P) he lo hi xs.length cap l hh hn' hb
   have hlen:((xs.take hh).drop l).length=hh-l:=by simp;omega
   have key:TR w L.F (.list s ((xs.take hh).drop l)) (.slice (if cap=l then some ⟨b,o,none⟩ else some ⟨b,o+l*s,none⟩) (hh-l) (cap-l)):=by
    by_cases e:cap=l
    ·have:(xs.take hh).drop l=[]:=List.eq_nil_of_length_eq_zero (by omega)
     rw [this,if_pos e,show hh-l=0 from by omega]
     exact .nolist _ _ _ (by omega)
    ·rw [if_neg e]
     have hget:∀ i (hi:i<((xs.take hh).drop l).length),((xs.take hh).drop l)[i]=xs[l+i]'(by rw [hlen] at hi;omega):=by
      intro i hi;rw [List.getElem_drop,List.getElem_take]
     have:=TR.list (w:=w) (F:=L.F) s ((xs.take hh).drop l) b (o+l*s) (cap-l) (fun i j=>us (l+i) j) hF hb' (by rw [hlen];omega) (by omega) (fun i hi=>by rw [hget i hi];exact hsz _ _)
      (fun i j hi hj=>by have:=hc (l+i) j (by rw [hlen] at hi;omega) hj;rw [Nat.add_mul] at this;rwa [show o+l*s+i*s+j=o+(l*s+i*s)+j from by omega])
      (fun i j hi hj=>h1 _ _ (by rw [hlen] at hi;omega) hj) (fun i hi j hj=>by simp only [hget i hi] at hj ⊢;exact hr _ _ _ hj)
     rw [hlen] at this
     exact this
   refine .pure g (v:=.slice (if cap=l then some ⟨b,o,none⟩ else some ⟨b,o+l*s,none⟩) (hh-l) (cap-l)) ?_ (.tree key)
   simp [Instr.sliceAt,Instr.slice,run_underlying ht,b3,run_sizeOf hs,run_addr0]
 | own id gen off len =>
  simp only at h
  split at h
  ·rename_i g' s e' ys ho
   simp only [Option.ite_none_right_eq_some,Option.map_eq_some_iff,Prod.mk.injEq] at h
   obtain ⟨⟨rfl,rfl⟩,⟨l,hh⟩,hb,rfl,rfl⟩:=h
   have hl:=live_of hsub ho
   rcases hx.own_inv hl with ⟨rfl,ad,rfl⟩ | ⟨b,o,nn,cap,hbk,rfl,hc,hm,hr⟩
   ·obtain ⟨h1,h2,h3⟩:=bounds_ok (P:=P) he lo hi 0 0 l hh (Nat.zero_le _) hb
    obtain rfl:hh=0:=by omega
    obtain rfl:l=0:=by omega
    refine .pure g (v:=.slice ad 0 0) ?_ (.ownN _ _ _ _ _ hl)
    simp [Instr.sliceAt,Instr.slice,run_underlying ht,h3,run_sizeOf hs]
   ·obtain ⟨b1,b2,b3⟩:=bounds_ok (P:=P) he lo hi len cap l hh hc hb
    by_cases e:cap=l
    ·refine .pure g (v:=.slice (some ⟨b,o+off*s,none⟩) 0 0) ?_ ?_
     ·obtain rfl:hh=l:=by omega
      obtain rfl:=e
      simp [Instr.sliceAt,Instr.slice,run_underlying ht,b3,run_sizeOf hs,run_addr0]
     ·rw [show hh-l=0 from by omega];exact .ownN _ _ _ _ _ hl
    ·refine .pure g (v:=.slice (some ⟨b,o+(off+l)*s,none⟩) (hh-l) (cap-l)) ?_ (.ownL _ _ _ _ _ _ _ _ _ hl hbk (by omega) (by omega) (by rw [show off+l+(cap-l)=off+cap from by omega];exact hr))
     simp [Instr.sliceAt,Instr.slice,run_underlying ht,b3,run_sizeOf hs,run_addr0,e,Nat.add_mul,Nat.add_assoc]
  ·cases h
 | _=>simp at h
theorem bounds3_ok {ev:Operand->AV} {ρ : Operand->Value} (he:∀ x,VR w L objs (ev x) (ρ x)) (lo:Option Operand) (hi mx:Operand) (len cap l h:Nat) {k:IntKind} {m:Int} (hc:len<=cap)
 (hm:asI (ev mx)=some (k,m)) (h0:0<=m) (h1:m<=(len:Int)) (hb:bnd m.toNat (lo.map ev) (some (ev hi))=some (l,h)) :
 l<=h/\h<=m.toNat/\(Instr.sliceBounds true len cap (lo.map ρ) (some (ρ hi)) (some (ρ mx))).run P w = .ok (l,h,m.toNat) w:=by
 unfold bnd at hb
 simp only [Option.bind_eq_some_iff,Option.some.injEq,Prod.mk.injEq] at hb
 obtain ⟨h',hh,l',hl,rfl,rfl⟩:=hb
 have one:∀ (x:Operand) (y d r:Nat) (code:BoundsCode),bnd1 y d (some (ev x))=some r->r<=y/\(Instr.sliceBound (ρ x) y code).run P w = .ok r w:=by
  intro x y d r code hb
  simp only [bnd1,Option.bind_eq_some_iff] at hb
  obtain ⟨⟨k,i⟩,h1,h2⟩:=hb
  split at h2
  ·rename_i h3
   simp at h2;subst h2
   exact ⟨by omega,bound_ok (he x) h1 y ⟨h3.1,by omega⟩ _⟩
  ·cases h2
 have hmx:∀ code,(Instr.sliceBound (ρ mx) cap code).run P w = .ok m.toNat w:=fun code=>bound_ok (he mx) hm cap ⟨h0,by omega⟩ code
 have hy:=one hi _ _ _ .slice3B hh
 cases lo with
 | none=>simp [bnd1] at hl;subst hl;exact ⟨Nat.zero_le _,hy.1,by simp [Instr.sliceBounds,hmx,hy.2]⟩
 | some x =>
  have:=one x _ _ _ .slice3C hl
  exact ⟨this.1,hy.1,by simp [Instr.sliceBounds,this.2,hmx,hy.2]⟩
theorem boundsA_ok {ev:Operand->AV} {ρ : Operand->Value} (he:∀ x,VR w L objs (ev x) (ρ x)) (lo hi:Option Operand) (len l h:Nat) (hb:bnd len (lo.map ev) (hi.map ev)=some (l,h)) :
 l<=h/\h<=len/\(Instr.sliceBounds false len len (lo.map ρ) (hi.map ρ) none).run P w = .ok (l,h,len) w:=by
 unfold bnd at hb
 simp only [Option.bind_eq_some_iff,Option.some.injEq,Prod.mk.injEq] at hb
 obtain ⟨h',hh,l',hl,rfl,rfl⟩:=hb
 have one:∀ (x:Operand) (y Y d r:Nat) (code:BoundsCode),y<=Y->bnd1 y d (some (ev x))=some r->r<=y/\(Instr.sliceBound (ρ x) Y code).run P w = .ok r w:=by
  intro x y Y d r code hy hb
  simp only [bnd1,Option.bind_eq_some_iff] at hb
  obtain ⟨⟨k,i⟩,h1,h2⟩:=hb
  split at h2
  ·rename_i h3
   simp at h2;subst h2
   exact ⟨by omega,bound_ok (he x) h1 Y ⟨h3.1,by omega⟩ _⟩
  ·cases h2
 cases hi with
 | none =>
  simp [bnd1] at hh;subst hh
  cases lo with
  | none=>simp [bnd1] at hl;subst hl;exact ⟨Nat.zero_le _,Nat.le_refl _,by simp [Instr.sliceBounds]⟩
  | some x =>
   have:=one x _ _ _ _ .sliceB (Nat.le_refl _) hl
   exact ⟨this.1,Nat.le_refl _,by simp [Instr.sliceBounds,this.2]⟩
 | some y =>
  have hy:=one y _ len _ _ .sliceAlen (Nat.le_refl _) hh
  cases lo with
  | none=>simp [bnd1] at hl;subst hl;exact ⟨Nat.zero_le _,hy.1,by simp [Instr.sliceBounds,hy.2]⟩
  | some x =>
   have:=one x _ _ _ _ .sliceB (Nat.le_refl _) hl
   exact ⟨this.1,hy.1,by simp [Instr.sliceBounds,this.2,hy.2]⟩
theorem sliceA_ok (g:Good F0 w0 w L objs) {t e:TypeId} {n:Nat} {x:Operand} {lo hi:Option Operand} {ev:Operand->AV} {ρ : Operand->Value} {r:AV} {no:Option AObj}
 (ht:P.underlying t=some (.array n e)) (hs:tsize P e=some 1)
 (he:∀ x,VR w L objs (ev x) (ρ x)) (h:qop objs0 ev nid (.sliceA n x lo hi)=some (r,no)) :
 Does P (do pure (.value (<-Instr.sliceAt t (ρ x) (lo.map ρ) (hi.map ρ) none))) F0 w0 w L objs nid r no:=by
 simp only [qop] at h
 have hx:=he x
 generalize ev x=X at *
 generalize ρ x=V at *
 cases X with
 | ptr cs =>
  simp only [Option.ite_none_right_eq_some,Option.map_eq_some_iff,Prod.mk.injEq] at h
  obtain ⟨⟨hlen,hmx,hone⟩,⟨l,hh⟩,hb,rfl,rfl⟩:=h
  have htr:=hx.ptr_inv
  cases htr with
  | ptr _ b o us hF hb' hc h1 hr =>
   obtain ⟨b1,b2,b3⟩:=boundsA_ok (P:=P) he lo hi n l hh hb
   have hlen2:((cs.take hh).drop l).length=hh-l:=by simp;omega
   have hcell:∀ i (hi:i<cs.length),cs[i].cells=[cs[i]]:=by
    intro i hi
    have h2:(cs[i].cells.length == 1)=true:=List.all_eq_true.1 hone _ (List.getElem_mem hi)
    have h3:=hr i hi
    have h4:=h1 i hi
    generalize cs[i]=c at *
    cases c with
    | agg ds =>
     obtain ⟨vs,hv,_⟩:=h3.agg_inv
     rw [hv] at h4;cases h4
    | _=>rfl
   have hget:∀ i (hi:i<((cs.take hh).drop l).length),((cs.take hh).drop l)[i]=cs[l+i]'(by rw [hlen2] at hi;omega):=by
    intro i hi;rw [List.getElem_drop,List.getElem_take]
   have key:TR w L.F (.list 1 ((cs.take hh).drop l)) (.slice (some (if n=l then ⟨b,o,none⟩ else ⟨b,o+l,none⟩)) (hh-l) (n-l)):=by
    by_cases e:n=l
    ·have:(cs.take hh).drop l=[]:=List.eq_nil_of_length_eq_zero (by omega)
     rw [this,if_pos e,show hh-l=0 from by omega]
     exact .nolist _ _ _ (by omega)
    ·rw [if_neg e]
     have:=TR.list (w:=w) (F:=L.F) 1 ((cs.take hh).drop l) b (o+l) (n-l) (fun i _=>us (l+i)) hF hb' (by rw [hlen2];omega) (by omega) (fun i hi=>by rw [hget i hi,hcell];rfl)
      (fun i j hi hj=>by
       have:=hc (l+i) (by rw [hlen2] at hi;omega)
       have hj0:j=0:=by omega
       subst hj0
       rwa [show o+l+i*1+0=o+(l+i) from by omega])
      (fun i j hi hj=>h1 _ (by rw [hlen2] at hi;omega)) (fun i hi j hj=>by
       simp only [hget i hi,hcell,List.length_singleton] at hj ⊢
       have hj0:j=0:=by omega
       subst hj0
       exact hr _ _)
     rw [hlen2] at this
     exact this
   refine .pure g (v:=.slice (some (if n=l then ⟨b,o,none⟩ else ⟨b,o+l,none⟩)) (hh-l) (n-l)) ?_ (.tree key)
   simp [Instr.sliceAt,Instr.sureAddr,run_underlying ht,b3,run_sizeOf hs,run_addr0]
 | _=>simp at h
theorem slice3_ok (g:Good F0 w0 w L objs) (hsub:Sub objs0 objs) {t e:TypeId} {size:Nat} {x:Operand} {lo:Option Operand} {hi mx:Operand} {ev:Operand->AV} {ρ : Operand->Value} {r:AV} {no:Option AObj}
 (ht:P.underlying t=some (.slice e)) (hs:tsize P e=some size)
 (he:∀ x,VR w L objs (ev x) (ρ x)) (h:qop objs0 ev nid (.slice3 size x lo hi mx)=some (r,no)) :
 Does P (do pure (.value (<-Instr.sliceAt t (ρ x) (lo.map ρ) (some (ρ hi)) (some (ρ mx))))) F0 w0 w L objs nid r no:=by
 simp only [qop,Option.bind_eq_bind,Option.bind_eq_some_iff] at h
 obtain ⟨⟨k,m⟩,hmx,h⟩:=h
 have hx:=he x
 generalize ev x=X at *
 generalize ρ x=V at *
 cases X with
 | list s xs =>
  simp only [Option.ite_none_right_eq_some,Option.map_eq_some_iff,Prod.mk.injEq] at h
  obtain ⟨⟨rfl,m0,m1⟩,⟨l,hh⟩,hb,rfl,rfl⟩:=h
  have htr:=hx.list_inv
  cases htr with
  | nolist _ ad cap hm =>
   obtain ⟨h1,h2,h3⟩:=bounds3_ok (P:=P) he lo hi mx 0 cap l hh (Nat.zero_le _) hmx m0 (by simpa using m1) hb
   have m2:m.toNat=0:=by simp at m1;omega
   obtain rfl:hh=0:=by omega
   obtain rfl:l=0:=by omega
   rw [m2] at h3
   refine .pure g (v:=.slice ad 0 0) ?_ (.tree (.nolist _ _ _ (by simp [maxLen])))
   simp [Instr.sliceAt,Instr.slice,run_underlying ht,h3,run_sizeOf hs]
  | list _ _ b o cap us hF hb' hn' hm hsz hc h1 hr =>
   obtain ⟨b1,b2,b3⟩:=bounds3_ok (P:=P) he lo hi mx xs.length cap l hh hn' hmx m0 m1 hb
   have hlen:((xs.take hh).drop l).length=hh-l:=by simp;omega
   have key:TR w L.F (.list s ((xs.take hh).drop l)) (.slice (if m.toNat=l then some ⟨b,o,none⟩ else some ⟨b,o+l*s,none⟩) (hh-l) (m.toNat-l)):=by
    by_cases e:m.toNat=l
    ·have:(xs.take hh).drop l=[]:=List.eq_nil_of_length_eq_zero (by omega)
     rw [this,if_pos e,show hh-l=0 from by omega]
     exact .nolist _ _ _ (by omega)
    ·rw [if_neg e]
     have hget:∀ i (hi:i<((xs.take hh).drop l).length),((xs.take hh).drop l)[i]=xs[l+i]'(by rw [hlen] at hi;omega):=by
      intro i hi;rw [List.getElem_drop,List.getElem_take]
     have:=TR.list (w:=w) (F:=L.F) s ((xs.take hh).drop l) b (o+l*s) (m.toNat-l) (fun i j=>us (l+i) j) hF hb' (by rw [hlen];omega) (by omega) (fun i hi=>by rw [hget i hi];exact hsz _ _)
      (fun i j hi hj=>by have:=hc (l+i) j (by rw [hlen] at hi;omega) hj;rw [Nat.add_mul] at this;rwa [show o+l*s+i*s+j=o+(l*s+i*s)+j from by omega])
      (fun i j hi hj=>h1 _ _ (by rw [hlen] at hi;omega) hj) (fun i hi j hj=>by simp only [hget i hi] at hj ⊢;exact hr _ _ _ hj)
     rw [hlen] at this
     exact this
   refine .pure g (v:=.slice (if m.toNat=l then some ⟨b,o,none⟩ else some ⟨b,o+l*s,none⟩) (hh-l) (m.toNat-l)) ?_ (.tree key)
   simp [Instr.sliceAt,Instr.slice,run_underlying ht,b3,run_sizeOf hs,run_addr0]
 | own id gen off len =>
  simp only at h
  split at h
  ·rename_i g' s e' ys ho
   simp only [Option.ite_none_right_eq_some,Option.map_eq_some_iff,Prod.mk.injEq] at h
   obtain ⟨⟨rfl,rfl,m0,m1⟩,⟨l,hh⟩,hb,rfl,rfl⟩:=h
   have hl:=live_of hsub ho
   rcases hx.own_inv hl with ⟨rfl,ad,rfl⟩ | ⟨b,o,nn,cap,hbk,rfl,hc,hm,hr⟩
   ·obtain ⟨h1,h2,h3⟩:=bounds3_ok (P:=P) he lo hi mx 0 0 l hh (Nat.zero_le _) hmx m0 m1 hb
    have m2:m.toNat=0:=by omega
    obtain rfl:hh=0:=by omega
    obtain rfl:l=0:=by omega
    rw [m2] at h3
    refine .pure g (v:=.slice ad 0 0) ?_ (.ownN _ _ _ _ _ hl)
    simp [Instr.sliceAt,Instr.slice,run_underlying ht,h3,run_sizeOf hs]
   ·obtain ⟨b1,b2,b3⟩:=bounds3_ok (P:=P) he lo hi mx len cap l hh hc hmx m0 m1 hb
    by_cases e:m.toNat=l
    ·refine .pure g (v:=.slice (some ⟨b,o+off*s,none⟩) 0 0) ?_ ?_
     ·obtain rfl:hh=l:=by omega
      rw [e] at b3
      simp [Instr.sliceAt,Instr.slice,run_underlying ht,b3,run_sizeOf hs,run_addr0]
     ·rw [show hh-l=0 from by omega];exact .ownN _ _ _ _ _ hl
    ·have hmc:m.toNat<=cap:=by omega
     refine .pure g (v:=.slice (some ⟨b,o+(off+l)*s,none⟩) (hh-l) (m.toNat-l)) ?_ (.ownL _ _ _ _ _ _ _ _ _ hl hbk (by omega) (by omega) (Nat.le_trans (Nat.add_le_add_left (Nat.mul_le_mul_right _ (by omega)) _) hr))
     simp [Instr.sliceAt,Instr.slice,run_underlying ht,b3,run_sizeOf hs,run_addr0,e,Nat.add_mul,Nat.add_assoc]
  ·cases h
 | _=>simp at h
theorem len_ok (g:Good F0 w0 w L objs) (hsub:Sub objs0 objs) {t e ty:TypeId} {x:Operand} {ev:Operand->AV} {ρ : Operand->Value} {r:AV} {no:Option AObj}
 (ht:P.underlying t=some (.slice e)) (he:∀ x,VR w L objs (ev x) (ρ x)) (h:qop objs0 ev nid (.len x)=some (r,no)) :
 Does P (do pure (.value (<-Builtin.len_ #[t] ty #[ρ x]))) F0 w0 w L objs nid r no:=by
 simp only [qop] at h
 have hx:=he x
 have hrun:∀ ad n c,(Builtin.len_ #[t] ty #[.slice ad n c]).run P w = .ok (.int .i64 n) w:=by
  intro ad n c;simp [Builtin.len_,run_underlying ht,goInt]
 generalize ev x=X at *
 generalize ρ x=V at *
 cases X with
 | list s xs =>
  simp only [Option.some.injEq,Prod.mk.injEq] at h
  obtain ⟨rfl,rfl⟩:=h
  have htr:=hx.list_inv
  cases htr with
  | nolist _ ad cap hm=>exact .pure g (v:=.int .i64 0) (by simp [hrun]) (.tree (.val _))
  | list _ _ b o cap us hF hb' hn' hm hsz hc h1 hr=>exact .pure g (v:=.int .i64 xs.length) (by simp [hrun]) (.tree (.val _))
 | own id gen off len =>
  simp only at h
  split at h
  ·rename_i g' s e' ys ho
   simp only [Option.ite_none_right_eq_some,Option.some.injEq,Prod.mk.injEq] at h
   obtain ⟨rfl,rfl,rfl⟩:=h
   have hl:=live_of hsub ho
   rcases hx.own_inv hl with ⟨rfl,ad,rfl⟩ | ⟨b,o,nn,cap,hbk,rfl,hc,hm,hr⟩
   ·exact .pure g (v:=.int .i64 0) (by simp [hrun]) (.tree (.val _))
   ·exact .pure g (v:=.int .i64 len) (by simp [hrun]) (.tree (.val _))
  ·cases h
 | val v =>
  cases v with
  | slice a n c =>
   cases a with
   | none =>
    simp only [Option.some.injEq,Prod.mk.injEq] at h
    obtain ⟨rfl,rfl⟩:=h
    rw [hx.val_inv]
    exact .pure g (v:=.int .i64 n) (by simp [hrun]) (.tree (.val _))
   | some a=>simp at h
  | _=>simp at h
 | _=>simp at h
end Dak
namespace Dak
open Go Go.RowKit
variable [Globs]
variable {P : Program} {F0 : FD} {w0 w : World} {L : Lay} {objs objs0 : List AObj} {nid : Nat}
def RL (w:World) (L:Lay) (objs:List AObj) (size:Nat) (xs:List AV) (us:List Value):Prop :=
 us.length=xs.length*size/\∀ i (h:i<xs.length),xs[i].cells.length=size /\
  ∀ j (h2:j<xs[i].cells.length),∃ u,us[i*size+j]? = some u/\u.oneCell'=true/\VR w L objs xs[i].cells[j] u
theorem mul_add_lt {i n s j:Nat} (hi:i<n) (hj:j<s):i*s+j<n*s:=by
 have:=Nat.mul_le_mul_right s (show i+1<=n from hi)
 rw [Nat.add_mul,Nat.one_mul] at this;omega
theorem RL.app {size:Nat} {xs ys:List AV} {us vs:List Value} (h:RL w L objs size xs us) (k:RL w L objs size ys vs):RL w L objs size (xs++ys) (us++vs):=by
 refine ⟨by rw [List.length_append,List.length_append,h.1,k.1,Nat.add_mul],fun i hi=>?_⟩
 by_cases hx:i<xs.length
 ·have e:(xs++ys)[i]=xs[i]:=List.getElem_append_left hx
  rw [e]
  refine ⟨(h.2 i hx).1,fun j hj=>?_⟩
  obtain ⟨u,hu,h2⟩:=(h.2 i hx).2 j hj
  have hlt:i*size+j<us.length:=(List.getElem?_eq_some_iff.1 hu).1
  exact ⟨u,by rw [List.getElem?_append_left hlt];exact hu,h2⟩
 ·have hy:i-xs.length<ys.length:=by rw [List.length_append] at hi;omega
  have e:(xs++ys)[i]=ys[i-xs.length]:=List.getElem_append_right (by omega)
  rw [e]
  refine ⟨(k.2 _ hy).1,fun j hj=>?_⟩
  obtain ⟨u,hu,h2⟩:=(k.2 _ hy).2 j hj
  refine ⟨u,?_,h2⟩
  have e2:i*size+j=us.length+((i-xs.length)*size+j):=by
   rw [h.1,<-Nat.add_assoc,<-Nat.add_mul,show xs.length+(i-xs.length)=i from by omega]
  rw [e2,List.getElem?_append_right (by omega),show us.length+((i-xs.length)*size+j)-us.length=(i-xs.length)*size+j from by omega]
  exact hu
theorem RL.row {size o:Nat} {xs:List AV} {us:List Value} {cur:Array Value} (h:RL w L objs size xs us) (hs:o+us.length<=cur.size) (hc:∀ k u,us[k]? = some u->cur[o+k]? = some u):Row w L objs cur o size xs:=by
 refine ⟨by rw [<-h.1];exact hs,fun i hi=>⟨(h.2 i hi).1,fun j hj=>?_⟩⟩
 obtain ⟨u,hu,h2⟩:=(h.2 i hi).2 j hj
 exact ⟨u,by have:=hc _ _ hu;rwa [<-Nat.add_assoc] at this,h2⟩
theorem Row.part {size o:Nat} {xs:List AV} {cur:Array Value} (h:Row w L objs cur o size xs) (a n:Nat) (han:a+n<=xs.length) :
 RL w L objs size ((xs.drop a).take n) ((cur.toList.drop (o+a*size)).take (n*size)):=by
 have h1:=h.1
 have h3:(a+n)*size<=xs.length*size:=Nat.mul_le_mul_right _ han
 rw [Nat.add_mul] at h3
 have hl:((xs.drop a).take n).length=n:=by simp;omega
 refine ⟨by rw [hl];simp;omega,fun i hi=>?_⟩
 have hi':i<n:=by omega
 have e:((xs.drop a).take n)[i]=xs[a+i]'(by omega):=by rw [List.getElem_take,List.getElem_drop]
 rw [e]
 refine ⟨(h.2 (a+i) (by omega)).1,fun j hj=>?_⟩
 obtain ⟨u,hu,h2⟩:=(h.2 (a+i) (by omega)).2 j hj
 refine ⟨u,?_,h2⟩
 have hjs:j<size:=by rw [<- (h.2 (a+i) (by omega)).1];exact hj
 have hlt:i*size+j<n*size:=mul_add_lt hi' hjs
 rw [List.getElem?_take,if_pos hlt,List.getElem?_drop]
 rw [Nat.add_mul] at hu
 rw [Array.getElem?_toList,show o+a*size+(i*size+j)=o+(a*size+i*size)+j from by omega]
 exact hu
theorem src_ok (g:Good F0 w0 w L objs) {x:AV} {v:Value} (h:VR w L objs x v) {s:Nat} {ys:List AV} (hs:srcOf objs s x=some ys) :
 ∃ ad cap,v = .slice ad ys.length cap/\(0<ys.length->∃ b o us,ad=some ⟨b,o,none⟩/\RL w L objs s ys us/\∀ j u,us[j]? = some u->w.cell? ⟨b,o+j,none⟩=some u):=by
 cases x with
 | list s' xs =>
  simp only [srcOf,Option.ite_none_right_eq_some,Option.some.injEq] at hs
  obtain ⟨rfl,rfl⟩:=hs
  have htr:=h.list_inv
  cases htr with
  | nolist _ ad cap hm=>exact ⟨ad,cap,rfl,fun h=>absurd h (by simp)⟩
  | list _ _ b o cap us hF hb hn hm hsz hc h1 hr =>
   refine ⟨_,cap,rfl,fun hpos=>?_⟩
   let f:Nat->Value:=fun k=>(w.cell? ⟨b,o+k,none⟩).getD undef
   have hs0:xs.length*s'=0 \/ 0<s':=by
    rcases Nat.eq_zero_or_pos s' with h | h
    ·exact .inl (by rw [h];rfl)
    ·exact .inr h
   have hf:∀ k,k<xs.length*s'->w.cell? ⟨b,o+k,none⟩=some (f k):=by
    intro k hk
    rcases hs0 with h0 | h0
    ·omega
    have h1:k / s'<xs.length:=(Nat.div_lt_iff_lt_mul h0).2 hk
    have h2:k % s'<s':=Nat.mod_lt _ h0
    have:=hc (k / s') (k % s') h1 h2
    rw [Nat.add_assoc,Nat.mul_comm,Nat.div_add_mod] at this
    simp [f,this]
   refine ⟨b,o,(List.range (xs.length*s')).map f,rfl,⟨by simp,fun i hi=>⟨hsz i hi,fun j hj=>?_⟩⟩,fun j u hu=>?_⟩
   ·have hj':j<s':=by rw [<-hsz i hi];exact hj
    have hlt:=mul_add_lt hi hj'
    refine ⟨us i j,?_,h1 i j hi hj',.tree (hr i hi j hj)⟩
    have e1:=hf _ hlt
    have e2:=hc i j hi hj'
    rw [<-Nat.add_assoc,e2] at e1
    rw [List.getElem?_map,List.getElem?_range hlt]
    simpa using e1.symm
   ·obtain ⟨hlt,rfl⟩:=List.getElem?_eq_some_iff.1 hu
    have hlt':j<xs.length*s':=by simpa using hlt
    simpa using hf j hlt'
 | own id gen off len =>
  simp only [srcOf] at hs
  split at hs
  ·rename_i g' s' e ys' ho
   simp only [Option.ite_none_right_eq_some,Option.some.injEq] at hs
   obtain ⟨⟨rfl,rfl,hle,hem⟩,rfl⟩:=hs
   have hl:live objs id g' s':=⟨_,_,ho⟩
   have hlen:((ys'.drop off).take len).length=len:=by simp;omega
   rw [hlen]
   rcases h.own_inv hl with ⟨rfl,ad,rfl⟩ | ⟨b,o,nn,cap,hbk,rfl,hc,hm,hr⟩
   ·exact ⟨ad,0,rfl,fun h=>absurd h (by omega)⟩
   ·refine ⟨_,cap,rfl,fun _=>?_⟩
    have hor:=g.obj _ _ ho
    unfold OR at hor
    rw [hbk] at hor
    obtain ⟨cur,hcur,hn,hrow⟩:=hor
    have hcur:=hcur.cells hem
    refine ⟨b,_,_,rfl,hrow.part off len hle,fun j u hu=>?_⟩
    rw [List.getElem?_take] at hu
    split at hu
    ·rw [List.getElem?_drop,Array.getElem?_toList] at hu
     simp only [World.cell?,hcur]
     simpa using hu
    ·cases hu
  ·cases hs
 | val u =>
  cases u with
  | slice a n c =>
   cases a with
   | none =>
    cases n with
    | zero=>simp [srcOf] at hs;subst hs;rw [h.val_inv];exact ⟨none,c,rfl,fun h=>absurd h (by simp)⟩
    | succ n=>simp [srcOf] at hs
   | some a=>simp [srcOf] at hs
  | _=>simp [srcOf] at hs
 | _=>simp [srcOf] at hs
def App0 (P:Program) (w:World) (t t' ty:TypeId) (xv:Value):Prop :=
 ∀ (base:Option Addr) (sLen sCap:Nat),sLen<=sCap->(Builtin.append_ #[t,t'] ty #[.slice base sLen sCap,xv]).run P w = .ok (.slice base sLen sCap) w
structure AppS (P:Program) (w:World) (t t' ty e:TypeId) (i:TypeInfo) (z:Value) (xv:Value) (m:Nat) (us:List Value):Prop where
 grow:∀ (base:Option Addr) (sLen sCap:Nat) (olds:List Value),olds.length=sLen*i.size->((sLen=0/\olds=[]) \/ ∃ b,base=some b/\∀ j v,olds[j]? = some v->w.cell? (b.add j)=some v)->sCap<sLen+m ->
  ((sLen+m:Nat):Int)<=9223372036854775807->Builtin.nextslicecap (sLen+m) sCap*i.bytes<=281474976710656 ->
  (Builtin.append_ #[t,t'] ty #[.slice base sLen sCap,xv]).run P w = .ok (.slice (some ⟨w.heap.size,0,none⟩) (sLen+m) (grownCap w (sLen+m) sCap e))
   (w.drew.alloc (.cells (olds.toArray++us.toArray++Builtin.zeroCells z.cells (grownCap w (sLen+m) sCap e-(sLen+m))) e))
 room:(∀ u ∈ us,u.oneCell'=true)->∀ (b o sLen sCap:Nat) (cur:Array Value),w.heap[b]? = some (.cells cur e (0,0))->sLen+m<=sCap->o+sLen*i.size+us.length<=cur.size ->
  (Builtin.append_ #[t,t'] ty #[.slice (some ⟨b,o,none⟩) sLen sCap,xv]).run P w =
   .ok (.slice (some ⟨b,o,none⟩) (sLen+m) sCap) (w.setRow b (cur.toList.take (o+sLen*i.size)++us++cur.toList.drop (o+sLen*i.size+us.length)).toArray)
theorem App0.ofSlice {t t' ty e e':TypeId} {size:Nat} (ht:P.underlying t=some (.slice e)) (ht':P.underlying t'=some (.slice e')) (hs:tsize P e=some size) (ad:Option Addr) (cap:Nat):App0 P w t t' ty (.slice ad 0 cap):=fun base sLen sCap hle=>by
 have hf:(Builtin.firstCells size 0 (.slice ad 0 cap)).run P w = .ok #[] w:=by
  cases ad <;> simp [Builtin.firstCells,loadCells,loadCellsFrom]
 cases base <;> simp [Builtin.append_,run_underlying ht,run_underlying ht',run_sizeOf hs,Builtin.lenOf,hle,hf,storeCells]
theorem olds_run {i:TypeInfo} {base:Option Addr} {sLen sCap:Nat} {olds:List Value} (hol:olds.length=sLen*i.size) (ho:(sLen=0/\olds=[]) \/ ∃ b,base=some b/\∀ j v,olds[j]? = some v->w.cell? (b.add j)=some v) :
 (Builtin.firstCells i.size sLen (.slice base sLen sCap)).run P w.drew = .ok olds.toArray w.drew:=by
 rcases ho with ⟨rfl,rfl⟩ | ⟨b,rfl,hb⟩
 ·cases base <;> simp [Builtin.firstCells,loadCells,loadCellsFrom]
 ·exact run_firstCells_some (P:=P) w.drew i.size sLen b sLen sCap olds hol (by simpa using hb)
theorem AppS.ofSlice {t t' ty e e':TypeId} {i:TypeInfo} {z:Value} (ht:P.underlying t=some (.slice e)) (ht':P.underlying t'=some (.slice e')) (hi:P.info? e=some i) (hz:i.zero=some z)
 (a:Addr) (m c:Nat) (us:List Value) (hl:us.length=m*i.size) (hnews:∀ j u,us[j]? = some u->w.cell? (a.add j)=some u) (h1:∀ u ∈ us,u.oneCell'=true):AppS P w t t' ty e i z (.slice (some a) m c) m us:=by
 refine ⟨fun base sLen sCap olds hol ho hg h63 hfit=>?_,fun h1 b o sLen sCap cur hcur hroom hfit=>?_⟩
 ·have:=run_append_grow_src (P:=P) w t t' ty e i z ht hi hz base sLen sCap olds (olds_run hol ho) (.slice (some a) m c) m us (Src.ofSlice w ht' a m c us hl hnews h1) hg h63 hfit
  rw [this]
  simp
 ·have hs:tsize P e=some i.size:=by simp [tsize,hi]
  have hf:=run_firstCells_some (P:=P) w i.size m a m c us hl hnews
  have hst:=run_storeCells_at P b (o+sLen*i.size) e us 0 cur w hcur (by simpa using hfit) h1
  simp only [Nat.add_zero] at hst
  simp [Builtin.append_,run_underlying ht,run_underlying ht',run_sizeOf hs,Builtin.lenOf,hroom,hf,run_addr0,hst]
theorem App0.ofZeros {t t' ty e:TypeId} {kn k:IntKind} {size:Nat} (ht:P.underlying t=some (.slice e)) (ht':P.underlying t'=some (.int kn)) {i:TypeInfo} (hi:P.info? e=some i):App0 P w t t' ty (.int k 0):=fun base sLen sCap hle=>by
 have hw:IntKind.i64.wrap 0=0:=by decide
 cases base <;> simp [Builtin.append_,run_underlying ht,run_underlying ht',Go.sizeOf,typeInfo,hi,asInt,asIntOf,hw,hle,storeCells]
theorem AppS.ofZeros {t t' ty e:TypeId} {kn k:IntKind} {i:TypeInfo} {z:Value} (ht:P.underlying t=some (.slice e)) (ht':P.underlying t'=some (.int kn)) (hi:P.info? e=some i) (hz:i.zero=some z) (hpos:0<i.size) (hzs:z.cells.size=i.size)
 (m:Nat) (hm:0<m) (h63:(m:Int)<=9223372036854775807) (h48:m*i.bytes<=281474976710656):AppS P w t t' ty e i z (.int k m) m (Builtin.zeroCells z.cells m).toList:=by
 refine ⟨fun base sLen sCap olds hol ho hg h63' hfit=>?_,fun h1 b o sLen sCap cur hcur hroom hfit=>?_⟩
 ·have:=Lib.run_append_grow_zeros (P:=P) w t t' ty e i z k kn ht ht' hi hz base sLen sCap olds (olds_run hol ho) m hm hpos hg h63' h48 hfit
  rw [this]
 ·have hk:m ≠ 0:=by omega
  have hw:IntKind.i64.wrap (m:Int)=m:=by rw [IntKind.wrap_i64];omega
  have h48i:¬ (281474976710656<(m:Int)*(i.bytes:Int)):=by
   rw [<-Int.natCast_mul]
   omega
  have hneg:¬ ((m:Int)<0):=by omega
  have hns:¬ (m*i.size=0):=Nat.mul_ne_zero hk (by omega)
  have hst:=run_storeCells_at P b (o+sLen*i.size) e (Builtin.zeroCells z.cells m).toList 0 cur w hcur (by simpa using hfit) h1
  simp only [Nat.add_zero] at hst
  simp [Builtin.append_,run_underlying ht,run_underlying ht',Go.sizeOf,typeInfo,zeroValue,hi,hz,asInt,asIntOf,hw,hneg,hns,h48i,hroom,run_addr0]
  simp at hst
  rw [hst]
  rfl
end Dak
namespace Dak
open Go Go.RowKit
variable [Globs]
variable {P : Program} {F0 : FD} {w0 w : World} {L : Lay} {objs objs0 : List AObj} {nid : Nat}
def appendY (objs:List AObj) (nid:Nat) (e:TypeId) (size bytes:Nat) (S:AV) (ys:List AV):Option (AV × List AObj) :=
 match S with
 | .val (.slice none 0 0)=>if ys.length*bytes<=140737488355328 then some (.own nid ys.length 0 ys.length,objs.set nid (.arr ys.length size e ys)) else none
 | .own id g off len =>
  match objs[id]? with
  | some (.arr g' s' e' xs) =>
   if g'=g/\s'=size/\e'=e/\off+len<=xs.length/\(off=0 \/ 0<ys.length)/\(len+ys.length)*bytes<=140737488355328 then
    some (.own id (g+ys.length) 0 (len+ys.length),objs.set id (.arr (g+ys.length) size e ((xs.drop off).take len++ys))) else none
  | _=>none
 | _=>none
def appendA (objs:List AObj) (nid:Nat) (e:TypeId) (size bytes:Nat) (S X:AV):Option (AV × List AObj):=(srcOf objs size X).bind (appendY objs nid e size bytes S)
theorem RL.one {size:Nat} {xs:List AV} {us:List Value} (h:RL w L objs size xs us):∀ u ∈ us,u.oneCell'=true:=by
 intro u hu
 obtain ⟨k,hk,rfl⟩:=List.getElem_of_mem hu
 have hl:=h.1
 have h0:0<size:=by
  rcases Nat.eq_zero_or_pos size with h0 | h0
  ·rw [h0] at hl;omega
  ·exact h0
 have h1:k / size<xs.length:=(Nat.div_lt_iff_lt_mul h0).2 (by omega)
 have h2:k % size<size:=Nat.mod_lt _ h0
 obtain ⟨u,hu,ho,_⟩:=(h.2 _ h1).2 (k % size) (by rw [(h.2 _ h1).1];exact h2)
 rw [Nat.mul_comm,Nat.div_add_mod,List.getElem?_eq_getElem hk] at hu
 simp at hu;rw [hu];exact ho
theorem good_trunc (g:Good F0 w0 w L objs) {id gen size:Nat} {elem:TypeId} {xs:List AV} (ho:objs[id]? = some (.arr gen size elem xs)) (m:Nat) :
 Good F0 w0 w L (objs.set id (.arr gen size elem (xs.take m)))/\Later w L objs w L (objs.set id (.arr gen size elem (xs.take m))):=by
 have hid:=(List.getElem?_eq_some_iff.1 ho).1
 have hl:Later w L objs w L (objs.set id (.arr gen size elem (xs.take m))):=by
  refine ⟨fun b hF hb=>⟨rfl,hF⟩,fun i g' hst=>?_,fun i g' s' h=>.inr ⟨?_,rfl⟩⟩
  ·by_cases e:id=i
   ·subst e
    rcases hst with h | ⟨g2,s2,e2,xs2,h,hlt⟩
    ·rw [ho] at h;cases h
    ·rw [ho] at h;simp only [Option.some.injEq,AObj.arr.injEq] at h
     obtain ⟨rfl,rfl,rfl,rfl⟩:=h
     exact .inr ⟨_,_,_,_,List.getElem?_set_self hid,hlt⟩
   ·unfold stale at hst ⊢;rwa [List.getElem?_set_ne e]
  ·by_cases e:id=i
   ·subst e
    obtain ⟨e',ys,h⟩:=h
    rw [ho] at h;simp only [Option.some.injEq,AObj.arr.injEq] at h
    obtain ⟨rfl,rfl,rfl,rfl⟩:=h
    exact ⟨_,_,List.getElem?_set_self hid⟩
   ·unfold live at h ⊢;rwa [List.getElem?_set_ne e]
 refine ⟨⟨fun i o hi=>?_,fun i hi=>g.out i (by rw [List.length_set] at hi;exact hi),g.inj,g.own,g.old,g.ext,g.gl⟩,hl⟩
 by_cases e:i=id
 ·subst e
  rw [List.getElem?_set_self hid] at hi
  simp only [Option.some.injEq] at hi;subst hi
  have:=g.obj _ _ ho
  unfold OR at this ⊢
  cases hb:L.blk i with
  | none=>rw [hb] at this;simp only at this ⊢;subst this;simp
  | some q =>
   obtain ⟨b,o,n⟩:=q
   rw [hb] at this
   obtain ⟨cur,hcur,hn,hr1,hr2⟩:=this
   refine ⟨cur,hcur,hn,?_,fun k hk=>?_⟩
   ·have h1:(xs.take m).length<=xs.length:=by rw [List.length_take];omega
    have h2:=Nat.mul_le_mul_right size h1
    omega
   ·have hk':k<xs.length:=by rw [List.length_take] at hk;omega
    simp only [List.getElem_take]
    exact ⟨(hr2 k hk').1,fun j hj=>let ⟨u,h1,h2,h3⟩:=(hr2 k hk').2 j hj;⟨u,h1,h2,h3.stay hl⟩⟩
 ·rw [List.getElem?_set_ne (Ne.symm e)] at hi
  have:=g.obj i o hi
  cases o with
  | void=>exact this
  | dead=>exact this
  | probe k st li bk ps=>exact this.probe_stay hl rfl
  | arr _ _ _ zs =>
   unfold OR at this ⊢
   cases hbk:L.blk i with
   | none=>rw [hbk] at this;exact this
   | some q =>
    obtain ⟨b,o',n⟩:=q
    rw [hbk] at this
    obtain ⟨cur,hc,hn,hr⟩:=this
    exact ⟨cur,hc,hn,hr.stay hl⟩
theorem appendY_ok (g:Good F0 w0 w L objs) {t t' e ty:TypeId} (hem:e<mapT) {z:Value} {i:TypeInfo} {size bytes:Nat} {S r:AV} {sv xv:Value} {objs':List AObj} {ys:List AV}
 (ht:P.underlying t=some (.slice e)) (hi1:P.info? e=some i) (hz:i.zero=some z) (hsz:i.size=size) (hbz:i.bytes=bytes) (hzs:z.cells.size=size) (hpos:0<size) (hby:0<bytes)
 (hS:VR w L objs S sv) (hsrc0:ys.length=0->App0 P w t t' ty xv) (hsrc:0<ys.length->∃ us,RL w L objs size ys us/\AppS P w t t' ty e i z xv ys.length us)
 (hv:S = .val (.slice none 0 0)->objs[nid]? = some .void) (h:appendY objs nid e size bytes S ys=some (r,objs')) :
 ∃ v w' L',(Builtin.append_ #[t,t'] ty #[sv,xv]).run P w = .ok v w'/\Good F0 w0 w' L' objs'/\Later w L objs w' L' objs'/\VR w' L' objs' r v:=by
 have hs:tsize P e=some size:=by simp [tsize,hi1,hsz]
 simp only [appendY] at h
 cases S with
 | val sv' =>
  split at h
  ·rename_i h'
   simp only [AV.val.injEq] at h';subst h'
   simp only [Option.ite_none_right_eq_some,Option.some.injEq,Prod.mk.injEq] at h
   obtain ⟨hb,rfl,rfl⟩:=h
   have hvd:=hv rfl
   have hid:=(List.getElem?_eq_some_iff.1 hvd).1
   rw [hS.val_inv]
   by_cases hm:ys.length=0
   ·obtain rfl:=List.eq_nil_of_length_eq_zero hm
    have hrun:=hsrc0 rfl none 0 0 (Nat.le_refl _)
    have hl:Later w L objs w L (objs.set nid (.arr 0 size e [])):=by
     refine ⟨fun b hF hb=>⟨rfl,hF⟩,stale_set hvd,fun i g' s' hl=>.inr ⟨?_,rfl⟩⟩
     have hne:nid ≠ i:=by rintro rfl;obtain ⟨e',xs,h⟩:=hl;rw [hvd] at h;simp at h
     unfold live at hl ⊢
     rwa [List.getElem?_set_ne hne]
    refine ⟨.slice none 0 0,w,L,hrun,⟨fun j o ho=>?_,fun j hj=>g.out j (by simpa using hj),g.inj,g.own,g.old,g.ext,g.gl⟩,hl,.ownN _ _ _ _ size (live_self hid)⟩
    by_cases ej:j=nid
    ·subst ej
     simp only [List.length_nil,List.getElem?_set_self hid,Option.some.injEq] at ho
     subst ho
     have:=g.obj _ _ hvd
     unfold OR at this ⊢
     rw [this]
    ·rw [List.getElem?_set_ne (Ne.symm ej)] at ho
     have:=g.obj j o ho
     cases o with
     | void=>exact this
     | dead=>exact this
     | probe k st li bk ps=>exact this.probe_stay hl rfl
     | arr _ _ _ xs =>
      unfold OR at this ⊢
      cases hbk:L.blk j with
      | none=>rw [hbk] at this;exact this
      | some q =>
       obtain ⟨b,o',n⟩:=q
       rw [hbk] at this
       obtain ⟨cur,hc,hn,hr⟩:=this
       exact ⟨cur,hc,hn,hr.stay hl⟩
   ·obtain ⟨us,hrl,happ⟩:=hsrc (by omega)
    have hm2:ys.length<=maxLen:=by have:=Nat.le_mul_of_pos_right ys.length hby;unfold maxLen;omega
    have hrun:=happ.grow none 0 0 [] (by simp) (.inl ⟨rfl,rfl⟩) (by omega) (by unfold maxLen at hm2;omega) (by rw [Nat.zero_add,nextslicecap_zero (by omega),hbz];omega)
    simp only [Nat.zero_add,Array.empty_append] at hrun
    have hgc:=grownCap_ge w ys.length 0 e
    have hgm:=grownCap_le_maxLen w ys.length 0 e hm2
    generalize grownCap w ys.length 0 e=gc at *
    have hd:=Ext.drewN w 1
    have gd:=g.ext' hd
    have hcs:(us.toArray++Builtin.zeroCells z.cells (gc-ys.length)).size=gc*size:=by
     rw [Array.size_append,size_zeroCells,hzs];simp only [List.size_toArray,hrl.1,<-Nat.add_mul];congr 1;omega
    have hrl':RL w.drew L objs size ys us:=⟨hrl.1,fun i hi=>⟨(hrl.2 i hi).1,fun j hj=>let ⟨u,h1,h2,h3⟩:=(hrl.2 i hi).2 j hj;⟨u,h1,h2,h3.stay (.ext _ _ hd)⟩⟩⟩
    have hrow:Row w.drew L objs (us.toArray++Builtin.zeroCells z.cells (gc-ys.length)) 0 size ys:=by
     refine hrl'.row (by rw [hcs,hrl.1];have:=Nat.mul_le_mul_right size hgc;omega) fun k u hu=>?_
     have hk:=(List.getElem?_eq_some_iff.1 hu).1
     rw [Nat.zero_add,Array.getElem?_append_left (by simpa using hk)]
     simpa using hu
    refine ⟨_,_,_,hrun,gd.new (gen:=ys.length) (elem:=e) hvd _ hem hrow,(Later.ext L objs hd).trans (.new hvd _ _),?_⟩
    have:=VR.ownL (w:=w.drew.alloc (.cells (us.toArray++Builtin.zeroCells z.cells (gc-ys.length)) e)) (L:=L.put nid (some (w.drew.heap.size,0,(us.toArray++Builtin.zeroCells z.cells (gc-ys.length)).size)))
     (objs:=objs.set nid (.arr ys.length size e ys)) nid ys.length 0 ys.length gc size w.heap.size 0 (us.toArray++Builtin.zeroCells z.cells (gc-ys.length)).size
     (live_self hid) (by simp [Lay.put]) hgc hgm (by rw [hcs];simp)
    simpa using this
  ·simp_all
  ·simp at h
 | own id gen off len =>
  simp only at h
  split at h
  rotate_left
  ·cases h
  rename_i g' s' e' xs ho
  simp only [Option.ite_none_right_eq_some,Option.some.injEq,Prod.mk.injEq] at h
  obtain ⟨⟨rfl,rfl,rfl,hle,hwhole,hb⟩,rfl,rfl⟩:=h
  have hl:live objs id g' s':=⟨_,_,ho⟩
  have hid:=(List.getElem?_eq_some_iff.1 ho).1
  have hm2:len+ys.length<=maxLen:=by have:=Nat.le_mul_of_pos_right (len+ys.length) hby;unfold maxLen;omega
  have hor:=g.obj _ _ ho
  by_cases hm:ys.length=0
  ·obtain rfl:=List.eq_nil_of_length_eq_zero hm
   obtain rfl:off=0:=hwhole.resolve_right (by simp)
   simp only [List.length_nil,Nat.add_zero,List.drop_zero,List.append_nil]
   obtain ⟨gt,lt⟩:=good_trunc g ho len
   have hS':=hS.stay lt
   rcases hS.own_inv hl with ⟨h0,ad',rfl⟩ | ⟨b,o,nn,cap,hbk,rfl,hc,hm',hr⟩
   ·rw [h0] at hS' lt gt ⊢
    exact ⟨_,w,L,hsrc0 rfl ad' 0 0 (Nat.le_refl _),gt,lt,hS'⟩
   ·exact ⟨_,w,L,hsrc0 rfl _ _ cap hc,gt,lt,hS'⟩
  ·obtain ⟨us,hrl,happ⟩:=hsrc (by omega)
   have hlenxs:((xs.drop off).take len).length=len:=by simp;omega
   have grow:∀ (olds:List Value) (base:Option Addr) (cap:Nat),RL w L objs s' ((xs.drop off).take len) olds->cap<len+ys.length ->
    (Builtin.append_ #[t,t'] ty #[.slice base len cap,xv]).run P w =
     .ok (.slice (some ⟨w.heap.size,0,none⟩) (len+ys.length) (grownCap w (len+ys.length) cap e'))
      (w.drew.alloc (.cells (olds.toArray++us.toArray++Builtin.zeroCells z.cells (grownCap w (len+ys.length) cap e'-(len+ys.length))) e')) ->
    ∃ v w' L',(Builtin.append_ #[t,t'] ty #[.slice base len cap,xv]).run P w = .ok v w' /\
     Good F0 w0 w' L' (objs.set id (.arr (g'+ys.length) s' e' ((xs.drop off).take len++ys)))/\Later w L objs w' L' (objs.set id (.arr (g'+ys.length) s' e' ((xs.drop off).take len++ys))) /\
     VR w' L' (objs.set id (.arr (g'+ys.length) s' e' ((xs.drop off).take len++ys))) (.own id (g'+ys.length) 0 (len+ys.length)) v:=by
    intro olds base cap hol hcap hrun
    have hgc:=grownCap_ge w (len+ys.length) cap e'
    have hgm:=grownCap_le_maxLen w (len+ys.length) cap e' hm2
    generalize grownCap w (len+ys.length) cap e'=gc at *
    have hboth:=hol.app hrl
    have hul:olds.length+us.length=(len+ys.length)*s':=by rw [hol.1,hrl.1,hlenxs,Nat.add_mul]
    have hcs:(olds.toArray++us.toArray++Builtin.zeroCells z.cells (gc-(len+ys.length))).size=gc*s':=by
     rw [Array.size_append,size_zeroCells,hzs];simp only [Array.size_append,List.size_toArray,hul,<-Nat.add_mul];congr 1;omega
    have hrow:Row w L objs (olds.toArray++us.toArray++Builtin.zeroCells z.cells (gc-(len+ys.length))) 0 s' ((xs.drop off).take len++ys):=by
     refine hboth.row (by rw [hcs,List.length_append,hul];have:=Nat.mul_le_mul_right s' hgc;omega) fun k u hu=>?_
     have hk:=(List.getElem?_eq_some_iff.1 hu).1
     rw [Nat.zero_add,Array.getElem?_append_left (by simpa using hk),show olds.toArray++us.toArray=(olds++us).toArray from by simp]
     simpa using hu
    have hset:=g.set (w':=w.drew.alloc (.cells (olds.toArray++us.toArray++Builtin.zeroCells z.cells (gc-(len+ys.length))) e')) (gen':=g'+ys.length) ho w.heap.size 0 _
     ⟨rfl,rfl,rfl,by simp⟩ (fun k hk _=>heap_alloc_old w.drew _ hk) (.inr (Nat.le_refl _)) (.of hem (heap_alloc_new w.drew _)) hrow (.inl (by omega))
    refine ⟨_,_,_,hrun,hset.2,hset.1,?_⟩
    have:=VR.ownL (w:=w.drew.alloc (.cells (olds.toArray++us.toArray++Builtin.zeroCells z.cells (gc-(len+ys.length))) e'))
     (L:=L.put id (some (w.heap.size,0,(olds.toArray++us.toArray++Builtin.zeroCells z.cells (gc-(len+ys.length))).size))) (objs:=objs.set id (.arr (g'+ys.length) s' e' ((xs.drop off).take len++ys)))
     id (g'+ys.length) 0 (len+ys.length) gc s' w.heap.size 0 (olds.toArray++us.toArray++Builtin.zeroCells z.cells (gc-(len+ys.length))).size (live_self hid) (by simp [Lay.put]) hgc hgm (by rw [hcs];simp)
    simpa using this
   have hfits:∀ cap,cap<len+ys.length->Builtin.nextslicecap (len+ys.length) cap*i.bytes<=281474976710656:=fun cap hc=>growslice_fits hc (by rw [hbz];exact hb)
   rcases hS.own_inv hl with ⟨rfl,ad',rfl⟩ | ⟨b,o,nn,cap,hbk,rfl,hc,hm',hr⟩
   ·have hnil:RL w L objs s' ((xs.drop off).take 0) []:=⟨by simp,fun i hi=>absurd hi (by simp)⟩
    exact grow [] ad' 0 hnil (by omega) (happ.grow ad' 0 0 [] (by simp) (.inl ⟨rfl,rfl⟩) (by omega) (by unfold maxLen at hm2;omega) (hfits 0 (by omega)))
   ·unfold OR at hor
    rw [hbk] at hor
    obtain ⟨cur,hcur,hn,hrow⟩:=hor
    have hcur:=hcur.cells hem
    have hold:=hrow.part off len hle
    by_cases hroom:len+ys.length<=cap
    ·have h3:(off+(len+ys.length))*s'<=(off+cap)*s':=Nat.mul_le_mul_right _ (by omega)
     simp only [Nat.add_mul] at h3 hr
     have hfit:o+off*s'+len*s'+us.length<=cur.size:=by rw [hrl.1];omega
     have hrun:=happ.room hrl.one b (o+off*s') len cap cur hcur hroom (by rw [hsz];exact hfit)
     rw [hsz] at hrun
     have hnc:(cur.toList.take (o+off*s'+len*s')++us++cur.toList.drop (o+off*s'+len*s'+us.length)).length=cur.size:=by
      simp only [List.length_append,List.length_take,List.length_drop,Array.length_toList];omega
     have hrow':Row w L objs (cur.toList.take (o+off*s'+len*s')++us++cur.toList.drop (o+off*s'+len*s'+us.length)).toArray (o+off*s') s' ((xs.drop off).take len++ys):=by
      refine (hold.app hrl).row ?_ fun k u hu=>?_
      ·simp only [List.size_toArray,hnc,List.length_append,hold.1,hlenxs];omega
      ·simp only [List.getElem?_toArray]
       have hk:=(List.getElem?_eq_some_iff.1 hu).1
       have hol:((cur.toList.drop (o+off*s')).take (len*s')).length=len*s':=by rw [hold.1,hlenxs]
       by_cases h1:k<len*s'
       ·rw [List.getElem?_append_left (by rw [hol];exact h1),List.getElem?_take,if_pos h1,List.getElem?_drop] at hu
        rw [List.append_assoc,List.getElem?_append_left (by simp;omega),List.getElem?_take,if_pos (by omega)]
        exact hu
       ·rw [List.getElem?_append_right (by rw [hol];omega),hol] at hu
        have h2:=(List.getElem?_eq_some_iff.1 hu).1
        rw [List.getElem?_append_left (by simp;omega),List.getElem?_append_right (by simp;omega)]
        rw [List.length_take,Nat.min_eq_left (by simp;omega),show o+off*s'+k-(o+off*s'+len*s')=k-len*s' from by omega]
        exact hu
     have hset:=g.set (w':=w.setRow b (cur.toList.take (o+off*s'+len*s')++us++cur.toList.drop (o+off*s'+len*s'+us.length)).toArray) (gen':=g'+ys.length) ho b (o+off*s') _
      ⟨rfl,rfl,rfl,by simp⟩ (fun k hk hne=>setRow_other w b k _ (fun e=>hne _ _ (e ▸ hbk))) (.inl ⟨_,_,hbk⟩) (.of hem (setRow_heap w b cur _ e' (0,0) hcur)) hrow' (.inl (by omega))
     refine ⟨_,_,_,hrun,hset.2,hset.1,?_⟩
     have:=VR.ownL (w:=w.setRow b (cur.toList.take (o+off*s'+len*s')++us++cur.toList.drop (o+off*s'+len*s'+us.length)).toArray)
      (L:=L.put id (some (b,o+off*s',(cur.toList.take (o+off*s'+len*s')++us++cur.toList.drop (o+off*s'+len*s'+us.length)).toArray.size)))
      (objs:=objs.set id (.arr (g'+ys.length) s' e' ((xs.drop off).take len++ys))) id (g'+ys.length) 0 (len+ys.length) cap s' b (o+off*s') (cur.toList.take (o+off*s'+len*s')++us++cur.toList.drop (o+off*s'+len*s'+us.length)).toArray.size (live_self hid) (by simp only [Lay.put,if_true]) hroom hm'
      (by rw [List.size_toArray,hnc,hn];rw [Nat.zero_add];omega)
     simpa using this
    ·have hrun:=happ.grow (some ⟨b,o+off*s',none⟩) len cap ((cur.toList.drop (o+off*s')).take (len*s')) (by rw [hold.1,hlenxs,hsz]) (.inr ⟨_,rfl,fun j u hu=>by
      rw [List.getElem?_take] at hu
      split at hu
      ·rw [List.getElem?_drop,Array.getElem?_toList] at hu
       rw [run_addr0];simp only [World.cell?,hcur];simpa using hu
      ·cases hu⟩) (by omega) (by unfold maxLen at hm2;omega) (hfits cap (by omega))
     exact grow _ _ cap hold (by omega) hrun
 | _=>simp at h
theorem append_ok (g:Good F0 w0 w L objs) {t t' e e' ty:TypeId} (hem:e<mapT) {z:Value} {size bytes:Nat} {S X r:AV} {sv xv:Value} {objs':List AObj}
 (ht:P.underlying t=some (.slice e)) (ht':P.underlying t'=some (.slice e')) (hi:(P.info? e).map (fun i=>(i.zero,i.size,i.bytes))=some (some z,size,bytes)) (hzs:z.cells.size=size) (hpos:0<size) (hby:0<bytes)
 (hS:VR w L objs S sv) (hX:VR w L objs X xv) (hv:S = .val (.slice none 0 0)->objs[nid]? = some .void) (h:appendA objs nid e size bytes S X=some (r,objs')) :
 ∃ v w' L',(Builtin.append_ #[t,t'] ty #[sv,xv]).run P w = .ok v w'/\Good F0 w0 w' L' objs'/\Later w L objs w' L' objs'/\VR w' L' objs' r v:=by
 obtain ⟨i,hi1,hi2⟩:=Option.map_eq_some_iff.1 hi
 simp only [Prod.mk.injEq] at hi2
 obtain ⟨hz,hsz,hbz⟩:=hi2
 simp only [appendA,Option.bind_eq_some_iff] at h
 obtain ⟨ys,hys,h⟩:=h
 obtain ⟨ad,xcap,rfl,hsrc⟩:=src_ok g hX hys
 refine appendY_ok g hem ht hi1 hz hsz hbz hzs hpos hby hS (fun h0=>?_) (fun hp=>?_) hv h
 ·rw [h0];exact App0.ofSlice (size:=size) ht ht' (by simp [tsize,hi1,hsz]) ad xcap
 ·obtain ⟨b,o,us,rfl,hrl,hcell⟩:=hsrc hp
  exact ⟨us,hrl,AppS.ofSlice ht ht' hi1 hz ⟨b,o,none⟩ ys.length xcap us (by rw [hsz];exact hrl.1) (fun j u hu=>by rw [run_addr0];exact hcell j u hu) hrl.one⟩
def appendZA (objs:List AObj) (nid:Nat) (e:TypeId) (size bytes:Nat) (z:AV) (S X:AV):Option (AV × List AObj) :=
 (asI X).bind fun q=>if 0<=q.2/\q.2<=140737488355328 then appendY objs nid e size bytes S (List.replicate q.2.toNat z) else none
theorem appendZ_ok (g:Good F0 w0 w L objs) {t t' e ty:TypeId} (hem:e<mapT) {kn:IntKind} {z:Value} {size bytes:Nat} {S X r:AV} {sv xv:Value} {objs':List AObj}
 (ht:P.underlying t=some (.slice e)) (ht':P.underlying t'=some (.int kn)) (hi:(P.info? e).map (fun i=>(i.zero,i.size,i.bytes))=some (some z,size,bytes)) (hzs:z.cells.size=size) (hf:(ofV z).fits=true) (hzl:(ofV z).cells.length=size) (hpos:0<size) (hby:0<bytes)
 (hS:VR w L objs S sv) (hX:VR w L objs X xv) (hv:S = .val (.slice none 0 0)->objs[nid]? = some .void) (h:appendZA objs nid e size bytes (ofV z) S X=some (r,objs')) :
 ∃ v w' L',(Builtin.append_ #[t,t'] ty #[sv,xv]).run P w = .ok v w'/\Good F0 w0 w' L' objs'/\Later w L objs w' L' objs'/\VR w' L' objs' r v:=by
 obtain ⟨i,hi1,hi2⟩:=Option.map_eq_some_iff.1 hi
 simp only [Prod.mk.injEq] at hi2
 obtain ⟨hz,hsz,hbz⟩:=hi2
 simp only [appendZA,Option.bind_eq_some_iff,Option.ite_none_right_eq_some] at h
 obtain ⟨⟨k,n⟩,hq,⟨h0,hm⟩,h⟩:=h
 simp only at h0 hm h
 rw [asI_ok hX hq]
 obtain ⟨m,rfl⟩:∃ m:Nat,n=m:=⟨n.toNat,by omega⟩
 have hcr:=fits_CR (ofV_ok (w:=w) (L:=L) (objs:=objs) z) hf (known_ofV z)
 refine appendY_ok g hem ht hi1 hz hsz hbz hzs hpos hby hS (fun h0=>?_) (fun hp=>?_) hv h
 ·have:m=0:=by simpa using h0
  subst this
  exact App0.ofZeros (size:=size) ht ht' hi1
 ·have hp':0<m:=by simpa using hp
  have hbound:m*bytes<=281474976710656:=by
   have hlen:(List.replicate (m:Int).toNat (ofV z)).length=m:=by simp
   unfold appendY at h
   split at h
   ·simp only [Option.ite_none_right_eq_some] at h
    have:=h.1;rw [hlen] at this;omega
   ·split at h
    ·simp only [Option.ite_none_right_eq_some] at h
     have:=h.1.2.2.2.2.2;rw [hlen,Nat.add_mul] at this;omega
    ·cases h
   ·cases h
  have hAS:=AppS.ofZeros (P:=P) (w:=w) (ty:=ty) (k:=k) ht ht' hi1 hz (by rw [hsz];exact hpos) (by rw [hsz];exact hzs) m hp' (by omega) (by rw [hbz];exact hbound)
  refine ⟨(Builtin.zeroCells z.cells m).toList,⟨by simp [size_zeroCells,hzs],fun a ha=>?_⟩,by simpa using hAS⟩
  rw [List.getElem_replicate]
  refine ⟨hzl,fun j hj=>?_⟩
  obtain ⟨u,hu,ho,hvr⟩:=hcr.2 j _ (List.getElem?_eq_getElem hj)
  refine ⟨u,?_,ho,hvr⟩
  have hal:a<m:=by simpa using ha
  have h1:a*size+size<=m*size:=by
   have:=Nat.mul_le_mul_right size (show a+1<=m by omega)
   rw [Nat.add_mul,Nat.one_mul] at this;exact this
  have h2:(a*size+j) % z.cells.size=j:=by
   rw [hzs,Nat.mul_comm,Nat.mul_add_mod,Nat.mod_eq_of_lt (by omega)]
  have hlt:j<z.cells.size:=by omega
  simp only [Builtin.zeroCells,Array.getElem?_toList]
  rw [Array.getElem?_map,Array.getElem?_eq_getElem (by simp [hzs];omega)]
  simp only [Array.getElem_range,Option.map_some,h2]
  rw [getElem!_pos z.cells j hlt]
  rw [Array.getElem?_eq_getElem hlt] at hu
  exact hu
theorem good_place (g:Good F0 w0 w L objs) (hvd:objs[nid]? = some .void) (size:Nat) (e:TypeId):Good F0 w0 w L (objs.set nid (.arr 0 size e []))/\Later w L objs w L (objs.set nid (.arr 0 size e [])):=by
 have hid:=(List.getElem?_eq_some_iff.1 hvd).1
 have hl:Later w L objs w L (objs.set nid (.arr 0 size e [])):=by
  refine ⟨fun b hF hb=>⟨rfl,hF⟩,stale_set hvd,fun i g' s' hl=>.inr ⟨?_,rfl⟩⟩
  have hne:nid ≠ i:=by rintro rfl;obtain ⟨e',xs,h⟩:=hl;rw [hvd] at h;simp at h
  unfold live at hl ⊢
  rwa [List.getElem?_set_ne hne]
 refine ⟨⟨fun j o ho=>?_,fun j hj=>g.out j (by simpa using hj),g.inj,g.own,g.old,g.ext,g.gl⟩,hl⟩
 by_cases ej:j=nid
 ·subst ej
  simp only [List.getElem?_set_self hid,Option.some.injEq] at ho
  subst ho
  have:=g.obj _ _ hvd
  unfold OR at this ⊢
  rw [this]
 ·rw [List.getElem?_set_ne (Ne.symm ej)] at ho
  have:=g.obj j o ho
  cases o with
  | void=>exact this
  | dead=>exact this
  | probe k st li bk ps=>exact this.probe_stay hl rfl
  | arr _ _ _ xs =>
   unfold OR at this ⊢
   cases hbk:L.blk j with
   | none=>rw [hbk] at this;exact this
   | some q =>
    obtain ⟨b,o',n⟩:=q
    rw [hbk] at this
    obtain ⟨cur,hc,hn,hr⟩:=this
    exact ⟨cur,hc,hn,hr.stay hl⟩
theorem srcOf_sub (hsub:Sub objs0 objs) {s:Nat} {x:AV} {ys:List AV} (h:srcOf objs0 s x=some ys):srcOf objs s x=some ys:=by
 cases x with
 | own id g off len =>
  simp only [srcOf] at h ⊢
  split at h
  ·rename_i ho;rw [hsub _ _ _ _ _ ho];exact h
  ·cases h
 | val v =>
  cases v with
  | slice a n c =>
   cases a with
   | none=>cases n <;> exact h
   | some a=>exact h
  | _=>exact h
 | _=>exact h
theorem appE_ok (g:Good F0 w0 w L objs) (hsub:Sub objs0 objs) {t t' e e' ty:TypeId} (hem:e<mapT) {z:Value} {size bytes:Nat} {ev:Operand->AV} {s x:Operand} {r:AV} {sv xv:Value} {no:Option AObj}
 (ht:P.underlying t=some (.slice e)) (ht':P.underlying t'=some (.slice e')) (hi:(P.info? e).map (fun i=>(i.zero,i.size,i.bytes))=some (some z,size,bytes)) (hzs:z.cells.size=size) (hpos:0<size) (hby:0<bytes)
 (hS:VR w L objs (ev s) sv) (hX:VR w L objs (ev x) xv) (hno:no.isSome->objs[nid]? = some .void)
 (h:qop objs0 ev nid (.appE e size bytes s x)=some (r,no)) :
 Does P (do pure (.value (<-Builtin.append_ #[t,t'] ty #[sv,xv]))) F0 w0 w L objs nid r no:=by
 simp only [qop] at h
 generalize ev x=X at *
 generalize ev s=S at *
 cases S with
 | emp =>
  obtain ⟨ad,rfl⟩:=hS.emp_inv
  simp only [Option.bind_eq_some_iff,Option.ite_none_right_eq_some,Option.some.injEq,Prod.mk.injEq] at h
  obtain ⟨ys,hys,hb,rfl,rfl⟩:=h
  have hvd:=hno rfl
  have hid:=(List.getElem?_eq_some_iff.1 hvd).1
  obtain ⟨g1,hl1⟩:=good_place g hvd size e
  have ho1:(objs.set nid (.arr 0 size e []))[nid]? = some (.arr 0 size e []):=List.getElem?_set_self hid
  have hsub1:Sub objs0 (objs.set nid (.arr 0 size e [])):=by
   intro id' g' s' e' xs' h'
   have h2:=hsub _ _ _ _ _ h'
   have hne:nid ≠ id':=by rintro rfl;rw [hvd] at h2;simp at h2
   rw [List.getElem?_set_ne hne];exact h2
  have hys1:=srcOf_sub hsub1 hys
  have happ:appendA (objs.set nid (.arr 0 size e [])) nid e size bytes (.own nid 0 0 0) X=some (.own nid (0+ys.length) 0 (0+ys.length),(objs.set nid (.arr 0 size e [])).set nid (.arr (0+ys.length) size e ((([]:List AV).drop 0).take 0++ys))):=by
   simp only [appendA,hys1,Option.bind_some,appendY,ho1]
   simp [hb]
  obtain ⟨v,w',L',hr,hg,hl,hvr⟩:=append_ok (P:=P) (ty:=ty) (nid:=nid) (sv:=.slice ad 0 0) g1 hem ht ht' hi hzs hpos hby (.ownN _ _ _ _ size (live_self hid)) (hX.stay hl1) (fun h=>by simp at h) happ
  have eo:(objs.set nid (.arr 0 size e [])).set nid (.arr (0+ys.length) size e ((([]:List AV).drop 0).take 0++ys))=putO objs nid (some (.arr ys.length size e ys)):=by simp [putO]
  rw [eo] at hg hl hvr
  rw [Nat.zero_add] at hvr
  exact ⟨v,w',L',by simp [hr],hg,hl1.trans hl,hvr⟩
 | _=>simp at h
def recell (y:AV) (cs:List AV):AV :=
 match y with
 | .agg _=>.agg cs
 | _=>match cs with
  | [c]=>c
  | _=>.agg cs
def storeA (objs:List AObj) (n:Nat) (A V:AV):Option (List AObj) :=
 match A with
 | .ref id g el c =>
  match objs[id]? with
  | some (.arr g' s e xs) =>
   if g'=g/\V.fits=true/\V.cells.length=n/\e<mapT then
    (xs[el]?).bind fun y=>if c+n<=y.cells.length then some (objs.set id (.arr g s e (xs.set el (recell y (upd y.cells c V.cells))))) else none
   else none
  | _=>none
 | _=>none
theorem upd_one (cs xs:List AV) (off:Nat) (h:off+xs.length<=cs.length) (h1:∀ c ∈ cs,∀ ds,c ≠ .agg ds) (h2:∀ c ∈ xs,∀ ds,c ≠ .agg ds):∀ c ∈ upd cs off xs,∀ ds,c ≠ .agg ds:=by
 intro c hc
 obtain ⟨k,hk,rfl⟩:=List.getElem_of_mem hc
 have:=upd_get cs xs off k h
 rw [List.getElem?_eq_getElem hk] at this
 split at this
 ·exact h2 _ (List.mem_of_getElem? this.symm)
 ·exact h1 _ (List.mem_of_getElem? this.symm)
theorem recell_cells (y:AV) (cs:List AV) (h:∀ c ∈ cs,∀ ds,c ≠ .agg ds):(recell y cs).cells=cs:=by
 unfold recell
 split
 ·rfl
 ·split
  ·rename_i c
   have:=h c (by simp)
   cases c <;> first | rfl | exact absurd rfl (this _)
  ·rfl
theorem one_not_agg {x:AV} {v:Value} (h:VR w L objs x v) (h1:v.oneCell'=true):∀ ds,x ≠ .agg ds:=by
 rintro ds rfl
 obtain ⟨vs,rfl,_⟩:=h.agg_inv
 cases h1
theorem store_ok (g:Good F0 w0 w L objs) {t:TypeId} {n:Nat} {A V:AV} {av vv:Value} {objs':List AObj} (hs:tsize P t=some n) (hA:VR w L objs A av) (hV:VR w L objs V vv) (hk:Known objs V)
 (h:storeA objs n A V=some objs') :
 ∃ w' L',(Instr.storeAt t av vv).run P w = .ok () w'/\Good F0 w0 w' L' objs'/\Later w L objs w' L' objs':=by
 cases A with
 | ref id gen el c =>
  simp only [storeA] at h
  split at h
  rotate_left
  ·cases h
  rename_i g' s e xs ho
  simp only [Option.ite_none_right_eq_some,Option.bind_eq_some_iff,Option.some.injEq] at h
  obtain ⟨⟨rfl,hf,hn,hem⟩,y,hy,hcn,rfl⟩:=h
  obtain ⟨hel,rfl⟩:=List.getElem?_eq_some_iff.1 hy
  have hl:live objs id g' s:=⟨_,_,ho⟩
  obtain ⟨b,o,nn,hbk,rfl⟩:=hA.ref_inv hl
  have hor:=g.obj _ _ ho
  unfold OR at hor
  rw [hbk] at hor
  obtain ⟨cur,hcur,hnn,hrow⟩:=hor
  have hcur:=hcur.cells hem
  have hcr:=fits_CR hV hf hk
  have hys:=(hrow.2 el hel).1
  have hel2:el*s+s<=xs.length*s:=by
   have:=Nat.mul_le_mul_right s (show el+1<=xs.length from hel);rw [Nat.add_mul,Nat.one_mul] at this;exact this
  have hvl:vv.cells.toList.length=n:=by have:=hcr.1;simp;omega
  have hone:∀ v ∈ vv.cells.toList,v.oneCell'=true:=by
   intro v hv
   obtain ⟨k,hk,rfl⟩:=List.getElem_of_mem hv
   have hk':k<V.cells.length:=by rw [<-hcr.1];simpa using hk
   obtain ⟨u,hu,h1,_⟩:=hcr.2 k _ (List.getElem?_eq_getElem hk')
   obtain ⟨_,rfl⟩:=Array.getElem?_eq_some_iff.1 hu
   simpa using h1
  have hr1:=hrow.1
  have hst:=run_storeCells_at P b (o+el*s+c) e vv.cells.toList 0 cur w hcur (by omega) hone
  simp only [Nat.add_zero] at hst
  have hnc:(cur.toList.take (o+el*s+c)++vv.cells.toList++cur.toList.drop (o+el*s+c+vv.cells.toList.length)).length=cur.size:=by
   simp only [List.length_append,List.length_take,List.length_drop,Array.length_toList] at *;omega
  have hget:∀ k,(cur.toList.take (o+el*s+c)++vv.cells.toList++cur.toList.drop (o+el*s+c+vv.cells.toList.length))[k]? =
   if o+el*s+c<=k/\k<o+el*s+c+n then vv.cells[k-(o+el*s+c)]? else cur[k]?:=by
   intro k
   rw [List.append_assoc,List.getElem?_append,List.length_take,Nat.min_eq_left (by simp;omega)]
   split
   ·rw [if_neg (by omega),List.getElem?_take,if_pos (by omega),Array.getElem?_toList]
   ·rw [List.getElem?_append]
    split
    ·rw [if_pos (by omega),Array.getElem?_toList]
    ·rw [if_neg (by omega),List.getElem?_drop,Array.getElem?_toList];congr 1;omega
  have hnagg:∀ c' ∈ upd xs[el].cells c V.cells,∀ ds,c' ≠ .agg ds:=by
   refine upd_one _ _ _ (by omega) (fun x hx=>?_) fun x hx=>?_
   ·obtain ⟨k,hk,rfl⟩:=List.getElem_of_mem hx
    obtain ⟨u,_,h1,h2⟩:=(hrow.2 el hel).2 k hk
    exact one_not_agg h2 h1
   ·obtain ⟨k,hk,rfl⟩:=List.getElem_of_mem hx
    obtain ⟨u,_,h1,h2⟩:=hcr.2 k _ (List.getElem?_eq_getElem hk)
    exact one_not_agg h2 h1
  have hrc:=recell_cells xs[el] _ hnagg
  have hul:=upd_len xs[el].cells V.cells c (by omega)
  have hrow':Row w L objs (cur.toList.take (o+el*s+c)++vv.cells.toList++cur.toList.drop (o+el*s+c+vv.cells.toList.length)).toArray o s (xs.set el (recell xs[el] (upd xs[el].cells c V.cells))):=by
   refine ⟨by rw [List.size_toArray,hnc,List.length_set];exact hr1,fun i hi=>?_⟩
   rw [List.length_set] at hi
   by_cases ei:el=i
   ·subst ei
    rw [List.getElem_set_self]
    rw [hrc]
    refine ⟨by rw [hul];exact hys,fun j hj=>?_⟩
    rw [hul] at hj
    have hug:=upd_get xs[el].cells V.cells c j (by omega)
    rw [List.getElem?_eq_getElem (by omega)] at hug
    rw [List.getElem?_toArray,hget]
    split at hug
    ·rename_i hh
     rw [if_pos (by omega),show o+el*s+j-(o+el*s+c)=j-c from by omega]
     obtain ⟨u,hu,h1,h2⟩:=hcr.2 (j-c) _ hug.symm
     exact ⟨u,hu,h1,h2⟩
    ·rename_i hh
     rw [if_neg (by omega)]
     obtain ⟨u,hu,h1,h2⟩:=(hrow.2 el hel).2 j hj
     refine ⟨u,hu,h1,?_⟩
     rw [List.getElem?_eq_getElem hj] at hug
     simp only [Option.some.injEq] at hug
     rw [hug];exact h2
   ·rw [List.getElem_set_ne ei]
    refine ⟨(hrow.2 i hi).1,fun j hj=>?_⟩
    obtain ⟨u,hu,h1,h2⟩:=(hrow.2 i hi).2 j hj
    have hjs:j<s:=by rw [<- (hrow.2 i hi).1];exact hj
    refine ⟨u,?_,h1,h2⟩
    rw [List.getElem?_toArray,hget,if_neg ?_]
    ·exact hu
    ·rcases Nat.lt_or_gt_of_ne ei with h | h
     ·have:=Nat.mul_le_mul_right s (show el+1<=i from h);rw [Nat.add_mul,Nat.one_mul] at this;omega
     ·have:=Nat.mul_le_mul_right s (show i+1<=el from h);rw [Nat.add_mul,Nat.one_mul] at this;omega
  have hcz:(cur.toList.take (o+el*s+c)++vv.cells.toList++cur.toList.drop (o+el*s+c+vv.cells.toList.length)).toArray.size=nn:=by rw [List.size_toArray,hnc,hnn]
  have hset:=g.set (w':=w.setRow b (cur.toList.take (o+el*s+c)++vv.cells.toList++cur.toList.drop (o+el*s+c+vv.cells.toList.length)).toArray) (gen':=g') ho b o _
   ⟨rfl,rfl,rfl,by simp⟩ (fun k hk hne=>setRow_other w b k _ (fun e=>hne _ _ (e ▸ hbk))) (.inl ⟨_,_,hbk⟩) (.of hem (setRow_heap w b cur _ e (0,0) hcur)) hrow' (.inr ⟨rfl,by rw [hbk,hcz]⟩)
  refine ⟨_,_,?_,hset.2,hset.1⟩
  simp only [Instr.storeAt,Instr.sureAddr,storeVar,Sem.run_bind,Sem.run_pure,Result.andThen_ok,run_sizeOf hs]
  rw [if_neg (by rw [hcr.1,hn];simp)]
  simpa using hst
 | _=>simp [storeA] at h
def copyA (objs:List AObj) (size:Nat) (S X:AV):Option (AV × List AObj) :=
 (srcOf objs size X).bind fun ys =>
 match S with
 | .own id g off len =>
  match objs[id]? with
  | some (.arr g' s' e' xs) =>
   if g'=g/\s'=size/\off+len<=xs.length/\0<size/\e'<mapT then
    some (.val (.int .i64 (min ys.length len:Nat)),objs.set id (.arr g' s' e' (xs.take off++ys.take (min ys.length len)++xs.drop (off+min ys.length len)))) else none
  | _=>none
 | _=>none
theorem copy_ok (g:Good F0 w0 w L objs) {t t' e ty:TypeId} {size:Nat} {S X r:AV} {sv xv:Value} {objs':List AObj}
 (ht:P.underlying t=some (.slice e)) (hs:tsize P e=some size)
 (hS:VR w L objs S sv) (hX:VR w L objs X xv) (h:copyA objs size S X=some (r,objs')) :
 ∃ v w' L',(Builtin.copy_ #[t,t'] ty #[sv,xv]).run P w = .ok v w'/\Good F0 w0 w' L' objs'/\Later w L objs w' L' objs'/\VR w' L' objs' r v:=by
 simp only [copyA,Option.bind_eq_some_iff] at h
 obtain ⟨ys,hys,h⟩:=h
 obtain ⟨ad,xcap,rfl,hsrc⟩:=src_ok g hX hys
 cases S with
 | own id gen off len =>
  simp only at h
  split at h
  rotate_left
  ·cases h
  rename_i g' s' e' xs ho
  simp only [Option.ite_none_right_eq_some,Option.some.injEq,Prod.mk.injEq] at h
  obtain ⟨⟨rfl,rfl,hle,hpos,hem⟩,rfl,rfl⟩:=h
  have hl:live objs id g' s':=⟨_,_,ho⟩
  have hid:=(List.getElem?_eq_some_iff.1 ho).1
  obtain ⟨m,hm⟩:∃ m,min ys.length len=m:=⟨_,rfl⟩
  rw [hm]
  have hm1:m<=ys.length:=by omega
  have hm2:m<=len:=by omega
  have hn:Nat.min ys.length len=m:=hm
  have same:m=0->objs.set id (.arr g' s' e' (xs.take off++ys.take m++xs.drop (off+m)))=objs:=by
   rintro rfl
   have:xs.take off++ys.take 0++xs.drop (off+0)=xs:=by simp
   rw [this]
   apply List.ext_getElem?
   intro k
   by_cases ek:id=k
   ·subst ek;rw [List.getElem?_set_self hid,ho]
   ·rw [List.getElem?_set_ne ek]
  by_cases h0:m=0
  ·rw [same h0]
   have hf:∀ (v:Value) ,(Builtin.firstCells s' 0 (.slice ad ys.length xcap)).run P w = .ok #[] w:=fun _=>by
    cases ad <;> simp [Builtin.firstCells,loadCells,loadCellsFrom]
   rcases hS.own_inv hl with ⟨rfl,ad',rfl⟩ | ⟨b,o,nn,cap,hbk,rfl,hc,hm',hr⟩
   ·refine ⟨.int .i64 (m:Nat),w,L,?_,g,.refl _ _ _,.tree (.val _)⟩
    rw [h0] at hn ⊢
    cases ad' <;> simp [Builtin.copy_,run_underlying ht,Builtin.lenOf,run_sizeOf hs,hf undef,storeCells,goInt]
   ·refine ⟨.int .i64 (m:Nat),w,L,?_,g,.refl _ _ _,.tree (.val _)⟩
    rw [h0] at hn ⊢
    simp [Builtin.copy_,run_underlying ht,Builtin.lenOf,hn,run_sizeOf hs,hf undef,storeCells,goInt]
  ·obtain ⟨xb,xo,us,rfl,hrl,hcell⟩:=hsrc (by omega)
   rcases hS.own_inv hl with ⟨rfl,ad',rfl⟩ | ⟨b,o,nn,cap,hbk,rfl,hc,hm',hr⟩
   ·omega
   have hor:=g.obj _ _ ho
   unfold OR at hor
   rw [hbk] at hor
   obtain ⟨cur,hcur,hnn,hrow⟩:=hor
   have hcur:=hcur.cells hem
   have hcell':∀ j u,(us.take (m*s'))[j]? = some u->w.cell? ((⟨xb,xo,none⟩:Addr).add j)=some u:=fun j u hu=>by
    rw [run_addr0]
    rw [List.getElem?_take] at hu
    split at hu
    ·exact hcell j u hu
    ·cases hu
   have hmy:m*s'<=ys.length*s':=Nat.mul_le_mul_right _ hm1
   have hml:m*s'<=len*s':=Nat.mul_le_mul_right _ hm2
   have hnl:(us.take (m*s')).length=m*s':=by rw [List.length_take,hrl.1];omega
   have hB:RL w L objs s' (ys.take m) (us.take (m*s')):=by
    refine ⟨by rw [hnl,List.length_take];congr 1;omega,fun i hi=>?_⟩
    have hi':i<ys.length:=by rw [List.length_take] at hi;omega
    have him:i<m:=by rw [List.length_take] at hi;omega
    have e:(ys.take m)[i]=ys[i]:=List.getElem_take
    rw [e]
    refine ⟨(hrl.2 i hi').1,fun j hj=>?_⟩
    obtain ⟨u,h1,h2,h3⟩:=(hrl.2 i hi').2 j hj
    have hjs:j<s':=by rw [<- (hrl.2 i hi').1];exact hj
    have:=mul_add_lt him hjs
    exact ⟨u,by rw [List.getElem?_take,if_pos this];exact h1,h2,h3⟩
   have hA:=hrow.part 0 off (by omega)
   have hC:=hrow.part (off+m) (xs.length-(off+m)) (by omega)
   have hABC:=(hA.app hB).app hC
   have hxl:o+xs.length*s'<=cur.size:=hrow.1
   have h3:(off+len)*s'<=xs.length*s':=Nat.mul_le_mul_right _ hle
   simp only [Nat.add_mul] at h3
   have hone:∀ u ∈ us.take (m*s'),u.oneCell'=true:=hB.one
   have hst:=run_storeCells_at P b (o+off*s') e' (us.take (m*s')) 0 cur w hcur (by rw [hnl];omega) hone
   rw [Nat.add_zero,hnl] at hst
   have hrun:(Builtin.copy_ #[t,t'] ty #[.slice (some ⟨b,o+off*s',none⟩) len cap,.slice (some ⟨xb,xo,none⟩) ys.length xcap]).run P w =
    .ok (.int .i64 m) (w.setRow b (cur.toList.take (o+off*s')++us.take (m*s')++cur.toList.drop (o+off*s'+m*s')).toArray):=by
    have hf:=run_firstCells_some (P:=P) (w:=w) s' m ⟨xb,xo,none⟩ ys.length xcap (us.take (m*s')) hnl hcell'
    simp [Builtin.copy_,run_underlying ht,Builtin.lenOf,hn,run_sizeOf hs,hf,hst,goInt]
   have hAl:((cur.toList.drop (o+0*s')).take (off*s')).length=off*s':=by rw [hA.1,show ((xs.drop 0).take off).length=off from by rw [List.length_take,List.length_drop];omega]
   have hfo:off*s'<=xs.length*s':=Nat.mul_le_mul_right _ (by omega)
   have hCl:((cur.toList.drop (o+(off+m)*s')).take ((xs.length-(off+m))*s')).length=(xs.length-(off+m))*s':=by rw [hC.1];simp
   have hsz:(xs.length-(off+m))*s'+(off*s'+m*s')=xs.length*s':=by
    rw [<-Nat.add_mul,<-Nat.add_mul];congr 1;omega
   have hnc:(cur.toList.take (o+off*s')++us.take (m*s')++cur.toList.drop (o+off*s'+m*s')).length=cur.size:=by
    simp only [List.length_append,List.length_take,List.length_drop,Array.length_toList,hrl.1];omega
   have eA:(xs.drop 0).take off=xs.take off:=by rw [List.drop_zero]
   have eC:(xs.drop (off+m)).take (xs.length-(off+m))=xs.drop (off+m):=List.take_of_length_le (by simp)
   rw [eA,eC] at hABC
   have hrow':Row w L objs (cur.toList.take (o+off*s')++us.take (m*s')++cur.toList.drop (o+off*s'+m*s')).toArray o s' (xs.take off++ys.take m++xs.drop (off+m)):=by
    have hlen:(xs.take off++ys.take m++xs.drop (off+m)).length=xs.length:=by simp;omega
    refine hABC.row ?_ fun k u hu=>?_
    ·rw [hABC.1,hlen,List.size_toArray,hnc];exact hxl
    ·simp only [List.getElem?_toArray]
     by_cases h1:k<off*s'
     ·rw [List.append_assoc,List.getElem?_append_left (by rw [hAl];exact h1),List.getElem?_take,if_pos h1,List.getElem?_drop] at hu
      rw [List.append_assoc,List.getElem?_append_left (by simp;omega),List.getElem?_take,if_pos (by omega)]
      rw [Nat.zero_mul,Nat.add_zero] at hu;exact hu
     ·rw [List.append_assoc,List.getElem?_append_right (by rw [hAl];omega),hAl] at hu
      rw [List.append_assoc,List.getElem?_append_right (by simp;omega),List.length_take,Nat.min_eq_left (by simp;omega),show o+k-(o+off*s')=k-off*s' from by omega]
      by_cases h2:k-off*s'<m*s'
      ·rw [List.getElem?_append_left (by rw [hnl];exact h2)] at hu ⊢;exact hu
      ·rw [List.getElem?_append_right (by rw [hnl];omega),hnl] at hu ⊢
       rw [List.getElem?_take] at hu
       split at hu
       ·rw [List.getElem?_drop] at hu ⊢
        rw [Nat.add_mul] at hu
        rw [show o+off*s'+m*s'+(k-off*s'-m*s')=o+(off*s'+m*s')+(k-off*s'-m*s') from by omega]
        exact hu
       ·cases hu
   have hset:=g.set (w':=w.setRow b (cur.toList.take (o+off*s')++us.take (m*s')++cur.toList.drop (o+off*s'+m*s')).toArray) (gen':=g') ho b o _
    ⟨rfl,rfl,rfl,by simp⟩ (fun k hk hne=>setRow_other w b k _ (fun e=>hne _ _ (e ▸ hbk))) (.inl ⟨_,_,hbk⟩) (.of hem (setRow_heap w b cur _ e' (0,0) hcur)) hrow' (.inr ⟨rfl,by rw [hbk,List.size_toArray,hnc,hnn]⟩)
   exact ⟨_,_,_,hrun,hset.2,hset.1,.tree (.val _)⟩
 | _=>simp at h
end Dak
namespace Dak
open Go Go.RowKit
variable [Globs]
variable {P : Program} {F0 : FD} {w0 w : World} {L : Lay} {objs objs0 : List AObj} {nid : Nat}
inductive Snap (objs:List AObj):AV->AV->Prop
 | tree (x) (h:x.isT=true):Snap objs x x
 | nil (s):Snap objs (.val (.slice none 0 0)) (.list s [])
 | emp (s):Snap objs .emp (.list s [])
 | own (id g off len size:Nat) (e:TypeId) (xs ys:List AV) (ho:objs[id]? = some (.arr g size e xs)) (hl:off+len<=xs.length) (hy:ys.length=len)
  (hr:∀ i (h:i<ys.length),Snap objs (xs[off+i]'(by omega)) ys[i]) (he:e<mapT:=by decide):Snap objs (.own id g off len) (.list size ys)
 | map (id g c:Nat) (ks:List (MK × Value)) (ho:objs[id]? = some (.arr g 1 (mapT+c) [.val (mapV ks)])):Snap objs (.mref id g) (.mapd c (kget ks))
 | agg (cs ds:List AV) (hl:cs.length=ds.length) (hr:∀ i (h:i<cs.length) (h2:i<ds.length),Snap objs cs[i] ds[i]):Snap objs (.agg cs) (.agg ds)
 | tup (cs ds:List AV) (hl:cs.length=ds.length) (hr:∀ i (h:i<cs.length) (h2:i<ds.length),Snap objs cs[i] ds[i]):Snap objs (.tup cs) (.tup ds)
 | clo (fn:Fn) (cs ds:List AV) (hl:cs.length=ds.length) (hr:∀ i (h:i<cs.length) (h2:i<ds.length),Snap objs cs[i] ds[i]):Snap objs (.clo fn cs) (.clo fn ds)
 | ref (id g el c:Nat) (cs ds:List AV) (hc:cellsAt objs (.ref id g el c)=some cs) (hl:ds.length=cs.length) (hr:∀ i (h:i<cs.length) (h2:i<ds.length),Snap objs cs[i] ds[i]):Snap objs (.ref id g el c) (.ptr ds)
theorem isT1_isT {x:AV} (h:x.isT1=true):x.isT=true:=by
 cases x <;> first | exact h | (cases h;done) | skip
 rename_i fn cap
 have:cap=[]:=by simpa [AV.isT1] using h
 subst this;rfl
theorem Snap.cells {x y:AV} (h:Snap objs x y):x.cells.length=y.cells.length/\∀ j (h1:j<x.cells.length) (h2:j<y.cells.length),Snap objs x.cells[j] y.cells[j]:=by
 have single:∀ {x y:AV},x.cells=[x]->y.cells=[y]->Snap objs x y->x.cells.length=y.cells.length/\∀ j (h1:j<x.cells.length) (h2:j<y.cells.length),Snap objs x.cells[j] y.cells[j]:=by
  intro x y ex ey h
  rw [ex,ey]
  refine ⟨rfl,fun j h1 h2=>?_⟩
  have:j=0:=by simp at h1;omega
  subst this;exact h
 cases h with
 | tree x hx =>
  refine ⟨rfl,fun j h1 h2=>?_⟩
  cases x with
  | agg cs=>exact .tree _ (isT1_isT (List.all_eq_true.1 hx _ (List.getElem_mem _)))
  | _ => have : j = 0 := by simp [AV.cells] at h1; omega
         subst this;exact .tree _ hx
 | nil s=>exact single rfl rfl (.nil s)
 | emp s=>exact single rfl rfl (.emp s)
 | own id g off len size e xs ys ho hl hy hr he=>exact single rfl rfl (.own id g off len size e xs ys ho hl hy hr he)
 | map id g c ks ho=>exact single rfl rfl (.map id g c ks ho)
 | agg cs ds hl hr=>exact ⟨hl,hr⟩
 | tup cs ds hl hr=>exact single rfl rfl (.tup cs ds hl hr)
 | clo fn cs ds hl hr=>exact single rfl rfl (.clo fn cs ds hl hr)
 | ref id g el c cs ds hc hl hr=>exact single rfl rfl (.ref id g el c cs ds hc hl hr)
theorem cellsAt_sub (hsub:Sub objs0 objs) {x:AV} {cs:List AV} (h:cellsAt objs0 x=some cs):cellsAt objs x=some cs:=by
 cases x with
 | ref id g el c =>
  simp only [cellsAt] at h ⊢
  split at h
  ·rename_i ho;rw [hsub _ _ _ _ _ ho];exact h
  ·cases h
 | _=>exact h
theorem snap_ok (g:Good F0 w0 w L objs) (hsub:Sub objs0 objs) {G:Nat->Prop} (hF:∀ b,L.F b->G b) (hG:∀ (id g s:Nat) (e:TypeId) (xs:List AV),objs0[id]? = some (.arr g s e xs)->∀ b o n,L.blk id=some (b,o,n)->G b) {x y:AV} (hs:Snap objs0 x y) :
 ∀ v,VR w L objs x v->TR w G y v:=by
 induction hs with
 | tree x hx=>intro v hv;exact (isT_ok hv hx).mono fun b hb _=>hF b hb
 | nil s=>intro v hv;rw [hv.val_inv];exact .nolist _ _ _ (by unfold maxLen;omega)
 | emp s=>intro v hv;obtain ⟨ad,rfl⟩:=hv.emp_inv;exact .nolist _ _ _ (by unfold maxLen;omega)
 | map id gen c ks ho =>
  intro v hv
  have ho':=hsub _ _ _ _ _ ho
  obtain ⟨b,o,n,hbk,rfl⟩:=hv.mref_inv (s:=1) ⟨_,_,ho'⟩
  have hor:=g.obj _ _ ho'
  unfold OR at hor
  rw [hbk] at hor
  obtain ⟨cur,hcur,hn,hr1,hr2⟩:=hor
  obtain ⟨ks',hm,rfl⟩:=hcur.map (Nat.not_lt.2 (Nat.le_add_right _ _))
  rw [Nat.add_sub_cancel_left] at hm
  obtain ⟨u,hu,_,hvu⟩:=(hr2 0 (by simp)).2 0 (by simp [AV.cells])
  have e1:=hvu.val_inv
  have h0:o=0:=by simp at hr1;omega
  subst h0
  simp at hu
  rw [e1] at hu
  have e2:ks'=ks:=by rw [<-unV_mapV ks',hu];exact unV_mapV ks
  subst e2
  exact .mapd _ _ b (hG _ _ _ _ _ ho _ _ _ hbk) ⟨_,hm,fun _ _=>rfl⟩
 | own id gen off len size e xs ys ho hl hy hr he ih =>
  intro v hv
  have ho':=hsub _ _ _ _ _ ho
  have hlv:live objs id gen size:=⟨_,_,ho'⟩
  rcases hv.own_inv hlv with ⟨h0,ad,rfl⟩ | ⟨b,o,n,cap,hbk,rfl,hc,hm,hrr⟩
  ·have:ys=[]:=List.eq_nil_of_length_eq_zero (by omega)
   subst this;exact .nolist _ _ _ (by unfold maxLen;omega)
  ·have hor:=g.obj _ _ ho'
   unfold OR at hor
   rw [hbk] at hor
   obtain ⟨cur,hcur,hn,hr1,hr2⟩:=hor
   have hcur:=hcur.cells he
   have hGb:G b:=hG _ _ _ _ _ ho _ _ _ hbk
   by_cases h0:ys.length=0
   ·have:ys=[]:=List.eq_nil_of_length_eq_zero h0
    subst this
    have:len=0:=by simp at hy;omega
    subst this;exact .nolist _ _ _ hm
   let f:Nat->Nat->Value:=fun i j=>(cur[o+(off+i)*size+j]?).getD undef
   have key:∀ i (hi:i<ys.length),ys[i].cells.length=size/\∀ j (hj:j<ys[i].cells.length),cur[o+(off+i)*size+j]? = some (f i j)/\(f i j).oneCell'=true/\TR w G ys[i].cells[j] (f i j):=by
    intro i hi
    have h1:=hr2 (off+i) (by omega)
    have h2:=(hr i hi).cells
    refine ⟨by rw [<-h2.1];exact h1.1,fun j hj=>?_⟩
    obtain ⟨u,hu,ho1,hvu⟩:=h1.2 j (by rw [h2.1];exact hj)
    have ef:f i j=u:=by simp [f,hu]
    rw [ef]
    refine ⟨hu,ho1,?_⟩
    have hx:=ih i hi
    have hsn:=hr i hi
    have h2l:=h2.1
    generalize ys[i]=y at *
    generalize xs[off+i]'(by omega)=x at *
    by_cases ha:∃ cs,x = .agg cs
    ·obtain ⟨cs,rfl⟩:=ha
     have hall:VR w L objs (.agg cs) (.agg ((List.range cs.length).map fun k=>(cur[o+(off+i)*size+k]?).getD undef).toArray):=by
      refine .agg _ _ (by simp) (fun k hk=>?_) fun k hk h2=>?_
      ·simp at hk
       obtain ⟨u,hu,ho1,_⟩:=h1.2 k hk
       simpa [hu] using ho1
      ·obtain ⟨u,hu,_,hvu⟩:=h1.2 k hk
       simp only [List.getElem_toArray,List.getElem_map,List.getElem_range,hu,Option.getD_some]
       exact hvu
     have hthis:=hx _ hall
     have hy':∃ ds,y = .agg ds:=by
      cases hsn with
      | tree=>exact ⟨_,rfl⟩
      | agg=>exact ⟨_,rfl⟩
     obtain ⟨ds,rfl⟩:=hy'
     obtain ⟨vs,hvs,_,_,hr'⟩:=hthis.agg_inv
     simp only [Value.agg.injEq] at hvs
     subst hvs
     have h4:=hr' j hj (by simp;rw [show cs.length=ds.length from h2l];exact hj)
     simp only [List.getElem_toArray,List.getElem_map,List.getElem_range,hu,Option.getD_some] at h4
     exact h4
    ·have ex:x.cells=[x]:=by cases x <;> first | rfl | exact absurd ⟨_,rfl⟩ ha
     have ey:y.cells=[y]:=by
      cases hsn <;> first | exact ex | rfl | exact absurd ⟨_,rfl⟩ ha
     have hj0:j=0:=by rw [ey] at hj;simpa using hj
     subst hj0
     simp only [ey,List.getElem_cons_zero]
     simp only [ex,List.getElem_cons_zero] at hvu
     exact hx _ hvu
   have:=TR.list (w:=w) (F:=G) size ys b (o+off*size) cap f hGb ⟨_,_,_,hcur⟩ (by omega) hm (fun i hi=>(key i hi).1)
    (fun i j hi hj=>by
     have:=((key i hi).2 j (by rw [(key i hi).1];exact hj)).1
     simp only [World.cell?,hcur]
     rw [Nat.add_mul,<-Nat.add_assoc] at this
     simpa using this)
    (fun i j hi hj=>((key i hi).2 j (by rw [(key i hi).1];exact hj)).2.1) (fun i hi j hj=>((key i hi).2 j hj).2.2)
   rw [hy] at this
   exact this
 | agg cs ds hl hr ih =>
  intro v hv
  obtain ⟨vs,rfl,hl2,h1,hv2⟩:=hv.agg_inv
  exact .agg _ _ (by omega) h1 fun i hi h2=>ih i (by omega) hi _ (hv2 i (by omega) h2)
 | tup cs ds hl hr ih =>
  intro v hv
  obtain ⟨vs,rfl,hl2,hv2⟩:=hv.tup_inv
  exact .tup _ _ (by omega) fun i hi h2=>ih i (by omega) hi _ (hv2 i (by omega) h2)
 | clo fn cs ds hl hr ih =>
  intro v hv
  obtain ⟨vs,rfl,hl2,hv2⟩:=hv.clo_inv
  exact .clo _ _ _ (by omega) fun i hi h2=>ih i (by omega) hi _ (hv2 i (by omega) h2)
 | ref id gen el c cs ds hc hl hr ih =>
  intro v hv
  obtain ⟨b,o,rfl,hcell⟩:=cellsAt_ok g hv (cellsAt_sub hsub hc)
  have hbG:G b/\isC w b:=by
   simp only [cellsAt] at hc
   split at hc
   ·rename_i ho
    have ho':=hsub _ _ _ _ _ ho
    split at hc
    ·rename_i eg;obtain ⟨eg,hem⟩:=eg;subst eg
     have hlv:live objs id _ _:=⟨_,_,ho'⟩
     obtain ⟨b',o',n,hbk,hv'⟩:=hv.ref_inv hlv
     simp at hv'
     obtain ⟨rfl,_⟩:=hv'
     have hob:=g.obj _ _ ho'
     unfold OR at hob
     rw [hbk] at hob
     obtain ⟨cur,hcc,_⟩:=hob
     exact ⟨hG _ _ _ _ _ ho _ _ _ hbk,⟨_,_,_,hcc.cells hem⟩⟩
    ·cases hc
   ·cases hc
  let f:Nat->Value:=fun j=>(w.cell? ⟨b,o+j,none⟩).getD undef
  have hf:∀ j (hj:j<cs.length),w.cell? ⟨b,o+j,none⟩=some (f j)/\(f j).oneCell'=true/\VR w L objs cs[j] (f j):=by
   intro j hj
   obtain ⟨u,hu,h1,h2⟩:=hcell j hj
   have:f j=u:=by simp [f,hu]
   rw [this];exact ⟨hu,h1,h2⟩
  exact .ptr ds b o f hbG.1 hbG.2 (fun j hj=>(hf j (by omega)).1) (fun j hj=>(hf j (by omega)).2.1) fun j hj=>ih j (by omega) hj _ (hf j (by omega)).2.2
def Enters (P:Program) (f:FuncId):Bool :=
 match P.funcs[f]? with
 | some fn => !(fn.name == "runtime.NumGoroutine") && fn.body.isSome
 | none=>false
def Ctr (P:Program) (f:FuncId) (xs:List AV) (r:AV):Prop :=
 Enters P f=true/\∀ (w:World) (F:Nat->Prop) (vs:Array Value),GlOk w F->vs.size=xs.length->(∀ i (h:i<xs.length) (h2:i<vs.size),TR w F xs[i] vs[i]) ->
  Calls P f vs w fun e w'=>∃ v,e = .returned v/\Ext w w'/\TR w' (fun b=>F b \/ (w.heap.size<=b)) r v
def AV.flat1:AV->Bool
 | .val _=>true
 | _=>false
def AV.flat:AV->Bool
 | .val _=>true
 | .agg cs=>cs.all AV.flat1
 | .tup xs=>xs.all fun x=>match x with
  | .val _=>true
  | .agg cs=>cs.all AV.flat1
  | _=>false
 | _=>false
theorem flat1_ok {w w':World} {F G:Nat->Prop} {x:AV} {v:Value} (h:TR w F x v) (hf:x.flat1=true):TR w' G x v:=by
 cases x with
 | val u=>rw [h.val_inv];exact .val _
 | _=>cases hf
theorem flat_ok {w w':World} {F G:Nat->Prop} {x:AV} {v:Value} (h:TR w F x v) (hf:x.flat=true):TR w' G x v:=by
 cases x with
 | val u=>rw [h.val_inv];exact .val _
 | agg cs =>
  obtain ⟨vs,rfl,hl,h1,hr⟩:=h.agg_inv
  exact .agg _ _ hl h1 fun i hi h2=>flat1_ok (hr i hi h2) (List.all_eq_true.1 hf _ (List.getElem_mem _))
 | tup xs =>
  cases h with
  | tup _ vs hl hr =>
   refine .tup _ _ hl fun i hi h2=>?_
   have h3:=List.all_eq_true.1 hf _ (List.getElem_mem hi)
   have h4:=hr i hi h2
   generalize xs[i]=x at *
   generalize vs[i]=v at *
   cases x with
   | val u=>rw [h4.val_inv];exact .val _
   | agg cs =>
    obtain ⟨vs,rfl,hl,h1,hr⟩:=h4.agg_inv
    exact .agg _ _ hl h1 fun i hi h2=>flat1_ok (hr i hi h2) (List.all_eq_true.1 h3 _ (List.getElem_mem _))
   | _=>cases h3
 | _=>cases hf
def OutM (F0:FD) (w0:World) (L:Lay) (base:List AObj) (r:AV) (base':List AObj) (e:Ending) (w':World):Prop :=
 ∃ v L',e = .returned v/\Good F0 w0 w' L' base'/\Done base L base' L'/\VR w' L' base' r v
def CtrM (P:Program) (f:FuncId) (xs:List AV) (base:List AObj) (r:AV) (base':List AObj):Prop :=
 Enters P f=true/\base'.length=base.length/\∀ (F0:FD) (w0 w:World) (L:Lay) (vs:Array Value),F0.ds=[]->Good F0 w0 w L base->vs.size=xs.length->(∀ i (h:i<xs.length) (h2:i<vs.size),VR w L base xs[i] vs[i]) ->
  Calls P f vs w (OutM F0 w0 L base r base')
def CtrN (P:Program) (f:FuncId) (xs:List AV) (r:AV) (news:List AObj):Prop :=
 Enters P f=true/\(news.all AObj.plain)=true/\(news.all fun o=>o.innO news.length)=true/\r.inn news.length=true /\
 ∀ (w:World) (F:Nat->Prop) (vs:Array Value),GlOk w F->vs.size=xs.length->(∀ i (h:i<xs.length) (h2:i<vs.size),TR w F xs[i] vs[i]) ->
  Calls P f vs w fun e w'=>∃ v L',e = .returned v/\Good ⟨F,(· < w.heap.size),[]⟩ w w' L' news/\VR w' L' news r v
end Dak
namespace Dak
open Go Go.RowKit
variable [Globs]
variable {P : Program} {F0 : FD} {w0 w : World} {L : Lay} {objs objs0 : List AObj} {nid : Nat}
structure KeyTK (P:Program) (kt:TypeId) (c:Nat):Prop where
 eq:∀ a b:MK,a.ok c->b.ok c->∀ w,(Op.equal kt (a.v c) (b.v c)).run P w = .ok (decide (a=b)) w
 chk:∀ a:MK,a.ok c->∀ b w,(Instr.checkKey b 10000 kt (a.v c)).run P w = .ok () w
 same:∀ a:MK,a.ok c->Instr.sameBits 10000 (a.v c) (a.v c)=true
 kind:∃ d,P.underlying kt=some d/\∀ a b:MK,a.ok c->b.ok c->Instr.sameNow d (a.v c) (b.v c)=none \/ Instr.sameNow d (a.v c) (b.v c)=some (decide (a=b))
variable {kt : TypeId} {c : Nat}
theorem findAsking_run (K:KeyTK P kt c) (k:MK) (hk:k.ok c) (w:World):∀ (es:List MapEntry) (ks:List (MK × Value)) (i:Nat),(∀ p ∈ ks,p.1.ok c) ->
 es.map (fun e=>(e.key,e.val))=ks.map (fun p=>(p.1.v c,p.2))->(Instr.findAsking kt (k.v c) es i).run P w = .ok (kfind k ks i) w
 | [],ks,i,_,h=>by
  cases ks with
  | nil=>simp [Instr.findAsking,kfind]
  | cons p ps=>simp at h
 | e::es,ks,i,ho,h=>by
  cases ks with
  | nil=>simp at h
  | cons p ps =>
   simp only [List.map_cons,List.cons.injEq,Prod.mk.injEq] at h
   obtain ⟨⟨h1,h2⟩,h3⟩:=h
   simp only [Instr.findAsking,Sem.run_bind,h1,K.eq k p.1 hk (ho p (by simp)),Result.andThen_ok,kfind]
   by_cases hk':k=p.1
   ·simp [hk',h2]
   ·simp only [hk',decide_false,Bool.false_eq_true,if_false]
    exact findAsking_run K k hk w es ps (i+1) (fun q hq=>ho q (by simp [hq])) h3
theorem findNow_run {d:TypeDesc} (K:∀ a b:MK,a.ok c->b.ok c->Instr.sameNow d (a.v c) (b.v c)=none \/ Instr.sameNow d (a.v c) (b.v c)=some (decide (a=b))) (k:MK) (hk:k.ok c):∀ (es:List MapEntry) (ks:List (MK × Value)) (i:Nat),(∀ p ∈ ks,p.1.ok c) ->
 es.map (fun e=>(e.key,e.val))=ks.map (fun p=>(p.1.v c,p.2))->Instr.findNow d (k.v c) es i=none \/ Instr.findNow d (k.v c) es i=some (kfind k ks i)
 | [],ks,i,_,h=>by
  cases ks with
  | nil=>exact .inr rfl
  | cons p ps=>simp at h
 | e::es,ks,i,ho,h=>by
  cases ks with
  | nil=>simp at h
  | cons p ps =>
   simp only [List.map_cons,List.cons.injEq,Prod.mk.injEq] at h
   obtain ⟨⟨h1,h2⟩,h3⟩:=h
   simp only [Instr.findNow,h1,kfind]
   rcases K k p.1 hk (ho p (by simp)) with hn | hn
   ·rw [hn];exact .inl rfl
   ·rw [hn]
    by_cases hk':k=p.1
    ·simp [hk',h2]
    ·simp only [hk',decide_false,if_false]
     exact findNow_run K k hk es ps (i+1) (fun q hq=>ho q (by simp [hq])) h3
theorem findKey_run (K:KeyTK P kt c) (k:MK) (hk:k.ok c) (w:World) (es:List MapEntry) (ks:List (MK × Value)) (ho:∀ p ∈ ks,p.1.ok c)
 (h:es.map (fun e=>(e.key,e.val))=ks.map (fun p=>(p.1.v c,p.2))):(Instr.findKey kt (k.v c) es).run P w = .ok (kfind k ks 0) w:=by
 obtain ⟨d,hd,hs⟩:=K.kind
 simp only [Instr.findKey,Sem.run_bind,run_underlying hd,Result.andThen_ok]
 rcases findNow_run hs k hk es ks 0 ho h with hn | hn
 ·rw [hn];exact findAsking_run K k hk w es ks 0 ho h
 ·rw [hn];rfl
theorem run_kget {t et:TypeId} (K:KeyTK P kt c) (ht:P.underlying t=some (.map kt et)) {z:Value} (hz:∀ w,(zeroValue et).run P w = .ok z w)
 {r:Nat} {ks:List (MK × Value)} (h:MapIn c ks (w.heap[r]?)) (k:MK) (hk:k.ok c) (ok:Bool) :
 (Instr.lookup t (.map (some r)) (k.v c) ok).run P w = .ok (if ok then .tuple #[(kget ks k).getD z,.bool (kget ks k).isSome] else (kget ks k).getD z) w:=by
 obtain ⟨es,clock,hr,he,ho,hbn,hnd⟩:=h
 have hf:=findKey_run K k hk w es.toList ks ho he
 simp only [Instr.lookup,Sem.run_bind,run_underlying ht,Result.andThen_ok,getObj,Sem.run,hr,K.chk k hk,kget]
 cases hm:kfind k ks 0 with
 | none=>rw [hm] at hf;cases ok <;> simp [hz,hf]
 | some p=>obtain ⟨i,v⟩:=p;rw [hm] at hf;cases ok <;> simp [hf]
theorem kfind_lt (k:MK):∀ (ks:List (MK × Value)) (i j:Nat) (v:Value),kfind k ks i=some (j,v)->i<=j/\ks[j-i]? = some (k,v)
 | [],_,_,_,h=>by simp [kfind] at h
 | p::ps,i,j,v,h=>by
  simp only [kfind] at h
  split at h
  ·rename_i hk
   simp only [Option.some.injEq,Prod.mk.injEq] at h
   obtain ⟨rfl,rfl⟩:=h
   subst hk
   exact ⟨Nat.le_refl _,by simp⟩
  ·obtain ⟨h1,h2⟩:=kfind_lt k ps (i+1) j v h
   refine ⟨by omega,?_⟩
   rw [show j-i=(j-(i+1))+1 from by omega,List.getElem?_cons_succ]
   exact h2
theorem modify_map {α β : Type} (f : α->β) (g : α->α) (g' : β->β):∀ (l:List α) (i:Nat),(∀ x,l[i]? = some x->f (g x)=g' (f x))->(l.modify i g).map f=(l.map f).modify i g'
 | [],i,_=>by simp
 | x::l,0,h=>by simp [h x rfl]
 | x::l,i+1,h=>by
  simp only [List.modify_succ_cons,List.map_cons]
  rw [modify_map f g g' l i (fun y hy=>h y (by simpa using hy))]
theorem mem_modify' {α : Type} (g : α->α):∀ (l:List α) (i:Nat) (x : α),x ∈ l.modify i g->x ∈ l \/ ∃ y ∈ l,l[i]? = some y/\x=g y
 | [],i,x,h=>by simp at h
 | y::l,0,x,h=>by
  simp only [List.modify_zero_cons,List.mem_cons] at h
  rcases h with h | h
  ·exact .inr ⟨y,by simp,rfl,h⟩
  ·exact .inl (by simp [h])
 | y::l,i+1,x,h=>by
  simp only [List.modify_succ_cons,List.mem_cons] at h
  rcases h with h | h
  ·exact .inl (by simp [h])
  ·rcases mem_modify' g l i x h with h | ⟨z,h1,h2,h3⟩
   ·exact .inl (by simp [h])
   ·exact .inr ⟨z,by simp [h1],by simpa using h2,h3⟩
theorem kset_ok {ks:List (MK × Value)} {k:MK} {v:Value} (hk:k.ok c) (ho:∀ p ∈ ks,p.1.ok c):∀ p ∈ kset ks k v,p.1.ok c:=by
 intro p hp
 unfold kset at hp
 split at hp
 ·rcases mem_modify' _ _ _ _ hp with h | ⟨y,h1,h2,rfl⟩
  ·exact ho p h
  ·exact ho y h1
 ·rcases List.mem_append.1 hp with h | h
  ·exact ho p h
  ·simp at h;subst h;exact hk
theorem run_kset {t et:TypeId} (K:KeyTK P kt c) (ht:P.underlying t=some (.map kt et))
 {r:Nat} {ks:List (MK × Value)} (h:MapIn c ks (w.heap[r]?)) (k:MK) (hk:k.ok c) (v:Value) :
 ∃ w',(Instr.mapUpdate t (.map (some r)) (k.v c) v).run P w = .ok () w'/\MapIn c (kset ks k v) (w'.heap[r]?)/\w.grownBy w' (some r):=by
 obtain ⟨es,clock,hr,he,ho,hbn,hnd⟩:=h
 have hf:=findKey_run K k hk w es.toList ks ho he
 have hlt:r<w.heap.size:=(Array.getElem?_eq_some_iff.1 hr).1
 have hg:∀ o,w.grownBy { w with heap:=w.heap.setIfInBounds r o } (some r):=fun o =>
  ⟨rfl,rfl,rfl,by simp,fun j hj hne=>by
   show (w.heap.setIfInBounds r o)[j]? = _
   rw [Array.getElem?_setIfInBounds_ne (fun e=>hne (by rw [e]))]⟩
 cases hm:kfind k ks 0 with
 | none =>
  rw [hm] at hf
  refine ⟨_,?_,?_,hg (.map (es.push { key:=k.v c,val:=v,born:=clock }) (clock+1))⟩
  ·simp [Instr.mapUpdate,run_underlying ht,getObj,setObj,Sem.run,hr,K.chk k hk,hf]
  ·refine ⟨_,_,by show (w.heap.setIfInBounds r _)[r]? = _;rw [Array.getElem?_setIfInBounds_self_of_lt hlt],?_,kset_ok hk ho,?_,?_⟩
   ·simp [kset,hm,he]
   ·intro e he'
    simp only [Array.toList_push,List.mem_append,List.mem_singleton] at he'
    rcases he' with h | rfl
    ·exact Nat.lt_succ_of_lt (hbn e h)
    ·exact Nat.lt_succ_self clock
   ·simp only [Array.toList_push,List.map_append,List.map_cons,List.map_nil]
    refine List.nodup_append.2 ⟨hnd,by simp,fun a ha b hb=>?_⟩
    obtain ⟨e,he',rfl⟩:=List.mem_map.1 ha
    obtain rfl:=List.mem_singleton.1 hb
    exact Nat.ne_of_lt (hbn e he')
 | some p =>
  obtain ⟨i,v0⟩:=p
  rw [hm] at hf
  obtain ⟨_,hi⟩:=kfind_lt k ks 0 i v0 hm
  rw [Nat.sub_zero] at hi
  have hei:∃ e,es[i]? = some e/\e.key=k.v c:=by
   have h1:(es.toList.map (fun e=>(e.key,e.val)))[i]? = some (k.v c,v0):=by rw [he];simp [hi]
   rw [List.getElem?_map] at h1
   cases h2:es.toList[i]? with
   | none=>rw [h2] at h1;simp at h1
   | some e =>
    rw [h2] at h1
    simp only [Option.map_some,Option.some.injEq,Prod.mk.injEq] at h1
    exact ⟨e,by simpa using h2,h1.1⟩
  obtain ⟨e,he1,he2⟩:=hei
  refine ⟨_,?_,?_,hg (.map (es.modify i fun e=>{ e with key:=k.v c,val:=v }) clock)⟩
  ·simp [Instr.mapUpdate,run_underlying ht,getObj,setObj,Sem.run,hr,K.chk k hk,hf,he1,he2,Instr.keyThatStays,K.same k hk]
  ·refine ⟨_,_,by show (w.heap.setIfInBounds r _)[r]? = _;rw [Array.getElem?_setIfInBounds_self_of_lt hlt],?_,kset_ok hk ho,?_,?_⟩
   rotate_left
   ·intro e he'
    rw [Array.toList_modify] at he'
    rcases mem_modify' _ _ _ _ he' with h | ⟨y,h1,h2,rfl⟩
    ·exact hbn e h
    ·exact hbn y h1
   ·rw [Array.toList_modify,modify_map (fun x:MapEntry=>x.born) (fun e=>{ e with key:=k.v c,val:=v }) (fun x:Nat=>x) es.toList i (fun _ _=>rfl)]
    have:∀ (l:List Nat) (i:Nat),l.modify i (fun x=>x)=l:=fun l i=>by
     induction l generalizing i with
     | nil=>simp
     | cons a l ih=>cases i <;> simp [ih]
    rw [this];exact hnd
   simp only [kset,hm,Array.toList_modify]
   rw [modify_map _ _ (fun q:Value × Value=>(q.1,v)) es.toList i (fun x hx=>by
    have:x=e:=by rw [<-Array.getElem?_toList] at he1;rw [he1] at hx;exact (Option.some.inj hx).symm
    subst this;simp [he2]),he,modify_map (fun p:MK × Value=>(p.1.v c,p.2)) (fun p=>(p.1,v)) (fun q:Value × Value=>(q.1,v)) ks i (fun _ _=>rfl)]
theorem mnew_ok (g:Good F0 w0 w L objs) (hv:objs[nid]? = some .void) {s:Sem Next} (hs:s.run P w = .ok (.value (.map (some w.heap.size))) (w.alloc (.map #[] 0))) :
 Does P s F0 w0 w L objs nid (.mref nid 1) (some (.arr 1 1 (mapT+c) [.val (mapV [])])):=by
 have hid:=(List.getElem?_eq_some_iff.1 hv).1
 have hr:Row w L objs #[mapV []] 0 1 [.val (mapV [])]:=by
  refine ⟨by simp,fun i hi=>?_⟩
  have:i=0:=by simpa using hi
  subst this
  refine ⟨rfl,fun j hj=>?_⟩
  have:j=0:=by simpa [AV.cells] using hj
  subst this
  exact ⟨mapV [],rfl,rfl,.tree (.val _)⟩
 have hb:Blk (mapT+c) #[mapV []] (some (.map #[] 0)):=.ofMap ⟨_,_,rfl,rfl,(fun p hp=>by simp at hp),by simp,by simp⟩
 refine ⟨_,_,_,hs,g.newB (gen:=1) (elem:=mapT+c) hv #[mapV []] _ hb hr,.new hv _ _,?_⟩
 have:=VR.mapL (w:=w.alloc (.map #[] 0)) (L:=L.put nid (some (w.heap.size,0,1))) (objs:=objs.set nid (.arr 1 1 (mapT+c) [.val (mapV [])])) nid 1 1 w.heap.size 0 1 (live_self hid) (by simp [Lay.put])
 simpa [putO] using this
theorem keyOf_ok {x:AV} {v:Value} {k:MK} (h:VR w L objs x v) (hk:keyOf c x=some k):v=k.v c/\k.ok c:=by
 cases x with
 | val u =>
  rw [h.val_inv]
  cases u <;> simp [keyOf] at hk
  ·obtain ⟨⟨h1,h2⟩,rfl⟩:=hk;subst h1;subst h2;exact ⟨rfl,rfl⟩
  ·obtain ⟨h1,rfl⟩:=hk;subst h1;exact ⟨rfl,rfl⟩
 | agg cs =>
  obtain ⟨vs,rfl,hl,_,hr⟩:=h.agg_inv
  simp only [keyOf,Option.bind_eq_some_iff,Option.ite_none_right_eq_some,Option.some.injEq] at hk
  obtain ⟨l,hl2,⟨h2,hn,hkk⟩,rfl⟩:=hk
  refine ⟨?_,h2,by simpa using hn⟩
  have key:∀ (cs:List AV) (vs:List Value) (l:List (IntKind × Int)),cs.mapM asI=some l->vs.length=cs.length->(∀ i (h:i<cs.length) (h2:i<vs.length),VR w L objs cs[i] vs[i])->l.map (·.1)=List.replicate l.length (keyK c)->vs=(l.map (·.2)).map (Value.int (keyK c)):=by
   intro cs
   induction cs with
   | nil=>intro vs l hm hl _ _;simp at hm;subst hm;simpa using hl
   | cons x cs ih =>
    intro vs l hm hl hr hk
    simp only [List.mapM_cons,Option.bind_eq_bind,Option.bind_eq_some_iff,Option.pure_def,Option.some.injEq] at hm
    obtain ⟨⟨k,n⟩,hx,l',hl',rfl⟩:=hm
    cases vs with
    | nil=>simp at hl
    | cons v vs =>
     have h0:=asI_ok (hr 0 (by simp) (by simp)) hx
     simp only [List.getElem_cons_zero] at h0
     simp only [List.map_cons,List.length_cons,List.replicate_succ,List.cons.injEq] at hk
     subst h0
     rw [ih vs l' hl' (by simpa using hl) (fun i h1 h2=>hr (i+1) (Nat.succ_lt_succ h1) (Nat.succ_lt_succ h2)) hk.2]
     simp [hk.1]
  have:=key cs vs.toList l hl2 (by simpa using hl) (fun i h h2=>by simpa using hr i h (by simpa using h2)) hkk
  simp only [MK.v]
  rw [<-this]
 | _=>simp [keyOf] at hk
theorem mapOwn_ok (g:Good F0 w0 w L objs) (hsub:Sub objs0 objs) {x:AV} {v:Value} {ks:List (MK × Value)} (h:VR w L objs x v) (hm:mapOwn objs0 c x=some ks):∃ b,v = .map (some b)/\MapIn c ks (w.heap[b]?):=by
 cases x with
 | mref id gen =>
  simp only [mapOwn] at hm
  split at hm
  ·rename_i g' s e xs ho
   simp only [Option.ite_none_right_eq_some] at hm
   obtain ⟨⟨rfl,rfl,rfl⟩,hm⟩:=hm
   split at hm
   ·rename_i u
    simp only [Option.some.injEq] at hm
    subst hm
    have ho':=hsub _ _ _ _ _ ho
    obtain ⟨b,o,n,hbk,rfl⟩:=h.mref_inv (s:=1) ⟨_,_,ho'⟩
    have hor:=g.obj _ _ ho'
    unfold OR at hor
    rw [hbk] at hor
    obtain ⟨cur,hcur,hn,hr1,hr2⟩:=hor
    obtain ⟨ks',hm,rfl⟩:=hcur.map (Nat.not_lt.2 (Nat.le_add_right _ _))
    rw [Nat.add_sub_cancel_left] at hm
    obtain ⟨u',hu,_,hvu⟩:=(hr2 0 (by simp)).2 0 (by simp [AV.cells])
    have e1:=hvu.val_inv
    have h0:o=0:=by simp at hr1;omega
    subst h0
    simp at hu
    rw [e1] at hu
    have e2:ks'=unV u:=by rw [<-unV_mapV ks',hu]
    rw [<-e2]
    exact ⟨b,rfl,hm⟩
   ·cases hm
  ·cases hm
 | _=>simp [mapOwn] at hm
theorem mapOf_ok (g:Good F0 w0 w L objs) (hsub:Sub objs0 objs) {x:AV} {v:Value} {m:MK->Option Value} (h:VR w L objs x v) (hm:mapOf objs0 c x=some m):∃ b ks,v = .map (some b)/\MapIn c ks (w.heap[b]?)/\∀ k:MK,k.ok c->kget ks k=m k:=by
 have own:(mapOwn objs0 c x).map kget=some m->∃ b ks,v = .map (some b)/\MapIn c ks (w.heap[b]?)/\∀ k:MK,k.ok c->kget ks k=m k:=fun hm=>by
  obtain ⟨ks,hks,rfl⟩:=Option.map_eq_some_iff.1 hm
  obtain ⟨b,e,h2⟩:=mapOwn_ok g hsub h hks
  exact ⟨b,ks,e,h2,fun _ _=>rfl⟩
 cases x with
 | mapd c' m' =>
  simp only [mapOf,Option.ite_none_right_eq_some,Option.some.injEq] at hm
  obtain ⟨rfl,rfl⟩:=hm
  obtain ⟨b,rfl,_,ks,h,h2⟩:=h.mapd_inv
  exact ⟨b,ks,rfl,h,h2⟩
 | _=>exact own hm
theorem mget_ok (g:Good F0 w0 w L objs) (hsub:Sub objs0 objs) {t et:TypeId} (K:KeyTK P kt c) (ht:P.underlying t=some (.map kt et)) {z:Value} (hz:∀ w,(zeroValue et).run P w = .ok z w)
 {ev:Operand->AV} {ρ : Operand->Value} (he:∀ x,VR w L objs (ev x) (ρ x)) {ok:Bool} {m k:Operand} {r:AV} {no:Option AObj} (h:qop objs0 ev nid (.mget c ok z m k)=some (r,no)) :
 Does P (do pure (.value (<-Instr.lookup t (ρ m) (ρ k) ok))) F0 w0 w L objs nid r no:=by
 simp only [qop,Option.bind_eq_some_iff,Option.map_eq_some_iff,Prod.mk.injEq] at h
 obtain ⟨k',hk,ks,hks,rfl,rfl⟩:=h
 obtain ⟨e1,hok⟩:=keyOf_ok (he k) hk
 obtain ⟨b,ks',e2,hm,hq⟩:=mapOf_ok g hsub (he m) hks
 have:=run_kget K ht hz hm k' hok ok
 rw [hq k' hok] at this
 refine .pure g (v:=if ok then .tuple #[(ks k').getD z,.bool (ks k').isSome] else (ks k').getD z) (by simp [e1,e2,this]) ?_
 cases ok
 ·exact .tree (.val _)
 ·refine .tree (.tup _ _ rfl fun i hi h2=>?_)
  match i,hi with
  | 0,_=>exact .val _
  | 1,_=>exact .val _
theorem mlen_ok (g:Good F0 w0 w L objs) (hsub:Sub objs0 objs) {t kt et ty:TypeId} (ht:P.underlying t=some (.map kt et))
 {ev:Operand->AV} {ρ : Operand->Value} (he:∀ x,VR w L objs (ev x) (ρ x)) {m:Operand} {r:AV} {no:Option AObj} (h:qop objs0 ev nid (.mlen c m)=some (r,no)) :
 Does P (do pure (.value (<-Builtin.len_ #[t] ty #[ρ m]))) F0 w0 w L objs nid r no:=by
 simp only [qop,Option.map_eq_some_iff,Prod.mk.injEq] at h
 obtain ⟨ks,hks,rfl,rfl⟩:=h
 obtain ⟨b,e2,es,clock,hr,he',_⟩:=mapOwn_ok g hsub (he m) hks
 have hl:es.size=ks.length:=by have:=congrArg List.length he';simpa using this
 refine .pure g (v:=.int .i64 ks.length) ?_ (.tree (.val _))
 simp [e2,Builtin.len_,run_underlying ht,getObj,Sem.run,hr,goInt,hl]
def msetA (objs:List AObj) (c:Nat) (M K V:AV):Option (List AObj) :=
 match M with
 | .mref id g=>(keyOf c K).bind fun k=>match V with
  | .val v=>(mapOwn objs c (.mref id g)).map fun ks=>objs.set id (.arr g 1 (mapT+c) [.val (mapV (kset ks k v))])
  | _=>none
 | _=>none
theorem mset_ok (g:Good F0 w0 w L objs) {t kt et:TypeId} (Kk:KeyTK P kt c) (ht:P.underlying t=some (.map kt et)) {M K V:AV} {mv kv vv:Value} {objs':List AObj} (hM:VR w L objs M mv) (hK:VR w L objs K kv) (hV:VR w L objs V vv)
 (h:msetA objs c M K V=some objs'):∃ w' L',(Instr.mapUpdate t mv kv vv).run P w = .ok () w'/\Good F0 w0 w' L' objs'/\Later w L objs w' L' objs':=by
 cases M with
 | mref id gen =>
  simp only [msetA,Option.bind_eq_some_iff] at h
  obtain ⟨k,hk,h⟩:=h
  cases V with
  | val v =>
   simp only [Option.map_eq_some_iff] at h
   obtain ⟨ks,hks,rfl⟩:=h
   obtain rfl:=hV.val_inv.symm
   obtain ⟨e1,hok⟩:=keyOf_ok hK hk
   subst e1
   have hks2:=hks
   simp only [mapOwn] at hks
   split at hks
   rotate_left
   ·cases hks
   rename_i g' s e xs ho
   simp only [Option.ite_none_right_eq_some] at hks
   obtain ⟨⟨rfl,rfl,rfl⟩,hks⟩:=hks
   obtain ⟨b,o,n,hbk,rfl⟩:=hM.mref_inv (s:=1) ⟨_,_,ho⟩
   obtain ⟨b',e3,hm⟩:=mapOwn_ok g (fun _ _ _ _ _ h=>h) hM hks2
   simp only [Value.map.injEq,Option.some.injEq] at e3
   subst e3
   have hon:o=0/\n=1:=by
    have hor:=g.obj _ _ ho
    unfold OR at hor
    rw [hbk] at hor
    obtain ⟨cur,hcur,hn,hr1,hr2⟩:=hor
    obtain ⟨ks',hm',rfl⟩:=hcur.map (Nat.not_lt.2 (Nat.le_add_right _ _))
    have:xs.length=1:=by split at hks <;> first | rfl | cases hks
    simp [this] at hr1 hn
    omega
   obtain ⟨rfl,rfl⟩:=hon
   obtain ⟨w',hrun,hm',hgr⟩:=run_kset Kk ht hm k hok v
   have hset:=g.set (w':=w') (gen':=g') ho b 0 #[mapV (kset ks k v)] (xs':=[.val (mapV (kset ks k v))]) ⟨hgr.os.symm,hgr.tape.symm,hgr.output.symm,hgr.size⟩
    (fun j hj hne=>hgr.block j hj fun e=>hne 0 1 (by simp only [Option.some.injEq] at e;rw [e];exact hbk)) (.inl ⟨_,_,hbk⟩) (.ofMap hm') (by
     refine ⟨by simp,fun i hi=>?_⟩
     have:i=0:=by simpa using hi
     subst this
     refine ⟨rfl,fun j hj=>?_⟩
     have:j=0:=by simpa [AV.cells] using hj
     subst this
     exact ⟨mapV (kset ks k v),rfl,rfl,.tree (.val _)⟩) (.inr ⟨rfl,hbk⟩)
   exact ⟨w',_,hrun,hset.2,hset.1⟩
  | _=>cases h
 | _=>simp [msetA] at h
theorem str_ok (g:Good F0 w0 w L objs) (hsub:Sub objs0 objs) {src dst e:TypeId} (hs:P.underlying src=some (.slice e)) (he':P.underlying e=some (.int .u8)) (hd:P.underlying dst=some .string)
 {ev:Operand->AV} {ρ : Operand->Value} (he:∀ x,VR w L objs (ev x) (ρ x)) {x:Operand} {r:AV} {no:Option AObj} (h:qop objs0 ev nid (.str x)=some (r,no)) :
 Does P (do pure (.value (<-convert src dst (ρ x)))) F0 w0 w L objs nid r no:=by
 simp only [qop,Option.bind_eq_some_iff,Option.ite_none_right_eq_some,Option.some.injEq,Prod.mk.injEq] at h
 obtain ⟨ys,hys,hall,rfl,rfl⟩:=h
 obtain ⟨ad,xcap,ex,hsrc⟩:=src_ok g (he x) (srcOf_sub hsub hys)
 have fold:∀ (l:List Int) (s:ByteArray),(l.foldl (fun r n=>r.push (UInt8.ofNat n.toNat)) s).data=s.data++(l.map fun n=>UInt8.ofNat n.toNat).toArray:=by
  intro l
  induction l with
  | nil=>intro s;simp
  | cons n l ih=>intro s;rw [List.foldl_cons,ih];simp [ByteArray.push]
 have hints:∃ ns:List Int,ys=ns.map fun n=>AV.val (.int .u8 n):=by
  clear hsrc hys ex
  induction ys with
  | nil=>exact ⟨[],rfl⟩
  | cons y ys ih =>
   simp only [List.all_cons,Bool.and_eq_true] at hall
   obtain ⟨ns,rfl⟩:=ih hall.2
   have h1:=hall.1
   cases y with
   | val v =>
    cases v <;> simp [asI] at h1
    rename_i k n
    cases k <;> simp at h1
    exact ⟨n::ns,rfl⟩
   | _=>simp [asI] at h1
 obtain ⟨ns,rfl⟩:=hints
 have hbytes:bytesOf (ns.map fun n=>AV.val (.int .u8 n))=ns.foldl (fun r n=>r.push (UInt8.ofNat n.toNat)) ByteArray.empty:=by
  refine ByteArray.ext ?_
  rw [fold ns ByteArray.empty]
  simp [bytesOf,asI,Function.comp_def]
 refine .pure g (v:=.string (bytesOf (ns.map fun n=>AV.val (.int .u8 n)))) ?_ (.tree (.val _))
 rw [ex,hbytes]
 simp only [Sem.run_bind]
 rw [run_convert_bytes_string w src dst e _ _ _ hs he' hd]
 by_cases h0:ns=[]
 ·subst h0
  cases ad <;> simp [Conv.bytesToString,loadCells,loadCellsFrom] <;> rfl
 ·obtain ⟨b,o,us,rfl,hrl,hcell⟩:=hsrc (by simp [List.length_pos_iff,h0])
  have hus:us=ns.map (Value.int .u8):=by
   apply List.ext_getElem
   ·have:=hrl.1;simpa using this
   ·intro i h1 h2
    obtain ⟨_,h3⟩:=hrl.2 i (by simpa using h2)
    obtain ⟨u,hu,_,hv⟩:=h3 0 (by simp [AV.cells])
    simp only [List.getElem_map,AV.cells,List.getElem_cons_zero] at hv
    rw [hv.val_inv] at hu
    rw [Nat.mul_one,Nat.add_zero,List.getElem?_eq_getElem h1] at hu
    simpa using hu
  have hl:(loadCells ⟨b,o,none⟩ ns.length).run P w = .ok (ns.map (Value.int .u8)).toArray w:=by
   have:=run_loadCells_list (P:=P) (w:=w) ⟨b,o,none⟩ us (fun j u hu=>by rw [run_addr0];exact hcell j u hu)
   rw [hus] at this
   simpa using this
  rw [List.length_map,run_bytesToString w _ _ _ ns hl]
  simp
end Dak
