/- Lemmas used by all laws. -/
import Derived.Conc.TokenAlone
import Derived.Calls
import Derived.Test.YtdadmhahbeehhaaProg
import Derived.KernelRfl
import Derived.WalkKit
import Derived.WalkSpells
import Derived.WalkLawsBesides
import Derived.Orders
import Derived.Laws.MakeOwn
import Derived.Deep.AppendSrc
import Derived.Lib.AppendZerosOnto
import Derived.Defers
import Derived.Laws.BytesString
set_option linter.unusedSimpArgs false
set_option linter.unusedVariables false
set_option linter.unusedSectionVars false
set_option maxRecDepth 100000
namespace Cv
open Go
def alt (P:Program) (F:Array Func):Program:={ P with funcs:=F }
section
variable {P : Program} {F : Array Func}
theorem alt_info (t:TypeId):(alt P F).info? t=P.info? t:=rfl
theorem alt_underlying (t:TypeId):(alt P F).underlying t=P.underlying t:=rfl
theorem alt_cellsOf (t:TypeId):(alt P F).cellsOf t=P.cellsOf t:=rfl
theorem alt_bytesOf (t:TypeId):(alt P F).bytesOf t=P.bytesOf t:=rfl
theorem alt_depth:(alt P F).depth=P.depth:=rfl
theorem alt_byteOfCell:∀ (d:Nat) (t:TypeId) (off:Nat),byteOfCell (alt P F) d t off=byteOfCell P d t off
 | 0,_,_=>rfl
 | d+1,t,off=>by unfold byteOfCell;simp only [alt_underlying,alt_cellsOf,alt_bytesOf,alt_byteOfCell d];rfl
theorem alt_cellHolding:∀ (d:Nat) (t:TypeId) (b:Nat),cellHolding (alt P F) d t b=cellHolding P d t b
 | 0,_,_=>rfl
 | d+1,t,b=>by unfold cellHolding;simp only [alt_underlying,alt_cellsOf,alt_bytesOf,alt_cellHolding d];rfl
theorem alt_plainCell:∀ (d:Nat) (t:TypeId) (off:Nat),plainCell (alt P F) d t off=plainCell P d t off
 | 0,_,_=>rfl
 | d+1,t,off=>by unfold plainCell;simp only [alt_underlying,alt_cellsOf,alt_plainCell d];rfl
theorem alt_tight:∀ (d:Nat) (t:TypeId),tight (alt P F) d t=tight P d t
 | 0,_=>rfl
 | d+1,t=>by unfold tight;simp only [alt_underlying,alt_bytesOf,alt_tight d]
theorem alt_cellOfByte:∀ (d:Nat) (t:TypeId) (b:Nat),cellOfByte (alt P F) d t b=cellOfByte P d t b
 | 0,_,_=>rfl
 | d+1,t,b=>by unfold cellOfByte;simp only [alt_underlying,alt_cellsOf,alt_bytesOf,alt_cellOfByte d];rfl
theorem alt_cellAtBytes (d:Nat) (e:TypeId) (n o:Nat) (b:Int):cellAtBytes (alt P F) d e n o b=cellAtBytes P d e n o b:=by
 unfold cellAtBytes;simp only [alt_cellsOf,alt_bytesOf,alt_byteOfCell,alt_cellOfByte];rfl
theorem alt_seenCells (c:Array Value) (e:TypeId):∀ (f x s:Nat),seenCells (alt P F) c e f x s=seenCells P c e f x s
 | 0,_,_=>rfl
 | f+1,x,s=>by unfold seenCells;simp only [alt_bytesOf,alt_cellsOf,alt_depth,alt_cellHolding,alt_seenCells c e f]
theorem alt_eqGuardType:∀ (d:Nat) (t:TypeId),(alt P F).eqGuardType d t=P.eqGuardType d t
 | 0,_=>rfl
 | d+1,t=>by unfold Program.eqGuardType;simp only [alt_underlying,alt_eqGuardType d]
theorem alt_seen (w:World) (a:Addr) (u:TypeId) (k:Addr) (at_:Bool):w.seen (alt P F) a u k at_=w.seen P a u k at_:=by
 unfold World.seen;simp only [alt_bytesOf,alt_cellsOf,alt_depth,alt_plainCell,alt_byteOfCell,alt_seenCells];rfl
end
def isOp:Obj->Bool
 | .chan .. | .loop _=>true
 | _=>false
theorem isOp_of {o:Obj} (h:o.isChan=true):isOp o=true:=by cases o <;> first | rfl | cases h
def OB (x y:Option Obj):Prop:=x=y \/ ∃ o p,x=some o/\y=some p/\o.isChan=true/\isOp p=true
structure WR (wL w:World):Prop where
 size:wL.heap.size=w.heap.size
 os:wL.os=w.os
 out:wL.output=w.output
 heap:∀ b:Nat,OB wL.heap[b]? w.heap[b]?
 noloop:∀ (b:Nat) (l:Loop),wL.heap[b]? ≠ some (.loop l)
section
variable {wL w : World}
theorem WR.nochan (h:WR wL w) {b:Nat} {o:Obj} (ho:wL.heap[b]? = some o) (hc:isOp o=false):w.heap[b]? = some o:=by
 rcases h.heap b with e | ⟨p,q,e1,_,h1,_⟩
 ·rw [<-e];exact ho
 ·rw [ho] at e1;obtain rfl:=Option.some.inj e1;rw [isOp_of h1] at hc;cases hc
theorem WR.cell (h:WR wL w) (a:Addr):w.cell? a=wL.cell? a:=by
 unfold World.cell?
 rcases h.heap a.block with e | ⟨p,q,e1,e2,h1,h2⟩
 ·rw [e]
 ·rw [e1,e2];cases p <;> cases q <;> simp_all [Obj.isChan,isOp]
theorem WR.frozen (h:WR wL w) (a:Addr):w.frozen? a=wL.frozen? a:=by
 unfold World.frozen?
 rcases h.heap a.block with e | ⟨p,q,e1,e2,h1,h2⟩
 ·rw [e]
 ·rw [e1,e2];cases p <;> cases q <;> simp_all [Obj.isChan,isOp]
theorem WR.shape (h:WR wL w) (r:Nat):w.shape? r=wL.shape? r:=by
 unfold World.shape?
 rcases h.heap r with e | ⟨p,q,e1,e2,h1,h2⟩
 ·rw [e]
 ·rw [e1,e2];cases p <;> cases q <;> simp_all [Obj.isChan,isOp]
theorem WR.set (h:WR wL w) {r:Nat} {o p:Obj} (ho:wL.heap[r]? = some p) (hp:isOp p=false) (hoo:isOp o=false) :
 WR { wL with heap:=wL.heap.setIfInBounds r o } { w with heap:=w.heap.setIfInBounds r o }:=by
 refine ⟨by simpa using h.size,h.os,h.out,fun b=>?_,fun b l hb=>?_⟩
 rotate_left
 ·by_cases e:b=r
  ·subst e
   have hl:b<wL.heap.size:=(Array.getElem?_eq_some_iff.1 ho).1
   have hb':(wL.heap.setIfInBounds b o)[b]? = some (.loop l):=hb
   rw [Array.getElem?_setIfInBounds_self_of_lt hl] at hb'
   obtain rfl:=Option.some.inj hb'
   cases hoo
  ·have hb':(wL.heap.setIfInBounds r o)[b]? = some (.loop l):=hb
   rw [Array.getElem?_setIfInBounds_ne (fun z=>e z.symm)] at hb'
   exact h.noloop b l hb'
 by_cases e:b=r
 ·subst e
  have hl:b<wL.heap.size:=(Array.getElem?_eq_some_iff.1 ho).1
  refine .inl ?_
  show (wL.heap.setIfInBounds b o)[b]? = (w.heap.setIfInBounds b o)[b]?
  rw [Array.getElem?_setIfInBounds_self_of_lt hl,Array.getElem?_setIfInBounds_self_of_lt (by rw [<-h.size];exact hl)]
 ·show OB (wL.heap.setIfInBounds r o)[b]? (w.heap.setIfInBounds r o)[b]?
  rw [Array.getElem?_setIfInBounds_ne (fun z=>e z.symm),Array.getElem?_setIfInBounds_ne (fun z=>e z.symm)]
  exact h.heap b
theorem WR.push (h:WR wL w) (o:Obj) (hoo:∀ l,o ≠ .loop l):WR { wL with heap:=wL.heap.push o } { w with heap:=w.heap.push o }:=by
 refine ⟨by simp [h.size],h.os,h.out,fun b=>?_,fun b l hb=>?_⟩
 rotate_left
 ·have hb':(wL.heap.push o)[b]? = some (.loop l):=hb
  rw [Array.getElem?_push] at hb'
  split at hb'
  ·exact hoo l (Option.some.inj hb')
  ·exact h.noloop b l hb'
 show OB (wL.heap.push o)[b]? (w.heap.push o)[b]?
 rw [Array.getElem?_push,Array.getElem?_push,<-h.size]
 split
 ·exact .inl rfl
 ·exact h.heap b
theorem WR.modify (h:WR wL w) {r:Nat} {f:Obj->Obj} (hf:∀ o,isOp o=true->f o=o) (hf':∀ o l,f o = .loop l->o = .loop l) :
 WR { wL with heap:=wL.heap.modify r f } { w with heap:=w.heap.modify r f }:=by
 refine ⟨by simp [h.size],h.os,h.out,fun b=>?_,fun b l hb=>?_⟩
 rotate_left
 ·have hb':(wL.heap.modify r f)[b]? = some (.loop l):=hb
  rw [Array.getElem?_modify] at hb'
  split at hb'
  ·cases hx:wL.heap[b]? with
   | none=>rw [hx] at hb';cases hb'
   | some o=>rw [hx] at hb';exact h.noloop b l (by rw [hx,hf' o l (Option.some.inj hb')])
  ·exact h.noloop b l hb'
 show OB (wL.heap.modify r f)[b]? (w.heap.modify r f)[b]?
 rw [Array.getElem?_modify,Array.getElem?_modify]
 split
 ·rcases h.heap b with e | ⟨p,q,e1,e2,h1,h2⟩
  ·exact .inl (by rw [e])
  ·rw [e1,e2]
   exact .inr ⟨p,q,by simp [hf p (isOp_of h1)],by simp [hf q h2],h1,h2⟩
 ·exact h.heap b
end
def KeepC (w w':World):Prop:=∀ (b:Nat) (o:Obj),w.heap[b]? = some o->isOp o=true->w'.heap[b]? = some o
theorem KeepC.refl (w:World):KeepC w w:=fun _ _ h _=>h
theorem KeepC.trans {a b c:World} (h:KeepC a b) (k:KeepC b c):KeepC a c:=fun x o h1 h2=>k x o (h x o h1 h2) h2
theorem KeepC.set {w:World} {r:Nat} {o p:Obj} (ho:w.heap[r]? = some p) (hp:isOp p=false):KeepC w { w with heap:=w.heap.setIfInBounds r o }:=by
 intro b x hx hc
 by_cases e:b=r
 ·subst e;rw [ho] at hx;obtain rfl:=Option.some.inj hx;rw [hp] at hc;cases hc
 ·show (w.heap.setIfInBounds r o)[b]? = some x
  rw [Array.getElem?_setIfInBounds_ne (fun z=>e z.symm)];exact hx
theorem KeepC.push {w:World} (o:Obj):KeepC w { w with heap:=w.heap.push o }:=by
 intro b x hx hc
 show (w.heap.push o)[b]? = some x
 have hl:b<w.heap.size:=(Array.getElem?_eq_some_iff.1 hx).1
 rw [Array.getElem?_push,if_neg (by omega)];exact hx
theorem KeepC.modify {w:World} {r:Nat} {f:Obj->Obj} (hf:∀ o,isOp o=true->f o=o):KeepC w { w with heap:=w.heap.modify r f }:=by
 intro b x hx hc
 show (w.heap.modify r f)[b]? = some x
 rw [Array.getElem?_modify]
 split
 ·rw [hx];simp [hf x hc]
 ·exact hx
def EvOk (e:Event):Prop:=e.loc ≠ .mark .disable/\e.loc ≠ .mark .enable
section
variable {P : Program} {F : Array Func} {wL w : World}
theorem nochanH (h:∀ b:Nat,OB wL.heap[b]? w.heap[b]?) {b:Nat} {o:Obj} (ho:wL.heap[b]? = some o) (hc:isOp o=false):w.heap[b]? = some o:=by
 rcases h b with e | ⟨p,q,e1,_,h1,_⟩
 ·rw [<-e];exact ho
 ·rw [ho] at e1;obtain rfl:=Option.some.inj e1;rw [isOp_of h1] at hc;cases hc
theorem seen_alike (h:∀ b:Nat,OB wL.heap[b]? w.heap[b]?) (a:Addr) (u:TypeId) (k:Addr) (at_:Bool):w.seen P a u k at_=wL.seen P a u k at_:=by
 unfold World.seen
 rcases h a.block with e | ⟨p,q,e1,e2,h1,h2⟩
 ·rw [e]
 ·rw [e1,e2];cases p <;> cases q <;> simp_all [Obj.isChan,isOp]
theorem farLoad_alike (h:∀ b:Nat,OB wL.heap[b]? w.heap[b]?) (a:Addr) (at_:Bool) {r:Value × List Addr} (hr:wL.farLoad (alt P F) a at_ = .ok r):w.farLoad P a at_ = .ok r:=by
 unfold World.farLoad at hr ⊢
 cases e:wL.heap[a.block]? with
 | none=>rw [e] at hr;cases hr
 | some o =>
  rw [e] at hr
  cases o with
  | view x u =>
   rw [nochanH h e rfl]
   simp only [World.viewLoad,seen_alike h,alt_seen] at hr ⊢
   exact hr
  | _=>cases hr
theorem farStore_alike (h:∀ b:Nat,OB wL.heap[b]? w.heap[b]?) (a:Addr) (v:Value) (at_:Bool) {wL':World} {l:List Addr} (hr:wL.farStore (alt P F) a v at_ = .ok (wL',l)) :
 ∃ (r:Nat) (o p:Obj),wL.heap[r]? = some p/\isOp p=false/\isOp o=false/\wL'={ wL with heap:=wL.heap.setIfInBounds r o }/\w.farStore P a v at_ = .ok ({ w with heap:=w.heap.setIfInBounds r o },l):=by
 unfold World.farStore at hr ⊢
 cases e:wL.heap[a.block]? with
 | none=>rw [e] at hr;cases hr
 | some o =>
  rw [e] at hr
  cases o with
  | view x u =>
   rw [nochanH h e rfl]
   simp only [World.viewStore,seen_alike h,alt_seen,alt_tight,alt_depth] at hr ⊢
   by_cases ht:tight P P.depth u=true
   ·simp only [ht,Bool.not_true,Bool.false_eq_true,↓reduceIte] at hr ⊢
    cases hs:wL.seen P x u a at_ with
    | error m=>rw [hs] at hr;cases hr
    | ok t =>
     obtain ⟨c,e',fr,first,like,cells⟩:=t
     have hx:∃ c0 e0 f0,wL.heap[x.block]? = some (.cells c0 e0 f0):=by
      cases hb:wL.heap[x.block]? with
      | none =>
       unfold World.seen at hs
       rw [hb] at hs
       simp only [bind,Except.bind] at hs
       repeat' (first | (cases hs;done) | split at hs)
      | some o =>
       cases o with
       | cells c0 e0 f0=>exact ⟨_,_,_,rfl⟩
       | _ =>
        unfold World.seen at hs
        rw [hb] at hs
        simp only [bind,Except.bind] at hs
        repeat' (first | (cases hs;done) | split at hs)
     obtain ⟨c0,e0,f0,hx⟩:=hx
     rw [hs] at hr
     simp only [bind,Except.bind] at hr ⊢
     cases hb:v.bytes? with
     | none=>rw [hb] at hr;cases hr
     | some bytes =>
      rw [hb] at hr
      simp only at hr ⊢
      by_cases hne:some bytes.length ≠ Option.map (fun x=>x.length) like.bytes?
      ·rw [if_pos hne] at hr;cases hr
      ·rw [if_neg hne] at hr ⊢
       revert hr
       generalize List.foldlM (m:=Except String) _ c cells=z
       intro hr
       cases z with
       | error m=>cases hr
       | ok c1 =>
        simp only [pure,Except.pure,Except.ok.injEq,Prod.mk.injEq] at hr ⊢
        obtain ⟨rfl,rfl⟩:=hr
        refine ⟨x.block,.cells c1 e' fr,_,hx,rfl,rfl,rfl,?_⟩
        simp
   ·simp only [ht,Bool.not_false,↓reduceIte,bind,Except.bind] at hr
    cases hr
  | _=>cases hr
end
def HaltOk:Halt->Prop
 | .panic _ | .unsupported _ | .stuck _=>True
 | _=>False
theorem noCell_ok (w:World) (a:Addr) (s:String):HaltOk (w.noCell a s):=by
 unfold World.noCell
 split <;> trivial
theorem farLoad_ok {P:Program} {w:World} {a:Addr} {b:Bool} {h:Halt} (e:w.farLoad P a b = .error h):HaltOk h:=by
 unfold World.farLoad at e
 split at e
 ·split at e
  ·cases e
  ·cases e;trivial
 ·cases e;exact noCell_ok _ _ _
theorem farStore_ok {P:Program} {w:World} {a:Addr} {v:Value} {b:Bool} {h:Halt} (e:w.farStore P a v b = .error h):HaltOk h:=by
 unfold World.farStore at e
 split at e
 ·split at e
  ·cases e
  ·cases e;trivial
 ·cases e;exact noCell_ok _ _ _
def ch0:Obj:=.chan 0 #[] false 0 0 false
inductive Tm (PL P:Program) {α : Type} (Q : α->Prop):(Nat->Prop)->Sem α->Prop
 | pure {S a}:Q a->Tm PL P Q S (.pure a)
 | load {S m a k}:(∀ v,Tm PL P Q S (k v))->Tm PL P Q S (.load m a k)
 | store {S m a v k}:Tm PL P Q S k->Tm PL P Q S (.store m a v k)
 | new {S} {o:Obj} {k}:(∀ l,o ≠ .loop l)->(∀ r,Tm PL P Q S (k r))->Tm PL P Q S (.new o k)
 | shape {S r k}:(∀ v,Tm PL P Q S (k v))->Tm PL P Q S (.shape r k)
 | freeze {S a n k}:Tm PL P Q S k->Tm PL P Q S (.freeze a n k)
 | frozen {S a k}:(∀ v,Tm PL P Q S (k v))->Tm PL P Q S (.frozen a k)
 | getObj {S r k}:(∀ o:Obj,isOp o=false->Tm PL P Q (fun x=>S x \/ x=r) (k o))->(∀ o:Obj,o.isChan=true->k o=k ch0)->(∀ o:Obj,isOp o=true->k o=k ch0 \/ ∃ h,HaltOk h/\k ch0 = .halt h)->Tm PL P Q S (k ch0)->Tm PL P Q S (.getObj r k)
 | setObj {S} {r:Nat} {o:Obj} {k}:S r->isOp o=false->Tm PL P Q S k->Tm PL P Q S (.setObj r o k)
 | choose {S q k}:(∀ n,Tm PL P Q S (k n))->Tm PL P Q S (.choose q k)
 | program {S} {k:Program->Sem α}:Tm PL P Q S (k PL)->(k P=k PL \/ ∀ w,∃ h w',HaltOk h/\(k PL).run PL w = .halt h w')->Tm PL P Q S (.program k)
 | mark {S m k}:m ≠ .disable->m ≠ .enable->Tm PL P Q S k->Tm PL P Q S (.mark m k)
 | halt {S h}:HaltOk h->Tm PL P Q S (.halt h)
section
variable {PL P : Program} {α β : Type} {Q : α -> Prop} {S : Nat -> Prop}
theorem Tm.mono {s:Sem α} (h:Tm PL P Q S s):∀ {S':Nat->Prop} {Q' : α->Prop},(∀ r,S r->S' r)->(∀ a,Q a->Q' a)->Tm PL P Q' S' s:=by
 induction h with
 | pure hq=>intro S' Q' hS hQ;exact .pure (hQ _ hq)
 | load _ ih=>intro S' Q' hS hQ;exact .load fun v=>ih v hS hQ
 | store _ ih=>intro S' Q' hS hQ;exact .store (ih hS hQ)
 | new h0 _ ih=>intro S' Q' hS hQ;exact .new h0 fun v=>ih v hS hQ
 | shape _ ih=>intro S' Q' hS hQ;exact .shape fun v=>ih v hS hQ
 | freeze _ ih=>intro S' Q' hS hQ;exact .freeze (ih hS hQ)
 | frozen _ ih=>intro S' Q' hS hQ;exact .frozen fun v=>ih v hS hQ
 | getObj _ h2 h4 _ ih1 ih3=>intro S' Q' hS hQ;exact .getObj (fun o ho=>ih1 o ho (fun r hr=>hr.imp (hS r) id) hQ) h2 h4 (ih3 hS hQ)
 | setObj h1 h2 _ ih=>intro S' Q' hS hQ;exact .setObj (hS _ h1) h2 (ih hS hQ)
 | choose _ ih=>intro S' Q' hS hQ;exact .choose fun v=>ih v hS hQ
 | program _ h2 ih=>intro S' Q' hS hQ;exact .program (ih hS hQ) h2
 | mark h1 h2 _ ih=>intro S' Q' hS hQ;exact .mark h1 h2 (ih hS hQ)
 | halt h=>intro S' Q' hS hQ;exact .halt h
theorem Tm.bind' {R : β->Prop} {s:Sem β} (h:Tm PL P R S s):∀ {f : β->Sem α},(∀ a,R a->∀ S':Nat->Prop,(∀ r,S r->S' r)->Tm PL P Q S' (f a))->Tm PL P Q S (s.bind f):=by
 induction h with
 | pure hq=>intro f hf;exact hf _ hq _ fun _ h=>h
 | load _ ih=>intro f hf;exact .load fun v=>ih v hf
 | store _ ih=>intro f hf;exact .store (ih hf)
 | new h0 _ ih=>intro f hf;exact .new h0 fun v=>ih v hf
 | shape _ ih=>intro f hf;exact .shape fun v=>ih v hf
 | freeze _ ih=>intro f hf;exact .freeze (ih hf)
 | frozen _ ih=>intro f hf;exact .frozen fun v=>ih v hf
 | getObj _ h2 h4 _ ih1 ih3=>intro f hf;exact .getObj (fun o ho=>ih1 o ho fun a ha S' hS'=>hf a ha S' fun r hr=>hS' r (.inl hr)) (fun o ho=>by rw [h2 o ho]) (fun o ho=>(h4 o ho).imp (fun e=>by rw [e]) fun ⟨h,hh,e⟩=>⟨h,hh,by rw [e];rfl⟩) (ih3 hf)
 | setObj h1 h2 _ ih=>intro f hf;exact .setObj h1 h2 (ih hf)
 | choose _ ih=>intro f hf;exact .choose fun v=>ih v hf
 | program _ h2 ih =>
  intro f hf
  refine .program (ih hf) (h2.imp (fun e=>by rw [e]) fun hd w=>?_)
  obtain ⟨h,w',hh,e⟩:=hd w
  exact ⟨h,w',hh,by show (_ >>= f).run PL w=_;rw [Sem.run_bind,e];rfl⟩
 | mark h1 h2 _ ih=>intro f hf;exact .mark h1 h2 (ih hf)
 | halt h=>intro f hf;exact .halt h
theorem Tm.bind {R : β->Prop} {s:Sem β} {f : β->Sem α} (h:Tm PL P R S s) (hf:∀ a,R a->∀ S':Nat->Prop,(∀ r,S r->S' r)->Tm PL P Q S' (f a)):Tm PL P Q S (s >>= f):=h.bind' hf
end
def Alike (P:Program) {α : Type} (Q : α->Prop) (s:Sem α) (wL w:World):Result α->Prop
 | .ok a wL'=>Q a/\∃ c,wL'.tape=wL.tape/\wL'.drawn=wL.drawn+c /\
  ((∀ j,j<c->w.tape (w.drawn+j)=wL.tape (wL.drawn+j))->∃ w',WR wL' w'/\w'.tape=w.tape/\w'.drawn=w.drawn+c/\KeepC w w'/\∀ es,∃ es',s.runT P w es=(.ok a w',es')/\∀ e ∈ es',e ∈ es \/ EvOk e)
 | .halt h _=>HaltOk h
section
variable {P : Program} {F : Array Func} {α : Type} {Q : α -> Prop}
theorem Alike.step {s s':Sem α} {wL w wL1 w1:World} {r:Result α} (h:Alike P Q s' wL1 w1 r)
 (h1:wL1.tape=wL.tape) (h2:wL1.drawn=wL.drawn) (h3:w1.tape=w.tape) (h4:w1.drawn=w.drawn) (hk:KeepC w w1)
 (he:∀ es,∃ es1,s.runT P w es=s'.runT P w1 es1/\∀ e ∈ es1,e ∈ es \/ EvOk e):Alike P Q s wL w r:=by
 cases r with
 | halt _ _=>exact h
 | ok a wL' =>
  obtain ⟨hq,c,t,d,k⟩:=h
  refine ⟨hq,c,t.trans h1,by rw [d,h2],fun hm=>?_⟩
  obtain ⟨w',r2,r3,r4,r5,r6⟩:=k fun j hj=>by rw [h3,h4,h1,h2];exact hm j hj
  refine ⟨w',r2,r3.trans h3,by rw [r4,h4],hk.trans r5,fun es=>?_⟩
  obtain ⟨es1,e1,e2⟩:=he es
  obtain ⟨es',f1,f2⟩:=r6 es1
  exact ⟨es',by rw [e1];exact f1,fun e he=>(f2 e he).elim (e2 e) .inr⟩
def frz (a:Addr) (n:Nat):Obj->Obj
 | .cells c elem (lo,hi)=>.cells c elem (if lo == hi then (a.off,a.off+n) else (min lo a.off,max hi (a.off+n)))
 | o=>o
theorem frz_chan (a:Addr) (n:Nat) (o:Obj) (h:isOp o=true):frz a n o=o:=by cases o <;> first | rfl | cases h
theorem frz_isChan (a:Addr) (n:Nat) (o:Obj):isOp (frz a n o)=isOp o:=by cases o <;> rfl
theorem freeze_eq (w:World) (a:Addr) {n:Nat} (h:n ≠ 0):w.freeze a n={ w with heap:=w.heap.modify a.block (frz a n) }:=by
 unfold World.freeze
 rw [if_neg h]
 congr 1
theorem ev_cell {a:Addr} {b1 b2:Bool}:EvOk ⟨.cell a,b1,b2⟩:=⟨by simp,by simp⟩
theorem ev_push {es:Array Event} {x:Event} (hx:EvOk x):∀ e ∈ es.push x,e ∈ es \/ EvOk e:=fun e he=>(Array.mem_push.1 he).elim .inl fun z=>.inr (z ▸ hx)
theorem ev_app {es:Array Event} {l:List Addr} {b1 b2:Bool}:∀ e ∈ es++l.toArray.map (⟨.cell ·,b1,b2⟩),e ∈ es \/ EvOk e:=fun e he=>(Array.mem_append.1 he).elim .inl fun z=>by
 obtain ⟨x,_,rfl⟩:=Array.mem_map.1 z
 exact .inr ev_cell
theorem ev_self {es:Array Event}:∀ e ∈ es,e ∈ es \/ EvOk e:=fun _ h=>.inl h
def setA (a:Addr) (v:Value):Obj->Obj
 | .cells c elem frozen=>.cells (if a.spot.isSome then c else c.setIfInBounds a.off v) elem frozen
 | o=>o
theorem setA_op (a:Addr) (v:Value) (o:Obj) (h:isOp o=true):setA a v o=o:=by cases o <;> first | rfl | cases h
theorem setA_loop (a:Addr) (v:Value) (o:Obj) (l:Loop) (h:setA a v o = .loop l):o = .loop l:=by cases o <;> first | exact h | cases h
theorem setA_isOp (a:Addr) (v:Value) (o:Obj):isOp (setA a v o)=isOp o:=by cases o <;> rfl
theorem setCell_eq (w:World) (a:Addr) (v:Value):w.setCell a v={ w with heap:=w.heap.modify a.block (setA a v) }:=by
 unfold World.setCell
 congr 1
theorem frz_loop (a:Addr) (n:Nat) (o:Obj) (l:Loop) (h:frz a n o = .loop l):o = .loop l:=by cases o <;> first | exact h | cases h
theorem keepS_modify {S:Nat->Prop} {w:World} {r:Nat} {f:Obj->Obj} (hf:∀ o,isOp (f o)=isOp o) (hS:∀ r:Nat,S r->∃ o:Obj,w.heap[r]? = some o/\isOp o=false) :
 ∀ x:Nat,S x->∃ o:Obj,({ w with heap:=w.heap.modify r f }:World).heap[x]? = some o/\isOp o=false:=by
 intro x hx
 obtain ⟨o,h1,h2⟩:=hS x hx
 show ∃ q,(w.heap.modify r f)[x]? = some q/\_
 rw [Array.getElem?_modify]
 split
 ·rw [h1];exact ⟨_,rfl,by rw [hf];exact h2⟩
 ·exact ⟨o,h1,h2⟩
theorem keepS_set {S:Nat->Prop} {w:World} {r:Nat} {o p:Obj} (hp:w.heap[r]? = some p) (ho:isOp o=false) (hS:∀ r:Nat,S r->∃ o:Obj,w.heap[r]? = some o/\isOp o=false) :
 ∀ x:Nat,S x->∃ q:Obj,({ w with heap:=w.heap.setIfInBounds r o }:World).heap[x]? = some q/\isOp q=false:=by
 intro x hx
 obtain ⟨q,h1,h2⟩:=hS x hx
 by_cases e:x=r
 ·subst e
  exact ⟨o,Array.getElem?_setIfInBounds_self_of_lt (Array.getElem?_eq_some_iff.1 hp).1,ho⟩
 ·exact ⟨q,by show (w.heap.setIfInBounds r o)[x]? = _;rw [Array.getElem?_setIfInBounds_ne (fun z=>e z.symm)];exact h1,h2⟩
theorem keepS_push {S:Nat->Prop} {w:World} {o:Obj} (hS:∀ r:Nat,S r->∃ o:Obj,w.heap[r]? = some o/\isOp o=false) :
 ∀ x:Nat,S x->∃ q:Obj,({ w with heap:=w.heap.push o }:World).heap[x]? = some q/\isOp q=false:=by
 intro x hx
 obtain ⟨q,h1,h2⟩:=hS x hx
 refine ⟨q,?_,h2⟩
 show (w.heap.push o)[x]? = _
 rw [Array.getElem?_push,if_neg (by have:=(Array.getElem?_eq_some_iff.1 h1).1;omega)];exact h1
set_option maxHeartbeats 1000000 in
theorem par {S:Nat->Prop} {s:Sem α} (h:Tm (alt P F) P Q S s):∀ (wL w:World),WR wL w->(∀ r:Nat,S r->∃ o:Obj,wL.heap[r]? = some o/\isOp o=false) ->
 Alike P Q s wL w (s.run (alt P F) wL):=by
 induction h with
 | pure hq=>exact fun wL w hw _=>⟨hq,0,rfl,rfl,fun _=>⟨w,hw,rfl,rfl,KeepC.refl w,fun es=>⟨es,rfl,ev_self⟩⟩⟩
 | @load S m a k _ ih =>
  intro wL w hw hS
  simp only [Sem.run]
  cases hc:wL.cell? a with
  | some v=>exact (ih v wL w hw hS).step rfl rfl rfl rfl (KeepC.refl w) fun es=>⟨_,by simp only [Sem.runT];rw [hw.cell,hc],ev_push ev_cell⟩
  | none =>
   cases hf:wL.farLoad (alt P F) a (m == .atomic) with
   | error _=>exact farLoad_ok hf
   | ok r =>
    obtain ⟨v,l⟩:=r
    exact (ih v wL w hw hS).step rfl rfl rfl rfl (KeepC.refl w) fun es=>⟨es++l.toArray.map (⟨.cell ·,false,m == .atomic⟩),by simp only [Sem.runT];rw [hw.cell,hc];simp only [farLoad_alike hw.heap a _ hf],ev_app⟩
 | @store S m a v k _ ih =>
  intro wL w hw hS
  have key:∀ v:Value,(∀ c,v ≠ .agg c)->(∀ c,v ≠ .tuple c)->Alike P Q (.store m a v k) wL w ((Sem.store m a v k).run (alt P F) wL):=by
   intro v hv1 hv2
   have e1:∀ (p:Program) (w:World),(Sem.store m a v k).run p w=(match w.cell? a with
    | some _ => if w.frozen? a then .halt (.unsupported (.unsafePointer "a write to bytes that a string shares")) w else k.run p (w.setCell a v)
    | none=>match w.farStore p a v (m == .atomic) with
     | .ok (w,touched)=>k.run p w
     | .error h=>.halt h w):=by
    intro p w
    cases v <;> first | rfl | exact absurd rfl (hv1 _) | exact absurd rfl (hv2 _)
   have e2:∀ (p:Program) (w:World) (es:Array Event),(Sem.store m a v k).runT p w es=(match w.cell? a with
    | some _ => if w.frozen? a then (.halt (.unsupported (.unsafePointer "a write to bytes that a string shares")) w, es) else k.runT p (w.setCell a v) (es.push ⟨.cell a, true, m == .atomic⟩)
    | none=>match w.farStore p a v (m == .atomic) with
     | .ok (w,touched)=>k.runT p w (es++touched.toArray.map (⟨.cell ·,true,m == .atomic⟩))
     | .error h=>(.halt h w,es)):=by
    intro p w es
    cases v <;> first | rfl | exact absurd rfl (hv1 _) | exact absurd rfl (hv2 _)
   rw [e1]
   cases hc:wL.cell? a with
   | some v0 =>
    simp only
    by_cases hz:wL.frozen? a=true
    ·rw [if_pos hz];trivial
    ·rw [if_neg hz,setCell_eq]
     exact (ih _ _ (hw.modify (setA_op a v) (setA_loop a v)) (keepS_modify (setA_isOp a v) hS)).step rfl rfl rfl rfl (KeepC.modify (setA_op a v))
      fun es=>⟨_,by rw [e2,hw.cell,hc,hw.frozen];simp only [hz,Bool.false_eq_true,↓reduceIte];rw [setCell_eq],ev_push ev_cell⟩
   | none =>
    simp only
    cases hf:wL.farStore (alt P F) a v (m == .atomic) with
    | error _=>exact farStore_ok hf
    | ok r =>
     obtain ⟨wL1,l⟩:=r
     obtain ⟨r,o,p,hp,hpc,hoc,rfl,hf'⟩:=farStore_alike hw.heap a v _ hf
     exact (ih _ _ (hw.set hp hpc hoc) (keepS_set hp hoc hS)).step rfl rfl rfl rfl (KeepC.set (hw.nochan hp hpc) hpc) fun es=>⟨es++l.toArray.map (⟨.cell ·,true,m == .atomic⟩),by rw [e2,hw.cell,hc];simp only [hf'],ev_app⟩
  cases v with
  | agg _=>trivial
  | tuple _=>trivial
  | _=>exact key _ (by intros;simp) (by intros;simp)
 | @new S o k h0 _ ih =>
  intro wL w hw hS
  simp only [Sem.run]
  exact (ih _ _ _ (hw.push o h0) (keepS_push hS)).step rfl rfl rfl rfl (KeepC.push o) fun es=>⟨es,by simp only [Sem.runT,hw.size],ev_self⟩
 | @shape S r k _ ih =>
  intro wL w hw hS
  simp only [Sem.run]
  exact (ih _ _ _ hw hS).step rfl rfl rfl rfl (KeepC.refl w) fun es=>⟨es,by simp only [Sem.runT,hw.shape],ev_self⟩
 | @freeze S a n k _ ih =>
  intro wL w hw hS
  simp only [Sem.run]
  by_cases h0:n=0
  ·have e1:∀ w:World,w.freeze a n=w:=fun w=>by simp [World.freeze,h0]
   rw [e1]
   exact (ih _ _ hw hS).step rfl rfl rfl rfl (KeepC.refl w) fun es=>⟨es,by simp only [Sem.runT,e1],ev_self⟩
  ·rw [freeze_eq _ _ h0]
   exact (ih _ _ (hw.modify (frz_chan a n) (frz_loop a n)) (keepS_modify (frz_isChan a n) hS)).step rfl rfl rfl rfl (KeepC.modify (frz_chan a n)) fun es=>⟨es,by simp only [Sem.runT];rw [freeze_eq _ _ h0],ev_self⟩
 | @frozen S a k _ ih =>
  intro wL w hw hS
  simp only [Sem.run]
  exact (ih _ _ _ hw hS).step rfl rfl rfl rfl (KeepC.refl w) fun es=>⟨es,by simp only [Sem.runT,hw.frozen],ev_self⟩
 | @getObj S r k _ h2 h4 _ ih1 ih3 =>
  intro wL w hw hS
  cases ho:wL.heap[r]? with
  | none=>simp only [Sem.run,ho];trivial
  | some o =>
   by_cases hc:isOp o=true
   ·have hch:o.isChan=true:=by
     cases o <;> first | rfl | (cases hc;done) | exact absurd ho (hw.noloop r _)
    have hb:=hw.heap r
    rw [ho] at hb
    obtain ⟨p,hp,hpc⟩:∃ p:Obj,w.heap[r]? = some p/\isOp p=true:=by
     rcases hb with e | ⟨x,y,e1,e2,h1,h2⟩
     ·exact ⟨o,e.symm,hc⟩
     ·exact ⟨y,e2,h2⟩
    have e0:(Sem.getObj r k).run (alt P F) wL=(k ch0).run (alt P F) wL:=by
     rw [<-h2 o hch]
     simp only [Sem.run,ho]
     cases o <;> first | rfl | cases hch
    rw [e0]
    rcases h4 p hpc with e | ⟨hh,hk,e⟩
    ·refine (ih3 wL w hw hS).step rfl rfl rfl rfl (KeepC.refl w) fun es=>⟨es.push ⟨.obj r,false,p.isChan⟩,?_,ev_push ⟨by simp,by simp⟩⟩
     simp only [Sem.runT,hp,<-e]
     cases p <;> first | rfl | cases hpc
    ·rw [e];exact hk
   ·have hc:isOp o=false:=by simpa using hc
    by_cases hcl:∃ c e f,o = .cells c e f
    ·obtain ⟨c,e,f,rfl⟩:=hcl;simp only [Sem.run,ho];trivial
    ·have e0:(Sem.getObj r k).run (alt P F) wL=(k o).run (alt P F) wL:=by
      simp only [Sem.run,ho]
      cases o <;> first | rfl | exact absurd ⟨_,_,_,rfl⟩ hcl
     rw [e0]
     refine (ih1 o hc wL w hw (fun x hx=>?_)).step rfl rfl rfl rfl (KeepC.refl w) fun es=>⟨es.push ⟨.obj r,false,o.isChan⟩,?_,ev_push ⟨by simp,by simp⟩⟩
     ·rcases hx with hx | rfl
      ·exact hS x hx
      ·exact ⟨o,ho,hc⟩
     ·simp only [Sem.runT,hw.nochan ho hc]
      cases o <;> first | rfl | exact absurd ⟨_,_,_,rfl⟩ hcl
 | @setObj S r o k h1 h2 _ ih =>
  intro wL w hw hS
  obtain ⟨p,hp,hpc⟩:=hS r h1
  by_cases hcl:∃ c e f,p = .cells c e f
  ·obtain ⟨c,e,f,rfl⟩:=hcl
   simp only [Sem.run,hp];trivial
  ·have g:(Sem.setObj r o k).run (alt P F) wL=k.run (alt P F) { wL with heap:=wL.heap.setIfInBounds r o }:=by
    simp only [Sem.run,hp]
    cases p <;> first | rfl | exact absurd ⟨_,_,_,rfl⟩ hcl
   rw [g]
   refine (ih _ _ (hw.set hp hpc h2) (keepS_set hp h2 hS)).step rfl rfl rfl rfl (KeepC.set (hw.nochan hp hpc) hpc) fun es=>⟨es.push ⟨.obj r,true,o.isChan⟩,?_,ev_push ⟨by simp,by simp⟩⟩
   simp only [Sem.runT,hw.nochan hp hpc]
   cases p <;> first | rfl | exact absurd ⟨_,_,_,rfl⟩ hcl
 | @choose S q k _ ih =>
  intro wL w hw hS
  simp only [Sem.run]
  by_cases hf:q.forced=true
  ·rw [if_pos hf]
   exact (ih _ _ _ hw hS).step rfl rfl rfl rfl (KeepC.refl w) fun es=>⟨es,by simp only [Sem.runT,hf,if_true],ev_self⟩
  ·rw [if_neg hf]
   have:=ih (q.cut (wL.tape wL.drawn q)) { wL with drawn:=wL.drawn+1 } { w with drawn:=w.drawn+1 } ⟨hw.size,hw.os,hw.out,hw.heap,hw.noloop⟩ hS
   revert this
   generalize (k (q.cut (wL.tape wL.drawn q))).run (alt P F) { wL with drawn:=wL.drawn+1 }=r
   cases r with
   | halt _ _=>exact id
   | ok a wL' =>
    rintro ⟨hq,c,t,d,K⟩
    refine ⟨hq,c+1,t,by rw [d];show wL.drawn+1+c=_;omega,fun hm=>?_⟩
    obtain ⟨w',r2,r3,r4,r5,r6⟩:=K fun j hj=>by
     have:=hm (j+1) (by omega)
     show w.tape (w.drawn+1+j)=wL.tape (wL.drawn+1+j)
     rw [show w.drawn+1+j=w.drawn+(j+1) by omega,show wL.drawn+1+j=wL.drawn+(j+1) by omega];exact this
    refine ⟨w',r2,r3,by rw [r4];show w.drawn+1+c=_;omega,r5,fun es=>?_⟩
    obtain ⟨es',f1,f2⟩:=r6 es
    refine ⟨es',?_,f2⟩
    have h0:=hm 0 (by omega)
    simp only [Nat.add_zero] at h0
    simp only [Sem.runT,hf,Bool.false_eq_true,↓reduceIte,h0]
    exact f1
 | @program S k _ h2 ih =>
  intro wL w hw hS
  simp only [Sem.run]
  rcases h2 with e | hd
  ·exact (ih wL w hw hS).step rfl rfl rfl rfl (KeepC.refl w) fun es=>⟨es,by simp only [Sem.runT,e],ev_self⟩
  ·obtain ⟨h,w',hk,e⟩:=hd wL
   rw [e];exact hk
 | @mark S m k h1 h2 _ ih =>
  intro wL w hw hS
  simp only [Sem.run]
  exact (ih wL w hw hS).step rfl rfl rfl rfl (KeepC.refl w) fun es=>⟨es.push ⟨.mark m,false,true⟩,by simp only [Sem.runT],ev_push ⟨by simpa using h1,by simpa using h2⟩⟩
 | halt h=>intro wL w _ _;exact h
end
end Cv
namespace Cv
open Go
def TT (P:Program) (F:Array Func) {α : Type} (s:Sem α):Prop:=∀ S,Tm (alt P F) P (fun _=>True) S s
section
variable {P : Program} {F : Array Func} {α β : Type}
theorem TT.pure {a : α}:TT P F (pure a:Sem α):=fun _=>.pure trivial
theorem TT.halt {h:Halt} (hh:HaltOk h):TT P F (.halt h:Sem α):=fun _=>.halt hh
theorem TT.stuck {w:String}:TT P F (stuck w:Sem α):=fun _=>.halt trivial
theorem TT.unsupported {u:Unsupported}:TT P F (unsupported u:Sem α):=fun _=>.halt trivial
theorem TT.goPanic {v:Value}:TT P F (goPanic v:Sem α):=fun _=>.halt trivial
theorem TT.bind {s:Sem β} {f : β->Sem α} (h:TT P F s) (hf:∀ a,TT P F (f a)):TT P F (s >>= f):=fun S=>(h S).bind fun a _ S' _=>hf a S'
theorem TT.map {s:Sem β} {f : β->α} (h:TT P F s):TT P F (f <$> s):=by
 have:(f <$> s)=s >>= fun a=>Pure.pure (f a):=rfl
 rw [this]
 exact h.bind fun _=>TT.pure
theorem TT.bindQ {R : β->Prop} {s:Sem β} {f : β->Sem α} (h:∀ S,Tm (alt P F) P R S s) (hf:∀ a,R a->TT P F (f a)):TT P F (s >>= f):=fun S=>(h S).bind fun a ha S' _=>hf a ha S'
theorem TT.ite {c:Prop} [Decidable c] {s t:Sem α} (h1:c->TT P F s) (h2:¬ c->TT P F t):TT P F (if c then s else t):=by
 by_cases h:c
 ·rw [if_pos h];exact h1 h
 ·rw [if_neg h];exact h2 h
theorem tm_program {S:Nat->Prop} {Q : α->Prop} {f:Program->Sem α} (h:Tm (alt P F) P Q S (f (alt P F))) (e:f P=f (alt P F)):Tm (alt P F) P Q S (program >>= f):=Tm.program (k:=f) h (.inl e)
theorem TT.program {f:Program->Sem α} (h:TT P F (f (alt P F))) (e:f P=f (alt P F)):TT P F (program >>= f):=fun S=>tm_program (h S) e
theorem TT.choose (q:Question):TT P F (choose q):=fun _=>.choose fun _=>.pure trivial
theorem TT.load (a:Addr) (m:Mode):TT P F (load a m):=fun _=>.load fun _=>.pure trivial
theorem TT.store (a:Addr) (v:Value) (m:Mode):TT P F (store a v m):=fun _=>.store (.pure trivial)
theorem TT.newObj (o:Obj) (h:∀ l,o ≠ .loop l):TT P F (newObj o):=fun _=>.new h fun _=>.pure trivial
theorem TT.shape (r:Nat):TT P F (shape r):=fun _=>.shape fun _=>.pure trivial
theorem TT.frozen (a:Addr):TT P F (frozen a):=fun _=>.frozen fun _=>.pure trivial
theorem TT.getObj {r:Nat} {f:Obj->Sem α} (h:∀ o,TT P F (f o)) (e:∀ o:Obj,isOp o=true->f o=f ch0):TT P F (getObj r >>= f) :=
 fun _=>Tm.getObj (k:=f) (fun o _=>h o _) (fun o ho=>e o (isOp_of ho)) (fun o ho=>.inl (e o ho)) (h ch0 _)
theorem TT.askRoom (b:Nat):TT P F (askRoom b):=by
 unfold Go.askRoom
 exact TT.ite (fun _ _=>.mark (by simp) (by simp) (.pure trivial)) fun _=>TT.pure
theorem TT.mark {m:Mark} (h1:m ≠ .disable) (h2:m ≠ .enable):TT P F (mark m):=fun _=>.mark h1 h2 (.pure trivial)
theorem tm_typeInfo (t:TypeId) (S:Nat->Prop):Tm (alt P F) P (fun i=>P.info? t=some i) S (typeInfo t):=by
 unfold typeInfo
 refine tm_program ?_ rfl
 rw [alt_info]
 cases h:P.info? t with
 | none=>exact .halt trivial
 | some i=>exact .pure rfl
theorem TT.typeInfo (t:TypeId):TT P F (typeInfo t):=fun S=>(tm_typeInfo t S).mono (fun _ h=>h) fun _ _=>trivial
theorem tm_underlying (t:TypeId) (S:Nat->Prop):Tm (alt P F) P (fun i=>P.underlying t=some i) S (underlying t):=by
 unfold underlying
 refine tm_program ?_ rfl
 rw [alt_underlying]
 cases h:P.underlying t with
 | none=>exact .halt trivial
 | some i=>exact .pure rfl
theorem TT.underlying (t:TypeId):TT P F (underlying t):=fun S=>(tm_underlying t S).mono (fun _ h=>h) fun _ _=>trivial
theorem TT.zeroValue (t:TypeId):TT P F (zeroValue t):=by
 unfold Go.zeroValue
 refine (TT.typeInfo t).bind fun i=>?_
 split
 ·exact TT.pure
 ·exact TT.unsupported
theorem TT.sizeOf (t:TypeId):TT P F (sizeOf t):=by
 unfold Go.sizeOf
 exact (TT.typeInfo t).bind fun i=>TT.pure
theorem TT.isAgg (t:TypeId):TT P F (isAgg t):=by
 unfold Go.isAgg
 refine (TT.underlying t).bind fun i=>?_
 split <;> exact TT.pure
theorem TT.elemOf (t:TypeId):TT P F (elemOf t):=by
 unfold Go.elemOf
 refine (TT.underlying t).bind fun i=>?_
 split
 ·exact TT.pure
 ·exact TT.stuck
theorem TT.loadCellsFrom (a:Addr):∀ (n i:Nat) (acc:Array Value),TT P F (loadCellsFrom a i n acc)
 | 0,_,_=>TT.pure
 | n+1,i,acc=>by
  unfold Go.loadCellsFrom
  exact (TT.load _ _).bind fun v=>TT.loadCellsFrom a n (i+1) (acc.push v)
theorem TT.loadCells (a:Addr) (n:Nat):TT P F (loadCells a n):=TT.loadCellsFrom a n 0 #[]
theorem TT.storeCells (a:Addr):∀ (vs:List Value) (i:Nat),TT P F (storeCells a vs i)
 | [],_=>by unfold Go.storeCells;exact TT.pure
 | v::vs,i=>by unfold Go.storeCells;exact (TT.store _ _ _).bind fun _=>TT.storeCells a vs (i+1)
theorem TT.loadVar (t:TypeId) (a:Addr):TT P F (loadVar t a):=by
 unfold Go.loadVar
 refine (TT.isAgg t).bind fun b=>TT.ite (fun _=>?_) fun _=>TT.load _ _
 exact (TT.sizeOf t).bind fun n=>(TT.loadCells _ _).bind fun _=>TT.pure
theorem TT.storeVar (t:TypeId) (a:Addr) (v:Value):TT P F (storeVar t a v):=by
 unfold Go.storeVar
 refine (TT.sizeOf t).bind fun n=>?_
 refine TT.ite (fun _=>TT.stuck.bind fun _=>TT.storeCells _ _ _) fun _=>?_
 first | exact TT.storeCells _ _ _ | exact TT.pure.bind fun _=>TT.storeCells _ _ _
theorem TT.newRow (t:TypeId) (cs:Array Value):TT P F (newRow t cs):=by
 unfold Go.newRow
 exact (TT.newObj _ (by simp)).bind fun _=>TT.pure
theorem TT.newVar (t:TypeId) (v:Value):TT P F (newVar t v):=TT.newRow _ _
theorem TT.part (t:TypeId) (cs:Array Value) (off:Nat):TT P F (part t cs off):=by
 unfold Go.part
 refine (TT.isAgg t).bind fun b=>TT.ite (fun _=>?_) fun _=>?_
 ·exact (TT.sizeOf t).bind fun n=>TT.pure
 ·split
  ·exact TT.pure
  ·exact TT.stuck
theorem TT.runtimePanic (e:RuntimeError):TT P F (runtimePanic e:Sem α):=by
 unfold Go.runtimePanic
 refine TT.program ?_ (by cases e <;> rfl)
 cases e with
 | typeAssertion i c a m=>exact (TT.elemOf _).bind fun _=>(TT.newVar _ _).bind fun _=>TT.goPanic
 | panicNil=>exact (TT.elemOf _).bind fun _=>(TT.newVar _ _).bind fun _=>TT.goPanic
 | _=>exact TT.goPanic
theorem TT.boundsPanic (k:IntKind) (x y:Int) (c:BoundsCode):TT P F (boundsPanic k x y c:Sem α):=by
 unfold Go.boundsPanic
 dsimp only
 split
 ·exact (TT.choose _).map.bind fun _=>TT.runtimePanic _
 ·exact TT.pure.bind fun _=>TT.runtimePanic _
theorem TT.asIntOf (v:Value):TT P F (asIntOf v):=by
 unfold Go.asIntOf
 split
 ·exact TT.pure
 ·exact TT.unsupported
 ·exact TT.stuck
theorem TT.asInt (v:Value):TT P F (asInt v):=by
 unfold Go.asInt
 exact (TT.asIntOf v).bind fun _=>TT.pure
theorem TT.asBool (v:Value):TT P F (asBool v):=by
 unfold Go.asBool
 split
 ·exact TT.pure
 ·exact TT.stuck
theorem TT.asAgg (v:Value):TT P F (asAgg v):=by
 unfold Go.asAgg
 split
 ·exact TT.pure
 ·exact TT.stuck
theorem TT.asAddr (v:Value):TT P F (asAddr v):=by
 unfold Go.asAddr
 split
 ·exact TT.pure
 ·exact TT.runtimePanic _
 ·exact TT.stuck
theorem TT.sureAddr (v:Value):TT P F (Instr.sureAddr v):=by
 unfold Instr.sureAddr
 split
 ·exact TT.pure
 ·exact TT.stuck
theorem TT.mapL {f : β->Sem α} (h:∀ b,TT P F (f b)):∀ l:List β,TT P F (l.mapM f)
 | []=>by rw [List.mapM_nil];exact TT.pure
 | b::l=>by rw [List.mapM_cons];exact (h b).bind fun _=>(TT.mapL h l).bind fun _=>TT.pure
theorem TT.mapA {f : β->Sem α} (h:∀ b,TT P F (f b)) (l:Array β):TT P F (l.mapM f):=by
 rw [Array.mapM_eq_mapM_toList]
 exact (TT.mapL h _).map
theorem TT.foldL {σ : Type} {f : σ->β->Sem σ} (h:∀ x b,TT P F (f x b)):∀ (l:List β) (x : σ),TT P F (l.foldlM f x)
 | [],x=>by rw [List.foldlM_nil];exact TT.pure
 | b::l,x=>by rw [List.foldlM_cons];exact (h x b).bind fun _=>TT.foldL h l _
end
end Cv
namespace Cv
open Go
section
variable {P : Program} {F : Array Func} {α β : Type}
theorem TT.viewAt (r:Nat):TT P F (viewAt r):=by
 unfold Go.viewAt
 refine (TT.shape _).bind fun v=>?_
 split
 ·exact TT.pure
 ·refine TT.getObj (fun o=>?_) fun o ho=>by cases o <;> first | rfl | cases ho
  split <;> exact TT.pure
theorem TT.numberAt (r:Nat):TT P F (numberAt r):=by
 unfold Go.numberAt
 refine (TT.shape _).bind fun v=>?_
 split
 ·exact TT.pure
 ·refine TT.getObj (fun o=>?_) fun o ho=>by cases o <;> first | rfl | cases ho
  split <;> exact TT.pure
theorem TT.behindNumber (a:Addr):TT P F (behindNumber a):=by
 unfold Go.behindNumber
 exact (TT.numberAt _).bind fun _=>TT.pure
theorem TT.noView (a:Addr):TT P F (noView a):=by
 unfold Go.noView
 refine (TT.viewAt _).bind fun v=>?_
 split
 ·exact TT.unsupported
 ·exact TT.pure
theorem TT.byteOf (a:Addr):TT P F (byteOf a):=by
 unfold Go.byteOf
 split
 ·exact TT.pure
 ·refine TT.program ?_ (by simp only [alt_byteOfCell,alt_cellsOf,alt_bytesOf,alt_depth])
  refine (TT.noView _).bind fun _=>(TT.shape _).bind fun v=>?_
  split
  ·dsimp only
   split
   ·exact TT.pure
   ·split
    ·exact TT.pure
    ·exact TT.stuck
  ·exact TT.stuck
theorem TT.partAt (a:Addr) (c b:Nat):TT P F (partAt a c b):=by
 unfold Go.partAt
 exact (TT.byteOf _).bind fun _=>(TT.byteOf _).bind fun _=>TT.pure
theorem TT.fieldPlace (a:Addr) (f:Field):TT P F (fieldPlace a f):=by
 unfold Go.fieldPlace
 refine (TT.sizeOf _).bind fun n=>?_
 split
 ·exact TT.partAt _ _ _
 ·exact TT.pure
theorem TT.sliceBound (x:Value) (y:Nat) (c:BoundsCode):TT P F (Instr.sliceBound x y c):=by
 unfold Instr.sliceBound
 refine (TT.asIntOf _).bind fun n=>?_
 dsimp only
 split
 ·exact TT.pure
 ·exact TT.boundsPanic _ _ _ _
theorem TT.sliceBounds (b:Bool) (len cap:Nat) (lo hi mx:Option Value):TT P F (Instr.sliceBounds b len cap lo hi mx):=by
 unfold Instr.sliceBounds
 repeat' (first
  | with_reducible first
   | exact TT.pure | exact TT.stuck | exact TT.unsupported | exact TT.goPanic | exact TT.runtimePanic _ | exact TT.boundsPanic _ _ _ _
   | exact TT.part _ _ _ | exact TT.loadVar _ _ | exact TT.storeVar _ _ _ | exact TT.newVar _ _ | exact TT.newRow _ _ | exact TT.loadCells _ _ | exact TT.storeCells _ _ _
   | exact TT.asBool _ | exact TT.asInt _ | exact TT.byteOf _ | exact TT.behindNumber _ | exact TT.choose _
   | refine (TT.typeInfo _).bind fun _=>?_ | refine (TT.underlying _).bind fun _=>?_ | refine (TT.sizeOf _).bind fun _=>?_ | refine (TT.zeroValue _).bind fun _=>?_
   | refine (TT.asInt _).bind fun _=>?_ | refine (TT.asIntOf _).bind fun _=>?_ | refine (TT.asBool _).bind fun _=>?_ | refine (TT.asAgg _).bind fun _=>?_ | refine (TT.asAddr _).bind fun _=>?_ | refine (TT.sureAddr _).bind fun _=>?_
   | refine (TT.newVar _ _).bind fun _=>?_ | refine (TT.newRow _ _).bind fun _=>?_ | refine (TT.newObj _ (by simp)).bind fun _=>?_ | refine (TT.choose _).bind fun _=>?_ | refine (TT.askRoom _).bind fun _=>?_
   | refine (TT.loadCells _ _).bind fun _=>?_ | refine (TT.storeCells _ _ _).bind fun _=>?_ | refine (TT.byteOf _).bind fun _=>?_ | refine (TT.fieldPlace _ _).bind fun _=>?_ | refine (TT.part _ _ _).bind fun _=>?_ | refine (TT.viewAt _).bind fun _=>?_ | refine (TT.numberAt _).bind fun _=>?_ | refine (TT.behindNumber _).bind fun _=>?_ | refine (TT.shape _).bind fun _=>?_ | refine (TT.frozen _).bind fun _=>?_ | refine (TT.sliceBound _ _ _).bind fun _=>?_ | refine (TT.boundsPanic _ _ _ _).bind fun _=>?_ | refine (TT.runtimePanic _).bind fun _=>?_
   | refine TT.stuck.bind fun _=>?_ | refine TT.unsupported.bind fun _=>?_ | refine TT.pure.bind fun _=>?_ | refine TT.bind ?_ fun _=>?_
  | split | dsimp only)
theorem TT.alloc (t:TypeId):TT P F (Instr.alloc t true (.tuple #[])):=by
 unfold Instr.alloc
 repeat' (first
  | with_reducible first
   | exact TT.pure | exact TT.stuck | exact TT.unsupported | exact TT.goPanic | exact TT.runtimePanic _ | exact TT.boundsPanic _ _ _ _
   | exact TT.part _ _ _ | exact TT.loadVar _ _ | exact TT.storeVar _ _ _ | exact TT.newVar _ _ | exact TT.newRow _ _ | exact TT.loadCells _ _ | exact TT.storeCells _ _ _
   | exact TT.asBool _ | exact TT.asInt _ | exact TT.byteOf _ | exact TT.behindNumber _ | exact TT.choose _
   | refine (TT.typeInfo _).bind fun _=>?_ | refine (TT.underlying _).bind fun _=>?_ | refine (TT.sizeOf _).bind fun _=>?_ | refine (TT.zeroValue _).bind fun _=>?_
   | refine (TT.asInt _).bind fun _=>?_ | refine (TT.asIntOf _).bind fun _=>?_ | refine (TT.asBool _).bind fun _=>?_ | refine (TT.asAgg _).bind fun _=>?_ | refine (TT.asAddr _).bind fun _=>?_ | refine (TT.sureAddr _).bind fun _=>?_
   | refine (TT.newVar _ _).bind fun _=>?_ | refine (TT.newRow _ _).bind fun _=>?_ | refine (TT.newObj _ (by simp)).bind fun _=>?_ | refine (TT.choose _).bind fun _=>?_ | refine (TT.askRoom _).bind fun _=>?_
   | refine (TT.loadCells _ _).bind fun _=>?_ | refine (TT.storeCells _ _ _).bind fun _=>?_ | refine (TT.byteOf _).bind fun _=>?_ | refine (TT.fieldPlace _ _).bind fun _=>?_ | refine (TT.part _ _ _).bind fun _=>?_ | refine (TT.viewAt _).bind fun _=>?_ | refine (TT.numberAt _).bind fun _=>?_ | refine (TT.behindNumber _).bind fun _=>?_ | refine (TT.shape _).bind fun _=>?_ | refine (TT.frozen _).bind fun _=>?_ | refine (TT.sliceBound _ _ _).bind fun _=>?_ | refine (TT.boundsPanic _ _ _ _).bind fun _=>?_ | refine (TT.runtimePanic _).bind fun _=>?_
   | refine TT.stuck.bind fun _=>?_ | refine TT.unsupported.bind fun _=>?_ | refine TT.pure.bind fun _=>?_ | refine TT.bind ?_ fun _=>?_
  | split | dsimp only)
theorem TT.box (t:TypeId) (v:Value):TT P F (Instr.box t v):=by
 unfold Instr.box
 repeat' (first
  | with_reducible first
   | exact TT.pure | exact TT.stuck | exact TT.unsupported | exact TT.goPanic | exact TT.runtimePanic _ | exact TT.boundsPanic _ _ _ _
   | exact TT.part _ _ _ | exact TT.loadVar _ _ | exact TT.storeVar _ _ _ | exact TT.newVar _ _ | exact TT.newRow _ _ | exact TT.loadCells _ _ | exact TT.storeCells _ _ _
   | exact TT.asBool _ | exact TT.asInt _ | exact TT.byteOf _ | exact TT.behindNumber _ | exact TT.choose _
   | refine (TT.typeInfo _).bind fun _=>?_ | refine (TT.underlying _).bind fun _=>?_ | refine (TT.sizeOf _).bind fun _=>?_ | refine (TT.zeroValue _).bind fun _=>?_
   | refine (TT.asInt _).bind fun _=>?_ | refine (TT.asIntOf _).bind fun _=>?_ | refine (TT.asBool _).bind fun _=>?_ | refine (TT.asAgg _).bind fun _=>?_ | refine (TT.asAddr _).bind fun _=>?_ | refine (TT.sureAddr _).bind fun _=>?_
   | refine (TT.newVar _ _).bind fun _=>?_ | refine (TT.newRow _ _).bind fun _=>?_ | refine (TT.newObj _ (by simp)).bind fun _=>?_ | refine (TT.choose _).bind fun _=>?_ | refine (TT.askRoom _).bind fun _=>?_
   | refine (TT.loadCells _ _).bind fun _=>?_ | refine (TT.storeCells _ _ _).bind fun _=>?_ | refine (TT.byteOf _).bind fun _=>?_ | refine (TT.fieldPlace _ _).bind fun _=>?_ | refine (TT.part _ _ _).bind fun _=>?_ | refine (TT.viewAt _).bind fun _=>?_ | refine (TT.numberAt _).bind fun _=>?_ | refine (TT.behindNumber _).bind fun _=>?_ | refine (TT.shape _).bind fun _=>?_ | refine (TT.frozen _).bind fun _=>?_ | refine (TT.sliceBound _ _ _).bind fun _=>?_ | refine (TT.boundsPanic _ _ _ _).bind fun _=>?_ | refine (TT.runtimePanic _).bind fun _=>?_
   | refine TT.stuck.bind fun _=>?_ | refine TT.unsupported.bind fun _=>?_ | refine TT.pure.bind fun _=>?_ | refine TT.bind ?_ fun _=>?_
  | split | dsimp only)
theorem TT.build (t:TypeId) (ps:Array (Nat × Value)):TT P F (Instr.build t ps):=by
 unfold Instr.build
 refine (TT.zeroValue _).bind fun z=>(TT.underlying _).bind fun d=>?_
 split
 ·refine (TT.mapA (fun f=>(TT.sizeOf _).bind fun _=>TT.pure) _).bind fun ps=>?_
  repeat' (first
  | with_reducible first
   | exact TT.pure | exact TT.stuck | exact TT.unsupported | exact TT.goPanic | exact TT.runtimePanic _ | exact TT.boundsPanic _ _ _ _
   | exact TT.part _ _ _ | exact TT.loadVar _ _ | exact TT.storeVar _ _ _ | exact TT.newVar _ _ | exact TT.newRow _ _ | exact TT.loadCells _ _ | exact TT.storeCells _ _ _
   | exact TT.asBool _ | exact TT.asInt _ | exact TT.byteOf _ | exact TT.behindNumber _ | exact TT.choose _
   | refine (TT.typeInfo _).bind fun _=>?_ | refine (TT.underlying _).bind fun _=>?_ | refine (TT.sizeOf _).bind fun _=>?_ | refine (TT.zeroValue _).bind fun _=>?_
   | refine (TT.asInt _).bind fun _=>?_ | refine (TT.asIntOf _).bind fun _=>?_ | refine (TT.asBool _).bind fun _=>?_ | refine (TT.asAgg _).bind fun _=>?_ | refine (TT.asAddr _).bind fun _=>?_ | refine (TT.sureAddr _).bind fun _=>?_
   | refine (TT.newVar _ _).bind fun _=>?_ | refine (TT.newRow _ _).bind fun _=>?_ | refine (TT.newObj _ (by simp)).bind fun _=>?_ | refine (TT.choose _).bind fun _=>?_ | refine (TT.askRoom _).bind fun _=>?_
   | refine (TT.loadCells _ _).bind fun _=>?_ | refine (TT.storeCells _ _ _).bind fun _=>?_ | refine (TT.byteOf _).bind fun _=>?_ | refine (TT.fieldPlace _ _).bind fun _=>?_ | refine (TT.part _ _ _).bind fun _=>?_ | refine (TT.viewAt _).bind fun _=>?_ | refine (TT.numberAt _).bind fun _=>?_ | refine (TT.behindNumber _).bind fun _=>?_ | refine (TT.shape _).bind fun _=>?_ | refine (TT.frozen _).bind fun _=>?_ | refine (TT.sliceBound _ _ _).bind fun _=>?_ | refine (TT.boundsPanic _ _ _ _).bind fun _=>?_ | refine (TT.runtimePanic _).bind fun _=>?_
   | refine TT.stuck.bind fun _=>?_ | refine TT.unsupported.bind fun _=>?_ | refine TT.pure.bind fun _=>?_ | refine TT.bind ?_ fun _=>?_
  | split | dsimp only)
 ·repeat' (first
  | with_reducible first
   | exact TT.pure | exact TT.stuck | exact TT.unsupported | exact TT.goPanic | exact TT.runtimePanic _ | exact TT.boundsPanic _ _ _ _
   | exact TT.part _ _ _ | exact TT.loadVar _ _ | exact TT.storeVar _ _ _ | exact TT.newVar _ _ | exact TT.newRow _ _ | exact TT.loadCells _ _ | exact TT.storeCells _ _ _
   | exact TT.asBool _ | exact TT.asInt _ | exact TT.byteOf _ | exact TT.behindNumber _ | exact TT.choose _
   | refine (TT.typeInfo _).bind fun _=>?_ | refine (TT.underlying _).bind fun _=>?_ | refine (TT.sizeOf _).bind fun _=>?_ | refine (TT.zeroValue _).bind fun _=>?_
   | refine (TT.asInt _).bind fun _=>?_ | refine (TT.asIntOf _).bind fun _=>?_ | refine (TT.asBool _).bind fun _=>?_ | refine (TT.asAgg _).bind fun _=>?_ | refine (TT.asAddr _).bind fun _=>?_ | refine (TT.sureAddr _).bind fun _=>?_
   | refine (TT.newVar _ _).bind fun _=>?_ | refine (TT.newRow _ _).bind fun _=>?_ | refine (TT.newObj _ (by simp)).bind fun _=>?_ | refine (TT.choose _).bind fun _=>?_ | refine (TT.askRoom _).bind fun _=>?_
   | refine (TT.loadCells _ _).bind fun _=>?_ | refine (TT.storeCells _ _ _).bind fun _=>?_ | refine (TT.byteOf _).bind fun _=>?_ | refine (TT.fieldPlace _ _).bind fun _=>?_ | refine (TT.part _ _ _).bind fun _=>?_ | refine (TT.viewAt _).bind fun _=>?_ | refine (TT.numberAt _).bind fun _=>?_ | refine (TT.behindNumber _).bind fun _=>?_ | refine (TT.shape _).bind fun _=>?_ | refine (TT.frozen _).bind fun _=>?_ | refine (TT.sliceBound _ _ _).bind fun _=>?_ | refine (TT.boundsPanic _ _ _ _).bind fun _=>?_ | refine (TT.runtimePanic _).bind fun _=>?_
   | refine TT.stuck.bind fun _=>?_ | refine TT.unsupported.bind fun _=>?_ | refine TT.pure.bind fun _=>?_ | refine TT.bind ?_ fun _=>?_
  | split | dsimp only)
 ·exact TT.stuck
theorem TT.buildSlice (t:TypeId) (n:Nat) (ps:Array (Nat × Value)):TT P F (Instr.buildSlice t n ps):=by
 unfold Instr.buildSlice
 repeat' (first
  | with_reducible first
   | exact TT.pure | exact TT.stuck | exact TT.unsupported | exact TT.goPanic | exact TT.runtimePanic _ | exact TT.boundsPanic _ _ _ _
   | exact TT.part _ _ _ | exact TT.loadVar _ _ | exact TT.storeVar _ _ _ | exact TT.newVar _ _ | exact TT.newRow _ _ | exact TT.loadCells _ _ | exact TT.storeCells _ _ _
   | exact TT.asBool _ | exact TT.asInt _ | exact TT.byteOf _ | exact TT.behindNumber _ | exact TT.choose _
   | refine (TT.typeInfo _).bind fun _=>?_ | refine (TT.underlying _).bind fun _=>?_ | refine (TT.sizeOf _).bind fun _=>?_ | refine (TT.zeroValue _).bind fun _=>?_
   | refine (TT.asInt _).bind fun _=>?_ | refine (TT.asIntOf _).bind fun _=>?_ | refine (TT.asBool _).bind fun _=>?_ | refine (TT.asAgg _).bind fun _=>?_ | refine (TT.asAddr _).bind fun _=>?_ | refine (TT.sureAddr _).bind fun _=>?_
   | refine (TT.newVar _ _).bind fun _=>?_ | refine (TT.newRow _ _).bind fun _=>?_ | refine (TT.newObj _ (by simp)).bind fun _=>?_ | refine (TT.choose _).bind fun _=>?_ | refine (TT.askRoom _).bind fun _=>?_
   | refine (TT.loadCells _ _).bind fun _=>?_ | refine (TT.storeCells _ _ _).bind fun _=>?_ | refine (TT.byteOf _).bind fun _=>?_ | refine (TT.fieldPlace _ _).bind fun _=>?_ | refine (TT.part _ _ _).bind fun _=>?_ | refine (TT.viewAt _).bind fun _=>?_ | refine (TT.numberAt _).bind fun _=>?_ | refine (TT.behindNumber _).bind fun _=>?_ | refine (TT.shape _).bind fun _=>?_ | refine (TT.frozen _).bind fun _=>?_ | refine (TT.sliceBound _ _ _).bind fun _=>?_ | refine (TT.boundsPanic _ _ _ _).bind fun _=>?_ | refine (TT.runtimePanic _).bind fun _=>?_
   | refine TT.stuck.bind fun _=>?_ | refine TT.unsupported.bind fun _=>?_ | refine TT.pure.bind fun _=>?_ | refine TT.bind ?_ fun _=>?_
  | split | dsimp only)
theorem TT.loadAt (t:TypeId) (v:Value):TT P F (Instr.loadAt t v):=by
 unfold Instr.loadAt
 exact (TT.sureAddr _).bind fun _=>TT.loadVar _ _
theorem TT.storeAt (t:TypeId) (a v:Value):TT P F (Instr.storeAt t a v):=by
 unfold Instr.storeAt
 exact (TT.sureAddr _).bind fun _=>TT.storeVar _ _ _
theorem TT.fieldAt (t:TypeId) (a:Value) (f:Nat):TT P F (Instr.fieldAt t a f):=by
 unfold Instr.fieldAt
 repeat' (first
  | with_reducible first
   | exact TT.pure | exact TT.stuck | exact TT.unsupported | exact TT.goPanic | exact TT.runtimePanic _ | exact TT.boundsPanic _ _ _ _
   | exact TT.part _ _ _ | exact TT.loadVar _ _ | exact TT.storeVar _ _ _ | exact TT.newVar _ _ | exact TT.newRow _ _ | exact TT.loadCells _ _ | exact TT.storeCells _ _ _
   | exact TT.asBool _ | exact TT.asInt _ | exact TT.byteOf _ | exact TT.behindNumber _ | exact TT.choose _
   | refine (TT.typeInfo _).bind fun _=>?_ | refine (TT.underlying _).bind fun _=>?_ | refine (TT.sizeOf _).bind fun _=>?_ | refine (TT.zeroValue _).bind fun _=>?_
   | refine (TT.asInt _).bind fun _=>?_ | refine (TT.asIntOf _).bind fun _=>?_ | refine (TT.asBool _).bind fun _=>?_ | refine (TT.asAgg _).bind fun _=>?_ | refine (TT.asAddr _).bind fun _=>?_ | refine (TT.sureAddr _).bind fun _=>?_
   | refine (TT.newVar _ _).bind fun _=>?_ | refine (TT.newRow _ _).bind fun _=>?_ | refine (TT.newObj _ (by simp)).bind fun _=>?_ | refine (TT.choose _).bind fun _=>?_ | refine (TT.askRoom _).bind fun _=>?_
   | refine (TT.loadCells _ _).bind fun _=>?_ | refine (TT.storeCells _ _ _).bind fun _=>?_ | refine (TT.byteOf _).bind fun _=>?_ | refine (TT.fieldPlace _ _).bind fun _=>?_ | refine (TT.part _ _ _).bind fun _=>?_ | refine (TT.viewAt _).bind fun _=>?_ | refine (TT.numberAt _).bind fun _=>?_ | refine (TT.behindNumber _).bind fun _=>?_ | refine (TT.shape _).bind fun _=>?_ | refine (TT.frozen _).bind fun _=>?_ | refine (TT.sliceBound _ _ _).bind fun _=>?_ | refine (TT.boundsPanic _ _ _ _).bind fun _=>?_ | refine (TT.runtimePanic _).bind fun _=>?_
   | refine TT.stuck.bind fun _=>?_ | refine TT.unsupported.bind fun _=>?_ | refine TT.pure.bind fun _=>?_ | refine TT.bind ?_ fun _=>?_
  | split | dsimp only)
theorem TT.indexAt (t:TypeId) (x i:Value):TT P F (Instr.indexAt t x i):=by
 unfold Instr.indexAt
 repeat' (first
  | with_reducible first
   | exact TT.pure | exact TT.stuck | exact TT.unsupported | exact TT.goPanic | exact TT.runtimePanic _ | exact TT.boundsPanic _ _ _ _
   | exact TT.part _ _ _ | exact TT.loadVar _ _ | exact TT.storeVar _ _ _ | exact TT.newVar _ _ | exact TT.newRow _ _ | exact TT.loadCells _ _ | exact TT.storeCells _ _ _
   | exact TT.asBool _ | exact TT.asInt _ | exact TT.byteOf _ | exact TT.behindNumber _ | exact TT.choose _
   | refine (TT.typeInfo _).bind fun _=>?_ | refine (TT.underlying _).bind fun _=>?_ | refine (TT.sizeOf _).bind fun _=>?_ | refine (TT.zeroValue _).bind fun _=>?_
   | refine (TT.asInt _).bind fun _=>?_ | refine (TT.asIntOf _).bind fun _=>?_ | refine (TT.asBool _).bind fun _=>?_ | refine (TT.asAgg _).bind fun _=>?_ | refine (TT.asAddr _).bind fun _=>?_ | refine (TT.sureAddr _).bind fun _=>?_
   | refine (TT.newVar _ _).bind fun _=>?_ | refine (TT.newRow _ _).bind fun _=>?_ | refine (TT.newObj _ (by simp)).bind fun _=>?_ | refine (TT.choose _).bind fun _=>?_ | refine (TT.askRoom _).bind fun _=>?_
   | refine (TT.loadCells _ _).bind fun _=>?_ | refine (TT.storeCells _ _ _).bind fun _=>?_ | refine (TT.byteOf _).bind fun _=>?_ | refine (TT.fieldPlace _ _).bind fun _=>?_ | refine (TT.part _ _ _).bind fun _=>?_ | refine (TT.viewAt _).bind fun _=>?_ | refine (TT.numberAt _).bind fun _=>?_ | refine (TT.behindNumber _).bind fun _=>?_ | refine (TT.shape _).bind fun _=>?_ | refine (TT.frozen _).bind fun _=>?_ | refine (TT.sliceBound _ _ _).bind fun _=>?_ | refine (TT.boundsPanic _ _ _ _).bind fun _=>?_ | refine (TT.runtimePanic _).bind fun _=>?_
   | refine TT.stuck.bind fun _=>?_ | refine TT.unsupported.bind fun _=>?_ | refine TT.pure.bind fun _=>?_ | refine TT.bind ?_ fun _=>?_
  | split | dsimp only)
theorem TT.slice (t:TypeId) (x:Value) (lo hi mx:Option Value):TT P F (Instr.slice t x lo hi mx):=by
 unfold Instr.slice
 refine (TT.underlying _).bind fun d=>?_
 split
 ·split
  ·exact TT.stuck.bind fun _=>(TT.sliceBounds _ _ _ _ _ _).bind fun _=>TT.pure
  ·exact (TT.sliceBounds _ _ _ _ _ _).bind fun _=>TT.pure
 ·exact (TT.sliceBounds _ _ _ _ _ _).bind fun _=>(TT.sizeOf _).bind fun _=>TT.pure
 ·refine (TT.asAddr _).bind fun a=>(TT.underlying _).bind fun d=>?_
  split
  ·exact (TT.sliceBounds _ _ _ _ _ _).bind fun _=>(TT.sizeOf _).bind fun _=>TT.pure
  ·exact TT.stuck
 ·exact TT.stuck
theorem TT.sliceAt (t:TypeId) (x:Value) (lo hi mx:Option Value):TT P F (Instr.sliceAt t x lo hi mx):=by
 unfold Instr.sliceAt
 refine (TT.underlying _).bind fun d=>?_
 split
 ·exact (TT.sureAddr _).bind fun a=>(TT.sliceBounds _ _ _ _ _ _).bind fun _=>(TT.sizeOf _).bind fun _=>TT.pure
 ·exact TT.slice _ _ _ _ _
theorem TT.makeSlice (t:TypeId) (l c:Value):TT P F (Instr.makeSlice t l c):=by
 unfold Instr.makeSlice
 repeat' (first
  | with_reducible first
   | exact TT.pure | exact TT.stuck | exact TT.unsupported | exact TT.goPanic | exact TT.runtimePanic _ | exact TT.boundsPanic _ _ _ _
   | exact TT.part _ _ _ | exact TT.loadVar _ _ | exact TT.storeVar _ _ _ | exact TT.newVar _ _ | exact TT.newRow _ _ | exact TT.loadCells _ _ | exact TT.storeCells _ _ _
   | exact TT.asBool _ | exact TT.asInt _ | exact TT.byteOf _ | exact TT.behindNumber _ | exact TT.choose _
   | refine (TT.typeInfo _).bind fun _=>?_ | refine (TT.underlying _).bind fun _=>?_ | refine (TT.sizeOf _).bind fun _=>?_ | refine (TT.zeroValue _).bind fun _=>?_
   | refine (TT.asInt _).bind fun _=>?_ | refine (TT.asIntOf _).bind fun _=>?_ | refine (TT.asBool _).bind fun _=>?_ | refine (TT.asAgg _).bind fun _=>?_ | refine (TT.asAddr _).bind fun _=>?_ | refine (TT.sureAddr _).bind fun _=>?_
   | refine (TT.newVar _ _).bind fun _=>?_ | refine (TT.newRow _ _).bind fun _=>?_ | refine (TT.newObj _ (by simp)).bind fun _=>?_ | refine (TT.choose _).bind fun _=>?_ | refine (TT.askRoom _).bind fun _=>?_
   | refine (TT.loadCells _ _).bind fun _=>?_ | refine (TT.storeCells _ _ _).bind fun _=>?_ | refine (TT.byteOf _).bind fun _=>?_ | refine (TT.fieldPlace _ _).bind fun _=>?_ | refine (TT.part _ _ _).bind fun _=>?_ | refine (TT.viewAt _).bind fun _=>?_ | refine (TT.numberAt _).bind fun _=>?_ | refine (TT.behindNumber _).bind fun _=>?_ | refine (TT.shape _).bind fun _=>?_ | refine (TT.frozen _).bind fun _=>?_ | refine (TT.sliceBound _ _ _).bind fun _=>?_ | refine (TT.boundsPanic _ _ _ _).bind fun _=>?_ | refine (TT.runtimePanic _).bind fun _=>?_
   | refine TT.stuck.bind fun _=>?_ | refine TT.unsupported.bind fun _=>?_ | refine TT.pure.bind fun _=>?_ | refine TT.bind ?_ fun _=>?_
  | split | dsimp only)
theorem TT.makeMap (t:TypeId):TT P F (Instr.makeMap t none):=by
 unfold Instr.makeMap
 repeat' (first
  | with_reducible first
   | exact TT.pure | exact TT.stuck | exact TT.unsupported | exact TT.goPanic | exact TT.runtimePanic _ | exact TT.boundsPanic _ _ _ _
   | exact TT.part _ _ _ | exact TT.loadVar _ _ | exact TT.storeVar _ _ _ | exact TT.newVar _ _ | exact TT.newRow _ _ | exact TT.loadCells _ _ | exact TT.storeCells _ _ _
   | exact TT.asBool _ | exact TT.asInt _ | exact TT.byteOf _ | exact TT.behindNumber _ | exact TT.choose _
   | refine (TT.typeInfo _).bind fun _=>?_ | refine (TT.underlying _).bind fun _=>?_ | refine (TT.sizeOf _).bind fun _=>?_ | refine (TT.zeroValue _).bind fun _=>?_
   | refine (TT.asInt _).bind fun _=>?_ | refine (TT.asIntOf _).bind fun _=>?_ | refine (TT.asBool _).bind fun _=>?_ | refine (TT.asAgg _).bind fun _=>?_ | refine (TT.asAddr _).bind fun _=>?_ | refine (TT.sureAddr _).bind fun _=>?_
   | refine (TT.newVar _ _).bind fun _=>?_ | refine (TT.newRow _ _).bind fun _=>?_ | refine (TT.newObj _ (by simp)).bind fun _=>?_ | refine (TT.choose _).bind fun _=>?_ | refine (TT.askRoom _).bind fun _=>?_
   | refine (TT.loadCells _ _).bind fun _=>?_ | refine (TT.storeCells _ _ _).bind fun _=>?_ | refine (TT.byteOf _).bind fun _=>?_ | refine (TT.fieldPlace _ _).bind fun _=>?_ | refine (TT.part _ _ _).bind fun _=>?_ | refine (TT.viewAt _).bind fun _=>?_ | refine (TT.numberAt _).bind fun _=>?_ | refine (TT.behindNumber _).bind fun _=>?_ | refine (TT.shape _).bind fun _=>?_ | refine (TT.frozen _).bind fun _=>?_ | refine (TT.sliceBound _ _ _).bind fun _=>?_ | refine (TT.boundsPanic _ _ _ _).bind fun _=>?_ | refine (TT.runtimePanic _).bind fun _=>?_
   | refine TT.stuck.bind fun _=>?_ | refine TT.unsupported.bind fun _=>?_ | refine TT.pure.bind fun _=>?_ | refine TT.bind ?_ fun _=>?_
  | split | dsimp only)
theorem TT.makeChan (t:TypeId) (n:Value):TT P F (Instr.makeChan t n):=by
 unfold Instr.makeChan
 repeat' (first
  | with_reducible first
   | exact TT.pure | exact TT.stuck | exact TT.unsupported | exact TT.goPanic | exact TT.runtimePanic _ | exact TT.boundsPanic _ _ _ _
   | exact TT.part _ _ _ | exact TT.loadVar _ _ | exact TT.storeVar _ _ _ | exact TT.newVar _ _ | exact TT.newRow _ _ | exact TT.loadCells _ _ | exact TT.storeCells _ _ _
   | exact TT.asBool _ | exact TT.asInt _ | exact TT.byteOf _ | exact TT.behindNumber _ | exact TT.choose _
   | refine (TT.typeInfo _).bind fun _=>?_ | refine (TT.underlying _).bind fun _=>?_ | refine (TT.sizeOf _).bind fun _=>?_ | refine (TT.zeroValue _).bind fun _=>?_
   | refine (TT.asInt _).bind fun _=>?_ | refine (TT.asIntOf _).bind fun _=>?_ | refine (TT.asBool _).bind fun _=>?_ | refine (TT.asAgg _).bind fun _=>?_ | refine (TT.asAddr _).bind fun _=>?_ | refine (TT.sureAddr _).bind fun _=>?_
   | refine (TT.newVar _ _).bind fun _=>?_ | refine (TT.newRow _ _).bind fun _=>?_ | refine (TT.newObj _ (by simp)).bind fun _=>?_ | refine (TT.choose _).bind fun _=>?_ | refine (TT.askRoom _).bind fun _=>?_
   | refine (TT.loadCells _ _).bind fun _=>?_ | refine (TT.storeCells _ _ _).bind fun _=>?_ | refine (TT.byteOf _).bind fun _=>?_ | refine (TT.fieldPlace _ _).bind fun _=>?_ | refine (TT.part _ _ _).bind fun _=>?_ | refine (TT.viewAt _).bind fun _=>?_ | refine (TT.numberAt _).bind fun _=>?_ | refine (TT.behindNumber _).bind fun _=>?_ | refine (TT.shape _).bind fun _=>?_ | refine (TT.frozen _).bind fun _=>?_ | refine (TT.sliceBound _ _ _).bind fun _=>?_ | refine (TT.boundsPanic _ _ _ _).bind fun _=>?_ | refine (TT.runtimePanic _).bind fun _=>?_
   | refine TT.stuck.bind fun _=>?_ | refine TT.unsupported.bind fun _=>?_ | refine TT.pure.bind fun _=>?_ | refine TT.bind ?_ fun _=>?_
  | split | dsimp only)
theorem TT.extract (v:Value) (i:Nat):TT P F (Instr.extract v i):=by
 unfold Instr.extract
 repeat' (first
  | with_reducible first
   | exact TT.pure | exact TT.stuck | exact TT.unsupported | exact TT.goPanic | exact TT.runtimePanic _ | exact TT.boundsPanic _ _ _ _
   | exact TT.part _ _ _ | exact TT.loadVar _ _ | exact TT.storeVar _ _ _ | exact TT.newVar _ _ | exact TT.newRow _ _ | exact TT.loadCells _ _ | exact TT.storeCells _ _ _
   | exact TT.asBool _ | exact TT.asInt _ | exact TT.byteOf _ | exact TT.behindNumber _ | exact TT.choose _
   | refine (TT.typeInfo _).bind fun _=>?_ | refine (TT.underlying _).bind fun _=>?_ | refine (TT.sizeOf _).bind fun _=>?_ | refine (TT.zeroValue _).bind fun _=>?_
   | refine (TT.asInt _).bind fun _=>?_ | refine (TT.asIntOf _).bind fun _=>?_ | refine (TT.asBool _).bind fun _=>?_ | refine (TT.asAgg _).bind fun _=>?_ | refine (TT.asAddr _).bind fun _=>?_ | refine (TT.sureAddr _).bind fun _=>?_
   | refine (TT.newVar _ _).bind fun _=>?_ | refine (TT.newRow _ _).bind fun _=>?_ | refine (TT.newObj _ (by simp)).bind fun _=>?_ | refine (TT.choose _).bind fun _=>?_ | refine (TT.askRoom _).bind fun _=>?_
   | refine (TT.loadCells _ _).bind fun _=>?_ | refine (TT.storeCells _ _ _).bind fun _=>?_ | refine (TT.byteOf _).bind fun _=>?_ | refine (TT.fieldPlace _ _).bind fun _=>?_ | refine (TT.part _ _ _).bind fun _=>?_ | refine (TT.viewAt _).bind fun _=>?_ | refine (TT.numberAt _).bind fun _=>?_ | refine (TT.behindNumber _).bind fun _=>?_ | refine (TT.shape _).bind fun _=>?_ | refine (TT.frozen _).bind fun _=>?_ | refine (TT.sliceBound _ _ _).bind fun _=>?_ | refine (TT.boundsPanic _ _ _ _).bind fun _=>?_ | refine (TT.runtimePanic _).bind fun _=>?_
   | refine TT.stuck.bind fun _=>?_ | refine TT.unsupported.bind fun _=>?_ | refine TT.pure.bind fun _=>?_ | refine TT.bind ?_ fun _=>?_
  | split | dsimp only)
theorem TT.makeInterface (t:TypeId) (v:Value):TT P F (Instr.makeInterface t v):=by
 unfold Instr.makeInterface
 repeat' (first
  | with_reducible first
   | exact TT.pure | exact TT.stuck | exact TT.unsupported | exact TT.goPanic | exact TT.runtimePanic _ | exact TT.boundsPanic _ _ _ _
   | exact TT.part _ _ _ | exact TT.loadVar _ _ | exact TT.storeVar _ _ _ | exact TT.newVar _ _ | exact TT.newRow _ _ | exact TT.loadCells _ _ | exact TT.storeCells _ _ _
   | exact TT.asBool _ | exact TT.asInt _ | exact TT.byteOf _ | exact TT.behindNumber _ | exact TT.choose _
   | refine (TT.typeInfo _).bind fun _=>?_ | refine (TT.underlying _).bind fun _=>?_ | refine (TT.sizeOf _).bind fun _=>?_ | refine (TT.zeroValue _).bind fun _=>?_
   | refine (TT.asInt _).bind fun _=>?_ | refine (TT.asIntOf _).bind fun _=>?_ | refine (TT.asBool _).bind fun _=>?_ | refine (TT.asAgg _).bind fun _=>?_ | refine (TT.asAddr _).bind fun _=>?_ | refine (TT.sureAddr _).bind fun _=>?_
   | refine (TT.newVar _ _).bind fun _=>?_ | refine (TT.newRow _ _).bind fun _=>?_ | refine (TT.newObj _ (by simp)).bind fun _=>?_ | refine (TT.choose _).bind fun _=>?_ | refine (TT.askRoom _).bind fun _=>?_
   | refine (TT.loadCells _ _).bind fun _=>?_ | refine (TT.storeCells _ _ _).bind fun _=>?_ | refine (TT.byteOf _).bind fun _=>?_ | refine (TT.fieldPlace _ _).bind fun _=>?_ | refine (TT.part _ _ _).bind fun _=>?_ | refine (TT.viewAt _).bind fun _=>?_ | refine (TT.numberAt _).bind fun _=>?_ | refine (TT.behindNumber _).bind fun _=>?_ | refine (TT.shape _).bind fun _=>?_ | refine (TT.frozen _).bind fun _=>?_ | refine (TT.sliceBound _ _ _).bind fun _=>?_ | refine (TT.boundsPanic _ _ _ _).bind fun _=>?_ | refine (TT.runtimePanic _).bind fun _=>?_
   | refine TT.stuck.bind fun _=>?_ | refine TT.unsupported.bind fun _=>?_ | refine TT.pure.bind fun _=>?_ | refine TT.bind ?_ fun _=>?_
  | split | dsimp only)
theorem TT.unary (op:UnOp) (v:Value):TT P F (Op.unary op v):=by
 unfold Op.unary Op.intArith Op.intBits
 repeat' (first
  | with_reducible first
   | exact TT.pure | exact TT.stuck | exact TT.unsupported | exact TT.goPanic | exact TT.runtimePanic _ | exact TT.boundsPanic _ _ _ _
   | exact TT.part _ _ _ | exact TT.loadVar _ _ | exact TT.storeVar _ _ _ | exact TT.newVar _ _ | exact TT.newRow _ _ | exact TT.loadCells _ _ | exact TT.storeCells _ _ _
   | exact TT.asBool _ | exact TT.asInt _ | exact TT.byteOf _ | exact TT.behindNumber _ | exact TT.choose _
   | refine (TT.typeInfo _).bind fun _=>?_ | refine (TT.underlying _).bind fun _=>?_ | refine (TT.sizeOf _).bind fun _=>?_ | refine (TT.zeroValue _).bind fun _=>?_
   | refine (TT.asInt _).bind fun _=>?_ | refine (TT.asIntOf _).bind fun _=>?_ | refine (TT.asBool _).bind fun _=>?_ | refine (TT.asAgg _).bind fun _=>?_ | refine (TT.asAddr _).bind fun _=>?_ | refine (TT.sureAddr _).bind fun _=>?_
   | refine (TT.newVar _ _).bind fun _=>?_ | refine (TT.newRow _ _).bind fun _=>?_ | refine (TT.newObj _ (by simp)).bind fun _=>?_ | refine (TT.choose _).bind fun _=>?_ | refine (TT.askRoom _).bind fun _=>?_
   | refine (TT.loadCells _ _).bind fun _=>?_ | refine (TT.storeCells _ _ _).bind fun _=>?_ | refine (TT.byteOf _).bind fun _=>?_ | refine (TT.fieldPlace _ _).bind fun _=>?_ | refine (TT.part _ _ _).bind fun _=>?_ | refine (TT.viewAt _).bind fun _=>?_ | refine (TT.numberAt _).bind fun _=>?_ | refine (TT.behindNumber _).bind fun _=>?_ | refine (TT.shape _).bind fun _=>?_ | refine (TT.frozen _).bind fun _=>?_ | refine (TT.sliceBound _ _ _).bind fun _=>?_ | refine (TT.boundsPanic _ _ _ _).bind fun _=>?_ | refine (TT.runtimePanic _).bind fun _=>?_
   | refine TT.stuck.bind fun _=>?_ | refine TT.unsupported.bind fun _=>?_ | refine TT.pure.bind fun _=>?_ | refine TT.bind ?_ fun _=>?_
  | split | dsimp only)
theorem TT.floatArith (op:BinOp) (k:FloatKind) (x y:Nat):TT P F (Op.floatArith op k x y):=by
 unfold Op.floatArith
 repeat' (first
  | with_reducible first
   | exact TT.pure | exact TT.stuck | exact TT.unsupported | exact TT.goPanic | exact TT.runtimePanic _ | exact TT.boundsPanic _ _ _ _
   | exact TT.part _ _ _ | exact TT.loadVar _ _ | exact TT.storeVar _ _ _ | exact TT.newVar _ _ | exact TT.newRow _ _ | exact TT.loadCells _ _ | exact TT.storeCells _ _ _
   | exact TT.asBool _ | exact TT.asInt _ | exact TT.byteOf _ | exact TT.behindNumber _ | exact TT.choose _
   | refine (TT.typeInfo _).bind fun _=>?_ | refine (TT.underlying _).bind fun _=>?_ | refine (TT.sizeOf _).bind fun _=>?_ | refine (TT.zeroValue _).bind fun _=>?_
   | refine (TT.asInt _).bind fun _=>?_ | refine (TT.asIntOf _).bind fun _=>?_ | refine (TT.asBool _).bind fun _=>?_ | refine (TT.asAgg _).bind fun _=>?_ | refine (TT.asAddr _).bind fun _=>?_ | refine (TT.sureAddr _).bind fun _=>?_
   | refine (TT.newVar _ _).bind fun _=>?_ | refine (TT.newRow _ _).bind fun _=>?_ | refine (TT.newObj _ (by simp)).bind fun _=>?_ | refine (TT.choose _).bind fun _=>?_ | refine (TT.askRoom _).bind fun _=>?_
   | refine (TT.loadCells _ _).bind fun _=>?_ | refine (TT.storeCells _ _ _).bind fun _=>?_ | refine (TT.byteOf _).bind fun _=>?_ | refine (TT.fieldPlace _ _).bind fun _=>?_ | refine (TT.part _ _ _).bind fun _=>?_ | refine (TT.viewAt _).bind fun _=>?_ | refine (TT.numberAt _).bind fun _=>?_ | refine (TT.behindNumber _).bind fun _=>?_ | refine (TT.shape _).bind fun _=>?_ | refine (TT.frozen _).bind fun _=>?_ | refine (TT.sliceBound _ _ _).bind fun _=>?_ | refine (TT.boundsPanic _ _ _ _).bind fun _=>?_ | refine (TT.runtimePanic _).bind fun _=>?_
   | refine TT.stuck.bind fun _=>?_ | refine TT.unsupported.bind fun _=>?_ | refine TT.pure.bind fun _=>?_ | refine TT.bind ?_ fun _=>?_
  | split | dsimp only)
theorem TT.floatCmp (op:BinOp) (k:FloatKind) (x y:Nat):TT P F (Op.floatCmp op k x y):=by
 unfold Op.floatCmp
 repeat' (first
  | with_reducible first
   | exact TT.pure | exact TT.stuck | exact TT.unsupported | exact TT.goPanic | exact TT.runtimePanic _ | exact TT.boundsPanic _ _ _ _
   | exact TT.part _ _ _ | exact TT.loadVar _ _ | exact TT.storeVar _ _ _ | exact TT.newVar _ _ | exact TT.newRow _ _ | exact TT.loadCells _ _ | exact TT.storeCells _ _ _
   | exact TT.asBool _ | exact TT.asInt _ | exact TT.byteOf _ | exact TT.behindNumber _ | exact TT.choose _
   | refine (TT.typeInfo _).bind fun _=>?_ | refine (TT.underlying _).bind fun _=>?_ | refine (TT.sizeOf _).bind fun _=>?_ | refine (TT.zeroValue _).bind fun _=>?_
   | refine (TT.asInt _).bind fun _=>?_ | refine (TT.asIntOf _).bind fun _=>?_ | refine (TT.asBool _).bind fun _=>?_ | refine (TT.asAgg _).bind fun _=>?_ | refine (TT.asAddr _).bind fun _=>?_ | refine (TT.sureAddr _).bind fun _=>?_
   | refine (TT.newVar _ _).bind fun _=>?_ | refine (TT.newRow _ _).bind fun _=>?_ | refine (TT.newObj _ (by simp)).bind fun _=>?_ | refine (TT.choose _).bind fun _=>?_ | refine (TT.askRoom _).bind fun _=>?_
   | refine (TT.loadCells _ _).bind fun _=>?_ | refine (TT.storeCells _ _ _).bind fun _=>?_ | refine (TT.byteOf _).bind fun _=>?_ | refine (TT.fieldPlace _ _).bind fun _=>?_ | refine (TT.part _ _ _).bind fun _=>?_ | refine (TT.viewAt _).bind fun _=>?_ | refine (TT.numberAt _).bind fun _=>?_ | refine (TT.behindNumber _).bind fun _=>?_ | refine (TT.shape _).bind fun _=>?_ | refine (TT.frozen _).bind fun _=>?_ | refine (TT.sliceBound _ _ _).bind fun _=>?_ | refine (TT.boundsPanic _ _ _ _).bind fun _=>?_ | refine (TT.runtimePanic _).bind fun _=>?_
   | refine TT.stuck.bind fun _=>?_ | refine TT.unsupported.bind fun _=>?_ | refine TT.pure.bind fun _=>?_ | refine TT.bind ?_ fun _=>?_
  | split | dsimp only)
theorem TT.stringOp (op:BinOp) (x y:ByteArray):TT P F (Op.stringOp op x y):=by
 unfold Op.stringOp
 repeat' (first
  | with_reducible first
   | exact TT.pure | exact TT.stuck | exact TT.unsupported | exact TT.goPanic | exact TT.runtimePanic _ | exact TT.boundsPanic _ _ _ _
   | exact TT.part _ _ _ | exact TT.loadVar _ _ | exact TT.storeVar _ _ _ | exact TT.newVar _ _ | exact TT.newRow _ _ | exact TT.loadCells _ _ | exact TT.storeCells _ _ _
   | exact TT.asBool _ | exact TT.asInt _ | exact TT.byteOf _ | exact TT.behindNumber _ | exact TT.choose _
   | refine (TT.typeInfo _).bind fun _=>?_ | refine (TT.underlying _).bind fun _=>?_ | refine (TT.sizeOf _).bind fun _=>?_ | refine (TT.zeroValue _).bind fun _=>?_
   | refine (TT.asInt _).bind fun _=>?_ | refine (TT.asIntOf _).bind fun _=>?_ | refine (TT.asBool _).bind fun _=>?_ | refine (TT.asAgg _).bind fun _=>?_ | refine (TT.asAddr _).bind fun _=>?_ | refine (TT.sureAddr _).bind fun _=>?_
   | refine (TT.newVar _ _).bind fun _=>?_ | refine (TT.newRow _ _).bind fun _=>?_ | refine (TT.newObj _ (by simp)).bind fun _=>?_ | refine (TT.choose _).bind fun _=>?_ | refine (TT.askRoom _).bind fun _=>?_
   | refine (TT.loadCells _ _).bind fun _=>?_ | refine (TT.storeCells _ _ _).bind fun _=>?_ | refine (TT.byteOf _).bind fun _=>?_ | refine (TT.fieldPlace _ _).bind fun _=>?_ | refine (TT.part _ _ _).bind fun _=>?_ | refine (TT.viewAt _).bind fun _=>?_ | refine (TT.numberAt _).bind fun _=>?_ | refine (TT.behindNumber _).bind fun _=>?_ | refine (TT.shape _).bind fun _=>?_ | refine (TT.frozen _).bind fun _=>?_ | refine (TT.sliceBound _ _ _).bind fun _=>?_ | refine (TT.boundsPanic _ _ _ _).bind fun _=>?_ | refine (TT.runtimePanic _).bind fun _=>?_
   | refine TT.stuck.bind fun _=>?_ | refine TT.unsupported.bind fun _=>?_ | refine TT.pure.bind fun _=>?_ | refine TT.bind ?_ fun _=>?_
  | split | dsimp only)
theorem TT.intCmp (op:BinOp) (x y:Int):TT P F (Op.intCmp op x y):=by
 unfold Op.intCmp
 repeat' (first
  | with_reducible first
   | exact TT.pure | exact TT.stuck | exact TT.unsupported | exact TT.goPanic | exact TT.runtimePanic _ | exact TT.boundsPanic _ _ _ _
   | exact TT.part _ _ _ | exact TT.loadVar _ _ | exact TT.storeVar _ _ _ | exact TT.newVar _ _ | exact TT.newRow _ _ | exact TT.loadCells _ _ | exact TT.storeCells _ _ _
   | exact TT.asBool _ | exact TT.asInt _ | exact TT.byteOf _ | exact TT.behindNumber _ | exact TT.choose _
   | refine (TT.typeInfo _).bind fun _=>?_ | refine (TT.underlying _).bind fun _=>?_ | refine (TT.sizeOf _).bind fun _=>?_ | refine (TT.zeroValue _).bind fun _=>?_
   | refine (TT.asInt _).bind fun _=>?_ | refine (TT.asIntOf _).bind fun _=>?_ | refine (TT.asBool _).bind fun _=>?_ | refine (TT.asAgg _).bind fun _=>?_ | refine (TT.asAddr _).bind fun _=>?_ | refine (TT.sureAddr _).bind fun _=>?_
   | refine (TT.newVar _ _).bind fun _=>?_ | refine (TT.newRow _ _).bind fun _=>?_ | refine (TT.newObj _ (by simp)).bind fun _=>?_ | refine (TT.choose _).bind fun _=>?_ | refine (TT.askRoom _).bind fun _=>?_
   | refine (TT.loadCells _ _).bind fun _=>?_ | refine (TT.storeCells _ _ _).bind fun _=>?_ | refine (TT.byteOf _).bind fun _=>?_ | refine (TT.fieldPlace _ _).bind fun _=>?_ | refine (TT.part _ _ _).bind fun _=>?_ | refine (TT.viewAt _).bind fun _=>?_ | refine (TT.numberAt _).bind fun _=>?_ | refine (TT.behindNumber _).bind fun _=>?_ | refine (TT.shape _).bind fun _=>?_ | refine (TT.frozen _).bind fun _=>?_ | refine (TT.sliceBound _ _ _).bind fun _=>?_ | refine (TT.boundsPanic _ _ _ _).bind fun _=>?_ | refine (TT.runtimePanic _).bind fun _=>?_
   | refine TT.stuck.bind fun _=>?_ | refine TT.unsupported.bind fun _=>?_ | refine TT.pure.bind fun _=>?_ | refine TT.bind ?_ fun _=>?_
  | split | dsimp only)
theorem TT.intArith (op:BinOp) (k:IntKind) (x y:Int):TT P F (Op.intArith op k x y):=by
 unfold Op.intArith
 repeat' (first
  | with_reducible first
   | exact TT.pure | exact TT.stuck | exact TT.unsupported | exact TT.goPanic | exact TT.runtimePanic _ | exact TT.boundsPanic _ _ _ _
   | exact TT.part _ _ _ | exact TT.loadVar _ _ | exact TT.storeVar _ _ _ | exact TT.newVar _ _ | exact TT.newRow _ _ | exact TT.loadCells _ _ | exact TT.storeCells _ _ _
   | exact TT.asBool _ | exact TT.asInt _ | exact TT.byteOf _ | exact TT.behindNumber _ | exact TT.choose _
   | refine (TT.typeInfo _).bind fun _=>?_ | refine (TT.underlying _).bind fun _=>?_ | refine (TT.sizeOf _).bind fun _=>?_ | refine (TT.zeroValue _).bind fun _=>?_
   | refine (TT.asInt _).bind fun _=>?_ | refine (TT.asIntOf _).bind fun _=>?_ | refine (TT.asBool _).bind fun _=>?_ | refine (TT.asAgg _).bind fun _=>?_ | refine (TT.asAddr _).bind fun _=>?_ | refine (TT.sureAddr _).bind fun _=>?_
   | refine (TT.newVar _ _).bind fun _=>?_ | refine (TT.newRow _ _).bind fun _=>?_ | refine (TT.newObj _ (by simp)).bind fun _=>?_ | refine (TT.choose _).bind fun _=>?_ | refine (TT.askRoom _).bind fun _=>?_
   | refine (TT.loadCells _ _).bind fun _=>?_ | refine (TT.storeCells _ _ _).bind fun _=>?_ | refine (TT.byteOf _).bind fun _=>?_ | refine (TT.fieldPlace _ _).bind fun _=>?_ | refine (TT.part _ _ _).bind fun _=>?_ | refine (TT.viewAt _).bind fun _=>?_ | refine (TT.numberAt _).bind fun _=>?_ | refine (TT.behindNumber _).bind fun _=>?_ | refine (TT.shape _).bind fun _=>?_ | refine (TT.frozen _).bind fun _=>?_ | refine (TT.sliceBound _ _ _).bind fun _=>?_ | refine (TT.boundsPanic _ _ _ _).bind fun _=>?_ | refine (TT.runtimePanic _).bind fun _=>?_
   | refine TT.stuck.bind fun _=>?_ | refine TT.unsupported.bind fun _=>?_ | refine TT.pure.bind fun _=>?_ | refine TT.bind ?_ fun _=>?_
  | split | dsimp only)
theorem TT.intDiv (op:BinOp) (k:IntKind) (x y:Int):TT P F (Op.intDiv op k x y):=by
 unfold Op.intDiv
 repeat' (first
  | with_reducible first
   | exact TT.pure | exact TT.stuck | exact TT.unsupported | exact TT.goPanic | exact TT.runtimePanic _ | exact TT.boundsPanic _ _ _ _
   | exact TT.part _ _ _ | exact TT.loadVar _ _ | exact TT.storeVar _ _ _ | exact TT.newVar _ _ | exact TT.newRow _ _ | exact TT.loadCells _ _ | exact TT.storeCells _ _ _
   | exact TT.asBool _ | exact TT.asInt _ | exact TT.byteOf _ | exact TT.behindNumber _ | exact TT.choose _
   | refine (TT.typeInfo _).bind fun _=>?_ | refine (TT.underlying _).bind fun _=>?_ | refine (TT.sizeOf _).bind fun _=>?_ | refine (TT.zeroValue _).bind fun _=>?_
   | refine (TT.asInt _).bind fun _=>?_ | refine (TT.asIntOf _).bind fun _=>?_ | refine (TT.asBool _).bind fun _=>?_ | refine (TT.asAgg _).bind fun _=>?_ | refine (TT.asAddr _).bind fun _=>?_ | refine (TT.sureAddr _).bind fun _=>?_
   | refine (TT.newVar _ _).bind fun _=>?_ | refine (TT.newRow _ _).bind fun _=>?_ | refine (TT.newObj _ (by simp)).bind fun _=>?_ | refine (TT.choose _).bind fun _=>?_ | refine (TT.askRoom _).bind fun _=>?_
   | refine (TT.loadCells _ _).bind fun _=>?_ | refine (TT.storeCells _ _ _).bind fun _=>?_ | refine (TT.byteOf _).bind fun _=>?_ | refine (TT.fieldPlace _ _).bind fun _=>?_ | refine (TT.part _ _ _).bind fun _=>?_ | refine (TT.viewAt _).bind fun _=>?_ | refine (TT.numberAt _).bind fun _=>?_ | refine (TT.behindNumber _).bind fun _=>?_ | refine (TT.shape _).bind fun _=>?_ | refine (TT.frozen _).bind fun _=>?_ | refine (TT.sliceBound _ _ _).bind fun _=>?_ | refine (TT.boundsPanic _ _ _ _).bind fun _=>?_ | refine (TT.runtimePanic _).bind fun _=>?_
   | refine TT.stuck.bind fun _=>?_ | refine TT.unsupported.bind fun _=>?_ | refine TT.pure.bind fun _=>?_ | refine TT.bind ?_ fun _=>?_
  | split | dsimp only)
theorem TT.max2 (x y:Value):TT P F (Builtin.max2 x y):=by
 unfold Builtin.max2
 split
 ·exact TT.pure
 ·repeat' (first
  | with_reducible first
   | exact TT.pure | exact TT.stuck | exact TT.unsupported | exact TT.goPanic | exact TT.runtimePanic _ | exact TT.boundsPanic _ _ _ _
   | exact TT.part _ _ _ | exact TT.loadVar _ _ | exact TT.storeVar _ _ _ | exact TT.newVar _ _ | exact TT.newRow _ _ | exact TT.loadCells _ _ | exact TT.storeCells _ _ _
   | exact TT.asBool _ | exact TT.asInt _ | exact TT.byteOf _ | exact TT.behindNumber _ | exact TT.choose _
   | refine (TT.typeInfo _).bind fun _=>?_ | refine (TT.underlying _).bind fun _=>?_ | refine (TT.sizeOf _).bind fun _=>?_ | refine (TT.zeroValue _).bind fun _=>?_
   | refine (TT.asInt _).bind fun _=>?_ | refine (TT.asIntOf _).bind fun _=>?_ | refine (TT.asBool _).bind fun _=>?_ | refine (TT.asAgg _).bind fun _=>?_ | refine (TT.asAddr _).bind fun _=>?_ | refine (TT.sureAddr _).bind fun _=>?_
   | refine (TT.newVar _ _).bind fun _=>?_ | refine (TT.newRow _ _).bind fun _=>?_ | refine (TT.newObj _ (by simp)).bind fun _=>?_ | refine (TT.choose _).bind fun _=>?_ | refine (TT.askRoom _).bind fun _=>?_
   | refine (TT.loadCells _ _).bind fun _=>?_ | refine (TT.storeCells _ _ _).bind fun _=>?_ | refine (TT.byteOf _).bind fun _=>?_ | refine (TT.fieldPlace _ _).bind fun _=>?_ | refine (TT.part _ _ _).bind fun _=>?_ | refine (TT.viewAt _).bind fun _=>?_ | refine (TT.numberAt _).bind fun _=>?_ | refine (TT.behindNumber _).bind fun _=>?_ | refine (TT.shape _).bind fun _=>?_ | refine (TT.frozen _).bind fun _=>?_ | refine (TT.sliceBound _ _ _).bind fun _=>?_ | refine (TT.boundsPanic _ _ _ _).bind fun _=>?_ | refine (TT.runtimePanic _).bind fun _=>?_
   | refine TT.stuck.bind fun _=>?_ | refine TT.unsupported.bind fun _=>?_ | refine TT.pure.bind fun _=>?_ | refine TT.bind ?_ fun _=>?_
  | split | dsimp only)
 ·exact (TT.stringOp _ _ _).bind fun _=>(TT.asBool _).bind fun _=>TT.pure
 ·exact TT.unsupported
 ·exact TT.unsupported
 ·exact TT.stuck
theorem TT.min2 (x y:Value):TT P F (Builtin.min2 x y):=by
 unfold Builtin.min2
 split
 ·exact TT.pure
 ·repeat' (first
  | with_reducible first
   | exact TT.pure | exact TT.stuck | exact TT.unsupported | exact TT.goPanic | exact TT.runtimePanic _ | exact TT.boundsPanic _ _ _ _
   | exact TT.part _ _ _ | exact TT.loadVar _ _ | exact TT.storeVar _ _ _ | exact TT.newVar _ _ | exact TT.newRow _ _ | exact TT.loadCells _ _ | exact TT.storeCells _ _ _
   | exact TT.asBool _ | exact TT.asInt _ | exact TT.byteOf _ | exact TT.behindNumber _ | exact TT.choose _
   | refine (TT.typeInfo _).bind fun _=>?_ | refine (TT.underlying _).bind fun _=>?_ | refine (TT.sizeOf _).bind fun _=>?_ | refine (TT.zeroValue _).bind fun _=>?_
   | refine (TT.asInt _).bind fun _=>?_ | refine (TT.asIntOf _).bind fun _=>?_ | refine (TT.asBool _).bind fun _=>?_ | refine (TT.asAgg _).bind fun _=>?_ | refine (TT.asAddr _).bind fun _=>?_ | refine (TT.sureAddr _).bind fun _=>?_
   | refine (TT.newVar _ _).bind fun _=>?_ | refine (TT.newRow _ _).bind fun _=>?_ | refine (TT.newObj _ (by simp)).bind fun _=>?_ | refine (TT.choose _).bind fun _=>?_ | refine (TT.askRoom _).bind fun _=>?_
   | refine (TT.loadCells _ _).bind fun _=>?_ | refine (TT.storeCells _ _ _).bind fun _=>?_ | refine (TT.byteOf _).bind fun _=>?_ | refine (TT.fieldPlace _ _).bind fun _=>?_ | refine (TT.part _ _ _).bind fun _=>?_ | refine (TT.viewAt _).bind fun _=>?_ | refine (TT.numberAt _).bind fun _=>?_ | refine (TT.behindNumber _).bind fun _=>?_ | refine (TT.shape _).bind fun _=>?_ | refine (TT.frozen _).bind fun _=>?_ | refine (TT.sliceBound _ _ _).bind fun _=>?_ | refine (TT.boundsPanic _ _ _ _).bind fun _=>?_ | refine (TT.runtimePanic _).bind fun _=>?_
   | refine TT.stuck.bind fun _=>?_ | refine TT.unsupported.bind fun _=>?_ | refine TT.pure.bind fun _=>?_ | refine TT.bind ?_ fun _=>?_
  | split | dsimp only)
 ·exact (TT.stringOp _ _ _).bind fun _=>(TT.asBool _).bind fun _=>TT.pure
 ·exact TT.unsupported
 ·exact TT.unsupported
 ·exact TT.stuck
end
end Cv
namespace Cv
open Go
section
variable {P : Program} {F : Array Func} {α β : Type}
theorem TT.floatToFloat (s:FloatKind) (b:Nat) (d:FloatKind):TT P F (Conv.floatToFloat s b d):=by
 unfold Conv.floatToFloat
 split
 ·exact TT.pure
 ·split
  ·exact (TT.choose _).bind fun _=>TT.pure
  ·exact TT.pure
  ·dsimp only
   split
   ·exact (TT.choose _).bind fun _=>TT.pure
   ·exact TT.pure
theorem TT.arith (op:BinOp) (k:FloatKind) (x y:Nat):TT P F (Op.Complex.arith op k x y):=by
 unfold Op.Complex.arith
 refine (TT.floatArith _ _ _ _).bind fun v=>?_
 split
 ·exact TT.pure
 ·exact TT.stuck
theorem TT.ccmp (op:BinOp) (k:FloatKind) (x y:Nat):TT P F (Op.Complex.cmp op k x y):=by
 unfold Op.Complex.cmp
 exact (TT.floatCmp _ _ _ _).bind fun _=>TT.asBool _
theorem TT.conv (s:FloatKind) (x:Nat) (d:FloatKind):TT P F (Op.Complex.conv s x d):=by
 unfold Op.Complex.conv
 split
 ·exact TT.pure
 ·refine (TT.floatToFloat _ _ _).bind fun v=>?_
  split
  ·exact TT.pure
  ·exact TT.stuck
theorem TT.product (a b c d:Nat):TT P F (Op.Complex.product a b c d):=by
 unfold Op.Complex.product Op.Complex.sub Op.Complex.mul Op.Complex.add
 repeat' (first
  | with_reducible first
   | exact TT.pure | exact TT.stuck | exact TT.unsupported | exact TT.goPanic | exact TT.runtimePanic _ | exact TT.boundsPanic _ _ _ _
   | exact TT.arith _ _ _ _ | exact TT.ccmp _ _ _ _ | exact TT.conv _ _ _ | exact TT.part _ _ _ | exact TT.loadVar _ _ | exact TT.storeVar _ _ _ | exact TT.newVar _ _ | exact TT.newRow _ _ | exact TT.loadCells _ _ | exact TT.storeCells _ _ _
   | exact TT.asBool _ | exact TT.asInt _ | exact TT.byteOf _ | exact TT.behindNumber _ | exact TT.choose _
   | refine (TT.typeInfo _).bind fun _=>?_ | refine (TT.underlying _).bind fun _=>?_ | refine (TT.sizeOf _).bind fun _=>?_ | refine (TT.zeroValue _).bind fun _=>?_
   | refine (TT.asInt _).bind fun _=>?_ | refine (TT.asIntOf _).bind fun _=>?_ | refine (TT.asBool _).bind fun _=>?_ | refine (TT.asAgg _).bind fun _=>?_ | refine (TT.asAddr _).bind fun _=>?_ | refine (TT.sureAddr _).bind fun _=>?_
   | refine (TT.newVar _ _).bind fun _=>?_ | refine (TT.newRow _ _).bind fun _=>?_ | refine (TT.newObj _ (by simp)).bind fun _=>?_ | refine (TT.choose _).bind fun _=>?_ | refine (TT.askRoom _).bind fun _=>?_
   | refine (TT.loadCells _ _).bind fun _=>?_ | refine (TT.storeCells _ _ _).bind fun _=>?_ | refine (TT.byteOf _).bind fun _=>?_ | refine (TT.fieldPlace _ _).bind fun _=>?_ | refine (TT.part _ _ _).bind fun _=>?_ | refine (TT.viewAt _).bind fun _=>?_ | refine (TT.numberAt _).bind fun _=>?_ | refine (TT.behindNumber _).bind fun _=>?_ | refine (TT.shape _).bind fun _=>?_ | refine (TT.frozen _).bind fun _=>?_ | refine (TT.sliceBound _ _ _).bind fun _=>?_ | refine (TT.boundsPanic _ _ _ _).bind fun _=>?_ | refine (TT.runtimePanic _).bind fun _=>?_
   | refine (TT.arith _ _ _ _).bind fun _=>?_ | refine (TT.ccmp _ _ _ _).bind fun _=>?_ | refine (TT.conv _ _ _).bind fun _=>?_ | refine TT.stuck.bind fun _=>?_ | refine TT.unsupported.bind fun _=>?_ | refine TT.pure.bind fun _=>?_ | refine TT.bind ?_ fun _=>?_
  | split | dsimp only)
theorem TT.corrected (e a b c d:Nat):TT P F (Op.Complex.corrected e a b c d):=by
 unfold Op.Complex.corrected Op.Complex.sub Op.Complex.mul Op.Complex.add
 repeat' (first
  | with_reducible first
   | exact TT.pure | exact TT.stuck | exact TT.unsupported | exact TT.goPanic | exact TT.runtimePanic _ | exact TT.boundsPanic _ _ _ _
   | exact TT.arith _ _ _ _ | exact TT.ccmp _ _ _ _ | exact TT.conv _ _ _ | exact TT.part _ _ _ | exact TT.loadVar _ _ | exact TT.storeVar _ _ _ | exact TT.newVar _ _ | exact TT.newRow _ _ | exact TT.loadCells _ _ | exact TT.storeCells _ _ _
   | exact TT.asBool _ | exact TT.asInt _ | exact TT.byteOf _ | exact TT.behindNumber _ | exact TT.choose _
   | refine (TT.typeInfo _).bind fun _=>?_ | refine (TT.underlying _).bind fun _=>?_ | refine (TT.sizeOf _).bind fun _=>?_ | refine (TT.zeroValue _).bind fun _=>?_
   | refine (TT.asInt _).bind fun _=>?_ | refine (TT.asIntOf _).bind fun _=>?_ | refine (TT.asBool _).bind fun _=>?_ | refine (TT.asAgg _).bind fun _=>?_ | refine (TT.asAddr _).bind fun _=>?_ | refine (TT.sureAddr _).bind fun _=>?_
   | refine (TT.newVar _ _).bind fun _=>?_ | refine (TT.newRow _ _).bind fun _=>?_ | refine (TT.newObj _ (by simp)).bind fun _=>?_ | refine (TT.choose _).bind fun _=>?_ | refine (TT.askRoom _).bind fun _=>?_
   | refine (TT.loadCells _ _).bind fun _=>?_ | refine (TT.storeCells _ _ _).bind fun _=>?_ | refine (TT.byteOf _).bind fun _=>?_ | refine (TT.fieldPlace _ _).bind fun _=>?_ | refine (TT.part _ _ _).bind fun _=>?_ | refine (TT.viewAt _).bind fun _=>?_ | refine (TT.numberAt _).bind fun _=>?_ | refine (TT.behindNumber _).bind fun _=>?_ | refine (TT.shape _).bind fun _=>?_ | refine (TT.frozen _).bind fun _=>?_ | refine (TT.sliceBound _ _ _).bind fun _=>?_ | refine (TT.boundsPanic _ _ _ _).bind fun _=>?_ | refine (TT.runtimePanic _).bind fun _=>?_
   | refine (TT.arith _ _ _ _).bind fun _=>?_ | refine (TT.ccmp _ _ _ _).bind fun _=>?_ | refine (TT.conv _ _ _).bind fun _=>?_ | refine TT.stuck.bind fun _=>?_ | refine TT.unsupported.bind fun _=>?_ | refine TT.pure.bind fun _=>?_ | refine TT.bind ?_ fun _=>?_
  | split | dsimp only)
set_option maxHeartbeats 2000000 in
theorem TT.quotient (a b c d:Nat):TT P F (Op.Complex.quotient a b c d):=by
 unfold Op.Complex.quotient Op.Complex.sub Op.Complex.mul Op.Complex.add Op.Complex.quo
 repeat' (first
  | with_reducible first
   | exact TT.corrected _ _ _ _ _ | exact TT.pure | exact TT.arith _ _ _ _ | exact TT.ccmp _ _ _ _
   | refine (TT.arith _ _ _ _).bind fun _=>?_ | refine (TT.ccmp _ _ _ _).bind fun _=>?_ | refine TT.pure.bind fun _=>?_ | refine TT.bind ?_ fun _=>?_
  | split | dsimp only)
theorem TT.complexOp (op:BinOp) (k:FloatKind) (a b c d:Nat):TT P F (Op.complexOp op k a b c d):=by
 unfold Op.complexOp
 split
 ·repeat' (first
  | with_reducible first
   | exact TT.pure | exact TT.stuck | exact TT.unsupported | exact TT.goPanic | exact TT.runtimePanic _ | exact TT.boundsPanic _ _ _ _
   | exact TT.arith _ _ _ _ | exact TT.ccmp _ _ _ _ | exact TT.conv _ _ _ | exact TT.part _ _ _ | exact TT.loadVar _ _ | exact TT.storeVar _ _ _ | exact TT.newVar _ _ | exact TT.newRow _ _ | exact TT.loadCells _ _ | exact TT.storeCells _ _ _
   | exact TT.asBool _ | exact TT.asInt _ | exact TT.byteOf _ | exact TT.behindNumber _ | exact TT.choose _
   | refine (TT.typeInfo _).bind fun _=>?_ | refine (TT.underlying _).bind fun _=>?_ | refine (TT.sizeOf _).bind fun _=>?_ | refine (TT.zeroValue _).bind fun _=>?_
   | refine (TT.asInt _).bind fun _=>?_ | refine (TT.asIntOf _).bind fun _=>?_ | refine (TT.asBool _).bind fun _=>?_ | refine (TT.asAgg _).bind fun _=>?_ | refine (TT.asAddr _).bind fun _=>?_ | refine (TT.sureAddr _).bind fun _=>?_
   | refine (TT.newVar _ _).bind fun _=>?_ | refine (TT.newRow _ _).bind fun _=>?_ | refine (TT.newObj _ (by simp)).bind fun _=>?_ | refine (TT.choose _).bind fun _=>?_ | refine (TT.askRoom _).bind fun _=>?_
   | refine (TT.loadCells _ _).bind fun _=>?_ | refine (TT.storeCells _ _ _).bind fun _=>?_ | refine (TT.byteOf _).bind fun _=>?_ | refine (TT.fieldPlace _ _).bind fun _=>?_ | refine (TT.part _ _ _).bind fun _=>?_ | refine (TT.viewAt _).bind fun _=>?_ | refine (TT.numberAt _).bind fun _=>?_ | refine (TT.behindNumber _).bind fun _=>?_ | refine (TT.shape _).bind fun _=>?_ | refine (TT.frozen _).bind fun _=>?_ | refine (TT.sliceBound _ _ _).bind fun _=>?_ | refine (TT.boundsPanic _ _ _ _).bind fun _=>?_ | refine (TT.runtimePanic _).bind fun _=>?_
   | refine (TT.arith _ _ _ _).bind fun _=>?_ | refine (TT.ccmp _ _ _ _).bind fun _=>?_ | refine (TT.conv _ _ _).bind fun _=>?_ | refine TT.stuck.bind fun _=>?_ | refine TT.unsupported.bind fun _=>?_ | refine TT.pure.bind fun _=>?_ | refine TT.bind ?_ fun _=>?_
  | split | dsimp only)
 ·repeat' (first
  | with_reducible first
   | exact TT.pure | exact TT.stuck | exact TT.unsupported | exact TT.goPanic | exact TT.runtimePanic _ | exact TT.boundsPanic _ _ _ _
   | exact TT.arith _ _ _ _ | exact TT.ccmp _ _ _ _ | exact TT.conv _ _ _ | exact TT.part _ _ _ | exact TT.loadVar _ _ | exact TT.storeVar _ _ _ | exact TT.newVar _ _ | exact TT.newRow _ _ | exact TT.loadCells _ _ | exact TT.storeCells _ _ _
   | exact TT.asBool _ | exact TT.asInt _ | exact TT.byteOf _ | exact TT.behindNumber _ | exact TT.choose _
   | refine (TT.typeInfo _).bind fun _=>?_ | refine (TT.underlying _).bind fun _=>?_ | refine (TT.sizeOf _).bind fun _=>?_ | refine (TT.zeroValue _).bind fun _=>?_
   | refine (TT.asInt _).bind fun _=>?_ | refine (TT.asIntOf _).bind fun _=>?_ | refine (TT.asBool _).bind fun _=>?_ | refine (TT.asAgg _).bind fun _=>?_ | refine (TT.asAddr _).bind fun _=>?_ | refine (TT.sureAddr _).bind fun _=>?_
   | refine (TT.newVar _ _).bind fun _=>?_ | refine (TT.newRow _ _).bind fun _=>?_ | refine (TT.newObj _ (by simp)).bind fun _=>?_ | refine (TT.choose _).bind fun _=>?_ | refine (TT.askRoom _).bind fun _=>?_
   | refine (TT.loadCells _ _).bind fun _=>?_ | refine (TT.storeCells _ _ _).bind fun _=>?_ | refine (TT.byteOf _).bind fun _=>?_ | refine (TT.fieldPlace _ _).bind fun _=>?_ | refine (TT.part _ _ _).bind fun _=>?_ | refine (TT.viewAt _).bind fun _=>?_ | refine (TT.numberAt _).bind fun _=>?_ | refine (TT.behindNumber _).bind fun _=>?_ | refine (TT.shape _).bind fun _=>?_ | refine (TT.frozen _).bind fun _=>?_ | refine (TT.sliceBound _ _ _).bind fun _=>?_ | refine (TT.boundsPanic _ _ _ _).bind fun _=>?_ | refine (TT.runtimePanic _).bind fun _=>?_
   | refine (TT.arith _ _ _ _).bind fun _=>?_ | refine (TT.ccmp _ _ _ _).bind fun _=>?_ | refine (TT.conv _ _ _).bind fun _=>?_ | refine TT.stuck.bind fun _=>?_ | refine TT.unsupported.bind fun _=>?_ | refine TT.pure.bind fun _=>?_ | refine TT.bind ?_ fun _=>?_
  | split | dsimp only)
 ·refine (TT.conv _ _ _).bind fun _=>(TT.conv _ _ _).bind fun _=>(TT.conv _ _ _).bind fun _=>(TT.conv _ _ _).bind fun _=>?_
  dsimp only
  split
  ·exact (TT.product _ _ _ _).bind fun _=>(TT.conv _ _ _).bind fun _=>(TT.conv _ _ _).bind fun _=>TT.pure
  ·exact (TT.quotient _ _ _ _).bind fun _=>(TT.conv _ _ _).bind fun _=>(TT.conv _ _ _).bind fun _=>TT.pure
 ·refine (TT.conv _ _ _).bind fun _=>(TT.conv _ _ _).bind fun _=>(TT.conv _ _ _).bind fun _=>(TT.conv _ _ _).bind fun _=>?_
  dsimp only
  split
  ·exact (TT.product _ _ _ _).bind fun _=>(TT.conv _ _ _).bind fun _=>(TT.conv _ _ _).bind fun _=>TT.pure
  ·exact (TT.quotient _ _ _ _).bind fun _=>(TT.conv _ _ _).bind fun _=>(TT.conv _ _ _).bind fun _=>TT.pure
 ·repeat' (first
  | with_reducible first
   | exact TT.pure | exact TT.stuck | exact TT.unsupported | exact TT.goPanic | exact TT.runtimePanic _ | exact TT.boundsPanic _ _ _ _
   | exact TT.arith _ _ _ _ | exact TT.ccmp _ _ _ _ | exact TT.conv _ _ _ | exact TT.part _ _ _ | exact TT.loadVar _ _ | exact TT.storeVar _ _ _ | exact TT.newVar _ _ | exact TT.newRow _ _ | exact TT.loadCells _ _ | exact TT.storeCells _ _ _
   | exact TT.asBool _ | exact TT.asInt _ | exact TT.byteOf _ | exact TT.behindNumber _ | exact TT.choose _
   | refine (TT.typeInfo _).bind fun _=>?_ | refine (TT.underlying _).bind fun _=>?_ | refine (TT.sizeOf _).bind fun _=>?_ | refine (TT.zeroValue _).bind fun _=>?_
   | refine (TT.asInt _).bind fun _=>?_ | refine (TT.asIntOf _).bind fun _=>?_ | refine (TT.asBool _).bind fun _=>?_ | refine (TT.asAgg _).bind fun _=>?_ | refine (TT.asAddr _).bind fun _=>?_ | refine (TT.sureAddr _).bind fun _=>?_
   | refine (TT.newVar _ _).bind fun _=>?_ | refine (TT.newRow _ _).bind fun _=>?_ | refine (TT.newObj _ (by simp)).bind fun _=>?_ | refine (TT.choose _).bind fun _=>?_ | refine (TT.askRoom _).bind fun _=>?_
   | refine (TT.loadCells _ _).bind fun _=>?_ | refine (TT.storeCells _ _ _).bind fun _=>?_ | refine (TT.byteOf _).bind fun _=>?_ | refine (TT.fieldPlace _ _).bind fun _=>?_ | refine (TT.part _ _ _).bind fun _=>?_ | refine (TT.viewAt _).bind fun _=>?_ | refine (TT.numberAt _).bind fun _=>?_ | refine (TT.behindNumber _).bind fun _=>?_ | refine (TT.shape _).bind fun _=>?_ | refine (TT.frozen _).bind fun _=>?_ | refine (TT.sliceBound _ _ _).bind fun _=>?_ | refine (TT.boundsPanic _ _ _ _).bind fun _=>?_ | refine (TT.runtimePanic _).bind fun _=>?_
   | refine (TT.arith _ _ _ _).bind fun _=>?_ | refine (TT.ccmp _ _ _ _).bind fun _=>?_ | refine (TT.conv _ _ _).bind fun _=>?_ | refine TT.stuck.bind fun _=>?_ | refine TT.unsupported.bind fun _=>?_ | refine TT.pure.bind fun _=>?_ | refine TT.bind ?_ fun _=>?_
  | split | dsimp only)
 ·repeat' (first
  | with_reducible first
   | exact TT.pure | exact TT.stuck | exact TT.unsupported | exact TT.goPanic | exact TT.runtimePanic _ | exact TT.boundsPanic _ _ _ _
   | exact TT.arith _ _ _ _ | exact TT.ccmp _ _ _ _ | exact TT.conv _ _ _ | exact TT.part _ _ _ | exact TT.loadVar _ _ | exact TT.storeVar _ _ _ | exact TT.newVar _ _ | exact TT.newRow _ _ | exact TT.loadCells _ _ | exact TT.storeCells _ _ _
   | exact TT.asBool _ | exact TT.asInt _ | exact TT.byteOf _ | exact TT.behindNumber _ | exact TT.choose _
   | refine (TT.typeInfo _).bind fun _=>?_ | refine (TT.underlying _).bind fun _=>?_ | refine (TT.sizeOf _).bind fun _=>?_ | refine (TT.zeroValue _).bind fun _=>?_
   | refine (TT.asInt _).bind fun _=>?_ | refine (TT.asIntOf _).bind fun _=>?_ | refine (TT.asBool _).bind fun _=>?_ | refine (TT.asAgg _).bind fun _=>?_ | refine (TT.asAddr _).bind fun _=>?_ | refine (TT.sureAddr _).bind fun _=>?_
   | refine (TT.newVar _ _).bind fun _=>?_ | refine (TT.newRow _ _).bind fun _=>?_ | refine (TT.newObj _ (by simp)).bind fun _=>?_ | refine (TT.choose _).bind fun _=>?_ | refine (TT.askRoom _).bind fun _=>?_
   | refine (TT.loadCells _ _).bind fun _=>?_ | refine (TT.storeCells _ _ _).bind fun _=>?_ | refine (TT.byteOf _).bind fun _=>?_ | refine (TT.fieldPlace _ _).bind fun _=>?_ | refine (TT.part _ _ _).bind fun _=>?_ | refine (TT.viewAt _).bind fun _=>?_ | refine (TT.numberAt _).bind fun _=>?_ | refine (TT.behindNumber _).bind fun _=>?_ | refine (TT.shape _).bind fun _=>?_ | refine (TT.frozen _).bind fun _=>?_ | refine (TT.sliceBound _ _ _).bind fun _=>?_ | refine (TT.boundsPanic _ _ _ _).bind fun _=>?_ | refine (TT.runtimePanic _).bind fun _=>?_
   | refine (TT.arith _ _ _ _).bind fun _=>?_ | refine (TT.ccmp _ _ _ _).bind fun _=>?_ | refine (TT.conv _ _ _).bind fun _=>?_ | refine TT.stuck.bind fun _=>?_ | refine TT.unsupported.bind fun _=>?_ | refine TT.pure.bind fun _=>?_ | refine TT.bind ?_ fun _=>?_
  | split | dsimp only)
 ·exact TT.stuck
theorem TT.shift (op:BinOp) (k:IntKind) (x:Int) (j:IntKind) (y:Int):TT P F (Op.shift op k x j y):=by
 unfold Op.shift
 repeat' (first
  | with_reducible first
   | exact TT.pure | exact TT.stuck | exact TT.unsupported | exact TT.goPanic | exact TT.runtimePanic _ | exact TT.boundsPanic _ _ _ _
   | exact TT.arith _ _ _ _ | exact TT.ccmp _ _ _ _ | exact TT.conv _ _ _ | exact TT.part _ _ _ | exact TT.loadVar _ _ | exact TT.storeVar _ _ _ | exact TT.newVar _ _ | exact TT.newRow _ _ | exact TT.loadCells _ _ | exact TT.storeCells _ _ _
   | exact TT.asBool _ | exact TT.asInt _ | exact TT.byteOf _ | exact TT.behindNumber _ | exact TT.choose _
   | refine (TT.typeInfo _).bind fun _=>?_ | refine (TT.underlying _).bind fun _=>?_ | refine (TT.sizeOf _).bind fun _=>?_ | refine (TT.zeroValue _).bind fun _=>?_
   | refine (TT.asInt _).bind fun _=>?_ | refine (TT.asIntOf _).bind fun _=>?_ | refine (TT.asBool _).bind fun _=>?_ | refine (TT.asAgg _).bind fun _=>?_ | refine (TT.asAddr _).bind fun _=>?_ | refine (TT.sureAddr _).bind fun _=>?_
   | refine (TT.newVar _ _).bind fun _=>?_ | refine (TT.newRow _ _).bind fun _=>?_ | refine (TT.newObj _ (by simp)).bind fun _=>?_ | refine (TT.choose _).bind fun _=>?_ | refine (TT.askRoom _).bind fun _=>?_
   | refine (TT.loadCells _ _).bind fun _=>?_ | refine (TT.storeCells _ _ _).bind fun _=>?_ | refine (TT.byteOf _).bind fun _=>?_ | refine (TT.fieldPlace _ _).bind fun _=>?_ | refine (TT.part _ _ _).bind fun _=>?_ | refine (TT.viewAt _).bind fun _=>?_ | refine (TT.numberAt _).bind fun _=>?_ | refine (TT.behindNumber _).bind fun _=>?_ | refine (TT.shape _).bind fun _=>?_ | refine (TT.frozen _).bind fun _=>?_ | refine (TT.sliceBound _ _ _).bind fun _=>?_ | refine (TT.boundsPanic _ _ _ _).bind fun _=>?_ | refine (TT.runtimePanic _).bind fun _=>?_
   | refine (TT.arith _ _ _ _).bind fun _=>?_ | refine (TT.ccmp _ _ _ _).bind fun _=>?_ | refine (TT.conv _ _ _).bind fun _=>?_ | refine TT.stuck.bind fun _=>?_ | refine TT.unsupported.bind fun _=>?_ | refine TT.pure.bind fun _=>?_ | refine TT.bind ?_ fun _=>?_
  | split | dsimp only)
theorem TT.intBits (op:BinOp) (k:IntKind) (x y:Int):TT P F (Op.intBits op k x y):=by
 unfold Op.intBits
 repeat' (first
  | with_reducible first
   | exact TT.pure | exact TT.stuck | exact TT.unsupported | exact TT.goPanic | exact TT.runtimePanic _ | exact TT.boundsPanic _ _ _ _
   | exact TT.arith _ _ _ _ | exact TT.ccmp _ _ _ _ | exact TT.conv _ _ _ | exact TT.part _ _ _ | exact TT.loadVar _ _ | exact TT.storeVar _ _ _ | exact TT.newVar _ _ | exact TT.newRow _ _ | exact TT.loadCells _ _ | exact TT.storeCells _ _ _
   | exact TT.asBool _ | exact TT.asInt _ | exact TT.byteOf _ | exact TT.behindNumber _ | exact TT.choose _
   | refine (TT.typeInfo _).bind fun _=>?_ | refine (TT.underlying _).bind fun _=>?_ | refine (TT.sizeOf _).bind fun _=>?_ | refine (TT.zeroValue _).bind fun _=>?_
   | refine (TT.asInt _).bind fun _=>?_ | refine (TT.asIntOf _).bind fun _=>?_ | refine (TT.asBool _).bind fun _=>?_ | refine (TT.asAgg _).bind fun _=>?_ | refine (TT.asAddr _).bind fun _=>?_ | refine (TT.sureAddr _).bind fun _=>?_
   | refine (TT.newVar _ _).bind fun _=>?_ | refine (TT.newRow _ _).bind fun _=>?_ | refine (TT.newObj _ (by simp)).bind fun _=>?_ | refine (TT.choose _).bind fun _=>?_ | refine (TT.askRoom _).bind fun _=>?_
   | refine (TT.loadCells _ _).bind fun _=>?_ | refine (TT.storeCells _ _ _).bind fun _=>?_ | refine (TT.byteOf _).bind fun _=>?_ | refine (TT.fieldPlace _ _).bind fun _=>?_ | refine (TT.part _ _ _).bind fun _=>?_ | refine (TT.viewAt _).bind fun _=>?_ | refine (TT.numberAt _).bind fun _=>?_ | refine (TT.behindNumber _).bind fun _=>?_ | refine (TT.shape _).bind fun _=>?_ | refine (TT.frozen _).bind fun _=>?_ | refine (TT.sliceBound _ _ _).bind fun _=>?_ | refine (TT.boundsPanic _ _ _ _).bind fun _=>?_ | refine (TT.runtimePanic _).bind fun _=>?_
   | refine (TT.arith _ _ _ _).bind fun _=>?_ | refine (TT.ccmp _ _ _ _).bind fun _=>?_ | refine (TT.conv _ _ _).bind fun _=>?_ | refine TT.stuck.bind fun _=>?_ | refine TT.unsupported.bind fun _=>?_ | refine TT.pure.bind fun _=>?_ | refine TT.bind ?_ fun _=>?_
  | split | dsimp only)
theorem TT.twoPlaces (a b:Addr):TT P F (Op.twoPlaces a b):=by
 unfold Op.twoPlaces
 refine TT.program ?_ rfl
 split
 ·exact TT.unsupported.bind fun _=>(TT.byteOf _).bind fun _=>(TT.byteOf _).bind fun _=>TT.pure
 ·exact (TT.byteOf _).bind fun _=>(TT.byteOf _).bind fun _=>TT.pure
theorem TT.addrSub (k:IntKind) (a b:Addr):TT P F (Op.addrSub k a b):=by
 unfold Op.addrSub
 exact (TT.twoPlaces _ _).bind fun _=>TT.pure
theorem TT.addrCmp (op:BinOp) (a b:Addr):TT P F (Op.addrCmp op a b):=by
 unfold Op.addrCmp
 refine (TT.twoPlaces _ _).bind fun p=>?_
 dsimp only
 split <;> first | exact TT.pure | exact TT.unsupported
theorem TT.addrMod (k:IntKind) (a:Addr) (n:Int):TT P F (Op.addrMod k a n):=by
 unfold Op.addrMod
 repeat' (first
  | with_reducible first
   | exact TT.pure | exact TT.stuck | exact TT.unsupported | exact TT.goPanic | exact TT.runtimePanic _ | exact TT.boundsPanic _ _ _ _
   | exact TT.arith _ _ _ _ | exact TT.ccmp _ _ _ _ | exact TT.conv _ _ _ | exact TT.part _ _ _ | exact TT.loadVar _ _ | exact TT.storeVar _ _ _ | exact TT.newVar _ _ | exact TT.newRow _ _ | exact TT.loadCells _ _ | exact TT.storeCells _ _ _
   | exact TT.asBool _ | exact TT.asInt _ | exact TT.byteOf _ | exact TT.behindNumber _ | exact TT.choose _
   | refine (TT.typeInfo _).bind fun _=>?_ | refine (TT.underlying _).bind fun _=>?_ | refine (TT.sizeOf _).bind fun _=>?_ | refine (TT.zeroValue _).bind fun _=>?_
   | refine (TT.asInt _).bind fun _=>?_ | refine (TT.asIntOf _).bind fun _=>?_ | refine (TT.asBool _).bind fun _=>?_ | refine (TT.asAgg _).bind fun _=>?_ | refine (TT.asAddr _).bind fun _=>?_ | refine (TT.sureAddr _).bind fun _=>?_
   | refine (TT.newVar _ _).bind fun _=>?_ | refine (TT.newRow _ _).bind fun _=>?_ | refine (TT.newObj _ (by simp)).bind fun _=>?_ | refine (TT.choose _).bind fun _=>?_ | refine (TT.askRoom _).bind fun _=>?_
   | refine (TT.loadCells _ _).bind fun _=>?_ | refine (TT.storeCells _ _ _).bind fun _=>?_ | refine (TT.byteOf _).bind fun _=>?_ | refine (TT.fieldPlace _ _).bind fun _=>?_ | refine (TT.part _ _ _).bind fun _=>?_ | refine (TT.viewAt _).bind fun _=>?_ | refine (TT.numberAt _).bind fun _=>?_ | refine (TT.behindNumber _).bind fun _=>?_ | refine (TT.shape _).bind fun _=>?_ | refine (TT.frozen _).bind fun _=>?_ | refine (TT.sliceBound _ _ _).bind fun _=>?_ | refine (TT.boundsPanic _ _ _ _).bind fun _=>?_ | refine (TT.runtimePanic _).bind fun _=>?_
   | refine (TT.arith _ _ _ _).bind fun _=>?_ | refine (TT.ccmp _ _ _ _).bind fun _=>?_ | refine (TT.conv _ _ _).bind fun _=>?_ | refine TT.stuck.bind fun _=>?_ | refine TT.unsupported.bind fun _=>?_ | refine TT.pure.bind fun _=>?_ | refine TT.bind ?_ fun _=>?_
  | split | dsimp only)
theorem TT.unsafeAdd (X:Array TypeId) (t:TypeId) (x y:Value):TT P F (Builtin.unsafeAdd_ X t #[x,y]):=by
 have e1:∀ (a:Addr) (n:Int) (e:TypeId) (cells:Nat),TT P F (Go.program >>= fun p=>match cellAtBytes p p.depth e (cells / p.cellsOf e) a.off n with
  | some off=>Pure.pure (.pointer (some { a with off }))
  | none => Go.unsupported (.unsafePointer "Add") : Sem Value) := by
  intro a n e cells
  refine TT.program ?_ (by simp only [alt_cellAtBytes,alt_cellsOf,alt_depth])
  split
  ·exact TT.pure
  ·exact TT.unsupported
 cases x with
 | pointer ptr =>
  unfold Builtin.unsafeAdd_
  refine (TT.asInt _).bind fun n=>?_
  repeat' (first
   | with_reducible first
    | exact TT.pure | exact TT.stuck | exact TT.unsupported | refine (TT.viewAt _).bind fun _=>?_ | refine (TT.shape _).bind fun _=>?_ | refine TT.unsupported.bind fun _=>?_ | refine TT.pure.bind fun _=>?_
   | split | dsimp only | exact e1 _ _ _ _)
 | _=>exact TT.stuck
theorem TT.asNumber (a:Addr) (b:Bool):TT P F (asNumber a b):=by
 unfold Go.asNumber
 exact (TT.newObj _ (by simp)).bind fun _=>TT.pure
theorem TT.movedNumber (t:TypeId) (x y:Value):TT P F (movedNumber t x y):=by
 unfold Go.movedNumber
 refine (TT.underlying _).bind fun d=>?_
 have e1:TT P F (match x with
  | .pointer (some n)=>do
   let (a,lost) <-Go.behindNumber n
   match <-Builtin.unsafeAdd_ #[] t #[.pointer (some a),y] with
   | .pointer (some b)=>Go.asNumber b lost
   | v=>Pure.pure v
  | _=>Builtin.unsafeAdd_ #[] t #[x,y]:Sem Value):=by
  split
  ·refine (TT.behindNumber _).bind fun p=>(TT.unsafeAdd _ _ _ _).bind fun v=>?_
   split
   ·exact TT.asNumber _ _
   ·exact TT.pure
  ·exact TT.unsafeAdd _ _ _ _
 dsimp only
 split
 ·exact TT.unsupported.bind fun _=>e1
 ·exact e1
theorem TT.movedPointer (t:TypeId) (x y:Value):TT P F (movedPointer t x y):=by
 unfold Go.movedPointer
 repeat' (first
  | exact TT.unsafeAdd _ _ _ _
  | with_reducible first
   | refine (TT.numberAt _).bind fun _=>?_ | refine TT.unsupported.bind fun _=>?_ | refine TT.pure.bind fun _=>?_
  | split | dsimp only)
theorem tm_getObj {S:Nat->Prop} {Q : α->Prop} {r:Nat} {f:Obj->Sem α} (h1:∀ o:Obj,isOp o=false->Tm (alt P F) P Q (fun x=>S x \/ x=r) (f o)) (h2:∀ o:Obj,isOp o=true->f o=f ch0) (h3:Tm (alt P F) P Q S (f ch0)) :
 Tm (alt P F) P Q S (getObj r >>= f):=Tm.getObj (k:=f) h1 (fun o ho=>h2 o (isOp_of ho)) (fun o ho=>.inl (h2 o ho)) h3
section int
variable {t : TypeId} {k : IntKind}
theorem TT.equalInt (h:P.underlying t=some (.int k)) (n:Nat) (x y:Value):TT P F (Op.equalIn (n+1) t x y):=by
 unfold Op.equalIn
 refine TT.bindQ (tm_underlying t) fun d hd=>?_
 obtain rfl:d = .int k:=by rw [h] at hd;exact (Option.some.inj hd).symm
 split <;> first
  | contradiction
  | (with_reducible first | exact TT.pure | exact TT.unsupported | exact TT.stuck)
  | skip
 ·split <;> first | exact TT.pure | exact TT.stuck
 ·refine (TT.behindNumber _).bind fun _=>(TT.behindNumber _).bind fun _=>?_
  dsimp only
  refine TT.program ?_ rfl
  split
  ·exact (TT.byteOf _).bind fun _=>(TT.byteOf _).bind fun _=>TT.pure
  ·refine (TT.typeInfo _).bind fun i=>?_
   split
   ·split
    ·exact TT.pure
    ·exact TT.unsupported
   ·exact TT.unsupported
theorem TT.equal (h:P.underlying t=some (.int k)) (x y:Value):TT P F (Op.equal t x y):=TT.equalInt h _ x y
def Flat (P:Program) (t:TypeId):Prop:=(∃ k,P.underlying t=some (.int k)) \/ P.underlying t=some .bool
theorem TT.equalF (h:Flat P t) (x y:Value):TT P F (Op.equal t x y):=by
 rcases h with ⟨k,h⟩ | h
 ·exact TT.equal h x y
 ·have e1:∀ n,TT P F (Op.equalIn (n+1) t x y):=by
   intro n
   unfold Op.equalIn
   refine TT.bindQ (tm_underlying t) fun d hd=>?_
   obtain rfl:d = .bool:=by rw [h] at hd;exact (Option.some.inj hd).symm
   split <;> first
    | contradiction
    | exact TT.pure
    | exact TT.stuck
  exact e1 _
theorem TT.eqGuard (h:Flat P t) (op:BinOp) (x y:Operand) (a b:Value):TT P F (eqGuard op t x y a b):=by
 have e1:∀ (n:Nat) (a b:Value),TT P F (Op.eqGuardIn (n+1) t a b):=by
  intro n a b
  unfold Op.eqGuardIn
  refine TT.bindQ (tm_underlying t) fun d hd=>?_
  have hd':(∃ k,d = .int k) \/ d = .bool:=h.imp (fun ⟨k,e⟩=>⟨k,by rw [e] at hd;exact (Option.some.inj hd).symm⟩) fun e=>by rw [e] at hd;exact (Option.some.inj hd).symm
  rcases hd' with ⟨k,rfl⟩ | rfl <;> split <;> first | contradiction | exact TT.pure
 have e2:TT P F (Op.eqGuardIn Op.maxDepth t a b):=e1 _ a b
 unfold Go.eqGuard
 repeat' (first
  | with_reducible first
   | exact TT.pure | exact TT.unsupported | refine e2.bind fun _=>?_ | refine TT.pure.bind fun _=>?_
  | with_reducible refine TT.program ?_ (by simp only [alt_eqGuardType,alt_depth])
  | split | dsimp only)
theorem TT.binOp (h:Flat P t) (op:BinOp) (x y:Value):TT P F (binOp op t x y):=by
 unfold Go.binOp
 repeat' (first
  | with_reducible first
   | exact TT.shift _ _ _ _ _ | exact TT.intArith _ _ _ _ | exact TT.intDiv _ _ _ _ | exact TT.intBits _ _ _ _ | exact TT.intCmp _ _ _ | exact TT.floatArith _ _ _ _ | exact TT.floatCmp _ _ _ _ | exact TT.complexOp _ _ _ _ _ _
   | exact TT.stringOp _ _ _ | exact TT.movedPointer _ _ _ | exact TT.movedNumber _ _ _ | exact TT.addrSub _ _ _ | exact TT.addrCmp _ _ _ | exact TT.addrMod _ _ _ | exact TT.stuck | exact TT.unsupported | exact TT.pure
   | refine (TT.equalF h _ _).bind fun _=>?_ | refine (TT.underlying _).bind fun _=>?_ | refine (TT.behindNumber _).bind fun _=>?_
  | split | dsimp only)
theorem TT.checkKey (h:P.underlying t=some (.int k)) (b:Bool) (n:Nat) (v:Value):TT P F (Instr.checkKey b (n+1) t v):=by
 unfold Instr.checkKey
 refine TT.bindQ (tm_underlying t) fun d hd=>?_
 obtain rfl:d = .int k:=by rw [h] at hd;exact (Option.some.inj hd).symm
 split <;> first | contradiction | exact TT.pure
theorem TT.findAsking (h:P.underlying t=some (.int k)) (v:Value):∀ (l:List MapEntry) (i:Nat),TT P F (Instr.findAsking t v l i)
 | [],i=>by unfold Instr.findAsking;exact TT.pure
 | e::l,i=>by
  unfold Instr.findAsking
  refine (TT.equal h _ _).bind fun b=>?_
  split
  ·exact TT.pure
  ·exact TT.findAsking h v l _
theorem TT.findKey (h:P.underlying t=some (.int k)) (v:Value) (l:List MapEntry):TT P F (Instr.findKey t v l):=by
 unfold Instr.findKey
 refine (TT.underlying _).bind fun d=>?_
 split
 ·exact TT.pure
 ·exact TT.findAsking h v l _
theorem TT.keyThatStays (a b:Value):TT P F (Instr.keyThatStays a b):=by
 unfold Instr.keyThatStays
 split
 ·exact TT.pure
 ·exact (TT.choose _).bind fun _=>TT.pure
theorem TT.lookup {m e:TypeId} (hm:P.underlying m=some (.map t e)) (h:P.underlying t=some (.int k)) (x i:Value) (b:Bool):TT P F (Instr.lookup m x i b):=by
 unfold Instr.lookup
 refine TT.bindQ (tm_underlying m) fun d hd=>?_
 obtain rfl:d = .map t e:=by rw [hm] at hd;exact (Option.some.inj hd).symm
 have e2:∀ es:Array MapEntry,TT P F (do
  Instr.checkKey es.isEmpty 10000 t i
  let (v,ok) <-match <-Instr.findKey t i es.toList with
   | some (_,v)=>Pure.pure (v,true)
   | none=>do Pure.pure (<-Go.zeroValue e,false)
  Pure.pure (if b then .tuple #[v,.bool ok] else v):Sem Value):=by
  intro es
  refine (TT.checkKey h _ _ _).bind fun _=>(TT.findKey h _ _).bind fun r=>?_
  repeat' (first
   | with_reducible first
    | exact TT.pure | refine (TT.zeroValue _).bind fun _=>?_ | refine TT.pure.bind fun _=>?_
   | split | dsimp only)
 dsimp only
 split
 ·exact TT.pure.bind fun _=>e2 _
 ·refine TT.getObj (fun o=>?_) fun o ho=>by cases o <;> first | rfl | cases ho
  split
  ·first | exact e2 _ | exact TT.pure.bind fun _=>e2 _
  ·first | exact TT.stuck | exact TT.stuck.bind fun _=>e2 _
 ·first | exact TT.stuck | exact TT.stuck.bind fun _=>e2 _
theorem TT.mapUpdate {m e:TypeId} (hm:P.underlying m=some (.map t e)) (h:P.underlying t=some (.int k)) (x i v:Value):TT P F (Instr.mapUpdate m x i v):=by
 unfold Instr.mapUpdate
 refine TT.bindQ (tm_underlying m) fun d hd=>?_
 obtain rfl:d = .map t e:=by rw [hm] at hd;exact (Option.some.inj hd).symm
 dsimp only
 split
 ·exact TT.runtimePanic _
 ·rename_i r
  intro S
  refine tm_getObj (fun o ho=>?_) (fun o ho=>by cases o <;> first | rfl | cases ho) (.halt trivial)
  have hs:∀ (S':Nat->Prop) (es:Array MapEntry) (c:Nat),S' r->Tm (alt P F) P (fun _=>True) S' (setObj r (.map es c)):=fun S' es c hr=>.setObj hr rfl (.pure trivial)
  split
  ·refine (TT.checkKey h _ _ _ _).bind fun _ _ S1 h1=>(TT.findKey h _ _ _).bind fun q _ S2 h2=>?_
   have hr:S2 r:=h2 _ (h1 _ (.inr rfl))
   split
   ·exact (TT.keyThatStays _ _ _).bind fun _ _ S3 h3=>hs _ _ _ (h3 _ hr)
   ·exact hs _ _ _ hr
  ·exact .halt trivial
 ·exact TT.stuck
theorem TT.range {m e:TypeId} (hm:P.underlying m=some (.map t e)) (x:Value):TT P F (Instr.range m x):=by
 unfold Instr.range
 refine TT.bindQ (tm_underlying m) fun d hd=>?_
 obtain rfl:d = .map t e:=by rw [hm] at hd;exact (Option.some.inj hd).symm
 have e2:∀ o:Obj,(∀ l,o ≠ .loop l)->TT P F (do Pure.pure (.pointer (some ⟨<-Go.newObj o,0,none⟩)):Sem Value):=fun o h=>(TT.newObj _ h).bind fun _=>TT.pure
 dsimp only
 split
 ·contradiction
 ·exact e2 (.mapIter none 0 #[] 0) (by simp)
 ·refine TT.getObj (fun o=>?_) fun o ho=>by cases o <;> first | rfl | cases ho
  split
  ·exact e2 (.mapIter _ _ _ _) (by simp)
  ·first | exact TT.stuck | exact TT.halt trivial
 ·first | exact TT.stuck | exact TT.halt trivial
theorem TT.next (x:Value) (b:Bool) (ty:TypeId):TT P F (Instr.next x b ty):=by
 unfold Instr.next
 dsimp only
 split
 ·rename_i r _
  intro S
  refine tm_getObj (fun o ho=>?_) (fun o ho=>by cases o <;> first | rfl | cases ho) (.halt trivial)
  have hs:∀ (S':Nat->Prop) (o:Obj) (v:Value),isOp o=false->S' r->Tm (alt P F) P (fun _=>True) S' (do setObj r o;Pure.pure v):=fun S' o v ho hr=>Tm.setObj (k:=.pure v) hr ho (.pure trivial)
  split
  ·split
   ·exact hs _ _ _ rfl (.inr rfl)
   ·exact .pure trivial
  ·exact .pure trivial
  ·refine tm_getObj (fun o ho=>?_) (fun o ho=>by cases o <;> first | rfl | cases ho) (.halt trivial)
   split
   ·split
    ·exact .halt trivial
    ·refine (TT.choose _ _).bind fun n _ S' hS'=>?_
     split
     ·exact hs _ _ _ rfl (hS' _ (.inl (.inr rfl)))
     ·exact .pure trivial
     ·exact .halt trivial
   ·exact .halt trivial
  ·exact .halt trivial
 ·exact TT.stuck
theorem TT.entry (x:Value):TT P F (Instr.entry x):=by
 unfold Instr.entry
 split
 ·refine TT.getObj (fun o=>?_) fun o ho=>by cases o <;> first | rfl | cases ho
  split
  ·split
   ·refine TT.getObj (fun o=>?_) fun o ho=>by cases o <;> first | rfl | cases ho
    split
    ·dsimp only
     repeat' (first
      | with_reducible first
       | exact TT.pure | exact TT.unsupported | refine TT.unsupported.bind fun _=>?_
      | split)
    ·exact TT.stuck
   ·exact TT.stuck
  ·exact TT.stuck
 ·exact TT.stuck
end int
end
end Cv
namespace Cv
open Go
section
variable {P : Program} {F : Array Func} {α β : Type}
theorem TT.placeGet (t:TypeId) (x:Place):TT P F (x.get t):=by
 unfold Place.get
 split
 ·exact TT.pure
 ·exact TT.loadVar _ _
theorem TT.follow:∀ (l:List FieldStep) (t:TypeId) (x:Place),TT P F (follow l t x)
 | [],t,x=>by unfold Go.follow;exact TT.pure
 | s::l,t,x=>by
  unfold Go.follow
  refine (TT.underlying _).bind fun d=>?_
  repeat' (first
   | with_reducible first
    | exact TT.stuck | exact TT.follow l _ _ | refine (TT.placeGet _ _).bind fun _=>?_ | refine (TT.asAddr _).bind fun _=>?_ | refine (TT.fieldPlace _ _).bind fun _=>?_ | refine (TT.part _ _ _).bind fun _=>?_
   | split | dsimp only)
theorem TT.wrapNil (a:Array TypeId) (t:TypeId) (x:Value) (s m:String):TT P F (Builtin.ssaWrapNilChk_ a t #[x,strVal s,strVal m]):=by
 cases x with
 | pointer p =>
  cases p with
  | some p=>exact TT.pure
  | none =>
   refine (TT.choose _).bind fun n=>?_
   repeat' (first
  | with_reducible first
   | exact TT.pure | exact TT.stuck | exact TT.unsupported | exact TT.goPanic | exact TT.runtimePanic _ | exact TT.boundsPanic _ _ _ _
   | exact TT.part _ _ _ | exact TT.loadVar _ _ | exact TT.storeVar _ _ _ | exact TT.newVar _ _ | exact TT.newRow _ _ | exact TT.loadCells _ _ | exact TT.storeCells _ _ _
   | exact TT.asBool _ | exact TT.asInt _ | exact TT.byteOf _ | exact TT.behindNumber _ | exact TT.choose _
   | refine (TT.typeInfo _).bind fun _=>?_ | refine (TT.underlying _).bind fun _=>?_ | refine (TT.sizeOf _).bind fun _=>?_ | refine (TT.zeroValue _).bind fun _=>?_
   | refine (TT.asInt _).bind fun _=>?_ | refine (TT.asIntOf _).bind fun _=>?_ | refine (TT.asBool _).bind fun _=>?_ | refine (TT.asAgg _).bind fun _=>?_ | refine (TT.asAddr _).bind fun _=>?_ | refine (TT.sureAddr _).bind fun _=>?_
   | refine (TT.newVar _ _).bind fun _=>?_ | refine (TT.newRow _ _).bind fun _=>?_ | refine (TT.newObj _ (by simp)).bind fun _=>?_ | refine (TT.choose _).bind fun _=>?_ | refine (TT.askRoom _).bind fun _=>?_
   | refine (TT.loadCells _ _).bind fun _=>?_ | refine (TT.storeCells _ _ _).bind fun _=>?_ | refine (TT.byteOf _).bind fun _=>?_ | refine (TT.fieldPlace _ _).bind fun _=>?_ | refine (TT.part _ _ _).bind fun _=>?_ | refine (TT.viewAt _).bind fun _=>?_ | refine (TT.numberAt _).bind fun _=>?_ | refine (TT.behindNumber _).bind fun _=>?_ | refine (TT.shape _).bind fun _=>?_ | refine (TT.frozen _).bind fun _=>?_ | refine (TT.sliceBound _ _ _).bind fun _=>?_ | refine (TT.boundsPanic _ _ _ _).bind fun _=>?_ | refine (TT.runtimePanic _).bind fun _=>?_
   | refine TT.stuck.bind fun _=>?_ | refine TT.unsupported.bind fun _=>?_ | refine TT.pure.bind fun _=>?_ | refine TT.bind ?_ fun _=>?_
  | split | dsimp only)
 | _=>exact TT.stuck
theorem tm_runtimePanic {Q : α->Prop} {S:Nat->Prop} (e:RuntimeError):Tm (alt P F) P Q S (runtimePanic e:Sem α):=by
 unfold Go.runtimePanic
 refine tm_program ?_ (by cases e <;> rfl)
 cases e with
 | typeAssertion i c a m=>exact (TT.elemOf _ S).bind fun _ _ S' _=>(TT.newVar _ _ S').bind fun _ _ _ _=>.halt trivial
 | panicNil=>exact (TT.elemOf _ S).bind fun _ _ S' _=>(TT.newVar _ _ S').bind fun _ _ _ _=>.halt trivial
 | _=>exact .halt trivial
theorem TT.receiverAt (t:TypeId) (x:Place) (b:Bool) (w:Option String):TT P F (receiverAt t x b w):=by
 unfold Go.receiverAt
 refine (TT.underlying _).bind fun d=>?_
 repeat' (first
  | with_reducible first
   | exact TT.placeGet _ _ | exact TT.stuck | exact TT.pure | exact TT.loadVar _ _ | refine (TT.placeGet _ _).bind fun _=>?_ | refine (TT.wrapNil _ _ _ _ _).bind fun _=>?_ | refine (TT.asAddr _).bind fun _=>?_ | refine TT.pure.bind fun _=>?_
  | split | dsimp only)
theorem TT.receiverVia (t:TypeId) (v:Value) (p:Array FieldStep) (b:Bool):TT P F (receiverVia t v p b):=by
 unfold Go.receiverVia
 exact (TT.follow _ _ _).bind fun _=>TT.receiverAt _ _ _ _
theorem TT.method:∀ (n:Nat) (t:TypeId) (v:Value) (s:String),TT P F (method n t v s)
 | 0,t,v,s=>by unfold Go.method;exact TT.unsupported
 | n+1,t,v,s=>by
  unfold Go.method
  refine (TT.typeInfo _).bind fun i=>?_
  split
  ·refine (TT.follow _ _ _).bind fun x=>?_
   dsimp only
   split
   ·refine (TT.placeGet _ _).bind fun y=>?_
    split
    ·exact TT.method n _ _ _
    ·exact TT.runtimePanic _
    ·exact TT.stuck
   ·exact (TT.receiverAt _ _ _ _).bind fun _=>TT.pure
  ·exact TT.stuck
def FunOk (P : Program) (F : Array Func) : Prop := ∀ f : FuncId, F[f]? = none \/ (∃ fL, F[f]? = some fL /\ fL.body.isNone = true /\ fL.name = "" /\ Extern.findNext fL = none /\ Extern.find fL = none) \/
 ∃ fL fn, F[f]? = some fL /\ P.funcs[f]? = some fn /\ fL.body.isNone = false /\ fn.body.isNone = false /\ (fL.name == "runtime.NumGoroutine") = false /\ (fn.name == "runtime.NumGoroutine") = false
def NextOk:Next->Prop
 | .value _ | .skip | .enter _ _=>True
 | _=>False
def TN (P:Program) (F:Array Func) (s:Sem Next):Prop:=∀ S,Tm (alt P F) P NextOk S s
theorem TN.bind {s:Sem β} {f : β->Sem Next} (h:TT P F s) (hf:∀ a,TN P F (f a)):TN P F (s >>= f):=fun S=>(h S).bind fun a _ S' _=>hf a S'
theorem TN.val {s:Sem Value} (h:TT P F s):TN P F (do Pure.pure (Next.value (<-s))):=TN.bind h fun _ _=>.pure trivial
theorem TN.unit {s:Sem Unit} (h:TT P F s):TN P F (do s;Pure.pure Next.skip):=TN.bind h fun _ _=>.pure trivial
theorem TN.halt {h:Halt} (hh:HaltOk h):TN P F (.halt h):=fun _=>.halt hh
theorem tm_programD {S:Nat->Prop} {Q : α->Prop} {f:Program->Sem α} (h:Tm (alt P F) P Q S (f (alt P F))) (e:∀ w,∃ h w',HaltOk h/\(f (alt P F)).run (alt P F) w = .halt h w'):Tm (alt P F) P Q S (program >>= f):=Tm.program (k:=f) h (.inr e)
theorem TN.callFunc (hF:FunOk P F) (f:FuncId) (args:Array Value):TN P F (callFunc f args):=by
 intro S
 unfold Go.callFunc
 have key : ∀ p : Program, (∃ fn, p.funcs[f]? = some fn /\ fn.body.isNone = false /\ (fn.name == "runtime.NumGoroutine") = false) -> (match p.funcs[f]? with
  | none => stuck "call: no such function"
  | some fn =>
   if fn.name == "runtime.NumGoroutine" then Pure.pure .numGoroutine
   else if fn.body.isNone then do
    mark (.extern f)
    if let some e:=Extern.findNext fn then return <-e args
    match Extern.find fn with
    | some e=>Pure.pure (.value (<-e args))
    | none =>
     if fn.name.endsWith ".init" && !fn.name.startsWith "(" && !fn.name.startsWith "gosem." then Pure.pure (.value (.tuple #[]))
     else Go.unsupported (.extern fn.name)
   else Pure.pure (.enter f args):Sem Next)=Pure.pure (.enter f args):=by
  rintro p ⟨fn,h1,h2,h3⟩
  rw [h1]
  simp only [h2,h3,Bool.false_eq_true,↓reduceIte]
 rcases hF f with h1 | ⟨fL,h1,h2,h3,h4,h5⟩ | ⟨fL,fn,h1,h2,h3,h4,h5,h6⟩
 ·refine tm_programD ?_ fun w=>?_
  ·have h1':(alt P F).funcs[f]? = none:=h1
   rw [h1'];exact .halt trivial
  ·have h1':(alt P F).funcs[f]? = none:=h1
   rw [h1'];exact ⟨_,_,(show HaltOk (.stuck _) from trivial),rfl⟩
 ·have e:(match (alt P F).funcs[f]? with
   | none => stuck "call: no such function"
   | some fn =>
    if fn.name == "runtime.NumGoroutine" then Pure.pure .numGoroutine
    else if fn.body.isNone then do
     mark (.extern f)
     if let some e:=Extern.findNext fn then return <-e args
     match Extern.find fn with
     | some e=>Pure.pure (.value (<-e args))
     | none =>
      if fn.name.endsWith ".init" && !fn.name.startsWith "(" && !fn.name.startsWith "gosem." then Pure.pure (.value (.tuple #[]))
      else Go.unsupported (.extern fn.name)
    else Pure.pure (.enter f args) : Sem Next) = (do mark (.extern f); Go.unsupported (.extern "")) := by
   have h1':(alt P F).funcs[f]? = some fL:=h1
   have e1 : ("" == "runtime.NumGoroutine") = false := by decide
   have e2 : ("".endsWith ".init" && ! "".startsWith "(" && ! "".startsWith "gosem.") = false := by decide +kernel
   rw [h1']
   simp only [h2,h3,h4,h5,e1,e2,Bool.false_eq_true,↓reduceIte]
  refine tm_programD ?_ fun w=>?_
  ·exact (congrArg (Tm (alt P F) P NextOk S) e).mpr (.mark (by simp) (by simp) (.halt trivial))
  ·exact ⟨_,_,(show HaltOk (.unsupported _) from trivial),(congrArg (fun s:Sem Next=>s.run (alt P F) w) e).trans rfl⟩
 ·have e1:=key (alt P F) ⟨fL,h1,h3,h5⟩
  have e2:=key P ⟨fn,h2,h4,h6⟩
  refine tm_program ?_ (e2.trans e1.symm)
  exact (congrArg (Tm (alt P F) P NextOk S) e1).mpr (.pure trivial)
theorem TN.callMethod (hF:FunOk P F) (r:Value) (n:String) (args:Array Value):TN P F (callMethod r n args):=by
 unfold Go.callMethod
 split
 ·intro S
  refine tm_program ?_ rfl
  exact TN.bind (TT.method _ _ _ _) (fun x=>TN.callFunc hF _ _) S
 ·exact fun S=>tm_runtimePanic _
 ·exact TN.halt trivial
theorem TN.yield (l:Nat) (args:Array Value):TN P F (Instr.yield l args):=by
 intro S
 unfold Instr.yield Instr.getLoop
 have h0:∀ o:Obj,(∀ r,o ≠ .loop r)->(match o with
  | .loop r=>Pure.pure r
  | _ => stuck "range over a function: no such loop" : Sem Loop) = stuck "range over a function: no such loop" := fun o h => by cases o <;> first | rfl | exact absurd rfl (h _)
 exact Tm.getObj (fun o ho=>by
  have:∀ r,o ≠ .loop r:=fun r e=>by rw [e] at ho;cases ho
  refine (congrArg (fun s=>Tm (alt P F) P NextOk _ (Sem.bind s _)) (h0 o this)).mpr (.halt trivial))
  (fun o ho=>by cases o <;> first | rfl | cases ho) (fun o _=>.inr ⟨_,(show HaltOk (.stuck _) from trivial),rfl⟩) (.halt trivial)
theorem TN.invoke (hF:FunOk P F) (t:Target) (ht:∀ b a ty c,t ≠ .builtin b a ty c) (hc:∀ c,t ≠ .coroexit c) (args:Array Value):TN P F (invoke t args):=by
 unfold Go.invoke
 cases t with
 | nil=>exact fun S=>tm_runtimePanic _
 | builtin b a ty c=>exact absurd rfl (ht _ _ _ _)
 | collected _=>exact TN.halt trivial
 | coroexit c=>exact absurd rfl (hc c)
 | fn fn cap =>
  cases fn with
  | func f=>exact TN.callFunc hF _ _
  | method name =>
   dsimp only
   split
   ·exact TN.callMethod hF _ _ _
   ·exact TN.halt trivial
  | methodOf t name =>
   dsimp only
   split
   ·refine TN.bind (TT.underlying _) fun d=>?_
    exact TN.callMethod hF _ _ _
   ·exact TN.halt trivial
  | via t path f p =>
   dsimp only
   split
   ·exact TN.bind (TT.receiverVia _ _ _ _) fun x=>TN.callFunc hF _ _
   ·exact TN.halt trivial
  | yield l=>exact TN.yield _ _
end
end Cv
namespace Cv
open Go
section
variable {P : Program} {F : Array Func} {α β : Type}
theorem TT.holdsCells (a:Addr) (n:Nat):TT P F (Builtin.holdsCells a n):=by
 unfold Builtin.holdsCells
 refine (TT.shape _).bind fun s=>?_
 split <;> exact TT.pure
theorem TT.mayShare (a b c:Nat) (d:Option Addr) (x:Value):TT P F (Builtin.mayShare a b c d x):=by
 unfold Builtin.mayShare
 repeat' (first
  | with_reducible first
   | exact TT.pure | refine (TT.holdsCells _ _).bind fun _=>?_ | refine (TT.frozen _).bind fun _=>?_ | refine TT.pure.bind fun _=>?_
  | with_reducible refine TT.ite (fun _=>?_) (fun _=>?_)
  | split | dsimp only)
theorem TT.lenOf (x:Value):TT P F (Builtin.lenOf x):=by
 unfold Builtin.lenOf
 split
 ·exact TT.pure
 ·exact TT.pure
 ·exact TT.stuck
theorem TT.firstCells (a b:Nat) (x:Value):TT P F (Builtin.firstCells a b x):=by
 unfold Builtin.firstCells
 split
 ·exact TT.loadCells _ _
 ·exact TT.pure
 ·exact TT.pure
 ·exact TT.stuck
set_option maxHeartbeats 2000000 in
theorem TT.append (at_:Array TypeId) (t:TypeId) (args:Array Value):TT P F (Builtin.append_ at_ t args):=by
 unfold Builtin.append_
 split
 ·refine (TT.underlying _).bind fun d=>?_
  split
  ·split
   ·refine (TT.sizeOf _).bind fun size=>?_
    repeat' (first
  | with_reducible first
   | exact TT.pure | exact TT.stuck | exact TT.unsupported | exact TT.goPanic | exact TT.runtimePanic _ | exact TT.boundsPanic _ _ _ _
   | exact TT.lenOf _ | exact TT.firstCells _ _ _ | refine (TT.lenOf _).bind fun _=>?_ | refine (TT.firstCells _ _ _).bind fun _=>?_ | refine (TT.mayShare _ _ _ _ _).bind fun _=>?_ | refine (TT.mark (by simp) (by simp)).bind fun _=>?_ | exact TT.part _ _ _ | exact TT.loadVar _ _ | exact TT.storeVar _ _ _ | exact TT.newVar _ _ | exact TT.newRow _ _ | exact TT.loadCells _ _ | exact TT.storeCells _ _ _
   | exact TT.asBool _ | exact TT.asInt _ | exact TT.byteOf _ | exact TT.behindNumber _ | exact TT.choose _
   | refine (TT.typeInfo _).bind fun _=>?_ | refine (TT.underlying _).bind fun _=>?_ | refine (TT.sizeOf _).bind fun _=>?_ | refine (TT.zeroValue _).bind fun _=>?_
   | refine (TT.asInt _).bind fun _=>?_ | refine (TT.asIntOf _).bind fun _=>?_ | refine (TT.asBool _).bind fun _=>?_ | refine (TT.asAgg _).bind fun _=>?_ | refine (TT.asAddr _).bind fun _=>?_ | refine (TT.sureAddr _).bind fun _=>?_
   | refine (TT.newVar _ _).bind fun _=>?_ | refine (TT.newRow _ _).bind fun _=>?_ | refine (TT.newObj _ (by simp)).bind fun _=>?_ | refine (TT.choose _).bind fun _=>?_ | refine (TT.askRoom _).bind fun _=>?_
   | refine (TT.loadCells _ _).bind fun _=>?_ | refine (TT.storeCells _ _ _).bind fun _=>?_ | refine (TT.byteOf _).bind fun _=>?_ | refine (TT.fieldPlace _ _).bind fun _=>?_ | refine (TT.part _ _ _).bind fun _=>?_ | refine (TT.viewAt _).bind fun _=>?_ | refine (TT.numberAt _).bind fun _=>?_ | refine (TT.behindNumber _).bind fun _=>?_ | refine (TT.shape _).bind fun _=>?_ | refine (TT.frozen _).bind fun _=>?_ | refine (TT.sliceBound _ _ _).bind fun _=>?_ | refine (TT.boundsPanic _ _ _ _).bind fun _=>?_ | refine (TT.runtimePanic _).bind fun _=>?_
   | refine TT.stuck.bind fun _=>?_ | refine TT.unsupported.bind fun _=>?_ | refine TT.pure.bind fun _=>?_ | refine TT.bind ?_ fun _=>?_
  | with_reducible refine TT.ite (fun _=>?_) (fun _=>?_)
  | split | dsimp only)
   ·exact TT.stuck
  ·exact TT.stuck
 ·exact TT.stuck
theorem TT.len {t e:TypeId} (h:P.underlying t=some (.slice e)) {at_:Array TypeId} (ha:at_[0]? = some t) (ty:TypeId) (args:Array Value):TT P F (Builtin.len_ at_ ty args):=by
 unfold Builtin.len_
 rw [ha]
 cases args[0]? with
 | none=>exact TT.stuck
 | some x =>
  refine TT.bindQ (tm_underlying t) fun d hd=>?_
  obtain rfl:d = .slice e:=by rw [h] at hd;exact (Option.some.inj hd).symm
  split <;> first | contradiction | exact TT.pure | exact TT.stuck
theorem TT.max (at_:Array TypeId) (t:TypeId) (args:Array Value):TT P F (Builtin.max_ at_ t args):=by
 unfold Builtin.max_
 split
 ·exact TT.stuck
 ·exact TT.foldL TT.max2 _ _
theorem TT.min (at_:Array TypeId) (t:TypeId) (args:Array Value):TT P F (Builtin.min_ at_ t args):=by
 unfold Builtin.min_
 split
 ·exact TT.stuck
 ·exact TT.foldL TT.min2 _ _
def isInt (P:Program) (t:TypeId):Bool:=match P.underlying t with | some (.int _)=>true | _=>false
def isSl (P:Program) (t:TypeId):Bool:=match P.underlying t with | some (.slice _)=>true | _=>false
def isIMap (P:Program) (t:TypeId):Bool:=match P.underlying t with | some (.map k _)=>isInt P k | _=>false
def isFlat (P:Program) (t:TypeId):Bool:=match P.underlying t with | some (.int _) | some .bool=>true | _=>false
def opOK (P:Program):Op->Bool
 | .move _ | .assign _ | .pick .. | .alloc _ | .box .. | .build .. | .buildSlice .. | .load .. | .store .. | .extract .. | .makeFunc .. | .makeMap _ none | .makeChan .. | .makeSlice .. | .slice .. | .fieldAddr .. | .indexAddr ..
 | .next .. | .entry _ | .makeInterface .. | .unOp .. | .panic _=>true
 | .binOp _ t _ _ _=>isFlat P t
 | .lookup t .. | .mapUpdate t .. | .range t _=>isIMap P t
 | .call { callee:=.builtin .len,argTypes,.. }=>match argTypes[0]? with | some t=>isSl P t | none=>false
 | .call { callee:=.builtin .append,.. } | .call { callee:=.builtin .max,.. } | .call { callee:=.builtin .min,.. } | .call { callee:=.value _,.. }=>true
 | _=>false
theorem isInt_of {t:TypeId} (h:isInt P t=true):∃ k,P.underlying t=some (.int k):=by
 unfold isInt at h
 split at h
 ·exact ⟨_,‹_›⟩
 ·cases h
theorem isFlat_of {t:TypeId} (h:isFlat P t=true):Flat P t:=by
 unfold isFlat at h
 split at h
 ·exact .inl ⟨_,‹_›⟩
 ·exact .inr ‹_›
 ·cases h
theorem isSl_of {t:TypeId} (h:isSl P t=true):∃ k,P.underlying t=some (.slice k):=by
 unfold isSl at h
 split at h
 ·exact ⟨_,‹_›⟩
 ·cases h
theorem isIMap_of {t:TypeId} (h:isIMap P t=true):∃ a e k,P.underlying t=some (.map a e)/\P.underlying a=some (.int k):=by
 unfold isIMap at h
 split at h
 ·obtain ⟨k,hk⟩:=isInt_of h;exact ⟨_,_,k,‹_›,hk⟩
 ·cases h
def HOk:Sem α->Prop
 | .pure _=>True
 | .halt h=>HaltOk h
 | .load _ _ k=>∀ v,HOk (k v)
 | .shape _ k=>∀ s,HOk (k s)
 | .frozen _ k=>∀ b,HOk (k b)
 | .getObj _ k=>∀ o,HOk (k o)
 | .program k=>∀ p,HOk (k p)
 | .mark _ k=>HOk k
 | .store _ _ _ k=>HOk k
 | .new _ k=>∀ r,HOk (k r)
 | .freeze _ _ k=>HOk k
 | .setObj _ _ k=>HOk k
 | .choose _ k=>∀ n,HOk (k n)
 | .sys _ k=>∀ r,HOk (k r)
def NeverOk (s:Sem α):Prop:=∀ (p:Program) (w:World),∃ h w',s.run p w = .halt h w'/\HaltOk h
theorem NeverOk.bind {f : β->Sem α} (hf:∀ a,NeverOk (f a)) {s:Sem β} (hs:HOk s):NeverOk (s >>= f):=by
 intro p
 show ∀ w,∃ h w',(s.bind f).run p w=_/\_
 induction s with
 | pure a=>exact fun w=>hf a p w
 | load m a k ih =>
  intro w;simp only [Sem.bind,Sem.run]
  split
  ·exact ih _ (hs _) _
  ·split
   ·exact ih _ (hs _) _
   ·exact ⟨_,_,rfl,farLoad_ok ‹_›⟩
 | store m a v k ih =>
  intro w
  cases v <;> simp only [Sem.bind,Sem.run] <;> (repeat' split) <;> first | exact ⟨_,_,rfl,trivial⟩ | exact ih hs _ | exact ⟨_,_,rfl,farStore_ok ‹_›⟩
 | new o k ih=>intro w;exact ih _ (hs _) _
 | shape r k ih=>intro w;exact ih _ (hs _) _
 | freeze a n k ih=>intro w;exact ih hs _
 | frozen a k ih=>intro w;exact ih _ (hs _) _
 | getObj r k ih=>intro w;simp only [Sem.bind,Sem.run];(repeat' split) <;> first | exact ⟨_,_,rfl,trivial⟩ | exact ih _ (hs _) _
 | setObj r o k ih=>intro w;simp only [Sem.bind,Sem.run];(repeat' split) <;> first | exact ⟨_,_,rfl,trivial⟩ | exact ih hs _
 | choose q k ih=>intro w;simp only [Sem.bind,Sem.run];split <;> exact ih _ (hs _) _
 | sys c k ih=>intro w;exact ih _ (hs _) _
 | program k ih=>intro w;exact ih _ (hs _) _
 | mark m k ih=>intro w;exact ih hs _
 | halt h=>intro w;exact ⟨_,_,rfl,hs⟩
theorem NeverOk.bind' {s:Sem β} {f : β->Sem α} (hs:NeverOk s):NeverOk (s >>= f):=by
 intro p w
 obtain ⟨h,w',e,hh⟩:=hs p w
 exact ⟨h,w',by show (s >>= f).run p w=_;rw [Sem.run_bind,e];rfl,hh⟩
theorem NeverOk.halt {h:Halt} (hh:HaltOk h):NeverOk (.halt h:Sem α):=fun _ w=>⟨_,_,rfl,hh⟩
theorem HOk.bind {s:Sem β} {f : β->Sem α} (h:HOk s) (hf:∀ a,HOk (f a)):HOk (s >>= f):=by
 show HOk (s.bind f)
 induction s with
 | pure a=>exact hf a
 | halt h'=>exact h
 | load m a k ih=>exact fun v=>ih v (h v)
 | shape r k ih=>exact fun v=>ih v (h v)
 | frozen a k ih=>exact fun v=>ih v (h v)
 | getObj r k ih=>exact fun v=>ih v (h v)
 | program k ih=>exact fun v=>ih v (h v)
 | mark m k ih=>exact ih h
 | store m a v k ih=>exact ih h
 | new o k ih=>exact fun v=>ih v (h v)
 | freeze a n k ih=>exact ih h
 | setObj r o k ih=>exact ih h
 | choose q k ih=>exact fun v=>ih v (h v)
 | sys c k ih=>exact fun v=>ih v (h v)
theorem hok_underlying (t:TypeId):HOk (underlying t):=by
 unfold Go.underlying
 refine HOk.bind (s:=program) (fun _=>trivial) fun p=>?_
 split <;> trivial
theorem hok_elemOf (t:TypeId):HOk (elemOf t):=by
 unfold Go.elemOf
 refine HOk.bind (hok_underlying _) fun p=>?_
 split <;> trivial
theorem NeverOk.panicNil:NeverOk (runtimePanic .panicNil:Sem α):=by
 unfold Go.runtimePanic
 exact NeverOk.bind (fun q=>NeverOk.bind (fun _=>NeverOk.bind (fun _=>NeverOk.halt (h:=.panic _) trivial) (s:=newVar _ _) (fun _=>trivial)) (hok_elemOf _)) (s:=program) (fun _=>trivial)
theorem hok_panicnil:HOk Instr.panicnil:=by
 unfold Instr.panicnil
 refine HOk.bind (s:=sys .env) (fun _=>trivial) fun r=>?_
 cases r <;> first | trivial | exact fun q=>trivial
theorem NeverOk.panic (x:Value):NeverOk (Instr.panic x):=by
 unfold Instr.panic
 split
 ·exact .halt trivial
 ·refine NeverOk.bind (fun n=>?_) hok_panicnil
  split
  ·exact .halt trivial
  ·exact .panicNil
 ·exact .halt trivial
theorem alike_of_TN {s:Sem Next} (h:TN P F s) {wL w:World} (hw:WR wL w):Alike P NextOk s wL w (s.run (alt P F) wL):=par (h fun _=>False) wL w hw fun _ hr=>hr.elim
theorem alike_of_never {s:Sem Next} (h:NeverOk s) (wL w:World):Alike P NextOk s wL w (s.run (alt P F) wL):=by
 obtain ⟨e,w',h',hh⟩:=h (alt P F) wL
 rw [h'];exact hh
theorem op_cases (hF:FunOk P F) {o:Oper} (h:opOK P o.op=true) (ρ : Operand->Value):TN P F (execOp ρ o) \/ NeverOk (execOp ρ o):=by
 obtain ⟨dst,op,ty,pos,after,guard⟩:=o
 cases op with
 | panic x=>exact .inr (NeverOk.bind' (NeverOk.panic _))
 | move x=>exact .inl fun _=>Tm.pure (show NextOk (.value _) from trivial)
 | assign x=>exact .inl fun _=>Tm.pure (show NextOk (.value _) from trivial)
 | pick c a b=>exact .inl (TN.bind (TT.asBool _) fun _ _=>.pure (show NextOk (.value _) from trivial))
 | alloc e=>exact .inl (TN.val (TT.alloc _))
 | box e v=>exact .inl (TN.val (TT.box _ _))
 | build t p=>exact .inl (TN.val (TT.build _ _))
 | buildSlice t n p=>exact .inl (TN.val (TT.buildSlice _ _ _))
 | load t a=>exact .inl (TN.val (TT.loadAt _ _))
 | store t a v=>exact .inl (TN.unit (TT.storeAt _ _ _))
 | extract t i=>exact .inl (TN.val (TT.extract _ _))
 | makeFunc f a b=>exact .inl (TN.val TT.pure)
 | makeMap t r =>
  cases r with
  | none=>exact .inl (TN.val (TT.makeMap _))
  | some _=>cases h
 | makeChan t s=>exact .inl (TN.val (TT.makeChan _ _))
 | makeSlice t l c=>exact .inl (TN.val (TT.makeSlice _ _ _))
 | slice t x l h' m=>exact .inl (TN.val (TT.sliceAt _ _ _ _ _))
 | fieldAddr t x f=>exact .inl (TN.val (TT.fieldAt _ _ _))
 | indexAddr t x i=>exact .inl (TN.val (TT.indexAt _ _ _))
 | next x b=>exact .inl (TN.val (TT.next _ _ _))
 | entry x=>exact .inl (TN.val (TT.entry _))
 | makeInterface t x=>exact .inl (TN.val (TT.makeInterface _ _))
 | unOp op t x=>exact .inl (TN.val (TT.unary _ _))
 | binOp op t x y yt =>
  have hk:=isFlat_of h
  exact .inl (TN.val ((TT.eqGuard hk _ _ _ _ _).bind fun _=>TT.binOp hk _ _ _))
 | lookup t x i ok =>
  obtain ⟨a,e,k,h1,h2⟩:=isIMap_of h
  exact .inl (TN.val (TT.lookup h1 h2 _ _ _))
 | mapUpdate t m k v =>
  obtain ⟨a,e,j,h1,h2⟩:=isIMap_of h
  exact .inl (TN.unit (TT.mapUpdate h1 h2 _ _ _))
 | range t x =>
  obtain ⟨a,e,j,h1,h2⟩:=isIMap_of h
  exact .inl (TN.val (TT.range h1 _))
 | call c =>
  obtain ⟨callee,args,argTypes⟩:=c
  cases callee with
  | value f =>
   refine .inl fun S=>?_
   show Tm (alt P F) P NextOk S (Deferred.ofValue (ρ f) (args.map ρ) >>= fun d=>invoke d.target d.args)
   cases hf : ρ f with
   | func fn first cap=>exact TN.invoke hF (.fn fn cap) (by simp) (by simp) (first++args.map ρ) S
   | nilFunc=>exact TN.invoke hF .nil (by simp) (by simp) (args.map ρ) S
   | _=>exact .halt trivial
  | invoke r m=>cases h
  | builtin b =>
   cases b with
   | len =>
    have h':(match argTypes[0]? with | some t=>isSl P t | none=>false)=true:=h
    cases ha:argTypes[0]? with
    | none=>rw [ha] at h';cases h'
    | some t =>
     rw [ha] at h'
     obtain ⟨e,he⟩:=isSl_of h'
     exact .inl (TN.val (TT.len he ha _ _))
   | append=>exact .inl (TN.val (TT.append _ _ _))
   | max=>exact .inl (TN.val (TT.max _ _ _))
   | min=>exact .inl (TN.val (TT.min _ _ _))
   | _=>cases h
 | _=>cases h
theorem op_alike (hF:FunOk P F) {o:Oper} (h:opOK P o.op=true) (ρ : Operand->Value) {wL w:World} (hw:WR wL w):Alike P NextOk (execOp ρ o) wL w ((execOp ρ o).run (alt P F) wL) :=
 (op_cases hF h ρ).elim (fun h=>alike_of_TN h hw) fun h=>alike_of_never h wL w
end
end Cv
namespace Cv
open Go Go.Conc
structure Pairs where
 op:Array Oper->Array Oper->Nat->Prop
 mid:Code->Code->Prop
 code:Code->Code->Prop
 plain:Prop
 dst:Option Tmp->Prop
inductive RegAt (P:Program) (SpO:Pairs) (opsL ops:Array Oper) (i:Nat):Prop
 | same:opsL[i]? = ops[i]?->(∀ o,ops[i]? = some o->opOK P o.op=true/\(o.guard=none \/ opsL=ops)/\SpO.dst o.dst)->RegAt P SpO opsL ops i
 | sp:SpO.op opsL ops i->RegAt P SpO opsL ops i
inductive CR (P:Program) (SpO:Pairs):Code->Code->Prop
 | skip:CR P SpO .skip .skip
 | ret:SpO.plain->CR P SpO .ret .ret
 | exit (id:Nat):CR P SpO (.exit id) (.exit id)
 | region (id:Nat) (opsL ops:Array Oper) (draw:Bool):opsL.size=ops.size->(draw=true->opsL=ops)->(∀ i:Nat,RegAt P SpO opsL ops i)->CR P SpO (.region id opsL draw) (.region id ops draw)
 | seq {aL a bL b:Code}:CR P SpO aL a->CR P SpO bL b->CR P SpO (.seq aL bL) (.seq a b)
 | cond (c:Operand) {aL a bL b:Code}:CR P SpO aL a->CR P SpO bL b->CR P SpO (.cond c aL bL) (.cond c a b)
 | block (id:Nat) {aL a:Code}:CR P SpO aL a->CR P SpO (.block id aL) (.block id a)
 | loop {aL a:Code}:CR P SpO aL a->CR P SpO (.loop aL) (.loop a)
 | dead (s:String) (c:Code):CR P SpO (.refuse s) c
 | marked {cL c:Code}:SpO.mid cL c->CR P SpO cL c
inductive IR (P:Program) (SpO:Pairs):Item->Item->Prop
 | code {cL c:Code}:CR P SpO cL c->IR P SpO (.code cL) (.code c)
 | inBlock (id:Nat):IR P SpO (.inBlock id) (.inBlock id)
 | inLoop {cL c:Code}:CR P SpO cL c->IR P SpO (.inLoop cL) (.inLoop c)
 | inRegion {opsL ops:Array Oper} (t:List Nat):(∀ i ∈ t,RegAt P SpO opsL ops i)->IR P SpO (.inRegion opsL t) (.inRegion ops t)
inductive TR (P:Program) (SpO:Pairs):List Item->List Item->Prop
 | nil:SpO.plain->TR P SpO [] []
 | last {cL c:Code}:SpO.code cL c->TR P SpO [.code cL] [.code c]
 | cons {x y:Item} {l m:List Item}:IR P SpO x y->TR P SpO l m->TR P SpO (x::l) (y::m)
def fr0 (fn:FuncId) (tmps:Array Value) (todo:List Item) (mode:FrameMode):Frame:={ fn,tmps,todo,defers:=[],mode,kind:=.normal,roundOf:=none }
abbrev G0 (fr:Frame) (X:List Frame):Goroutine:={ frame:=fr,callers:=X,status:=.running,dying:=none }
section
variable {P : Program} {S S' : Pairs}
theorem RegAt.mono (ho:∀ a b i, S.op a b i -> S'.op a b i) (hd:∀ d, S.dst d -> S'.dst d) {opsL ops:Array Oper} {i:Nat} (h:RegAt P S opsL ops i):RegAt P S' opsL ops i:=by
 rcases h with ⟨h1,h2⟩ | h
 ·exact .same h1 fun o e=>⟨(h2 o e).1,(h2 o e).2.1,hd _ (h2 o e).2.2⟩
 ·exact .sp (ho _ _ _ h)
theorem CR.mono (ho:∀ a b i, S.op a b i -> S'.op a b i) (hm:∀ a b, S.mid a b -> S'.mid a b) (hp:S.plain -> S'.plain) (hd:∀ d, S.dst d -> S'.dst d) {cL c:Code} (h:CR P S cL c):CR P S' cL c:=by
 induction h with
 | skip=>exact .skip
 | ret h=>exact .ret (hp h)
 | exit id=>exact .exit id
 | region id a b d h1 h2 h3=>exact .region id a b d h1 h2 fun i=>(h3 i).mono ho hd
 | seq _ _ i1 i2=>exact .seq i1 i2
 | cond c _ _ i1 i2=>exact .cond c i1 i2
 | block id _ i=>exact .block id i
 | loop _ i=>exact .loop i
 | dead s c=>exact .dead s c
 | marked h=>exact .marked (hm _ _ h)
theorem IR.mono (ho:∀ a b i, S.op a b i -> S'.op a b i) (hm:∀ a b, S.mid a b -> S'.mid a b) (hp:S.plain -> S'.plain) (hd:∀ d, S.dst d -> S'.dst d) {x y:Item} (h:IR P S x y):IR P S' x y:=by
 cases h with
 | code h=>exact .code (h.mono ho hm hp hd)
 | inBlock id=>exact .inBlock id
 | inLoop h=>exact .inLoop (h.mono ho hm hp hd)
 | inRegion t h=>exact .inRegion t fun i hi=>(h i hi).mono ho hd
theorem TR.mono (ho:∀ a b i, S.op a b i -> S'.op a b i) (hm:∀ a b, S.mid a b -> S'.mid a b) (hp:S.plain -> S'.plain) (hd:∀ d, S.dst d -> S'.dst d) (hc:∀ a b,S.code a b->S'.code a b) {l m:List Item} (h:TR P S l m):TR P S' l m:=by
 induction h with
 | nil h=>exact .nil (hp h)
 | last h=>exact .last (hc _ _ h)
 | cons h _ ih=>exact .cons (h.mono ho hm hp hd) ih
end
theorem exit_rel {P:Program} {SpO:Pairs} {id:Nat}:∀ {l m:List Item},TR P SpO l m->(exitTo id l=none/\exitTo id m=none) \/ ∃ l' m',exitTo id l=some l'/\exitTo id m=some m'/\TR P SpO l' m'
 | _,_,.nil _=>.inl ⟨rfl,rfl⟩
 | _,_,.last _=>.inl ⟨rfl,rfl⟩
 | _,_,.cons (l:=l) (m:=m) h t=>by
  cases h with
  | inBlock id' =>
   by_cases e:(id' == id)=true
   ·exact .inr ⟨l,m,by simp [exitTo,e],by simp [exitTo,e],t⟩
   ·have e':(id' == id)=false:=by simpa using e
    simpa [exitTo,e'] using exit_rel (id:=id) t
  | code _=>simpa [exitTo] using exit_rel (id:=id) t
  | inLoop _=>simpa [exitTo] using exit_rel (id:=id) t
  | inRegion _ _=>simpa [exitTo] using exit_rel (id:=id) t
def PSide (P:Program) (fr:Frame) (X:List Frame) (w wL wL':World) (R:Frame->List Frame->Prop):Prop :=
 ∃ c,wL'.tape=wL.tape/\wL'.drawn=wL.drawn+c/\((∀ j,j<c->w.tape (w.drawn+j)=wL.tape (wL.drawn+j)) ->
  ∃ fr' X' w' es',stepG P true (G0 fr X) w = .go (G0 fr' X') w' es'/\R fr' X'/\WR wL' w'/\w'.tape=w.tape/\w'.drawn=w.drawn+c/\KeepC w w'/\∀ e ∈ es',EvOk e)
theorem PSide.silent {P:Program} {fr fr':Frame} {X X':List Frame} {w wL:World} {R:Frame->List Frame->Prop} (hw:WR wL w) (h:stepG P true (G0 fr X) w = .go (G0 fr' X') w) (hR:R fr' X'):PSide P fr X w wL wL R :=
 ⟨0,rfl,rfl,fun _=>⟨fr',X',w,#[],h,hR,hw,rfl,rfl,KeepC.refl w,by simp⟩⟩
def putT (tmps:Array Value) (d:Option Tmp) (v:Value):Array Value:=match d with | some d=>tmps.setIfInBounds d v | none=>tmps
def Keeps (SpO:Pairs) (tmps tmps':Array Value):Prop:=tmps'=tmps \/ ∃ d v,SpO.dst d/\tmps'=putT tmps d v
def Tail (todo todo':List Item):Prop:=∀ ops i t k,todo = .inRegion ops (i::t)::k->todo' = .inRegion ops t::k
def TailT (tmps tmps':Array Value) (todo todo':List Item):Prop:=∀ ops i t k,todo = .inRegion ops (i::t)::k->todo' = .inRegion ops t::k/\∃ v,tmps'=putT tmps ((ops[i]?).bind (·.dst)) v
inductive Mi (P:Program) (F:Array Func) (SpO:Pairs) (fn:FuncId) (tmps:Array Value) (todoL todo:List Item) (XL X:List Frame) (wL w:World):GStep->Prop
 | ended (o:Outcome) (w':World) (es:Array Event):Mi P F SpO fn tmps todoL todo XL X wL w (.ended o w' es)
 | panics (tmps':Array Value) (todo':List Item) (ch:List PanicEntry) (w':World) (es:Array Event):Mi P F SpO fn tmps todoL todo XL X wL w (.go (G0 (fr0 fn tmps' todo' (.panicking ch)) XL) w' es)
 | run (tmps':Array Value) (todoL':List Item) (wL':World) (es:Array Event) :
  Keeps SpO tmps tmps'->TailT tmps tmps' todoL todoL' ->
  PSide P (fr0 fn tmps todo .run) X w wL wL' (fun fr' X'=>X'=X/\∃ todo',fr'=fr0 fn tmps' todo' .run/\TR P SpO todoL' todo'/\Tail todo todo')->Mi P F SpO fn tmps todoL todo XL X wL w (.go (G0 (fr0 fn tmps' todoL' .run) XL) wL' es)
 | returns (todoL':List Item) (es:Array Event):SpO.plain ->
  PSide P (fr0 fn tmps todo .run) X w wL wL (fun fr' X'=>X'=X/\∃ todo',fr'=fr0 fn tmps todo' .returning)->Mi P F SpO fn tmps todoL todo XL X wL w (.go (G0 (fr0 fn tmps todoL' .returning) XL) wL es)
 | enter (f:FuncId) (args:Array Value) (wL':World) (es:Array Event) (opsL ops:Array Oper) (i:Nat) (t:List Nat) (kL k:List Item):todoL = .inRegion opsL (i::t)::kL->todo = .inRegion ops (i::t)::k->opsL[i]? = ops[i]?->(∃ o c,ops[i]? = some o/\o.op = .call c) ->
  PSide P (fr0 fn tmps todo .run) X w wL wL' (fun fr' X'=>fr'=Frame.enter P f args .normal/\X'=fr0 fn tmps todo .run::X)->Mi P F SpO fn tmps todoL todo XL X wL w (.go (G0 (Frame.enter (alt P F) f args .normal) (fr0 fn tmps todoL .run::XL)) wL' es)
theorem early_ended {P:Program} (hs:P.follows .staticDataAhead=true) (hn:∀ g,P.stepOf g=none) (fr:Frame) (X:List Frame) (g:Nat) (w:World):∃ o w' es,early P fr X none g w = .ended o w' es:=by
 unfold early
 simp only [hs,hn,Bool.not_true,Bool.false_eq_true,↓reduceIte]
 exact ⟨_,_,_,rfl⟩
def evF (fn:FuncId) (tmps:Array Value):Operand->Value:=(fr0 fn tmps [] .run).eval
theorem evF_eq (fn:FuncId) (tmps:Array Value) (k:List Item):(fr0 fn tmps k .run).eval=evF fn tmps:=by funext x;cases x <;> rfl
theorem skip_step {p:Program} {fn:FuncId} {tmps:Array Value} {X:List Frame} {k:List Item} {ops:Array Oper} {i:Nat} {t:List Nat} {w:World} (h:((ops[i]?).map (Region.wanted · (yielded ops tmps))).getD false=false) :
 stepG p true (G0 (fr0 fn tmps (.inRegion ops (i::t)::k) .run) X) w = .go (G0 (fr0 fn (putT tmps ((ops[i]?).bind (·.dst)) undef) (.inRegion ops t::k) .run) X) w:=by
 simp [stepG,stepG.exec,fr0,h,Frame.finish,putT]
 cases (ops[i]?).bind (·.dst) <;> rfl
theorem op_step {p:Program} {fn:FuncId} {tmps:Array Value} {X:List Frame} {k:List Item} {ops:Array Oper} {i:Nat} {t:List Nat} {w:World} {o:Oper} (ho:ops[i]? = some o) (h:Region.wanted o (yielded ops tmps)=true) :
 stepG p true (G0 (fr0 fn tmps (.inRegion ops (i::t)::k) .run) X) w=stepG.apply p true (fr0 fn tmps (.inRegion ops (i::t)::k) .run) X none (execOp (evF fn tmps) o) w:=by
 rw [<-evF_eq fn tmps (.inRegion ops (i::t)::k)]
 simp [stepG,stepG.exec,stepG.oper,Frame.oper?,fr0,ho,h]
section
variable {p : Program} {fn : FuncId} {tmps : Array Value} {X : List Frame} {k : List Item} {ops : Array Oper} {i : Nat} {t : List Nat} {w w' : World} {o : Oper} {s : Sem Next} {es : Array Event}
theorem apply_value {v:Value} (ho:ops[i]? = some o) (hr:s.runT p w #[]=(.ok (.value v) w',es)) :
 stepG.apply p true (fr0 fn tmps (.inRegion ops (i::t)::k) .run) X none s w = .go (G0 (fr0 fn (putT tmps o.dst v) (.inRegion ops t::k) .run) X) w' (seen p fn es):=by
 have hr1:s.run p w=_:=(Sem.runT_fst p s w #[]).symm.trans (congrArg Prod.fst hr)
 have hr2:s.events p w #[]=es:=congrArg Prod.snd hr
 simp only at hr1
 simp [stepG.apply,hr1,hr2,fr0,GStep.after,Frame.finish,ho,putT]
 cases o.dst <;> rfl
theorem apply_skip (ho:ops[i]? = some o) (hr:s.runT p w #[]=(.ok .skip w',es)) :
 stepG.apply p true (fr0 fn tmps (.inRegion ops (i::t)::k) .run) X none s w = .go (G0 (fr0 fn (putT tmps o.dst undef) (.inRegion ops t::k) .run) X) w' (seen p fn es):=by
 have hr1:s.run p w=_:=(Sem.runT_fst p s w #[]).symm.trans (congrArg Prod.fst hr)
 have hr2:s.events p w #[]=es:=congrArg Prod.snd hr
 simp only at hr1
 simp [stepG.apply,hr1,hr2,fr0,GStep.after,Frame.finish,ho,putT]
 cases o.dst <;> rfl
theorem apply_enter {f:FuncId} {args:Array Value} (hr:s.runT p w #[]=(.ok (.enter f args) w',es)) :
 stepG.apply p true (fr0 fn tmps (.inRegion ops (i::t)::k) .run) X none s w = .go (G0 (Frame.enter p f args .normal) (fr0 fn tmps (.inRegion ops (i::t)::k) .run::X)) w' (seen p fn es):=by
 have hr1:s.run p w=_:=(Sem.runT_fst p s w #[]).symm.trans (congrArg Prod.fst hr)
 have hr2:s.events p w #[]=es:=congrArg Prod.snd hr
 simp only at hr1
 simp [stepG.apply,hr1,hr2,fr0,GStep.after]
theorem apply_panic {v:Value} (hr:s.runT p w #[]=(.halt (.panic v) w',es)) :
 stepG.apply p true (fr0 fn tmps (.inRegion ops (i::t)::k) .run) X none s w = .go (G0 (fr0 fn tmps (.inRegion ops (i::t)::k) (.panicking [{ v,recovered:=false }])) X) w' (seen p fn es):=by
 have hr1:s.run p w=_:=(Sem.runT_fst p s w #[]).symm.trans (congrArg Prod.fst hr)
 have hr2:s.events p w #[]=es:=congrArg Prod.snd hr
 simp only at hr1
 simp [stepG.apply,hr1,hr2,fr0,GStep.after,Frame.raise]
theorem apply_unsup (hs:p.follows .staticDataAhead=true) (hn:∀ g,p.stepOf g=none) {u:Unsupported} (hr:s.runT p w #[]=(.halt (.unsupported u) w',es)) :
 ∃ o w'' es',stepG.apply p true (fr0 fn tmps (.inRegion ops (i::t)::k) .run) X none s w = .ended o w'' es':=by
 have hr1:s.run p w=_:=(Sem.runT_fst p s w #[]).symm.trans (congrArg Prod.fst hr)
 have hr2:s.events p w #[]=es:=congrArg Prod.snd hr
 simp only at hr1
 by_cases hu:∃ g,u = .initOrder g
 ·obtain ⟨g,rfl⟩:=hu
  obtain ⟨o,w2,es2,e⟩:=early_ended hs hn (fr0 fn tmps (.inRegion ops (i::t)::k) .run) X g w'
  simp only [fr0] at e
  simp [stepG.apply,hr1,hr2,fr0,GStep.after,e]
 ·cases u <;> first | exact absurd ⟨_,rfl⟩ hu | simp [stepG.apply,hr1,hr2,fr0,GStep.after]
theorem apply_stuck {m:String} (hr:s.runT p w #[]=(.halt (.stuck m) w',es)) :
 ∃ o w'' es',stepG.apply p true (fr0 fn tmps (.inRegion ops (i::t)::k) .run) X none s w = .ended o w'' es':=by
 have hr1:s.run p w=_:=(Sem.runT_fst p s w #[]).symm.trans (congrArg Prod.fst hr)
 have hr2:s.events p w #[]=es:=congrArg Prod.snd hr
 simp only at hr1
 simp [stepG.apply,hr1,hr2,fr0,GStep.after]
end
theorem val_noenter {s:Sem Value} {p:Program} {w w':World} {f:FuncId} {args:Array Value} (h:(do Pure.pure (Next.value (<-s)):Sem Next).run p w = .ok (.enter f args) w'):False:=by
 rw [Sem.run_bind] at h
 cases e:s.run p w with
 | ok v w2=>rw [e] at h;simp only [Result.andThen_ok] at h;cases h
 | halt _ _=>rw [e] at h;cases h
theorem unit_noenter {s:Sem Unit} {p:Program} {w w':World} {f:FuncId} {args:Array Value} (h:(do s;Pure.pure Next.skip:Sem Next).run p w = .ok (.enter f args) w'):False:=by
 rw [Sem.run_bind] at h
 cases e:s.run p w with
 | ok v w2=>rw [e] at h;simp only [Result.andThen_ok] at h;cases h
 | halt _ _=>rw [e] at h;cases h
theorem enter_call {P:Program} {o:Oper} {ρ : Operand->Value} {p:Program} {w w':World} {f:FuncId} {args:Array Value} (ho:opOK P o.op=true) (h:(execOp ρ o).run p w = .ok (.enter f args) w'):∃ c,o.op = .call c:=by
 obtain ⟨dst,op,ty,pos,after,guard⟩:=o
 cases op with
 | call c=>exact ⟨c,rfl⟩
 | move x=>cases h
 | assign x=>cases h
 | pick c a b =>
  have h':(do Pure.pure (Next.value (if <-asBool (ρ c) then ρ a else ρ b)):Sem Next).run p w = .ok (.enter f args) w':=h
  rw [Sem.run_bind] at h'
  cases e:(asBool (ρ c)).run p w with
  | ok v w2=>rw [e] at h';simp only [Result.andThen_ok] at h';cases h'
  | halt _ _=>rw [e] at h';cases h'
 | store t a v=>exact (unit_noenter h).elim
 | mapUpdate t m k v=>exact (unit_noenter h).elim
 | makeMap t r =>
  cases r with
  | none=>exact (val_noenter h).elim
  | some _=>cases ho
 | alloc e=>exact (val_noenter h).elim
 | box e v=>exact (val_noenter h).elim
 | build t p=>exact (val_noenter h).elim
 | buildSlice t n p=>exact (val_noenter h).elim
 | load t a=>exact (val_noenter h).elim
 | extract t i=>exact (val_noenter h).elim
 | makeFunc f a b=>exact (val_noenter h).elim
 | makeChan t s=>exact (val_noenter h).elim
 | makeSlice t l c=>exact (val_noenter h).elim
 | slice t x l h' m=>exact (val_noenter h).elim
 | fieldAddr t x f=>exact (val_noenter h).elim
 | indexAddr t x i=>exact (val_noenter h).elim
 | next x b=>exact (val_noenter h).elim
 | entry x=>exact (val_noenter h).elim
 | makeInterface t x=>exact (val_noenter h).elim
 | unOp op t x=>exact (val_noenter h).elim
 | binOp op t x y yt=>exact (val_noenter h).elim
 | lookup t x i ok=>exact (val_noenter h).elim
 | range t x=>exact (val_noenter h).elim
 | panic x=>exact (val_noenter h).elim
 | _=>cases ho
set_option maxHeartbeats 1000000 in
theorem micro {P:Program} {F:Array Func} {SpO:Pairs} (hF:FunOk P F) (hs:(alt P F).follows .staticDataAhead=true) (hn:∀ g,(alt P F).stepOf g=none)
 {fn:FuncId} {tmps:Array Value} {todoL todo:List Item} {XL X:List Frame} {wL w:World} (hT:TR P SpO todoL todo) (hw:WR wL w)
 (hsp:∀ opsL ops i t kL k,todoL = .inRegion opsL (i::t)::kL->todo = .inRegion ops (i::t)::k->¬ SpO.op opsL ops i)
 (hsc:∀ cL c kL k,todoL = .code cL::kL->todo = .code c::k->¬ SpO.mid cL c) (hsl:∀ cL c,todoL=[.code cL]->todo=[.code c]->¬ SpO.code cL c) :
 Mi P F SpO fn tmps todoL todo XL X wL w (stepG (alt P F) true (G0 (fr0 fn tmps todoL .run) XL) wL):=by
 cases hT with
 | last h=>exact absurd h (hsl _ _ rfl rfl)
 | nil hpl =>
  have e:∀ (p:Program) (X:List Frame) (w:World),stepG p true (G0 (fr0 fn tmps [] .run) X) w = .go (G0 (fr0 fn tmps [] .returning) X) w:=fun p X w=>by simp [stepG,stepG.exec,fr0]
  rw [e]
  exact .returns [] _ hpl (.silent hw (e P X w) ⟨rfl,_,rfl⟩)
 | @cons x y kL k hxy hk =>
  cases hxy with
  | inBlock id =>
   have e:∀ (p:Program) (X k:_) (w:World),stepG p true (G0 (fr0 fn tmps (.inBlock id::k) .run) X) w = .go (G0 (fr0 fn tmps k .run) X) w:=fun p X k w=>by simp [stepG,stepG.exec,fr0]
   rw [e]
   exact .run _ _ _ _ (.inl rfl) (by intro _ _ _ _ h;cases h) (.silent hw (e P X k w) ⟨rfl,_,rfl,hk,by intro _ _ _ _ h;cases h⟩)
  | @inLoop cL c hc =>
   have e:∀ (p:Program) (X k c:_) (w:World),stepG p true (G0 (fr0 fn tmps (.inLoop c::k) .run) X) w = .go (G0 (fr0 fn tmps (.code c::.inLoop c::k) .run) X) w:=fun p X k c w=>by simp [stepG,stepG.exec,fr0]
   rw [e]
   exact .run _ _ _ _ (.inl rfl) (by intro _ _ _ _ h;cases h) (.silent hw (e P X k c w) ⟨rfl,_,rfl,.cons (.code hc) (.cons (.inLoop hc) hk),by intro _ _ _ _ h;cases h⟩)
  | @code cL c hc =>
   cases hc with
   | skip =>
    have e:∀ (p:Program) (X k:_) (w:World),stepG p true (G0 (fr0 fn tmps (.code .skip::k) .run) X) w = .go (G0 (fr0 fn tmps k .run) X) w:=fun p X k w=>by simp [stepG,stepG.exec,fr0]
    rw [e]
    exact .run _ _ _ _ (.inl rfl) (by intro _ _ _ _ h;cases h) (.silent hw (e P X k w) ⟨rfl,_,rfl,hk,by intro _ _ _ _ h;cases h⟩)
   | marked h=>exact absurd h (hsc _ _ _ _ rfl rfl)
   | ret hpl =>
    have e:∀ (p:Program) (X k:_) (w:World),stepG p true (G0 (fr0 fn tmps (.code .ret::k) .run) X) w = .go (G0 (fr0 fn tmps (.code .ret::k) .returning) X) w:=fun p X k w=>by simp [stepG,stepG.exec,fr0]
    rw [e]
    exact .returns _ _ hpl (.silent hw (e P X k w) ⟨rfl,_,rfl⟩)
   | exit id =>
    rcases exit_rel (id:=id) hk with ⟨h1,h2⟩ | ⟨l',m',h1,h2,h3⟩
    ·have e:∃ o w' es,stepG (alt P F) true (G0 (fr0 fn tmps (.code (.exit id)::kL) .run) XL) wL = .ended o w' es:=by
      simp [stepG,stepG.exec,fr0,h1]
     obtain ⟨o,w',es,e⟩:=e
     rw [e];exact .ended _ _ _
    ·have e:∀ (p:Program) (X k k':_) (w:World),exitTo id k=some k'->stepG p true (G0 (fr0 fn tmps (.code (.exit id)::k) .run) X) w = .go (G0 (fr0 fn tmps k' .run) X) w:=fun p X k k' w h=>by simp [stepG,stepG.exec,fr0,h]
     rw [e _ _ _ _ _ h1]
     exact .run _ _ _ _ (.inl rfl) (by intro _ _ _ _ h;cases h) (.silent hw (e P X k _ w h2) ⟨rfl,_,rfl,h3,by intro _ _ _ _ h;cases h⟩)
   | @seq aL a bL b h1 h2 =>
    have e:∀ (p:Program) (X k a b:_) (w:World),stepG p true (G0 (fr0 fn tmps (.code (.seq a b)::k) .run) X) w = .go (G0 (fr0 fn tmps (.code a::.code b::k) .run) X) w:=fun p X k a b w=>by simp [stepG,stepG.exec,fr0]
    rw [e]
    exact .run _ _ _ _ (.inl rfl) (by intro _ _ _ _ h;cases h) (.silent hw (e P X k a b w) ⟨rfl,_,rfl,.cons (.code h1) (.cons (.code h2) hk),by intro _ _ _ _ h;cases h⟩)
   | @cond x aL a bL b h1 h2 =>
    have ev:∀ k k',(fr0 fn tmps k .run).eval x=(fr0 fn tmps k' .run).eval x:=fun k k'=>by cases x <;> rfl
    by_cases hb:∃ t,(fr0 fn tmps [] .run).eval x = .bool t
    ·obtain ⟨t,ht⟩:=hb
     have e:∀ (p:Program) (X k:List _) (a b:Code) (w:World),stepG p true (G0 (fr0 fn tmps (.code (.cond x a b)::k) .run) X) w = .go (G0 (fr0 fn tmps (.code (if t then a else b)::k) .run) X) w:=fun p X k a b w=>by
      have:=(ev (.code (.cond x a b)::k) []).trans ht
      simp only [fr0] at this
      simp [stepG,stepG.exec,fr0,this]
     rw [e]
     refine .run _ _ _ _ (.inl rfl) (by intro _ _ _ _ h;cases h) (.silent hw (e P X k a b w) ⟨rfl,_,rfl,.cons (.code ?_) hk,by intro _ _ _ _ h;cases h⟩)
     cases t
     ·exact h2
     ·exact h1
    ·have e:∃ o w' es,stepG (alt P F) true (G0 (fr0 fn tmps (.code (.cond x aL bL)::kL) .run) XL) wL = .ended o w' es:=by
      have h':∀ t,(fr0 fn tmps (.code (.cond x aL bL)::kL) .run).eval x ≠ .bool t:=fun t ht=>hb ⟨t,(ev _ _).trans ht⟩
      simp only [fr0] at h'
      simp only [stepG,stepG.exec,fr0]
      exact ⟨_,_,_,rfl⟩
     obtain ⟨o,w',es,e⟩:=e
     rw [e];exact .ended _ _ _
   | @block id aL a h1 =>
    have e:∀ (p:Program) (X k a:_) (w:World),stepG p true (G0 (fr0 fn tmps (.code (.block id a)::k) .run) X) w = .go (G0 (fr0 fn tmps (.code a::.inBlock id::k) .run) X) w:=fun p X k a w=>by simp [stepG,stepG.exec,fr0]
    rw [e]
    exact .run _ _ _ _ (.inl rfl) (by intro _ _ _ _ h;cases h) (.silent hw (e P X k a w) ⟨rfl,_,rfl,.cons (.code h1) (.cons (.inBlock id) hk),by intro _ _ _ _ h;cases h⟩)
   | @loop aL a h1 =>
    have e:∀ (p:Program) (X k a:_) (w:World),stepG p true (G0 (fr0 fn tmps (.code (.loop a)::k) .run) X) w = .go (G0 (fr0 fn tmps (.code a::.inLoop a::k) .run) X) w:=fun p X k a w=>by simp [stepG,stepG.exec,fr0]
    rw [e]
    exact .run _ _ _ _ (.inl rfl) (by intro _ _ _ _ h;cases h) (.silent hw (e P X k a w) ⟨rfl,_,rfl,.cons (.code h1) (.cons (.inLoop h1) hk),by intro _ _ _ _ h;cases h⟩)
   | dead s c =>
    have e:∃ o w' es,stepG (alt P F) true (G0 (fr0 fn tmps (.code (.refuse s)::kL) .run) XL) wL = .ended o w' es:=by simp [stepG,stepG.exec,fr0]
    obtain ⟨o,w',es,e⟩:=e
    rw [e];exact .ended _ _ _
   | region id opsL ops draw hsz hd hr =>
    cases draw with
    | false =>
     have e:∀ (p:Program) (X k:List _) (ops:Array Oper) (w:World),stepG p true (G0 (fr0 fn tmps (.code (.region id ops false)::k) .run) X) w = .go (G0 (fr0 fn tmps (.inRegion ops (List.range ops.size)::k) .run) X) w:=fun p X k ops w=>by simp [stepG,stepG.exec,fr0]
     rw [e]
     refine .run _ _ _ _ (.inl rfl) (by intro _ _ _ _ h;cases h) (.silent hw (e P X k ops w) ⟨rfl,_,rfl,.cons ?_ hk,by intro _ _ _ _ h;cases h⟩)
     rw [hsz]
     exact .inRegion _ fun i _=>hr i
    | true =>
     obtain rfl:=hd rfl
     have e:∀ (p:Program) (X k:List _) (w:World),stepG p true (G0 (fr0 fn tmps (.code (.region id opsL true)::k) .run) X) w = .go (G0 (fr0 fn tmps (.inRegion opsL (Region.schedule (p.follows .mixedOrders) opsL (w.tape w.drawn (.order fn id)))::k) .run) X) { w with drawn:=w.drawn+1 }:=fun p X k w=>by
      simp [stepG,stepG.exec,fr0,choose,Sem.run,Question.forced,Question.cut]
     rw [e]
     refine .run _ _ _ _ (.inl rfl) (by intro _ _ _ _ h;cases h) ⟨1,rfl,rfl,fun hm=>⟨_,_,_,_,e P X k w,⟨rfl,_,rfl,.cons ?_ hk,by intro _ _ _ _ h;cases h⟩,⟨hw.size,hw.os,hw.out,hw.heap,hw.noloop⟩,rfl,rfl,fun _ _ h _=>h,by simp⟩⟩
     have h0:=hm 0 (by omega)
     simp only [Nat.add_zero] at h0
     rw [h0]
     exact .inRegion _ fun i _=>hr i
  | @inRegion opsL ops t hr =>
   cases t with
   | nil =>
    have e:∀ (p:Program) (X k:List _) (ops:Array Oper) (w:World),stepG p true (G0 (fr0 fn tmps (.inRegion ops []::k) .run) X) w = .go (G0 (fr0 fn tmps k .run) X) w:=fun p X k ops w=>by simp [stepG,stepG.exec,fr0]
    rw [e]
    exact .run _ _ _ _ (.inl rfl) (by intro _ _ _ _ h;cases h) (.silent hw (e P X k ops w) ⟨rfl,_,rfl,hk,by intro _ _ _ _ h;cases h⟩)
   | cons i t =>
    rcases hr i (by simp) with ⟨h1,h2⟩ | h3
    case sp=>exact absurd h3 (hsp _ _ _ _ _ _ rfl rfl)
    have hr':IR P SpO (.inRegion opsL t) (.inRegion ops t):=.inRegion t fun j hj=>hr j (by simp [hj])
    by_cases hwt:((opsL[i]?).map (Region.wanted · (yielded opsL tmps))).getD false=false
    ·
     have hwt':((ops[i]?).map (Region.wanted · (yielded ops tmps))).getD false=false:=by
      cases ho:ops[i]? with
      | none=>rfl
      | some o =>
       rw [h1,ho] at hwt
       rcases (h2 o ho).2.1 with hg | rfl
       ·simp [Region.wanted,hg] at hwt
       ·exact hwt
     rw [skip_step hwt]
     refine .run _ _ _ _ ?_ (by intro _ _ _ _ h;cases h;exact ⟨rfl,_,rfl⟩) (.silent hw (skip_step hwt') ⟨rfl,_,by rw [h1],.cons hr' hk,by intro _ _ _ _ h;cases h;rfl⟩)
     cases ho:opsL[i]? with
     | none=>exact .inl rfl
     | some o=>exact .inr ⟨o.dst,undef,(h2 o (h1.symm.trans ho)).2.2,rfl⟩
    ·cases ho:ops[i]? with
     | none=>rw [h1,ho] at hwt;exact absurd rfl hwt
     | some o =>
      have hoL:opsL[i]? = some o:=h1.trans ho
      have hwL:Region.wanted o (yielded opsL tmps)=true:=by rw [hoL] at hwt;simpa using hwt
      have hwP:Region.wanted o (yielded ops tmps)=true:=by
       rcases (h2 o ho).2.1 with hg | rfl
       ·simp [Region.wanted,hg]
       ·exact hwL
      rw [op_step hoL hwL]
      have hop:=op_alike hF (h2 o ho).1 (evF fn tmps) hw
      have hfst:=Sem.runT_fst (alt P F) (execOp (evF fn tmps) o) wL #[]
      generalize hR:(execOp (evF fn tmps) o).runT (alt P F) wL #[]=R at hfst
      obtain ⟨r,es⟩:=R
      simp only at hfst
      rw [<-hfst] at hop
      have hPL:=op_step (p:=P) (fn:=fn) (X:=X) (k:=k) (t:=t) (w:=w) ho hwP
      cases r with
      | ok nx wL' =>
       obtain ⟨hq,c,h4,h5,h6⟩:=hop
       cases nx with
       | value v =>
        rw [apply_value hoL hR]
        refine .run _ _ _ _ (.inr ⟨_,_,(h2 o ho).2.2,rfl⟩) (by intro _ _ _ _ h;cases h;exact ⟨rfl,_,by rw [hoL];rfl⟩) ⟨c,h4,h5,fun hm=>?_⟩
        obtain ⟨w',r1,r2,r3,r4,r5⟩:=h6 hm
        obtain ⟨es',r6,r7⟩:=r5 #[]
        exact ⟨_,_,w',_,hPL.trans (apply_value ho r6),⟨rfl,_,rfl,.cons hr' hk,by intro _ _ _ _ h;cases h;rfl⟩,r1,r2,r3,r4,fun e he=>(r7 e (Go.Conc.mem_seen he)).resolve_left (by simp)⟩
       | skip =>
        rw [apply_skip hoL hR]
        refine .run _ _ _ _ (.inr ⟨_,_,(h2 o ho).2.2,rfl⟩) (by intro _ _ _ _ h;cases h;exact ⟨rfl,_,by rw [hoL];rfl⟩) ⟨c,h4,h5,fun hm=>?_⟩
        obtain ⟨w',r1,r2,r3,r4,r5⟩:=h6 hm
        obtain ⟨es',r6,r7⟩:=r5 #[]
        exact ⟨_,_,w',_,hPL.trans (apply_skip ho r6),⟨rfl,_,rfl,.cons hr' hk,by intro _ _ _ _ h;cases h;rfl⟩,r1,r2,r3,r4,fun e he=>(r7 e (Go.Conc.mem_seen he)).resolve_left (by simp)⟩
       | enter f args =>
        rw [apply_enter hR]
        refine .enter f args _ _ _ _ _ _ _ _ rfl rfl h1 ⟨o,(enter_call (h2 o ho).1 hfst.symm).choose,ho,(enter_call (h2 o ho).1 hfst.symm).choose_spec⟩ ⟨c,h4,h5,fun hm=>?_⟩
        obtain ⟨w',r1,r2,r3,r4,r5⟩:=h6 hm
        obtain ⟨es',r6,r7⟩:=r5 #[]
        exact ⟨_,_,w',_,hPL.trans (apply_enter r6),⟨rfl,rfl⟩,r1,r2,r3,r4,fun e he=>(r7 e (Go.Conc.mem_seen he)).resolve_left (by simp)⟩
       | _=>exact hq.elim
      | halt h wL' =>
       cases h with
       | panic v=>rw [apply_panic hR];exact .panics _ _ _ _ _
       | unsupported u=>obtain ⟨o',w'',es',e⟩:=apply_unsup (X:=XL) (k:=kL) (t:=t) (i:=i) (ops:=opsL) (fn:=fn) (tmps:=tmps) hs hn hR;rw [e];exact .ended _ _ _
       | stuck m=>obtain ⟨o',w'',es',e⟩:=apply_stuck (X:=XL) (k:=kL) (t:=t) (i:=i) (ops:=opsL) (fn:=fn) (tmps:=tmps) hR;rw [e];exact .ended _ _ _
       | _=>exact hop.elim
end Cv
namespace Cv
open Go Go.Conc
def tp (w:World) (t:Nat->Question->Nat) (d:Nat):World:={ w with tape:=t,drawn:=d }
theorem tp_self (w:World):tp w w.tape w.drawn=w:=rfl
def Agr (c:Nat) (w:World) (t:Nat->Question->Nat) (d:Nat):Prop:=∀ j,j<c->t (d+j)=w.tape (w.drawn+j)
def NL (w:World):Prop:=∀ (b:Nat) (l:Loop),w.heap[b]? ≠ some (.loop l)
theorem NL.wr {w:World} (h:NL w):WR w w:=⟨rfl,rfl,rfl,fun _=>.inl rfl,h⟩
def LocOk (p:Program) {α : Type} (s:Sem α):Prop:=∀ w a w',NL w->s.run p w = .ok a w'->∃ c,w'.tape=w.tape/\w'.drawn=w.drawn+c/\∀ t d,Agr c w t d->s.run p (tp w t d) = .ok a (tp w' t (d+c))
theorem obSelf (w:World) (t:Nat->Question->Nat) (d:Nat):∀ b:Nat,OB w.heap[b]? (tp w t d).heap[b]?:=fun b=>.inl rfl
theorem loc {PL P:Program} {α : Type} {Q : α->Prop} {S:Nat->Prop} {s:Sem α} (h:Tm PL P Q S s):LocOk PL s:=by
 induction h with
 | pure _ =>
  intro w a w' hN h
  simp only [Sem.run,Result.ok.injEq] at h
  obtain ⟨rfl,rfl⟩:=h
  exact ⟨0,rfl,rfl,fun t d _=>rfl⟩
 | @load S m a k _ ih =>
  intro w x w' hN h
  simp only [Sem.run] at h
  cases hc:w.cell? a with
  | some v =>
   rw [hc] at h
   obtain ⟨c,h1,h2,h3⟩:=ih v w x w' hN h
   refine ⟨c,h1,h2,fun t d ha=>?_⟩
   have e:(tp w t d).cell? a=some v:=hc
   simp only [Sem.run,e];exact h3 t d ha
  | none =>
   rw [hc] at h
   simp only at h
   cases hf:w.farLoad PL a (m == .atomic) with
   | error _=>rw [hf] at h;cases h
   | ok r =>
    obtain ⟨v,l⟩:=r
    rw [hf] at h
    obtain ⟨c,h1,h2,h3⟩:=ih v w x w' hN h
    refine ⟨c,h1,h2,fun t d ha=>?_⟩
    have e:(tp w t d).cell? a=none:=hc
    have e2:=farLoad_alike (F:=PL.funcs) (obSelf w t d) a (m == .atomic) hf
    simp only [Sem.run,e,e2];exact h3 t d ha
 | @store S m a v k _ ih =>
  intro w x w' hN h
  have key:(∀ c,v ≠ .agg c)->(∀ c,v ≠ .tuple c)->∃ c,w'.tape=w.tape/\w'.drawn=w.drawn+c/\∀ t d,Agr c w t d->(Sem.store m a v k).run PL (tp w t d) = .ok x (tp w' t (d+c)):=by
   intro hv1 hv2
   have e1:∀ (w:World),(Sem.store m a v k).run PL w=(match w.cell? a with
    | some _ => if w.frozen? a then .halt (.unsupported (.unsafePointer "a write to bytes that a string shares")) w else k.run PL (w.setCell a v)
    | none=>match w.farStore PL a v (m == .atomic) with
     | .ok (w,touched)=>k.run PL w
     | .error h=>.halt h w):=by
    intro w
    cases v <;> first | rfl | exact absurd rfl (hv1 _) | exact absurd rfl (hv2 _)
   rw [e1] at h
   cases hc:w.cell? a with
   | some v0 =>
    rw [hc] at h
    simp only at h
    by_cases hz:w.frozen? a=true
    ·rw [if_pos hz] at h;cases h
    ·rw [if_neg hz] at h
     obtain ⟨c,h1,h2,h3⟩:=ih _ x w' (by rw [setCell_eq];exact (hN.wr.modify (setA_op a v) (setA_loop a v)).noloop) h
     refine ⟨c,h1,h2,fun t d ha=>?_⟩
     have e:(tp w t d).cell? a=some v0:=hc
     have ez:¬ (tp w t d).frozen? a=true:=hz
     rw [e1,e]
     simp only [ez,Bool.false_eq_true,↓reduceIte]
     exact h3 t d ha
   | none =>
    rw [hc] at h
    simp only at h
    cases hf:w.farStore PL a v (m == .atomic) with
    | error _=>rw [hf] at h;cases h
    | ok r =>
     obtain ⟨w1,l⟩:=r
     rw [hf] at h
     have hh:=fun t d=>farStore_alike (F:=PL.funcs) (obSelf w t d) a v (m == .atomic) hf
     obtain ⟨r0,o0,p0,hp0,hpc,hoc,hw1,_⟩:=hh w.tape w.drawn
     obtain ⟨c,h1,h2,h3⟩:=ih _ x w' (by rw [hw1];exact (hN.wr.set hp0 hpc hoc).noloop) h
     refine ⟨c,by rw [h1,hw1],by rw [h2,hw1],fun t d ha=>?_⟩
     obtain ⟨r,o,p,_,_,_,hw1',hf'⟩:=hh t d
     have e:(tp w t d).cell? a=none:=hc
     rw [e1,e]
     simp only [hf']
     have:=h3 t d (fun j hj=>by rw [hw1];exact ha j hj)
     rw [hw1'] at this
     exact this
  cases v with
  | agg _=>cases h
  | tuple _=>cases h
  | _=>exact key (by intros;simp) (by intros;simp)
 | @new S o k h0 _ ih=>exact fun w x w' hN h=>ih w.heap.size _ x w' (hN.wr.push o h0).noloop h
 | @shape S r k _ ih=>exact fun w x w' hN h=>ih (w.shape? r) w x w' hN h
 | @freeze S a n k _ ih =>
  intro w x w' hN h
  simp only [Sem.run] at h ⊢
  by_cases h0:n=0
  ·have e1:∀ w:World,w.freeze a n=w:=fun w=>by simp [World.freeze,h0]
   rw [e1] at h
   simp only [e1]
   exact ih w x w' hN h
  ·rw [freeze_eq _ _ h0] at h
   obtain ⟨c,h1,h2,h3⟩:=ih _ x w' (hN.wr.modify (frz_chan a n) (frz_loop a n)).noloop h
   exact ⟨c,h1,h2,fun t d ha=>by rw [freeze_eq _ _ h0];exact h3 t d ha⟩
 | @frozen S a k _ ih=>exact fun w x w' hN h=>ih (w.frozen? a) w x w' hN h
 | @getObj S r k _ h2 h4 _ ih1 ih3 =>
  intro w x w' hN h
  simp only [Sem.run] at h ⊢
  have e:∀ t d,(tp w t d).heap[r]? = w.heap[r]?:=fun _ _=>rfl
  simp only [e]
  cases ho:w.heap[r]? with
  | none=>rw [ho] at h;cases h
  | some o =>
   rw [ho] at h
   have go:LocOk PL (k o):=by
    by_cases hc:isOp o=true
    ·rcases h4 o hc with e | ⟨hh,hk,e⟩
     ·rw [e];exact ih3
     ·by_cases hch:o.isChan=true
      ·rw [h2 o hch];exact ih3
      ·exact absurd ho (by cases o <;> first | (cases hc;done) | exact absurd rfl hch | exact hN r _)
    ·exact ih1 o (by simpa using hc)
   cases o <;> first | (cases h;done) | exact go w x w' hN h
 | @setObj S r o k h1 h2 _ ih =>
  intro w x w' hN h
  simp only [Sem.run] at h ⊢
  have e:∀ t d,(tp w t d).heap[r]? = w.heap[r]?:=fun _ _=>rfl
  simp only [e]
  cases ho:w.heap[r]? with
  | none=>rw [ho] at h;cases h
  | some p =>
   rw [ho] at h
   have hNL:NL { w with heap:=w.heap.setIfInBounds r o }:=by
    intro b l hb
    by_cases e:b=r
    ·subst e
     have hl:b<w.heap.size:=(Array.getElem?_eq_some_iff.1 ho).1
     have hb':(w.heap.setIfInBounds b o)[b]? = some (.loop l):=hb
     rw [Array.getElem?_setIfInBounds_self_of_lt hl] at hb'
     obtain rfl:=Option.some.inj hb'
     cases h2
    ·have hb':(w.heap.setIfInBounds r o)[b]? = some (.loop l):=hb
     rw [Array.getElem?_setIfInBounds_ne (fun z=>e z.symm)] at hb'
     exact hN b l hb'
   cases p <;> first | (cases h;done) | exact ih _ x w' hNL h
 | @choose S q k _ ih =>
  intro w x w' hN h
  simp only [Sem.run] at h ⊢
  by_cases hf:q.forced=true
  ·simp only [hf,if_true] at h ⊢
   exact ih _ w x w' hN h
  ·simp only [hf,Bool.false_eq_true,↓reduceIte] at h ⊢
   obtain ⟨c,h1,h2,h3⟩:=ih _ { w with drawn:=w.drawn+1 } x w' hN h
   refine ⟨c+1,h1,by rw [h2];show w.drawn+1+c=_;omega,fun t d ha=>?_⟩
   have h0:=ha 0 (by omega)
   simp only [Nat.add_zero] at h0
   have:=h3 t (d+1) (fun j hj=>by
    have:=ha (j+1) (by omega)
    show t (d+1+j)=w.tape (w.drawn+1+j)
    rw [show d+1+j=d+(j+1) by omega,show w.drawn+1+j=w.drawn+(j+1) by omega];exact this)
   rw [show d+(c+1)=d+1+c by omega]
   simp only [tp] at this ⊢
   rw [h0]
   exact this
 | @program S k _ _ ih=>exact fun w x w' hN h=>ih w x w' hN h
 | @mark S m k _ _ _ ih=>exact fun w x w' hN h=>ih w x w' hN h
 | halt _=>intro w x w' hN h;cases h
section
variable {P : Program} {F : Array Func}
theorem op_loc (hF:FunOk P F) {o:Oper} (h:opOK P o.op=true) (ρ : Operand->Value):LocOk (alt P F) (execOp ρ o) :=
 (op_cases hF h ρ).elim (fun h=>loc (h fun _=>False)) fun h w a w' _ e=>by obtain ⟨_,_,e',_⟩:=h (alt P F) w;rw [e'] at e;cases e
end
end Cv
namespace Cv
open Go Go.Conc
def codeOK (P:Program):Code->Bool
 | .skip | .ret | .exit _ | .refuse _=>true
 | .region _ ops _=>ops.all fun o=>opOK P o.op
 | .seq a b | .cond _ a b=>codeOK P a && codeOK P b
 | .block _ a | .loop a=>codeOK P a
 | _=>false
def itemOK (P:Program):Item->Bool
 | .code c | .inLoop c=>codeOK P c
 | .inBlock _=>true
 | .inRegion ops _=>ops.all fun o=>opOK P o.op
 | _=>false
def todoOK (P:Program) (l:List Item):Bool:=l.all (itemOK P)
def c0 (P : Program) (F : Array Func) : Frame := { fn := F.size, tmps := #[], todo := [.code (.refuse "")], defers := [{ target := .nil, args := #[] }], mode := .run, kind := .normal, roundOf := none }
structure LoneOk (P:Program) (F:Array Func):Prop where
 fns:FunOk P F
 ahead:(alt P F).follows .staticDataAhead=true
 noStep:∀ g,(alt P F).stepOf g=none
 codes:∀ (f:FuncId) (fn:Func) (c:Code),F[f]? = some fn->fn.body=some c->codeOK P c=true
section
variable {P : Program} {F : Array Func}
inductive LStk (P:Program) (F:Array Func):List Frame->Prop
 | base:LStk P F [c0 P F]
 | cons {fn:FuncId} {tmps:Array Value} {todo:List Item} {X:List Frame}:todoOK P todo=true->LStk P F X->LStk P F (fr0 fn tmps todo .run::X)
inductive LSt (P:Program) (F:Array Func):Frame->List Frame->Prop
 | mk {fn:FuncId} {tmps:Array Value} {todo:List Item} {mode:FrameMode} {X:List Frame}:mode = .run \/ mode = .returning->todoOK P todo=true->LStk P F X->LSt P F (fr0 fn tmps todo mode) X
theorem todoOK_exit {id:Nat}:∀ {l l':List Item},todoOK P l=true->exitTo id l=some l'->todoOK P l'=true
 | [],_,_,h=>by cases h
 | x::l,l',h,e=>by
  simp only [todoOK,List.all_cons,Bool.and_eq_true] at h
  cases x with
  | inBlock id' =>
   simp only [exitTo] at e
   split at e
   ·obtain rfl:=Option.some.inj e;exact h.2
   ·exact todoOK_exit h.2 e
  | _=>exact todoOK_exit h.2 (by simpa [exitTo] using e)
def Goes1 (P:Program) (F:Array Func) (fr:Frame) (X:List Frame) (w:World) (fr':Frame) (X':List Frame) (w':World):Prop :=
 LSt P F fr' X'/\NL w'/\∃ c,w'.tape=w.tape/\w'.drawn=w.drawn+c/\∀ t d,Agr c w t d->∃ es,stepG (alt P F) true (G0 fr X) (tp w t d) = .go (G0 fr' X') (tp w' t (d+c)) es
inductive Lo (P:Program) (F:Array Func) (fr:Frame) (X:List Frame) (w:World):GStep->Prop
 | ended (o:Outcome) (w':World) (es:Array Event):Lo P F fr X w (.ended o w' es)
 | panics (fn:FuncId) (tmps':Array Value) (todo':List Item) (ch:List PanicEntry) (w':World) (es:Array Event):todoOK P todo'=true->Lo P F fr X w (.go (G0 (fr0 fn tmps' todo' (.panicking ch)) X) w' es)
 | goes (fr':Frame) (X':List Frame) (w':World) (es:Array Event):Goes1 P F fr X w fr' X' w'->Lo P F fr X w (.go (G0 fr' X') w' es)
theorem Lo.silent {fr fr':Frame} {X X':List Frame} {w:World} (hN:NL w) (h:∀ w,stepG (alt P F) true (G0 fr X) w = .go (G0 fr' X') w) (hL:LSt P F fr' X'):Lo P F fr X w (stepG (alt P F) true (G0 fr X) w):=by
 rw [h w]
 exact .goes _ _ _ _ ⟨hL,hN,0,rfl,rfl,fun t d _=>⟨_,h _⟩⟩
theorem enter_fr0 (H:LoneOk P F) (f:FuncId) (args:Array Value):∃ tmps c,Frame.enter (alt P F) f args .normal=fr0 f tmps [.code c] .run/\codeOK P c=true:=by
 refine ⟨_,_,rfl,?_⟩
 have e:(alt P F).funcs[f]? = F[f]?:=rfl
 rw [e]
 cases h:F[f]? with
 | none=>rfl
 | some fn =>
  cases h2:fn.body with
  | none=>simp [h2,codeOK]
  | some c=>simpa [h2] using H.codes f fn c h h2
theorem finish_ok {fn:FuncId} {tmps:Array Value} {todo:List Item} (h:todoOK P todo=true) (v:Value):∃ tmps' todo',(fr0 fn tmps todo .run).finish v=fr0 fn tmps' todo' .run/\todoOK P todo'=true:=by
 cases todo with
 | nil=>exact ⟨_,_,rfl,h⟩
 | cons x l =>
  have h':=h
  simp only [todoOK,List.all_cons,Bool.and_eq_true] at h'
  cases x with
  | inRegion ops t =>
   cases t with
   | nil=>exact ⟨_,_,rfl,h⟩
   | cons i t=>exact ⟨_,_,rfl,h⟩
  | code _=>exact ⟨_,_,rfl,h⟩
  | inBlock _=>exact ⟨_,_,rfl,h⟩
  | inLoop _=>exact ⟨_,_,rfl,h⟩
  | _=>cases h'.1
theorem TT_results (fn:Func) (tmps:Array Value):TT P F (results fn tmps):=by
 unfold results
 refine (TT.mapA (fun r=>?_) _).bind fun vs=>?_
 ·cases r with
  | tmp t=>exact TT.pure
  | cell a t=>exact (TT.asAddr _).bind fun _=>TT.loadVar _ _
 ·split <;> exact TT.pure
set_option maxHeartbeats 1000000 in
theorem lo_run (H:LoneOk P F) {fn:FuncId} {tmps:Array Value} {todo:List Item} {X:List Frame} {w:World} (hT:todoOK P todo=true) (hX:LStk P F X) (hN:NL w) :
 Lo P F (fr0 fn tmps todo .run) X w (stepG (alt P F) true (G0 (fr0 fn tmps todo .run) X) w):=by
 cases todo with
 | nil=>exact .silent hN (fr':=fr0 fn tmps [] .returning) (fun w=>by simp [stepG,stepG.exec,fr0]) (.mk (.inr rfl) hT hX)
 | cons x k =>
  have hT':=hT
  simp only [todoOK,List.all_cons,Bool.and_eq_true] at hT'
  obtain ⟨hx,hk⟩:=hT'
  have hk':todoOK P k=true:=hk
  cases x with
  | inBlock id=>exact .silent hN (fr':=fr0 fn tmps k .run) (fun w=>by simp [stepG,stepG.exec,fr0]) (.mk (.inl rfl) hk' hX)
  | inLoop c=>exact .silent hN (fr':=fr0 fn tmps (.code c::.inLoop c::k) .run) (fun w=>by simp [stepG,stepG.exec,fr0]) (.mk (.inl rfl) (by simp only [todoOK,List.all_cons,hk,itemOK] at *;simp [hx]) hX)
  | code c =>
   cases c with
   | skip=>exact .silent hN (fr':=fr0 fn tmps k .run) (fun w=>by simp [stepG,stepG.exec,fr0]) (.mk (.inl rfl) hk' hX)
   | ret=>exact .silent hN (fr':=fr0 fn tmps (.code .ret::k) .returning) (fun w=>by simp [stepG,stepG.exec,fr0]) (.mk (.inr rfl) hT hX)
   | exit id =>
    cases he:exitTo id k with
    | none =>
     have e:∃ o w' es,stepG (alt P F) true (G0 (fr0 fn tmps (.code (.exit id)::k) .run) X) w = .ended o w' es:=by simp [stepG,stepG.exec,fr0,he]
     obtain ⟨o,w',es,e⟩:=e
     rw [e];exact .ended _ _ _
    | some k'=>exact .silent hN (fr':=fr0 fn tmps k' .run) (fun w=>by simp [stepG,stepG.exec,fr0,he]) (.mk (.inl rfl) (todoOK_exit hk' he) hX)
   | refuse s =>
    have e:∃ o w' es,stepG (alt P F) true (G0 (fr0 fn tmps (.code (.refuse s)::k) .run) X) w = .ended o w' es:=by simp [stepG,stepG.exec,fr0]
    obtain ⟨o,w',es,e⟩:=e
    rw [e];exact .ended _ _ _
   | seq a b =>
    simp only [itemOK,codeOK,Bool.and_eq_true] at hx
    exact .silent hN (fr':=fr0 fn tmps (.code a::.code b::k) .run) (fun w=>by simp [stepG,stepG.exec,fr0]) (.mk (.inl rfl) (by simp only [todoOK,List.all_cons,itemOK,hx.1,hx.2,Bool.true_and];exact hk) hX)
   | block id a=>exact .silent hN (fr':=fr0 fn tmps (.code a::.inBlock id::k) .run) (fun w=>by simp [stepG,stepG.exec,fr0]) (.mk (.inl rfl) (by simp only [itemOK,codeOK] at hx;simp only [todoOK,List.all_cons,itemOK,hx,Bool.true_and];exact hk) hX)
   | loop a=>exact .silent hN (fr':=fr0 fn tmps (.code a::.inLoop a::k) .run) (fun w=>by simp [stepG,stepG.exec,fr0]) (.mk (.inl rfl) (by simp only [itemOK,codeOK] at hx;simp only [todoOK,List.all_cons,itemOK,hx,Bool.true_and];exact hk) hX)
   | cond y a b =>
    simp only [itemOK,codeOK,Bool.and_eq_true] at hx
    have ev:∀ k k',(fr0 fn tmps k .run).eval y=(fr0 fn tmps k' .run).eval y:=fun k k'=>by cases y <;> rfl
    by_cases hb:∃ t,(fr0 fn tmps [] .run).eval y = .bool t
    ·obtain ⟨t,ht⟩:=hb
     refine .silent hN (fr':=fr0 fn tmps (.code (if t then a else b)::k) .run) (fun w=>?_) (.mk (.inl rfl) ?_ hX)
     ·have:=(ev (.code (.cond y a b)::k) []).trans ht
      simp only [fr0] at this
      simp [stepG,stepG.exec,fr0,this]
     ·simp only [todoOK,List.all_cons,itemOK]
      cases t
      ·simp only [Bool.false_eq_true,if_false,hx.2,Bool.true_and];exact hk
      ·simp only [if_true,hx.1,Bool.true_and];exact hk
    ·have e:∃ o w' es,stepG (alt P F) true (G0 (fr0 fn tmps (.code (.cond y a b)::k) .run) X) w = .ended o w' es:=by
      have h':∀ t,(fr0 fn tmps (.code (.cond y a b)::k) .run).eval y ≠ .bool t:=fun t ht=>hb ⟨t,(ev _ _).trans ht⟩
      simp only [fr0] at h'
      simp only [stepG,stepG.exec,fr0]
      exact ⟨_,_,_,rfl⟩
     obtain ⟨o,w',es,e⟩:=e
     rw [e];exact .ended _ _ _
   | region id ops draw =>
    cases draw with
    | false=>exact .silent hN (fr':=fr0 fn tmps (.inRegion ops (List.range ops.size)::k) .run) (fun w=>by simp [stepG,stepG.exec,fr0]) (.mk (.inl rfl) hT hX)
    | true =>
     have e:∀ w:World,stepG (alt P F) true (G0 (fr0 fn tmps (.code (.region id ops true)::k) .run) X) w = .go (G0 (fr0 fn tmps (.inRegion ops (Region.schedule ((alt P F).follows .mixedOrders) ops (w.tape w.drawn (.order fn id)))::k) .run) X) { w with drawn:=w.drawn+1 }:=fun w=>by
      simp [stepG,stepG.exec,fr0,choose,Sem.run,Question.forced,Question.cut]
     rw [e]
     refine .goes _ _ _ _ ⟨.mk (.inl rfl) hT hX,hN,1,rfl,rfl,fun t d ha=>⟨#[],?_⟩⟩
     rw [e]
     have h0:=ha 0 (by omega)
     simp only [Nat.add_zero] at h0
     simp only [tp]
     rw [h0]
   | _=>cases hx
  | inRegion ops t =>
   have hr:itemOK P (.inRegion ops t)=true:=hx
   cases t with
   | nil=>exact .silent hN (fr':=fr0 fn tmps k .run) (fun w=>by simp [stepG,stepG.exec,fr0]) (.mk (.inl rfl) hk' hX)
   | cons i t =>
    have hnext:∀ tm,LSt P F (fr0 fn tm (.inRegion ops t::k) .run) X:=fun tm=>.mk (.inl rfl) (by simp only [todoOK,List.all_cons,Bool.and_eq_true];exact ⟨hx,hk⟩) hX
    by_cases hwt:((ops[i]?).map (Region.wanted · (yielded ops tmps))).getD false=false
    ·exact .silent hN (fun w=>skip_step hwt) (hnext _)
    ·cases ho:ops[i]? with
     | none=>rw [ho] at hwt;exact absurd rfl hwt
     | some o =>
      have hwP:Region.wanted o (yielded ops tmps)=true:=by rw [ho] at hwt;simpa using hwt
      have hok:opOK P o.op=true:=by
       simp only [itemOK,Array.all_eq_true] at hx
       obtain ⟨hl,he⟩:=Array.getElem?_eq_some_iff.1 ho
       rw [<-he];exact hx i hl
      have hloc:=op_loc H.fns hok (evF fn tmps)
      have hal:=op_alike H.fns hok (evF fn tmps) hN.wr
      rw [op_step ho hwP]
      have hfst:=Sem.runT_fst (alt P F) (execOp (evF fn tmps) o) w #[]
      generalize hR:(execOp (evF fn tmps) o).runT (alt P F) w #[]=R at hfst
      obtain ⟨r,es⟩:=R
      simp only at hfst
      cases r with
      | ok nx w' =>
       obtain ⟨c,h1,h2,h3⟩:=hloc w nx w' hN hfst.symm
       rw [<-hfst] at hal
       obtain ⟨hq,c',h1',h2',h6⟩:=hal
       have hN':NL w':=by obtain ⟨_,hW,_⟩:=h6 fun _ _=>rfl;exact hW.noloop
       have run2:∀ t d,Agr c w t d->∃ es2,(execOp (evF fn tmps) o).runT (alt P F) (tp w t d) #[]=(.ok nx (tp w' t (d+c)),es2):=fun t d ha=>by
        have:=h3 t d ha
        rw [<-Sem.runT_fst _ _ _ #[]] at this
        exact ⟨_,Prod.ext this rfl⟩
       cases nx with
       | value v =>
        rw [apply_value ho hR]
        refine .goes _ _ _ _ ⟨hnext _,hN',c,h1,h2,fun t d ha=>?_⟩
        obtain ⟨es2,e2⟩:=run2 t d ha
        exact ⟨_,(op_step ho hwP).trans (apply_value ho e2)⟩
       | skip =>
        rw [apply_skip ho hR]
        refine .goes _ _ _ _ ⟨hnext _,hN',c,h1,h2,fun t d ha=>?_⟩
        obtain ⟨es2,e2⟩:=run2 t d ha
        exact ⟨_,(op_step ho hwP).trans (apply_skip ho e2)⟩
       | enter f args =>
        rw [apply_enter hR]
        obtain ⟨tm,c2,hent,hc2⟩:=enter_fr0 H f args
        refine .goes _ _ _ _ ⟨?_,hN',c,h1,h2,fun t d ha=>?_⟩
        ·rw [hent];exact .mk (.inl rfl) (by simp [todoOK,itemOK,hc2]) (.cons hT hX)
        ·obtain ⟨es2,e2⟩:=run2 t d ha
         exact ⟨_,(op_step ho hwP).trans (apply_enter e2)⟩
       | _=>exact hq.elim
      | halt h w' =>
       rw [<-hfst] at hal
       cases h with
       | panic v=>rw [apply_panic hR];exact .panics _ _ _ _ _ _ hT
       | unsupported u=>obtain ⟨o',w'',es',e⟩:=apply_unsup (X:=X) (k:=k) (t:=t) (i:=i) (ops:=ops) (fn:=fn) (tmps:=tmps) H.ahead H.noStep hR;rw [e];exact .ended _ _ _
       | stuck m=>obtain ⟨o',w'',es',e⟩:=apply_stuck (X:=X) (k:=k) (t:=t) (i:=i) (ops:=ops) (fn:=fn) (tmps:=tmps) hR;rw [e];exact .ended _ _ _
       | _=>exact hal.elim
  | _=>cases hx
theorem lo_return (H:LoneOk P F) {fn fn':FuncId} {tmps tmps':Array Value} {todo todo':List Item} {X:List Frame} {w:World} (hT:todoOK P todo'=true) (hX:LStk P F X) (hN:NL w) :
 Lo P F (fr0 fn tmps todo .returning) (fr0 fn' tmps' todo' .run::X) w (stepG (alt P F) true (G0 (fr0 fn tmps todo .returning) (fr0 fn' tmps' todo' .run::X)) w):=by
 have hfin:∀ v,LSt P F ((fr0 fn' tmps' todo' .run).finish v) X:=fun v=>by
  obtain ⟨t1,t2,e,h⟩:=finish_ok (fn:=fn') (tmps:=tmps') hT v
  rw [e];exact .mk (.inl rfl) h hX
 cases hf:(alt P F).funcs[fn]? with
 | none =>
  have e:∀ w,stepG (alt P F) true (G0 (fr0 fn tmps todo .returning) (fr0 fn' tmps' todo' .run::X)) w = .go (G0 ((fr0 fn' tmps' todo' .run).finish (tmps.getD 0 undef)) X) w:=fun w=>by
   simp [stepG,unwind,fr0,hf,doReturn]
  exact .silent hN e (hfin _)
 | some f =>
  have hloc:LocOk (alt P F) (results f tmps):=loc (TT_results (P:=P) (F:=F) f tmps fun _=>False)
  have e1:∀ (w w':World) (v:Value) (es:Array Event),(results f tmps).runT (alt P F) w #[]=(.ok v w',es)->stepG (alt P F) true (G0 (fr0 fn tmps todo .returning) (fr0 fn' tmps' todo' .run::X)) w = .go (G0 ((fr0 fn' tmps' todo' .run).finish v) X) w' (seen (alt P F) fn es):=fun w w' v es hr=>by
   have hr1:(results f tmps).run (alt P F) w=_:=(Sem.runT_fst (alt P F) (results f tmps) w #[]).symm.trans (congrArg Prod.fst hr)
   have hr2:(results f tmps).events (alt P F) w #[]=es:=congrArg Prod.snd hr
   simp only at hr1
   simp [stepG,unwind,fr0,hf,doReturn,hr1,hr2,GStep.after]
  have hfst:=Sem.runT_fst (alt P F) (results f tmps) w #[]
  generalize hR:(results f tmps).runT (alt P F) w #[]=R at hfst
  obtain ⟨r,es⟩:=R
  simp only at hfst
  cases r with
  | ok v w' =>
   obtain ⟨c,h1,h2,h3⟩:=hloc w v w' hN hfst.symm
   have hal:=par (TT_results (P:=P) (F:=F) f tmps fun _=>False) w w hN.wr fun _ h=>h.elim
   rw [<-hfst] at hal
   obtain ⟨_,c',h1',h2',h6⟩:=hal
   have hN':NL w':=by obtain ⟨_,hW,_⟩:=h6 fun _ _=>rfl;exact hW.noloop
   rw [e1 _ _ _ _ hR]
   refine .goes _ _ _ _ ⟨hfin v,hN',c,h1,h2,fun t d ha=>?_⟩
   have:=h3 t d ha
   rw [<-Sem.runT_fst _ _ _ #[]] at this
   exact ⟨_,e1 _ _ _ _ (Prod.ext this rfl)⟩
  | halt h w' =>
   have e:∃ o w'' es',stepG (alt P F) true (G0 (fr0 fn tmps todo .returning) (fr0 fn' tmps' todo' .run::X)) w = .ended o w'' es':=by
    have hr1:(results f tmps).run (alt P F) w=_:=(Sem.runT_fst (alt P F) (results f tmps) w #[]).symm.trans (congrArg Prod.fst hR)
    have hr2:(results f tmps).events (alt P F) w #[]=es:=congrArg Prod.snd hR
    simp only at hr1
    cases h <;> simp [stepG,unwind,fr0,hf,hr1,hr2,GStep.after]
   obtain ⟨o,w'',es',e⟩:=e
   rw [e];exact .ended _ _ _
def Fin (P:Program) (F:Array Func) (fr:Frame) (X:List Frame):Prop:=fr.mode = .returning/\X=[c0 P F]
theorem lo_any (H:LoneOk P F) {fr:Frame} {X:List Frame} {w:World} (hL:LSt P F fr X) (hN:NL w) (hf:¬ Fin P F fr X):Lo P F fr X w (stepG (alt P F) true (G0 fr X) w):=by
 cases hL with
 | mk hm hT hX =>
  rcases hm with rfl | rfl
  ·exact lo_run H hT hX hN
  ·cases hX with
   | base=>exact absurd ⟨rfl,rfl⟩ hf
   | cons hT' hX'=>exact lo_return H hT' hX' hN
def Dead (P:Program) (F:Array Func) (m:Machine):Prop:=∀ n fr w,runN (alt P F) n m = .next (lone fr [c0 P F] w)->fr.mode = .returning->False
theorem Dead.of_ended {m:Machine} {o:Outcome} {w:World} (h:step (alt P F) m = .ended o w) (h0:∀ fr w,m=lone fr [c0 P F] w->fr.mode ≠ .returning):Dead P F m:=by
 intro n fr w' hn hm
 cases n with
 | zero=>simp only [runN,Stepped.next.injEq] at hn;exact h0 fr w' hn hm
 | succ n=>simp [runN,h] at hn
theorem Dead.of_step {m m':Machine} (h:step (alt P F) m = .next m') (h0:∀ fr w,m=lone fr [c0 P F] w->fr.mode ≠ .returning) (hd:Dead P F m'):Dead P F m:=by
 intro n fr w' hn hm
 cases n with
 | zero=>simp only [runN,Stepped.next.injEq] at hn;exact h0 fr w' hn hm
 | succ n=>simp only [runN,h] at hn;exact hd n fr w' hn hm
theorem lone_inj {fr fr':Frame} {X X':List Frame} {w w':World} (h:lone fr X w=lone fr' X' w'):fr=fr'/\X=X'/\w=w':=by
 simp only [lone,Machine.mk.injEq,Array.mk.injEq,List.cons.injEq,Goroutine.mk.injEq] at h
 exact ⟨h.2.1.1.1,h.2.1.1.2.1,h.1⟩
theorem c0_dead {ch:List PanicEntry} (w:World):Dead P F (lone { c0 P F with mode:=.panicking ch } [] w):=by
 have e:∃ o w',(stepG (alt P F) true { frame:={ c0 P F with mode:=.panicking ch },callers:=[],status:=.running,dying:=none } w).bare = .ended o w':=by
  simp [stepG,unwind,c0,callDeferred]
 obtain ⟨o,w',e⟩:=e
 exact Dead.of_ended (step_lone_ended e) (fun fr w h=>by have:=(lone_inj h).2.1;cases this)
theorem c0_back {v:Value} (w:World):Dead P F (lone ((c0 P F).finish v) [] w):=by
 have e:∃ o w',(stepG (alt P F) true { frame:=(c0 P F).finish v,callers:=[],status:=.running,dying:=none } w).bare = .ended o w':=by
  simp [stepG,stepG.exec,c0,Frame.finish]
 obtain ⟨o,w',e⟩:=e
 exact Dead.of_ended (step_lone_ended e) (fun fr w h=>by have:=(lone_inj h).2.1;cases this)
theorem panic_dead {X:List Frame} (hX:LStk P F X):∀ {fn:FuncId} {tmps:Array Value} {todo:List Item} {ch:List PanicEntry} (w:World),todoOK P todo=true->Dead P F (lone (fr0 fn tmps todo (.panicking ch)) X w):=by
 induction hX with
 | base =>
  intro fn tmps todo ch w hT
  have hc:(fr0 fn tmps todo (.panicking ch)).catches (alt P F)=false:=by
   unfold Frame.catches
   split
   ·rename_i e;simp only [fr0] at e;subst e;simp [todoOK,itemOK] at hT
   ·rfl
  refine Dead.of_step (m':=lone { c0 P F with mode:=.panicking ch } [] w) (step_lone_go ?_) (fun fr w h=>?_) (c0_dead w)
  ·simp only [fr0] at hc
   simp [stepG,unwind,fr0,hc,Frame.raise,c0]
  ·obtain ⟨rfl,_⟩:=lone_inj h;simp [fr0]
 | @cons fn' tmps' todo' X' hT' hX' ih =>
  intro fn tmps todo ch w hT
  have hc:(fr0 fn tmps todo (.panicking ch)).catches (alt P F)=false:=by
   unfold Frame.catches
   split
   ·rename_i e;simp only [fr0] at e;subst e;simp [todoOK,itemOK] at hT
   ·rfl
  refine Dead.of_step (m':=lone (fr0 fn' tmps' todo' (.panicking ch)) X' w) (step_lone_go ?_) (fun fr w h=>?_) (ih w hT')
  ·simp only [fr0] at hc
   simp [stepG,unwind,fr0,hc,Frame.raise]
  ·obtain ⟨rfl,_⟩:=lone_inj h;simp [fr0]
inductive Runs (P:Program) (F:Array Func) (Good:Frame->World->Prop):Frame->List Frame->World->Prop
 | fin {fr:Frame} {X:List Frame} {w:World}:Fin P F fr X->LSt P F fr X->NL w->Good fr w->Runs P F Good fr X w
 | step {fr:Frame} {X:List Frame} {w:World} (nx:(Nat->Question->Nat)->Nat->Frame × List Frame × World × Array Event):¬ Fin P F fr X->LSt P F fr X->NL w ->
  (∀ t d,stepG (alt P F) true (G0 fr X) (tp w t d) = .go (G0 (nx t d).1 (nx t d).2.1) (nx t d).2.2.1 (nx t d).2.2.2)->(∀ t d,LSt P F (nx t d).1 (nx t d).2.1)->(∀ t d,Runs P F Good (nx t d).1 (nx t d).2.1 (nx t d).2.2.1)->Runs P F Good fr X w
theorem Runs.of {Good:Frame->World->Prop} {fr:Frame} {X:List Frame} {w:World} (h1:¬ Fin P F fr X) (h2:LSt P F fr X) (h3:NL w)
 (h:∀ t d,∃ x:Frame × List Frame × World × Array Event,stepG (alt P F) true (G0 fr X) (tp w t d) = .go (G0 x.1 x.2.1) x.2.2.1 x.2.2.2/\LSt P F x.1 x.2.1/\Runs P F Good x.1 x.2.1 x.2.2.1):Runs P F Good fr X w :=
 .step (fun t d=>Classical.choose (h t d)) h1 h2 h3 (fun t d=>(Classical.choose_spec (h t d)).1) (fun t d=>(Classical.choose_spec (h t d)).2.1) (fun t d=>(Classical.choose_spec (h t d)).2.2)
structure LS where
 fr:Frame
 X:List Frame
 w:World
def Bad (P:Program) (F:Array Func) (Good:Frame->World->Prop) (s:LS):Prop:=LSt P F s.fr s.X/\NL s.w/\¬ Runs P F Good s.fr s.X s.w
def Nx (P:Program) (F:Array Func) (s:LS) (t:Nat->Question->Nat) (d c:Nat) (s':LS):Prop :=
 ∀ t' d',(∀ j,j<c->t' (d'+j)=t (d+j))->∃ es,stepG (alt P F) true (G0 s.fr s.X) (tp s.w t' d') = .go (G0 s'.fr s'.X) (tp s'.w t' (d'+c)) es
def Stop (P:Program) (F:Array Func) (s:LS) (t:Nat->Question->Nat) (d:Nat):Prop :=
 Fin P F s.fr s.X \/ (¬ Fin P F s.fr s.X/\∀ fr' X' w',¬ Goes1 P F s.fr s.X (tp s.w t d) fr' X' w')
structure Dat where
 t:Nat->Question->Nat
 d:Nat
 c:Nat
 s:LS
def Ok (P:Program) (F:Array Func) (Good:Frame->World->Prop) (s:LS) (x:Dat):Prop :=
 (Nx P F s x.t x.d x.c x.s/\Bad P F Good x.s/\¬ Fin P F s.fr s.X) \/ (x.c=0/\x.s=s/\Stop P F s x.t x.d)
theorem bad_dat (H:LoneOk P F) {Good:Frame->World->Prop} {s:LS} (h:Bad P F Good s):∃ x,Ok P F Good s x:=by
 obtain ⟨hL,hN,hR⟩:=h
 by_cases hf:Fin P F s.fr s.X
 ·exact ⟨⟨fun _ _=>0,0,0,s⟩,.inr ⟨rfl,rfl,.inl hf⟩⟩
 ·by_cases hall:∀ t d,∃ x:Frame × List Frame × World × Array Event,stepG (alt P F) true (G0 s.fr s.X) (tp s.w t d) = .go (G0 x.1 x.2.1) x.2.2.1 x.2.2.2/\LSt P F x.1 x.2.1/\Runs P F Good x.1 x.2.1 x.2.2.1
  ·exact absurd (.of hf hL hN hall) hR
  ·obtain ⟨t,hall⟩:=Classical.not_forall.1 hall
   obtain ⟨d,hall⟩:=Classical.not_forall.1 hall
   by_cases hg:∃ fr' X' w',Goes1 P F s.fr s.X (tp s.w t d) fr' X' w'
   ·obtain ⟨fr',X',w',h1,h2,c,h3,h4,h5⟩:=hg
    refine ⟨⟨t,d,c,⟨fr',X',w'⟩⟩,.inl ⟨fun t' d' ha=>h5 t' d' ha,⟨h1,h2,fun hr=>hall ?_⟩,hf⟩⟩
    obtain ⟨es,e⟩:=h5 t d fun _ _=>rfl
    refine ⟨⟨fr',X',_,es⟩,e,h1,?_⟩
    have:tp w' t (d+c)=w':=by
     have h3':w'.tape=t:=h3
     have h4':w'.drawn=d+c:=h4
     rw [<-h3',<-h4'];rfl
    show Runs P F Good fr' X' (tp w' t (d+c))
    rw [this];exact hr
   ·exact ⟨⟨t,d,0,s⟩,.inr ⟨rfl,rfl,.inr ⟨hf,fun fr' X' w' h=>hg ⟨fr',X',w',h⟩⟩⟩⟩
section glue
variable {Good : Frame -> World -> Prop} (H : LoneOk P F)
noncomputable def dat (s:{s:LS // Bad P F Good s}):Dat:=Classical.choose (bad_dat H s.2)
theorem dat_ok (s:{s:LS // Bad P F Good s}):Ok P F Good s.1 (dat H s):=Classical.choose_spec (bad_dat H s.2)
theorem dat_bad (s:{s:LS // Bad P F Good s}):Bad P F Good (dat H s).s:=by
 rcases dat_ok H s with ⟨_,h,_⟩ | ⟨_,h,_⟩
 ·exact h
 ·rw [h];exact s.2
noncomputable def sq (s:{s:LS // Bad P F Good s}):Nat->{s:LS // Bad P F Good s}
 | 0=>s
 | k+1=>⟨(dat H (sq s k)).s,dat_bad H (sq s k)⟩
noncomputable def dq (s:{s:LS // Bad P F Good s}):Nat->Nat
 | 0=>0
 | k+1=>dq s k+(dat H (sq H s k)).c
def StopK (s:{s:LS // Bad P F Good s}) (k:Nat):Prop:=Stop P F (sq H s k).1 (dat H (sq H s k)).t (dat H (sq H s k)).d/\(dat H (sq H s k)).c=0
def Covers (s:{s:LS // Bad P F Good s}) (n k:Nat):Prop:=dq H s k<=n/\(n<dq H s (k+1) \/ StopK H s k)
def LeastC (s:{s:LS // Bad P F Good s}) (n k:Nat):Prop:=Covers H s n k/\∀ m,m<k->¬ Covers H s n m
open Classical in
noncomputable def glue (s:{s:LS // Bad P F Good s}):Nat->Question->Nat:=fun n =>
 if h:∃ k,LeastC H s n k then (dat H (sq H s (Classical.choose h))).t ((dat H (sq H s (Classical.choose h))).d+(n-dq H s (Classical.choose h))) else fun _=>0
theorem dq_mono (s:{s:LS // Bad P F Good s}) {k m:Nat} (h:k<=m):dq H s k<=dq H s m:=by
 induction h with
 | refl=>exact Nat.le_refl _
 | step _ ih=>exact Nat.le_trans ih (Nat.le_add_right _ _)
theorem glue_at (s:{s:LS // Bad P F Good s}) {k n:Nat} (hc:Covers H s n k) (hr:∀ i,i<k->¬ StopK H s i):glue H s n=(dat H (sq H s k)).t ((dat H (sq H s k)).d+(n-dq H s k)):=by
 have hk:LeastC H s n k:=⟨hc,fun m hm hc'=>by
  rcases hc'.2 with h | h
  ·have:=dq_mono H s (show m+1<=k from hm)
   have:=hc.1
   omega
  ·exact hr m hm h⟩
 have hex:∃ k,LeastC H s n k:=⟨k,hk⟩
 have e:Classical.choose hex=k:=by
  have h2:=Classical.choose_spec hex
  rcases Nat.lt_trichotomy (Classical.choose hex) k with h | h | h
  ·exact absurd h2.1 (hk.2 _ h)
  ·exact h
  ·exact absurd hk.1 (h2.2 _ h)
 unfold glue
 rw [dif_pos hex]
 simp only [e]
theorem least_of {p:Nat->Prop}:∀ i,p i->∃ k,k<=i/\p k/\∀ m,m<k->¬ p m:=by
 intro i
 induction i using Nat.strongRecOn with
 | _ i ih =>
  intro hi
  by_cases h:∃ m,m<i/\p m
  ·obtain ⟨m,hm,hp⟩:=h
   obtain ⟨k,h1,h2,h3⟩:=ih m hm hp
   exact ⟨k,by omega,h2,h3⟩
  ·exact ⟨i,Nat.le_refl _,hi,fun m hm hp=>h ⟨m,hm,hp⟩⟩
theorem run_to (s:{s:LS // Bad P F Good s}):∀ k,(∀ i,i<k->¬ StopK H s i)->runN (alt P F) k (lone s.1.fr s.1.X (tp s.1.w (glue H s) 0)) = .next (lone (sq H s k).1.fr (sq H s k).1.X (tp (sq H s k).1.w (glue H s) (dq H s k)))
 | 0,_=>rfl
 | k+1,hr=>by
  have ih:=run_to s k fun i hi=>hr i (by omega)
  rw [runN_add,ih]
  show runN (alt P F) 1 _=_
  have hk:=hr k (by omega)
  rcases dat_ok H (sq H s k) with ⟨h1,_,_⟩ | ⟨h1,_,h3⟩
  ·obtain ⟨es,e⟩:=h1 (glue H s) (dq H s k) fun j hj=>by
    rw [glue_at H s (k:=k) ⟨by omega,.inl (by show _<dq H s k+_;omega)⟩ (fun i hi=>hr i (by omega))]
    congr 1;omega
   have:=step_lone_go (P:=alt P F) (fr:=(sq H s k).1.fr) (cs:=(sq H s k).1.X) (w:=tp (sq H s k).1.w (glue H s) (dq H s k)) (by rw [e];rfl)
   simp only [runN,this]
   rfl
  ·exact absurd ⟨h3,h1⟩ hk
end glue
theorem runs_of_calls (H:LoneOk P F) {f:FuncId} {args:Array Value} {w:World} (hN:NL w) {R:Ending->World->Prop} (hret:∀ e w,R e w->∃ v,e = .returned v)
 (hc:∀ t,Calls (alt P F) f args (tp w t 0) R):Runs P F (fun fr w=>∃ t d e,R e (tp w t d)/\fr.leaving (alt P F) (tp w t d) e/\fr.fn=f) (Frame.enter (alt P F) f args .normal) [c0 P F] w:=by
 refine Classical.byContradiction fun hbad=>?_
 obtain ⟨tm,c,hent,hcc⟩:=enter_fr0 H f args
 have hL:LSt P F (Frame.enter (alt P F) f args .normal) [c0 P F]:=by rw [hent];exact .mk (.inl rfl) (by simp [todoOK,itemOK,hcc]) .base
 let s:{s:LS // Bad P F (fun fr w=>∃ t d e,R e (tp w t d)/\fr.leaving (alt P F) (tp w t d) e/\fr.fn=f) s}:=⟨⟨_,_,w⟩,hL,hN,hbad⟩
 obtain ⟨e,w',fr,hR,hcomes,hfn,hleave⟩:=hc (glue H s) [c0 P F]
 obtain ⟨v,rfl⟩:=hret e w' hR
 obtain ⟨N,hNrun⟩:Steps (alt P F) _ _:=hcomes
 have hmode:fr.mode = .returning:=hleave.1
 by_cases hreg:∀ i,i<N->¬ StopK H s i
 ·have:=(run_to H s N hreg).symm.trans hNrun
  obtain ⟨h1,h2,h3⟩:=lone_inj (Stepped.next.inj this)
  obtain ⟨b1,b2,b3⟩:=(sq H s N).2
  refine b3 (.fin ⟨by rw [h1];exact hmode,h2⟩ b1 b2 ⟨_,_,_,by rw [h3];exact hR,?_,by rw [h1];exact hfn⟩)
  rw [h3,h1];exact hleave
 ·obtain ⟨i,hi⟩:=Classical.not_forall.1 hreg
  obtain ⟨hiN,hi⟩:=Classical.not_imp.1 hi
  obtain ⟨k,hki,hk,hmin⟩:=least_of (p:=StopK H s) i (Classical.not_not.1 hi)
  have hkrun:=run_to H s k hmin
  have hsplit:runN (alt P F) (k+(N-k)) (lone s.1.fr s.1.X (tp s.1.w (glue H s) 0)) = .next (lone fr [c0 P F] w'):=by rw [show k+(N-k)=N by omega];exact hNrun
  rw [runN_add,hkrun] at hsplit
  have hrest:runN (alt P F) (N-k) (lone (sq H s k).1.fr (sq H s k).1.X (tp (sq H s k).1.w (glue H s) (dq H s k))) = .next (lone fr [c0 P F] w'):=hsplit
  obtain ⟨b1,b2,b3⟩:=(sq H s k).2
  obtain ⟨n,hn⟩:∃ n,N-k=n+1:=⟨N-k-1,by omega⟩
  rw [hn] at hrest
  have nodead:∀ m',step (alt P F) (lone (sq H s k).1.fr (sq H s k).1.X (tp (sq H s k).1.w (glue H s) (dq H s k))) = .next m'->¬ Dead P F m':=by
   intro m' hm hd
   simp only [runN,hm] at hrest
   exact hd _ _ _ hrest hmode
  have noend:∀ o w'',step (alt P F) (lone (sq H s k).1.fr (sq H s k).1.X (tp (sq H s k).1.w (glue H s) (dq H s k))) ≠ .ended o w'':=by
   intro o w'' hm
   simp only [runN,hm] at hrest
   cases hrest
  obtain ⟨hstop,hc0⟩:=hk
  rcases hstop with hfin | ⟨hnf,hdoom⟩
  ·
   obtain ⟨fk,Xk,hq⟩:∃ fk Xk,(sq H s k).1.fr=fk/\(sq H s k).1.X=Xk:=⟨_,_,rfl,rfl⟩
   rw [hq.1,hq.2] at b1 hfin nodead noend
   cases b1 with
   | @mk fn tmps todo mode X hm hT hX =>
    obtain ⟨h1,rfl⟩:=hfin
    obtain rfl:mode = .returning:=h1
    generalize tp (sq H s k).1.w (glue H s) (dq H s k)=W at nodead noend
    cases hf:(alt P F).funcs[fn]? with
    | none =>
     refine nodead _ (step_lone_go (fr':=(c0 P F).finish (tmps.getD 0 undef)) (cs':=[]) (w':=W) ?_) (c0_back _)
     simp [stepG,unwind,fr0,hf,doReturn,c0]
    | some f' =>
     cases hr:(results f' tmps).run (alt P F) W with
     | ok v w'' =>
      refine nodead _ (step_lone_go (fr':=(c0 P F).finish v) (cs':=[]) (w':=w'') ?_) (c0_back _)
      simp [stepG,unwind,fr0,hf,doReturn,c0,hr,GStep.after]
     | halt h w'' =>
      have e:∃ o w'',(stepG (alt P F) true { frame:=fr0 fn tmps todo .returning,callers:=[c0 P F],status:=.running,dying:=none } W).bare = .ended o w'':=by
       cases h <;> simp [stepG,unwind,fr0,hf,hr,GStep.after]
      obtain ⟨o,w3,e⟩:=e
      exact noend _ _ (step_lone_ended e)
  ·
   have hlo:=lo_any H b1 (w:=tp (sq H s k).1.w (glue H s) (dq H s k)) b2 hnf
   generalize hst:stepG (alt P F) true (G0 (sq H s k).1.fr (sq H s k).1.X) (tp (sq H s k).1.w (glue H s) (dq H s k))=st at hlo
   cases hlo with
   | ended o w'' es=>exact noend _ _ (step_lone_ended (by rw [hst];rfl))
   | panics fn tmps' todo' ch w'' es hT =>
    obtain ⟨hX⟩:∃ _:LStk P F (sq H s k).1.X,True:=by
     revert b1
     generalize (sq H s k).1.fr=a
     generalize (sq H s k).1.X=b
     intro b1
     cases b1 with
     | mk _ _ hX=>exact ⟨hX,trivial⟩
    exact nodead _ (step_lone_go (by rw [hst];rfl)) (panic_dead ‹_› _ hT)
   | goes fr' X' w'' es hg =>
    obtain ⟨g1,g2,c,g3,g4,g5⟩:=hg
    have hagr:∀ j,glue H s (dq H s k+j)=(dat H (sq H s k)).t ((dat H (sq H s k)).d+j):=fun j=>by
     rw [glue_at H s (k:=k) ⟨by omega,.inr ⟨.inr ⟨hnf,hdoom⟩,hc0⟩⟩ hmin]
     congr 1;omega
    exact hdoom fr' X' (tp w'' (dat H (sq H s k)).t ((dat H (sq H s k)).d+c)) ⟨g1,g2,c,rfl,rfl,fun t d ha=>g5 t d fun j hj=>(ha j hj).trans (hagr j).symm⟩
end
end Cv
namespace Cv
open Go Go.Conc
open Go.ConcN (sumTo upd sumTo_upd upd_ne upd_same)
abbrev K0:World->Prop:=fun _=>True
abbrev S0:Loc->Prop:=fun _=>False
abbrev RingC (P:Program) (B:Nat) (Mem:Nat->Prop) (Inb:Nat->Option Seat) (h:Nat) (T:Trace) (gs:Array Goroutine) (w:World) (q:Nat->Nat):Prop:=Ring P K0 S0 B Mem Inb h T gs w q
theorem evC_none {B:Nat} {e:Event}:¬ EvC S0 B e:=fun ⟨_,_,h,_⟩=>h
theorem Goes.monoD {P:Program} {main:Bool} {R:World->World->Prop} {D D':World->World->Array Event->Prop} {Stop Stop':Goroutine->World->Prop} (hD:∀ w w' es,D w w' es->D' w w' es) (hS:∀ g w,Stop g w->Stop' g w) :
 ∀ {n:Nat} {g:Goroutine} {w:World},Goes P main R D Stop n g w->Goes P main R D' Stop' n g w
 | 0,_,_,h=>fun w₁ h₁=>hS _ _ (h w₁ h₁)
 | n+1,g,w,h=>h.elim (fun h=>.inl fun w₁ h₁=>hS _ _ (h w₁ h₁)) fun ⟨hs,h⟩=>.inr ⟨hs,fun w₁ h₁=>by
  have:=h w₁ h₁
  revert this
  cases stepG P main g w₁ <;> simp only [GStep.goes,imp_self]
  exact fun ⟨d,x⟩=>⟨hD _ _ _ d,Goes.monoD hD hS x⟩⟩
section
variable {P : Program} {B B' : Nat} {Mem : Nat -> Prop} {Inb : Nat -> Option Seat} {h : Nat} {T : Trace} {gs : Array Goroutine} {w : World} {q : Nat -> Nat}
theorem AtIn.monoB {main:Bool} {s:Seat} {g g₂ : Goroutine} (h:AtIn P main K0 S0 B s g g₂):AtIn P main K0 S0 B' s g g₂:=by
 obtain ⟨a,b,c,d,e,es,h1,h2⟩:=h
 exact ⟨a,b,c,d,e,es,fun x hx=>(evC_none (h1 x hx)).elim,h2⟩
theorem Sits.monoB {main:Bool} {s:Seat} {n:Nat} {g:Goroutine} (h:Sits P main K0 S0 B s n g):Sits P main K0 S0 B' s n g:=by
 rcases h with ⟨k,w,e,hg⟩ | ⟨e,g₀,g₂,e',ha⟩
 ·exact .inl ⟨k,w,e,Goes.monoD (fun w w' es ⟨x,y⟩=>⟨x,fun e he=>(evC_none (y e he)).elim⟩) (fun g w ⟨g₂,x⟩=>⟨g₂,Cv.AtIn.monoB x⟩) hg⟩
 ·exact .inr ⟨e,g₀,g₂,e',Cv.AtIn.monoB ha⟩
theorem Ring.monoB (C:RingC P B Mem Inb h T gs w q) (hB:B<=B'):RingC P B' Mem Inb h T gs w q :=
 ⟨fun i g hi hg=>by
  have:=C.idle i g hi hg
  cases e:Inb i with
  | none=>rw [e] at this;exact this
  | some s=>rw [e] at this;exact Sits.monoB this,
  C.chans,C.wf,C.live,C.inj,C.above,fun i s e=>⟨(C.mem i s e).1,fun c hc=>Nat.lt_of_lt_of_le ((C.mem i s e).2 c hc) hB⟩,C.nomem,C.lo,PastG.mono C.past hB,C.keep⟩
theorem low_event (e:Event):∃ b,∀ b',b<=b'->(MemAct.ofEvent e).low b':=by
 obtain ⟨loc,wr,sy⟩:=e
 cases loc with
 | cell a=>exact ⟨a.block+1,fun b' h=>by show a.block<b';omega⟩
 | obj r=>cases wr <;> cases sy <;> exact ⟨r+1,fun b' h=>by show r<b';omega⟩
 | output=>exact ⟨0,fun _ _=>trivial⟩
 | goroutines=>exact ⟨0,fun _ _=>trivial⟩
 | mark m =>
  cases m with
  | acquire a=>exact ⟨a.block+1,fun b' h=>by show a.block<b';omega⟩
  | release a=>exact ⟨a.block+1,fun b' h=>by show a.block<b';omega⟩
  | releaseMerge a=>exact ⟨a.block+1,fun b' h=>by show a.block<b';omega⟩
  | read a=>exact ⟨a.block+1,fun b' h=>by show a.block<b';omega⟩
  | write a=>exact ⟨a.block+1,fun b' h=>by show a.block<b';omega⟩
  | _=>exact ⟨0,fun _ _=>trivial⟩
theorem low_events (es:Array Event):∃ b,∀ b',b<=b'->∀ e ∈ es,(MemAct.ofEvent e).low b':=by
 obtain ⟨l⟩:=es
 induction l with
 | nil=>exact ⟨0,by simp⟩
 | cons a l ih =>
  obtain ⟨b1,h1⟩:=ih
  obtain ⟨b2,h2⟩:=low_event a
  refine ⟨max b1 b2,fun b' hb e he=>?_⟩
  simp only [List.mem_toArray,List.mem_cons] at he
  rcases he with rfl | he
  ·exact h2 b' (by omega)
  ·exact h1 b' (by omega) e (by simpa using he)
theorem hold1 {fr:Frame} {X:List Frame} {sl:Option (Nat × Nat)} (C:RingC P B Mem Inb 0 T gs w q) (h0:gs[0]? = some (G0 fr X))
 (hstep:∀ d,∃ fr' X' w' es,stepG P true (G0 fr X) (w.at d) = .go (G0 fr' X') w' es/\(∀ e ∈ es,EvOk e)/\KeepC w w') :
 ∃ N d fr' X' w' es gs' sl' T' q' B',stepG P true (G0 fr X) (w.at d) = .go (G0 fr' X') w' es/\runNT P N (crowd gs w sl) T=(.next (crowd gs' w' sl'),T')/\gs'.size=gs.size/\gs'[0]? = some (G0 fr' X')/\RingC P B' Mem Inb 0 T' gs' w' q':=by
 obtain ⟨N,gs₁,d,d',sl₁,sl₂,T₁,q₁,hr,hst,hsz,ha₁,C₁⟩:=picked (sl:=sl) (fun _ _ _=>trivial) h0 rfl C
 obtain ⟨fr',X',w',es,e1,e2,e3⟩:=hstep d'
 obtain ⟨b,hb⟩:=low_events es
 have C₂:=Ring.monoB (B':=max B b) C₁ (by omega)
 have hrt:=runT_crowd_go (P:=P) (sl:=sl₂) (i:=0) ha₁ (show stepG P (0 == 0) (G0 fr X) (w.at d')=_ from e1)
 have hDH:DH K0 S0 (max B b) Inb (w.at d') w' es:=⟨fun _=>trivial,fun i s c hi hc=>by
  obtain ⟨cap,k,hk⟩:=C₂.chans i s c (fun z=>z) hi hc
  rw [hk];exact e3 c _ hk rfl,fun e he=>⟨fun _ _ z=>z.elim,(e2 e he).1,(e2 e he).2,hb _ (by omega) e he⟩⟩
 obtain ⟨C₃,ha₃⟩:=C₂.own (a':=G0 fr' X') ha₁ hDH
 exact ⟨N+1,d',fr',X',w',es,_,sl₂,_,q₁,max B b,e1,runNT_succ_of hr (by rw [hst];exact hrt),by simp [hsz],ha₃,C₃⟩
end
def Ends (P:Program) (Post:Value->World->Prop) (m:Machine) (T:Trace):Prop :=
 ∃ N last o w' t',runNT P (N+1) m T=(.ended o w',t')/\runN P N m = .next last/\step P last = .ended o w'/\Good P Post last o w' t'
theorem Ends.after {P:Program} {Post:Value->World->Prop} {m m':Machine} {T T':Trace} {N:Nat} (hr:runNT P N m T=(.next m',T')) (h:Ends P Post m' T'):Ends P Post m T:=by
 obtain ⟨M,last,o,w',t',e1,e2,e3,e4⟩:=h
 refine ⟨N+M,last,o,w',t',?_,?_,e3,e4⟩
 ·rw [Nat.add_assoc,runNT_add,hr];exact e1
 ·rw [runN_add]
  have:=runNT_fst P N m T
  rw [hr] at this
  rw [<-this];exact e2
section
variable {P : Program} {F : Array Func} {Good : Frame -> World -> Prop}
inductive Desc (P:Program) (F:Array Func):LS->LS->Prop
 | one {s s':LS} {t:Nat->Question->Nat} {d:Nat} {es:Array Event}:¬ Fin P F s.fr s.X->stepG (alt P F) true (G0 s.fr s.X) (tp s.w t d) = .go (G0 s'.fr s'.X) s'.w es->Desc P F s s'
 | more {s s1 s':LS}:Desc P F s s1->Desc P F s1 s'->Desc P F s s'
theorem Desc.child {s s':LS} (h:Desc P F s s'):¬ Fin P F s.fr s.X/\∃ (s1:LS) (t:Nat->Question->Nat) (d:Nat) (es:Array Event),stepG (alt P F) true (G0 s.fr s.X) (tp s.w t d) = .go (G0 s1.fr s1.X) s1.w es/\(s1=s' \/ Desc P F s1 s'):=by
 induction h with
 | one hf e=>exact ⟨hf,_,_,_,_,e,.inl rfl⟩
 | more h1 h2 ih1 ih2 =>
  obtain ⟨hf,s1,t,d,es,e,h⟩:=ih1
  refine ⟨hf,s1,t,d,es,e,.inr ?_⟩
  rcases h with rfl | h
  ·exact h2
  ·exact .more h h2
theorem Runs.ind {C:LS->Prop} (step:∀ s,Runs P F Good s.fr s.X s.w->(∀ s',Desc P F s s'->Runs P F Good s'.fr s'.X s'.w->C s')->C s):∀ s,Runs P F Good s.fr s.X s.w->C s:=by
 have key:∀ {fr:Frame} {X:List Frame} {w:World},Runs P F Good fr X w->C ⟨fr,X,w⟩/\∀ s',Desc P F ⟨fr,X,w⟩ s'->Runs P F Good s'.fr s'.X s'.w->C s':=by
  intro fr X w h
  induction h with
  | @fin fr X w h1 h2 h3 h4 =>
   have hb:∀ s',Desc P F ⟨fr,X,w⟩ s'->Runs P F Good s'.fr s'.X s'.w->C s':=fun s' hd _=>absurd h1 hd.child.1
   exact ⟨step ⟨fr,X,w⟩ (.fin h1 h2 h3 h4) hb,hb⟩
  | @step fr X w nx h1 h2 h3 h4 h5 h6 ih =>
   have hb:∀ s',Desc P F ⟨fr,X,w⟩ s'->Runs P F Good s'.fr s'.X s'.w->C s':=by
    intro s' hd hr
    obtain ⟨_,s1,t,d,es,e,h⟩:=hd.child
    have e':=h4 t d
    rw [e] at e'
    simp only [GStep.go.injEq,Goroutine.mk.injEq] at e'
    have hs1:s1=⟨(nx t d).1,(nx t d).2.1,(nx t d).2.2.1⟩:=by
     obtain ⟨⟨a1,a2,_⟩,a3,_⟩:=e'
     cases s1;simp_all
    subst hs1
    rcases h with rfl | h
    ·exact (ih t d).1
    ·exact (ih t d).2 s' h hr
   exact ⟨step ⟨fr,X,w⟩ (.step nx h1 h2 h3 h4 h5 h6) hb,hb⟩
 exact fun s h=>(key h).1
theorem Runs.peel {fr fr':Frame} {X X':List Frame} {w w':World} {t:Nat->Question->Nat} {d:Nat} {es:Array Event} (h:Runs P F Good fr X w) (hf:¬ Fin P F fr X) (e:stepG (alt P F) true (G0 fr X) (tp w t d) = .go (G0 fr' X') w' es) :
 Runs P F Good fr' X' w'/\Desc P F ⟨fr,X,w⟩ ⟨fr',X',w'⟩:=by
 refine ⟨?_,.one (s:=⟨fr,X,w⟩) (s':=⟨fr',X',w'⟩) hf e⟩
 cases h with
 | fin h=>exact absurd h hf
 | step nx h1 h2 h3 h4 h5 h6 =>
  have e':=h4 t d
  rw [e] at e'
  simp only [GStep.go.injEq,Goroutine.mk.injEq] at e'
  obtain ⟨⟨a1,a2,_⟩,a3,_⟩:=e'
  rw [a1,a2,a3];exact h6 t d
end
end Cv
namespace Go.Proofs.Ytdadmhahbeehhaa
open Go Go.Conc Cv
def cl:Code->Code | .seq a _=>a | c=>c
def cr:Code->Code | .seq _ b=>b | c=>c
def cb:Code->Code | .block _ b=>b | .loop b=>b | c=>c
def regOps (n:Nat):Code->Option (Array Oper)
 | .region i ops _=>if i=n then some ops else none
 | .seq a b | .cond _ a b=>(regOps n a).orElse fun _=>regOps n b
 | .block _ a | .loop a=>regOps n a
 | _=>none
def mapR (g:Nat->Array Oper->Array Oper):Code->Code
 | .region i ops d=>.region i (g i ops) d
 | .seq a b=>.seq (mapR g a) (mapR g b)
 | .cond c a b=>.cond c (mapR g a) (mapR g b)
 | .block i a=>.block i (mapR g a)
 | .loop a=>.loop (mapR g a)
 | c=>c
def seqOps (n:Nat) (ops:Array Oper):Array Oper :=
 if n=6 then ops.modify 3 fun o=>{ o with op:=.binOp .leq 3 (.tmp 38) (.const (.int .i64 0)) 3 }
 else if n=12 then ops.modify 6 fun o=>{ o with dst:=some 60,op:=.binOp .leq 3 (.tmp 56) (.tmp 1) 3,type:=4 }
 else if n=13 then ops.modify 3 fun o=>{ o with op:=.pick (.tmp 60) (.const (.int .i64 1)) (.const (.int .i64 0)) }
 else if n=16 then ops.modify 1 fun o=>{ o with op:=.move (.tmp 66) }
 else if n=17 then ops.modify 1 fun o=>{ o with op:=.move (.const (.int .i64 0)) }
 else ops
noncomputable def b18:Code:=Try.f18.body.getD .skip
noncomputable def b18L:Code:=mapR seqOps b18
def keep:List Nat:=[3,4,5,6,7,8,9,10,11,12,13,14,15,16,17,19,20,21,22,23,24,25,26,27,28,29,30,32,33,34,35,36,37,38,39,40]
noncomputable def lnone (fn : Func) : Func := { fn with name := "", origin := "", body := none }
noncomputable def lfun (f : Nat) (fn : Func) : Func := if keep.contains f then fn else if f = 18 then { fn with body := some b18L } else if fn.body.isSome then { fn with body := some (.refuse "") } else lnone fn
noncomputable def lfuncs:Array Func:=Try.prog.funcs.mapIdx lfun
noncomputable def Try.lprog:Program:=alt Try.prog lfuncs
theorem funcs_ok : (List.range 57).all (fun f => match Try.prog.funcs[f]? with | some fn => !(fn.name == "runtime.NumGoroutine") && (fn.body.isSome || !keep.contains f && f != 18) | none => true) = true := by kernel_rfl
theorem prog_size:Try.prog.funcs.size=57:=by kernel_rfl
theorem none_next (fn:Func):Extern.findNext (lnone fn)=none:=by
 unfold Extern.findNext
 have e : List.lookup "" Extern.allNextRows = none := by kernel_rfl
 simp only [lnone,e]
 rfl
theorem none_find (fn:Func):Extern.find (lnone fn)=none:=by
 unfold Extern.find
 have e1 : List.lookup "" Extern.allGenericRows = none := by kernel_rfl
 have e2 : List.lookup "" Extern.allTypedRows = none := by kernel_rfl
 have e3 : List.lookup "" Extern.allRows = none := by kernel_rfl
 simp only [lnone,e1,e2,e3]
 rfl
theorem lfuncs_get (f:Nat):lfuncs[f]? = (Try.prog.funcs[f]?).map (lfun f):=by
 unfold lfuncs
 simp [Array.getElem?_mapIdx]
theorem fun_ok:FunOk Try.prog lfuncs:=by
 intro f
 rw [lfuncs_get]
 cases h:Try.prog.funcs[f]? with
 | none=>exact .inl rfl
 | some fn =>
  have hl:f<57:=by have:=(Array.getElem?_eq_some_iff.1 h).1;rw [prog_size] at this;exact this
  have:=List.all_eq_true.1 funcs_ok f (List.mem_range.2 hl)
  rw [h] at this
  simp only [Bool.and_eq_true,Bool.not_eq_true',Bool.or_eq_true,bne_iff_ne,ne_eq] at this
  obtain ⟨h1,h2⟩:=this
  refine .inr ?_
  by_cases hk:keep.contains f=true
  ·have hb:fn.body.isSome=true:=h2.elim id fun z=>by rw [hk] at z;cases z.1
   have e:lfun f fn=fn:=by unfold lfun;rw [if_pos hk]
   refine .inr ⟨_,fn,rfl,rfl,?_,?_,?_,h1⟩
   ·rw [e];cases e2:fn.body <;> simp_all
   ·cases e2:fn.body <;> simp_all
   ·rw [e];exact h1
  ·by_cases h18:f=18
   ·have hb:fn.body.isSome=true:=h2.elim id fun z=>absurd h18 z.2
    have e:lfun f fn={ fn with body:=some b18L }:=by unfold lfun;rw [if_neg hk,if_pos h18]
    refine .inr ⟨_,fn,rfl,rfl,?_,?_,?_,h1⟩
    ·rw [e];rfl
    ·cases e2:fn.body <;> simp_all
    ·rw [e];exact h1
   ·by_cases hb:fn.body.isSome=true
    ·have e : lfun f fn = { fn with body := some (.refuse "") } := by unfold lfun; rw [if_neg hk, if_neg h18, if_pos hb]
     refine .inr ⟨_,fn,rfl,rfl,?_,?_,?_,h1⟩
     ·rw [e];rfl
     ·cases e2:fn.body <;> simp_all
     ·rw [e];exact h1
    ·have e:lfun f fn=lnone fn:=by unfold lfun;rw [if_neg hk,if_neg h18,if_neg hb]
     exact .inl ⟨_,rfl,by rw [e];rfl,by rw [e];rfl,by rw [e];exact none_next fn,by rw [e];exact none_find fn⟩
theorem codes_ok:(List.range 57).all (fun f=>match lfuncs[f]? with | some fn=>(match fn.body with | some c=>codeOK Try.prog c | none=>true) | none=>true)=true:=by kernel_rfl
theorem lfuncs_size:lfuncs.size=57:=by kernel_rfl
theorem steps_ok:lfuncs.all (fun f=>match f.body with | some c=>(readies c).isEmpty | none=>true)=true:=by kernel_rfl
theorem lone_ok:LoneOk Try.prog lfuncs where
 fns:=fun_ok
 ahead:=by kernel_rfl
 noStep:=fun g=>by
  show lfuncs.findIdx? _=none
  rw [Array.findIdx?_eq_none_iff]
  intro x hx
  obtain ⟨i,hi,rfl⟩:=Array.mem_iff_getElem.1 hx
  have:=Array.all_eq_true.1 steps_ok i hi
  cases e:(lfuncs[i]).body with
  | none=>rfl
  | some c =>
   rw [e] at this
   have h0:readies c=[]:=by simpa using this
   simp [h0]
 codes:=fun f fn c h1 h2=>by
  have hl:f<57:=by have:=(Array.getElem?_eq_some_iff.1 h1).1;rw [lfuncs_size] at this;exact this
  have:=List.all_eq_true.1 codes_ok f (List.mem_range.2 hl)
  rw [h1] at this
  simp only [h2] at this
  exact this
end Go.Proofs.Ytdadmhahbeehhaa
namespace Dak
open Go Go.RowKit
class Globs where
 tab:Nat->List Value
variable [Globs]
abbrev Ext (w w':World):Prop:=Below w.heap.size w w'
theorem Ext.rfl' (w:World):Ext w w:=Below.refl _ _
theorem Ext.drewN (w:World) (n:Nat):Ext w (w.drewN n):=⟨rfl,rfl,rfl,Nat.le_refl _,fun _ _=>rfl⟩
theorem Ext.alloc (w:World) (o:Obj):Ext w (w.alloc o):=(Below.refl _ w).alloc (Nat.le_refl _) o
structure FD where
 F:Nat->Prop
 K:Nat->Prop
 ds:List Deferred
structure Kept (K:Nat->Prop) (w w':World):Prop where
 os:w'.os=w.os
 tape:w'.tape=w.tape
 output:w'.output=w.output
 size:w.heap.size<=w'.heap.size
 block:∀ b,K b->w'.heap[b]? = w.heap[b]?
 lt:∀ b,K b->b<w.heap.size
theorem Kept.refl {K:Nat->Prop} {w:World} (h:∀ b,K b->b<w.heap.size):Kept K w w:=⟨rfl,rfl,rfl,Nat.le_refl _,fun _ _=>rfl,h⟩
theorem Kept.then {K:Nat->Prop} {a b c:World} (h:Kept K a b) (e:Ext b c):Kept K a c :=
 ⟨e.os.trans h.os,e.tape.trans h.tape,e.output.trans h.output,Nat.le_trans h.size e.size,fun k hk=>(e.block k (Nat.lt_of_lt_of_le (h.lt k hk) h.size)).trans (h.block k hk),h.lt⟩
theorem Kept.ext {w w':World} (h:Kept (fun b=>b<w.heap.size) w w'):Ext w w':=⟨h.os,h.tape,h.output,h.size,h.block⟩
inductive MK where
 | i (n:Int)
 | s (b:ByteArray)
 | a (l:List Int)
 deriving DecidableEq
def keyK (c:Nat):IntKind:=if c % 2=0 then .i64 else .u64
def MK.v (c:Nat):MK->Value
 | .i n=>.int .i64 n
 | .s b=>.string b
 | .a l=>.agg (l.map (Value.int (keyK c))).toArray
def MK.ok (c:Nat):MK->Prop
 | .i _=>c=0
 | .s _=>c=1
 | .a l=>2<=c/\l.length=(c-2) / 2
def flatV:List (MK × Value)->List Value
 | []=>[]
 | p::ps=>p.1.v 0::p.2::flatV ps
def mapV (ks:List (MK × Value)):Value:=.func (.func 0) #[] (flatV ks).toArray
def unK:Value->MK
 | .int _ n=>.i n
 | .string b=>.s b
 | .agg cs=>.a (cs.toList.map fun | .int _ n=>n | _=>0)
 | _=>.i 0
def pairUp:List Value->List (MK × Value)
 | a::b::l=>(unK a,b)::pairUp l
 | _=>[]
def unV:Value->List (MK × Value)
 | .func _ _ vs=>pairUp vs.toList
 | _=>[]
theorem unK_v (k:MK) (c:Nat):unK (k.v c)=k:=by
 cases k with
 | i=>rfl
 | s=>rfl
 | a l=>simp [MK.v,unK,Function.comp_def]
theorem pairUp_flatV:∀ ks,pairUp (flatV ks)=ks
 | []=>rfl
 | p::ps=>by simp [flatV,pairUp,pairUp_flatV ps,unK_v]
theorem unV_mapV (ks:List (MK × Value)):unV (mapV ks)=ks:=by simp [unV,mapV,pairUp_flatV]
inductive AV where
 | junk
 | val (v:Value)
 | list (size:Nat) (xs:List AV)
 | agg (cs:List AV)
 | tup (xs:List AV)
 | ptr (cs:List AV)
 | own (id gen off len:Nat)
 | ref (id gen el c:Nat)
 | clo (fn:Fn) (cap:List AV)
 | emp
 | anyB
 | mref (id gen:Nat)
 | mapd (c:Nat) (m:MK->Option Value)
 deriving Inhabited
def AV.cells:AV->List AV
 | .agg cs=>cs
 | x=>[x]
inductive AObj where
 | void
 | dead
 | arr (gen size:Nat) (elem:TypeId) (xs:List AV)
 | probe (k:Nat) (st:Nat->Nat->Prop) (li:Nat->Nat->Nat->Prop) (bk:Nat->Option (Nat × Nat × Nat)) (ps:List (AV × Value))
 deriving Inhabited
structure St where
 tmps:List AV
 objs:List AObj
def isC (w:World) (b:Nat):Prop:=∃ cur e f,w.heap[b]? = some (.cells cur e f)
theorem isC.lt {w:World} {b:Nat} (h:isC w b):b<w.heap.size:=by
 obtain ⟨_,_,_,h⟩:=h
 exact (Array.getElem?_eq_some_iff.1 h).1
theorem isC.stay {w w':World} {b:Nat} (h:isC w b) (e:w'.heap[b]? = w.heap[b]?):isC w' b:=by
 obtain ⟨c,t,f,h⟩:=h
 exact ⟨c,t,f,e.trans h⟩
def kfind (k:MK):List (MK × Value)->Nat->Option (Nat × Value)
 | [],_=>none
 | p::ps,i=>if k=p.1 then some (i,p.2) else kfind k ps (i+1)
def kget (ks:List (MK × Value)) (k:MK):Option Value:=(kfind k ks 0).map (·.2)
def kset (ks:List (MK × Value)) (k:MK) (v:Value):List (MK × Value) :=
 match kfind k ks 0 with
 | some (i,_)=>ks.modify i fun p=>(p.1,v)
 | none=>ks++[(k,v)]
def MapIn (c:Nat) (ks:List (MK × Value)) (o:Option Obj):Prop:=∃ es clock,o=some (.map es clock)/\es.toList.map (fun e=>(e.key,e.val))=ks.map (fun p=>(p.1.v c,p.2))/\(∀ p ∈ ks,p.1.ok c)/\(∀ e ∈ es.toList,e.born<clock)/\(es.toList.map (·.born)).Nodup
def MapEq (c:Nat) (m:MK->Option Value) (o:Option Obj):Prop:=∃ ks,MapIn c ks o/\∀ k:MK,k.ok c->kget ks k=m k
def mapT:Nat:=1000000000
def Blk (e:TypeId) (cur:Array Value) (o:Option Obj):Prop:=if e<mapT then o=some (.cells cur e (0,0)) else ∃ ks,MapIn (e-mapT) ks o/\cur=#[mapV ks]
theorem Blk.cells {e:TypeId} {cur:Array Value} {o:Option Obj} (h:Blk e cur o) (he:e<mapT):o=some (.cells cur e (0,0)):=by unfold Blk at h;rwa [if_pos he] at h
theorem Blk.map {e:TypeId} {cur:Array Value} {o:Option Obj} (h:Blk e cur o) (he:¬ e<mapT):∃ ks,MapIn (e-mapT) ks o/\cur=#[mapV ks]:=by unfold Blk at h;rwa [if_neg he] at h
theorem Blk.of {e:TypeId} {cur:Array Value} {o:Option Obj} (he:e<mapT) (h:o=some (.cells cur e (0,0))):Blk e cur o:=by unfold Blk;rwa [if_pos he]
theorem Blk.ofMap {c:Nat} {ks:List (MK × Value)} {o:Option Obj} (h:MapIn c ks o):Blk (mapT+c) #[mapV ks] o:=by
 unfold Blk;rw [if_neg (Nat.not_lt.2 (Nat.le_add_right _ _)),Nat.add_sub_cancel_left];exact ⟨ks,h,rfl⟩
theorem Blk.tr {e:TypeId} {cur:Array Value} {o o':Option Obj} (h:Blk e cur o) (k:o'=o):Blk e cur o':=k ▸ h
theorem Blk.lt {e:TypeId} {cur:Array Value} {w:World} {b:Nat} (h:Blk e cur (w.heap[b]?)):b<w.heap.size:=by
 unfold Blk at h
 split at h
 ·exact (Array.getElem?_eq_some_iff.1 h).1
 ·obtain ⟨ks,⟨es,cl,h,_⟩,_⟩:=h;exact (Array.getElem?_eq_some_iff.1 h).1
theorem MapIn.lt {c:Nat} {ks:List (MK × Value)} {w:World} {b:Nat} (h:MapIn c ks (w.heap[b]?)):b<w.heap.size:=by
 obtain ⟨_,_,h,_⟩:=h
 exact (Array.getElem?_eq_some_iff.1 h).1
theorem MapEq.lt {c:Nat} {m:MK->Option Value} {w:World} {b:Nat} (h:MapEq c m (w.heap[b]?)):b<w.heap.size:=by
 obtain ⟨_,h,_⟩:=h
 exact h.lt
theorem isC.of_cell {w:World} {a:Addr} {v:Value} (h:w.cell? a=some v):isC w a.block:=by
 unfold World.cell? at h
 split at h
 ·rename_i c e f hh;exact ⟨_,_,_,hh⟩
 ·cases h
inductive TR (w:World) (F:Nat->Prop):AV->Value->Prop
 | val (v):TR w F (.val v) v
 | nolist (size ad cap) (h:cap<=maxLen):TR w F (.list size []) (.slice ad 0 cap)
 | list (size:Nat) (xs:List AV) (b o cap:Nat) (us:Nat->Nat->Value) (hF:F b) (hb:isC w b)
  (hn:xs.length<=cap) (hm:cap<=maxLen)
  (hs:∀ i (h:i<xs.length),xs[i].cells.length=size)
  (hc:∀ i j,i<xs.length->j<size->w.cell? ⟨b,o+i*size+j,none⟩=some (us i j))
  (h1:∀ i j,i<xs.length->j<size->(us i j).oneCell'=true)
  (hr:∀ i (h:i<xs.length) j (h2:j<xs[i].cells.length),TR w F xs[i].cells[j] (us i j)) :
  TR w F (.list size xs) (.slice (some ⟨b,o,none⟩) xs.length cap)
 | agg (cs:List AV) (vs:Array Value) (hl:vs.size=cs.length) (h1:∀ i (h:i<vs.size),vs[i].oneCell'=true)
  (hr:∀ i (h:i<cs.length) (h2:i<vs.size),TR w F cs[i] vs[i]):TR w F (.agg cs) (.agg vs)
 | tup (cs:List AV) (vs:Array Value) (hl:vs.size=cs.length)
  (hr:∀ i (h:i<cs.length) (h2:i<vs.size),TR w F cs[i] vs[i]):TR w F (.tup cs) (.tuple vs)
 | ptr (cs:List AV) (b o:Nat) (us:Nat->Value) (hF:F b) (hb:isC w b)
  (hc:∀ j,j<cs.length->w.cell? ⟨b,o+j,none⟩=some (us j)) (h1:∀ j,j<cs.length->(us j).oneCell'=true)
  (hr:∀ j (h:j<cs.length),TR w F cs[j] (us j)):TR w F (.ptr cs) (.pointer (some ⟨b,o,none⟩))
 | clo (fn:Fn) (cs:List AV) (vs:Array Value) (hl:vs.size=cs.length)
  (hr:∀ i (h:i<cs.length) (h2:i<vs.size),TR w F cs[i] vs[i]):TR w F (.clo fn cs) (.func fn #[] vs)
 | emp (ad):TR w F .emp (.slice ad 0 0)
 | anyB (b):TR w F .anyB (.bool b)
 | mapd (c:Nat) (ks:MK->Option Value) (b:Nat) (hF:F b) (hm:MapEq c ks (w.heap[b]?)):TR w F (.mapd c ks) (.map (some b))
theorem cell_of_heap {w w':World} {a:Addr} (h:w'.heap[a.block]? = w.heap[a.block]?) {v:Value} (hc:w.cell? a=some v):w'.cell? a=some v :=
 (World.cell?_of_block h).trans hc
theorem heap_lt {w w':World} {k:Nat} (h:w'.heap[k]? = w.heap[k]?) (hk:k<w.heap.size):k<w'.heap.size:=by
 rw [Array.getElem?_eq_getElem hk] at h
 exact (Array.getElem?_eq_some_iff.1 h).1
theorem TR.stay {w w':World} {F F':Nat->Prop} (hs:∀ b,F b->b<w.heap.size->w'.heap[b]? = w.heap[b]?/\F' b) {x:AV} {v:Value} (h:TR w F x v):TR w' F' x v:=by
 induction h with
 | val v=>exact .val v
 | nolist size ad cap h=>exact .nolist size ad cap h
 | list size xs b o cap us hF hb hn hm hs' hc h1 hr ih =>
  have hb':=hs b hF hb.lt
  exact .list size xs b o cap us hb'.2 (hb.stay hb'.1) hn hm hs' (fun i j hi hj=>cell_of_heap hb'.1 (hc i j hi hj)) h1 ih
 | agg cs vs hl h1 hr ih=>exact .agg cs vs hl h1 ih
 | tup cs vs hl hr ih=>exact .tup cs vs hl ih
 | ptr cs b o us hF hb hc h1 hr ih =>
  have hb':=hs b hF hb.lt
  exact .ptr cs b o us hb'.2 (hb.stay hb'.1) (fun j hj=>cell_of_heap hb'.1 (hc j hj)) h1 ih
 | clo fn cs vs hl hr ih=>exact .clo fn cs vs hl ih
 | emp ad=>exact .emp ad
 | anyB b=>exact .anyB b
 | mapd c ks b hF hm =>
  have hb':=hs b hF hm.lt
  exact .mapd c ks b hb'.2 (by rw [hb'.1];exact hm)
theorem TR.mono {w:World} {F G:Nat->Prop} {x:AV} {v:Value} (h:TR w F x v) (e:∀ b,F b->b<w.heap.size->G b):TR w G x v:=h.stay fun b hF hb=>⟨rfl,e b hF hb⟩
structure Lay where
 F:Nat->Prop
 blk:Nat->Option (Nat × Nat × Nat)
def live (objs:List AObj) (id gen:Nat) (size:Nat):Prop:=∃ e xs,objs[id]? = some (.arr gen size e xs)
def stale (objs:List AObj) (id gen:Nat):Prop:=objs[id]? = some .dead \/ ∃ g s e xs,objs[id]? = some (.arr g s e xs)/\gen<g
inductive VR (w:World) (L:Lay) (objs:List AObj):AV->Value->Prop
 | tree {x v} (h:TR w L.F x v):VR w L objs x v
 | junk (v):VR w L objs .junk v
 | ownS (id gen off len v) (h:stale objs id gen):VR w L objs (.own id gen off len) v
 | ownN (id gen off ad s) (h:live objs id gen s):VR w L objs (.own id gen off 0) (.slice ad 0 0)
 | ownL (id gen off len cap s b o n) (h:live objs id gen s) (hn:L.blk id=some (b,o,n)) (hc:len<=cap) (hm:cap<=maxLen) (hr:o+(off+cap)*s<=n) :
  VR w L objs (.own id gen off len) (.slice (some ⟨b,o+off*s,none⟩) len cap)
 | refS (id gen el c v) (h:stale objs id gen):VR w L objs (.ref id gen el c) v
 | refL (id gen el c s b o n) (h:live objs id gen s) (hn:L.blk id=some (b,o,n)):VR w L objs (.ref id gen el c) (.pointer (some ⟨b,o+el*s+c,none⟩))
 | mapS (id gen v) (h:stale objs id gen):VR w L objs (.mref id gen) v
 | mapL (id gen s b o n) (h:live objs id gen s) (hn:L.blk id=some (b,o,n)):VR w L objs (.mref id gen) (.map (some b))
 | agg (cs:List AV) (vs:Array Value) (hl:vs.size=cs.length) (h1:∀ i (h:i<vs.size),vs[i].oneCell'=true)
  (hr:∀ i (h:i<cs.length) (h2:i<vs.size),VR w L objs cs[i] vs[i]):VR w L objs (.agg cs) (.agg vs)
 | tup (cs:List AV) (vs:Array Value) (hl:vs.size=cs.length)
  (hr:∀ i (h:i<cs.length) (h2:i<vs.size),VR w L objs cs[i] vs[i]):VR w L objs (.tup cs) (.tuple vs)
 | clo (fn:Fn) (cs:List AV) (vs:Array Value) (hl:vs.size=cs.length)
  (hr:∀ i (h:i<cs.length) (h2:i<vs.size),VR w L objs cs[i] vs[i]):VR w L objs (.clo fn cs) (.func fn #[] vs)
structure Later (w:World) (L:Lay) (objs:List AObj) (w':World) (L':Lay) (objs':List AObj):Prop where
 wk:∀ b,L.F b->b<w.heap.size->w'.heap[b]? = w.heap[b]?/\L'.F b
 st:∀ id g,stale objs id g->stale objs' id g
 li:∀ id g s,live objs id g s->stale objs' id g \/ (live objs' id g s/\L'.blk id=L.blk id)
theorem Later.refl (w:World) (L:Lay) (objs:List AObj):Later w L objs w L objs:=⟨fun _ h _=>⟨rfl,h⟩,fun _ _ h=>h,fun _ _ _ h=>.inr ⟨h,rfl⟩⟩
theorem Later.trans {w1 w2 w3:World} {L1 L2 L3:Lay} {o1 o2 o3:List AObj} (h:Later w1 L1 o1 w2 L2 o2) (k:Later w2 L2 o2 w3 L3 o3):Later w1 L1 o1 w3 L3 o3:=by
 refine ⟨fun b hF hb=>?_,fun id g hs=>k.st _ _ (h.st _ _ hs),fun id g s hl=>?_⟩
 ·have h1:=h.wk b hF hb
  have h2:=k.wk b h1.2 (heap_lt h1.1 hb)
  exact ⟨h2.1.trans h1.1,h2.2⟩
 ·rcases h.li id g s hl with h1 | ⟨h1,e1⟩
  ·exact .inl (k.st _ _ h1)
  ·rcases k.li id g s h1 with h2 | ⟨h2,e2⟩
   ·exact .inl h2
   ·exact .inr ⟨h2,e2.trans e1⟩
theorem VR.stay {w w':World} {L L':Lay} {objs objs':List AObj} (hs:Later w L objs w' L' objs') {x:AV} {v:Value} (h:VR w L objs x v):VR w' L' objs' x v:=by
 induction h with
 | tree h=>exact .tree (h.stay hs.wk)
 | junk v=>exact .junk v
 | ownS id gen off len v h=>exact .ownS _ _ _ _ _ (hs.st _ _ h)
 | ownN id gen off ad s h =>
  rcases hs.li _ _ _ h with h' | ⟨h',e⟩
  ·exact .ownS _ _ _ _ _ h'
  ·exact .ownN _ _ _ _ s h'
 | ownL id gen off len cap s b o n h hn hc hm hr =>
  rcases hs.li _ _ _ h with h' | ⟨h',e⟩
  ·exact .ownS _ _ _ _ _ h'
  ·exact .ownL _ _ _ _ _ _ _ _ _ h' (by rw [e];exact hn) hc hm hr
 | refS id gen el c v h=>exact .refS _ _ _ _ _ (hs.st _ _ h)
 | refL id gen el c s b o n h hn =>
  rcases hs.li _ _ _ h with h' | ⟨h',e⟩
  ·exact .refS _ _ _ _ _ h'
  ·exact .refL _ _ _ _ _ _ _ _ h' (by rw [e];exact hn)
 | mapS id gen v h=>exact .mapS _ _ _ (hs.st _ _ h)
 | mapL id gen s b o n h hn =>
  rcases hs.li _ _ _ h with h' | ⟨h',e⟩
  ·exact .mapS _ _ _ h'
  ·exact .mapL _ _ _ _ _ _ h' (by rw [e];exact hn)
 | agg cs vs hl h1 hr ih=>exact .agg cs vs hl h1 ih
 | tup cs vs hl hr ih=>exact .tup cs vs hl ih
 | clo fn cs vs hl hr ih=>exact .clo fn cs vs hl ih
def Row (w:World) (L:Lay) (objs:List AObj) (cur:Array Value) (o size:Nat) (xs:List AV):Prop :=
 o+xs.length*size<=cur.size/\∀ i (h:i<xs.length),xs[i].cells.length=size /\
  ∀ j (h2:j<xs[i].cells.length),∃ u,cur[o+i*size+j]? = some u/\u.oneCell'=true/\VR w L objs xs[i].cells[j] u
def OR (w:World) (L:Lay) (objs:List AObj) (id:Nat):AObj->Prop
 | .arr _ size elem xs =>
  match L.blk id with
  | none=>xs=[]
  | some (b,o,n)=>∃ cur:Array Value,Blk elem cur (w.heap[b]?)/\cur.size=n/\Row w L objs cur o size xs
 | .probe k st li bk ps=>L.blk id=none/\(∀ i g,i<k->st i g->stale objs i g)/\(∀ i g s,i<k->li i g s->stale objs i g \/ (live objs i g s/\L.blk i=bk i))/\∀ p,p ∈ ps->VR w L objs p.1 p.2
 | _=>L.blk id=none
def GlOk (w:World) (F:Nat->Prop):Prop:=∀ g,Globs.tab g ≠ []->F g/\g<w.heap.size/\∀ j (h:j<(Globs.tab g).length),w.cell? ⟨g,j,none⟩=some (Globs.tab g)[j]/\(Globs.tab g)[j].oneCell'=true
theorem GlOk.stay {w w':World} {F F':Nat->Prop} (h:GlOk w F) (hs:∀ b,F b->b<w.heap.size->w'.heap[b]? = w.heap[b]?/\F' b):GlOk w' F':=by
 intro g hg
 obtain ⟨h1,h2,h3⟩:=h g hg
 have h4:=hs g h1 h2
 exact ⟨h4.2,heap_lt h4.1 h2,fun j hj=>⟨cell_of_heap h4.1 (h3 j hj).1,(h3 j hj).2⟩⟩
theorem GlOk.mono {w:World} {F F':Nat->Prop} (h:GlOk w F) (hs:∀ b,F b->F' b):GlOk w F':=h.stay fun b hb _=>⟨rfl,hs b hb⟩
def gAV (g:Nat):AV:=match Globs.tab g with
 | []=>.junk
 | l=>.ptr (l.map .val)
theorem gAV_ok {w:World} {L:Lay} {objs:List AObj} (h:GlOk w L.F) (g:Nat):VR w L objs (gAV g) (.pointer (some ⟨g,0,none⟩)):=by
 unfold gAV
 split
 ·exact .junk _
 ·rename_i hn
  obtain ⟨h1,h2,h3⟩:=h g hn
  refine .tree (.ptr _ g 0 (fun j=>(Globs.tab g).getD j undef) h1 (isC.of_cell (h3 0 (List.length_pos_iff.2 hn)).1) (fun j hj=>?_) (fun j hj=>?_) fun j hj=>?_)
  ·have hj:j<(Globs.tab g).length:=by simpa using hj
   rw [Nat.zero_add,(h3 j hj).1,List.getD_eq_getElem?_getD,List.getElem?_eq_getElem hj];rfl
  ·have hj:j<(Globs.tab g).length:=by simpa using hj
   rw [List.getD_eq_getElem?_getD,List.getElem?_eq_getElem hj];exact (h3 j hj).2
  ·have hj:j<(Globs.tab g).length:=by simpa using hj
   simp only [List.getElem_map]
   rw [List.getD_eq_getElem?_getD,List.getElem?_eq_getElem hj];exact .val _
structure Good (F0:FD) (w0 w:World) (L:Lay) (objs:List AObj):Prop where
 obj:∀ id o,objs[id]? = some o->OR w L objs id o
 out:∀ id,objs.length<=id->L.blk id=none
 inj:∀ id id' b o n o' n',L.blk id=some (b,o,n)->L.blk id'=some (b,o',n')->id=id'
 own:∀ id b o n,L.blk id=some (b,o,n)->¬ L.F b/\¬ F0.K b/\b<w.heap.size
 old:∀ b,L.F b->(F0.F b \/ ¬ F0.K b)/\b<w.heap.size
 ext:Kept F0.K w0 w
 gl:GlOk w L.F
def Sim (F0:FD) (w0:World) (st:St) (a:Act) (w:World):Prop :=
 a.defers=F0.ds/\∃ L,Good F0 w0 w L st.objs/\a.tmps.size=st.tmps.length/\∀ t (h:t<st.tmps.length),VR w L st.objs st.tmps[t] (a.tmps.getD t undef)
theorem Good.fresh {F0:FD} {w0 w:World} {L:Lay} {objs:List AObj} (g:Good F0 w0 w L objs) {b:Nat} (h:w.heap.size<=b):¬ F0.K b:=fun hk=>by
 have h1:=g.ext.lt b hk
 have h2:=g.ext.size
 omega
theorem OR.probe_stay {w w':World} {L L':Lay} {objs objs':List AObj} {id k:Nat} {st:Nat->Nat->Prop} {li:Nat->Nat->Nat->Prop} {bk:Nat->Option (Nat × Nat × Nat)} {ps:List (AV × Value)}
 (hl:Later w L objs w' L' objs') (hb:L'.blk id=L.blk id) (h:OR w L objs id (.probe k st li bk ps)):OR w' L' objs' id (.probe k st li bk ps):=by
 obtain ⟨h0,h1,h2,h3⟩:=h
 refine ⟨hb.trans h0,fun i g hi hs=>hl.st _ _ (h1 i g hi hs),fun i g s hi hs=>?_,fun p hp=>(h3 p hp).stay hl⟩
 rcases h2 i g s hi hs with h | ⟨h,e⟩
 ·exact .inl (hl.st _ _ h)
 ·rcases hl.li _ _ _ h with h | ⟨h,e'⟩
  ·exact .inl h
  ·exact .inr ⟨h,e'.trans e⟩
theorem Row.stay {w w':World} {L L':Lay} {objs objs':List AObj} (hs:Later w L objs w' L' objs') {cur:Array Value} {o size:Nat} {xs:List AV} (h:Row w L objs cur o size xs):Row w' L' objs' cur o size xs :=
 ⟨h.1,fun i hi=>⟨(h.2 i hi).1,fun j hj=>let ⟨u,h1,h2,h3⟩:=(h.2 i hi).2 j hj;⟨u,h1,h2,h3.stay hs⟩⟩⟩
def Lay.grow (L:Lay) (w w':World):Lay:={ F:=fun b=>L.F b \/ (w.heap.size<=b/\b<w'.heap.size),blk:=L.blk }
theorem Later.ext {w w':World} (L:Lay) (objs:List AObj) (h:Ext w w'):Later w L objs w' L objs:=⟨fun b hF hb=>⟨h.block b hb,hF⟩,fun _ _ h=>h,fun _ _ _ h=>.inr ⟨h,rfl⟩⟩
theorem Later.grow {w w':World} (L:Lay) (objs:List AObj) (h:Ext w w'):Later w L objs w' (L.grow w w') objs:=⟨fun b hF hb=>⟨h.block b hb,.inl hF⟩,fun _ _ h=>h,fun _ _ _ h=>.inr ⟨h,rfl⟩⟩
theorem Good.ext' {F0:FD} {w0 w w':World} {L:Lay} {objs:List AObj} (g:Good F0 w0 w L objs) (h:Ext w w'):Good F0 w0 w' L objs:=by
 refine ⟨fun id o ho=>?_,g.out,g.inj,fun id b o n hb=>?_,fun b hb=>?_,g.ext.then h,g.gl.stay fun b hF hb=>⟨h.block b hb,hF⟩⟩
 ·have:=g.obj id o ho
  cases o with
  | void=>exact this
  | dead=>exact this
  | probe k st li bk ps=>exact this.probe_stay (.ext _ _ h) rfl
  | arr gen size elem xs =>
   unfold OR at this ⊢
   cases hbk:L.blk id with
   | none=>rw [hbk] at this;exact this
   | some q =>
    obtain ⟨b,o',n⟩:=q
    rw [hbk] at this
    obtain ⟨cur,hc,hn,hr⟩:=this
    exact ⟨cur,by rw [h.block b (g.own _ _ _ _ hbk).2.2];exact hc,hn,hr.stay (.ext _ _ h)⟩
 ·have:=g.own _ _ _ _ hb
  exact ⟨this.1,this.2.1,Nat.lt_of_lt_of_le this.2.2 h.size⟩
 ·have:=g.old b hb
  exact ⟨this.1,Nat.lt_of_lt_of_le this.2 h.size⟩
theorem Good.grow {F0:FD} {w0 w w':World} {L:Lay} {objs:List AObj} (g:Good F0 w0 w L objs) (h:Ext w w'):Good F0 w0 w' (L.grow w w') objs:=by
 have g':=g.ext' h
 have hl:Later w' L objs w' (L.grow w w') objs:=⟨fun b hF hb=>⟨rfl,.inl hF⟩,fun _ _ h=>h,fun _ _ _ h=>.inr ⟨h,rfl⟩⟩
 refine ⟨fun id o ho=>?_,g.out,g.inj,fun id b o n hb=>?_,fun b hb=>?_,g'.ext,g'.gl.mono fun _ h=>.inl h⟩
 ·have:=g'.obj id o ho
  cases o with
  | void=>exact this
  | dead=>exact this
  | probe k st li bk ps=>exact this.probe_stay hl rfl
  | arr gen size elem xs =>
   unfold OR at this ⊢
   show match L.blk id with | none=>_ | some (b,o,n)=>_
   cases hbk:L.blk id with
   | none=>rw [hbk] at this;exact this
   | some q =>
    obtain ⟨b,o',n⟩:=q
    rw [hbk] at this
    obtain ⟨cur,hc,hn,hr⟩:=this
    exact ⟨cur,hc,hn,hr.stay hl⟩
 ·have h1:=g.own _ _ _ _ hb
  have h2:=g'.own _ _ _ _ hb
  refine ⟨?_,h2.2⟩
  rintro (hF | hF)
  ·exact h1.1 hF
  ·omega
 ·rcases hb with hF | hF
  ·exact g'.old b hF
  ·exact ⟨.inr (g.fresh hF.1),hF.2⟩
def Lay.put (L:Lay) (id:Nat) (q:Option (Nat × Nat × Nat)):Lay:={ F:=L.F,blk:=fun i=>if i=id then q else L.blk i }
theorem stale_set {objs:List AObj} {id:Nat} {o:AObj} (hv:objs[id]? = some .void):∀ i g,stale objs i g->stale (objs.set id o) i g:=by
 intro i g h
 have hne:id ≠ i:=by rintro rfl;rcases h with h | ⟨_,_,_,_,h,_⟩ <;> rw [hv] at h <;> simp at h
 unfold stale at h ⊢
 rwa [List.getElem?_set_ne hne]
theorem Later.new {w:World} {L:Lay} {objs:List AObj} {id:Nat} {o:AObj} (hv:objs[id]? = some .void) (ob:Obj) (q:Option (Nat × Nat × Nat)):Later w L objs (w.alloc ob) (L.put id q) (objs.set id o):=by
 refine ⟨fun b hF hb=>⟨(Ext.alloc w ob).block b hb,hF⟩,stale_set hv,fun i g s h=>.inr ?_⟩
 have hne:id ≠ i:=by rintro rfl;obtain ⟨e,xs,h⟩:=h;rw [hv] at h;simp at h
 refine ⟨?_,?_⟩
 ·unfold live at h ⊢
  rwa [List.getElem?_set_ne hne]
 ·show (if i=id then q else L.blk i)=L.blk i
  rw [if_neg (Ne.symm hne)]
theorem Good.newB {F0:FD} {w0 w:World} {L:Lay} {objs:List AObj} {id:Nat} {gen size:Nat} {elem:TypeId} {xs:List AV} (g:Good F0 w0 w L objs) (hv:objs[id]? = some .void) (cur:Array Value) (ob:Obj)
 (hob:Blk elem cur (some ob)) (hr:Row w L objs cur 0 size xs) :
 Good F0 w0 (w.alloc ob) (L.put id (some (w.heap.size,0,cur.size))) (objs.set id (.arr gen size elem xs)):=by
 have hl:=Later.new (w:=w) (L:=L) (o:=.arr gen size elem xs) hv ob (some (w.heap.size,0,cur.size))
 have hx:=Ext.alloc w ob
 have hid:=(List.getElem?_eq_some_iff.1 hv).1
 have blk:∀ i,(L.put id (some (w.heap.size,0,cur.size))).blk i=if i=id then some (w.heap.size,0,cur.size) else L.blk i:=fun _=>rfl
 refine ⟨fun i o ho=>?_,fun i hi=>?_,fun i i' b o n o' n' h1 h2=>?_,fun i b o n hb=>?_,fun b hb=>?_,g.ext.then hx,g.gl.stay hl.wk⟩
 ·by_cases e:i=id
  ·subst e
   rw [List.getElem?_set_self hid] at ho
   simp only [Option.some.injEq] at ho
   subst ho
   unfold OR
   rw [blk,if_pos rfl]
   exact ⟨cur,by rw [heap_alloc_new w _];exact hob,rfl,hr.stay hl⟩
  ·rw [List.getElem?_set_ne (Ne.symm e)] at ho
   have:=g.obj i o ho
   cases o with
   | void=>unfold OR at this ⊢;rw [blk,if_neg e];exact this
   | dead=>unfold OR at this ⊢;rw [blk,if_neg e];exact this
   | probe k st li bk ps=>exact this.probe_stay hl (by rw [blk,if_neg e])
   | arr gen size elem xs =>
    unfold OR at this ⊢
    rw [blk,if_neg e]
    cases hbk:L.blk i with
    | none=>rw [hbk] at this;exact this
    | some q =>
     obtain ⟨b,o',n⟩:=q
     rw [hbk] at this
     obtain ⟨cur,hc,hn,hr⟩:=this
     exact ⟨cur,by rw [hx.block b (g.own _ _ _ _ hbk).2.2];exact hc,hn,hr.stay hl⟩
 ·rw [List.length_set] at hi
  rw [blk,if_neg (by omega)];exact g.out i hi
 ·rw [blk] at h1 h2
  split at h1 <;> split at h2
  ·omega
  ·simp at h1;have:=(g.own _ _ _ _ h2).2.2;omega
  ·simp at h2;have:=(g.own _ _ _ _ h1).2.2;omega
  ·exact g.inj _ _ _ _ _ _ _ h1 h2
 ·rw [blk] at hb
  split at hb
  ·simp at hb
   obtain ⟨rfl,_⟩:=hb
   exact ⟨fun hF=>by have:=(g.old _ hF).2;omega,g.fresh (Nat.le_refl _),by simp⟩
  ·have:=g.own _ _ _ _ hb
   exact ⟨this.1,this.2.1,Nat.lt_of_lt_of_le this.2.2 hx.size⟩
 ·have:=g.old b hb
  exact ⟨this.1,Nat.lt_of_lt_of_le this.2 hx.size⟩
theorem Good.new {F0:FD} {w0 w:World} {L:Lay} {objs:List AObj} {id:Nat} {gen size:Nat} {elem:TypeId} {xs:List AV} (g:Good F0 w0 w L objs) (hv:objs[id]? = some .void) (cur:Array Value)
 (he:elem<mapT) (hr:Row w L objs cur 0 size xs) :
 Good F0 w0 (w.alloc (.cells cur elem)) (L.put id (some (w.heap.size,0,cur.size))) (objs.set id (.arr gen size elem xs)):=g.newB hv cur _ (.of he rfl) hr
end Dak
namespace Dak
open Go Go.RowKit
variable [Globs]
theorem VR.val_inv {w:World} {L:Lay} {objs:List AObj} {v x:Value} (h:VR w L objs (.val v) x):x=v:=by
 cases h with
 | tree h=>cases h;rfl
theorem TR.val_inv {w:World} {F:Nat->Prop} {v x:Value} (h:TR w F (.val v) x):x=v:=by cases h;rfl
theorem VR.agg_inv {w:World} {L:Lay} {objs:List AObj} {cs:List AV} {x:Value} (h:VR w L objs (.agg cs) x) :
 ∃ vs:Array Value,x = .agg vs/\vs.size=cs.length/\(∀ i (h:i<vs.size),vs[i].oneCell'=true)/\∀ i (h:i<cs.length) (h2:i<vs.size),VR w L objs cs[i] vs[i]:=by
 cases h with
 | tree h=>cases h with | agg _ vs hl h1 hr=>exact ⟨vs,rfl,hl,h1,fun i h h2=>.tree (hr i h h2)⟩
 | agg _ vs hl h1 hr=>exact ⟨vs,rfl,hl,h1,hr⟩
theorem TR.agg_inv {w:World} {F:Nat->Prop} {cs:List AV} {x:Value} (h:TR w F (.agg cs) x) :
 ∃ vs:Array Value,x = .agg vs/\vs.size=cs.length/\(∀ i (h:i<vs.size),vs[i].oneCell'=true)/\∀ i (h:i<cs.length) (h2:i<vs.size),TR w F cs[i] vs[i]:=by
 cases h with | agg _ vs hl h1 hr=>exact ⟨vs,rfl,hl,h1,hr⟩
theorem VR.tup_inv {w:World} {L:Lay} {objs:List AObj} {cs:List AV} {x:Value} (h:VR w L objs (.tup cs) x) :
 ∃ vs:Array Value,x = .tuple vs/\vs.size=cs.length/\∀ i (h:i<cs.length) (h2:i<vs.size),VR w L objs cs[i] vs[i]:=by
 cases h with
 | tree h=>cases h with | tup _ vs hl hr=>exact ⟨vs,rfl,hl,fun i h h2=>.tree (hr i h h2)⟩
 | tup _ vs hl hr=>exact ⟨vs,rfl,hl,hr⟩
theorem VR.clo_inv {w:World} {L:Lay} {objs:List AObj} {fn:Fn} {cs:List AV} {x:Value} (h:VR w L objs (.clo fn cs) x) :
 ∃ vs:Array Value,x = .func fn #[] vs/\vs.size=cs.length/\∀ i (h:i<cs.length) (h2:i<vs.size),VR w L objs cs[i] vs[i]:=by
 cases h with
 | tree h=>cases h with | clo _ _ vs hl hr=>exact ⟨vs,rfl,hl,fun i h h2=>.tree (hr i h h2)⟩
 | clo _ _ vs hl hr=>exact ⟨vs,rfl,hl,hr⟩
theorem VR.emp_inv {w:World} {L:Lay} {objs:List AObj} {x:Value} (h:VR w L objs .emp x):∃ ad,x = .slice ad 0 0:=by
 cases h with | tree h=>cases h with | emp ad=>exact ⟨ad,rfl⟩
theorem VR.mapd_inv {w:World} {L:Lay} {objs:List AObj} {c:Nat} {ks:MK->Option Value} {x:Value} (h:VR w L objs (.mapd c ks) x):∃ b,x = .map (some b)/\L.F b/\MapEq c ks (w.heap[b]?):=by
 cases h with | tree h=>cases h with | mapd _ _ b hF hm=>exact ⟨b,rfl,hF,hm⟩
theorem VR.anyB_inv {w:World} {L:Lay} {objs:List AObj} {x:Value} (h:VR w L objs .anyB x):∃ b,x = .bool b:=by
 cases h with | tree h=>cases h with | anyB b=>exact ⟨b,rfl⟩
theorem VR.list_inv {w:World} {L:Lay} {objs:List AObj} {s:Nat} {xs:List AV} {x:Value} (h:VR w L objs (.list s xs) x):TR w L.F (.list s xs) x:=by
 cases h with | tree h=>exact h
theorem VR.ptr_inv {w:World} {L:Lay} {objs:List AObj} {xs:List AV} {x:Value} (h:VR w L objs (.ptr xs) x):TR w L.F (.ptr xs) x:=by
 cases h with | tree h=>exact h
theorem VR.cells {w:World} {L:Lay} {objs:List AObj} {x:AV} {v:Value} (h:VR w L objs x v) (h1:(∃ cs,x = .agg cs) \/ v.oneCell'=true) :
 v.cells.size=x.cells.length/\(∀ j (hj:j<v.cells.size),v.cells[j].oneCell'=true)/\∀ j (hj:j<x.cells.length) (hj2:j<v.cells.size),VR w L objs x.cells[j] v.cells[j]:=by
 by_cases ha:∃ cs,x = .agg cs
 ·obtain ⟨cs,rfl⟩:=ha
  obtain ⟨vs,rfl,hl,ho,hr⟩:=h.agg_inv
  exact ⟨hl,ho,hr⟩
 ·have hv:=h1.resolve_left ha
  have e1:x.cells=[x]:=by cases x <;> first | rfl | exact absurd ⟨_,rfl⟩ ha
  have e2:v.cells=#[v]:=by cases v <;> first | rfl | simp [Value.oneCell'] at hv
  rw [e1,e2]
  refine ⟨rfl,fun j hj=>?_,fun j hj hj2=>?_⟩
  ·have:j=0:=by simp at hj;omega
   subst this;exact hv
  ·have:j=0:=by simp at hj;omega
   subst this;exact h
theorem live_uniq {objs:List AObj} {id g s s':Nat} (h:live objs id g s) (h':live objs id g s'):s=s':=by
 obtain ⟨e,xs,he⟩:=h
 obtain ⟨e',xs',he'⟩:=h'
 rw [he] at he';simp at he';exact he'.1
theorem not_stale {objs:List AObj} {id g s:Nat} (h:live objs id g s):¬ stale objs id g:=by
 obtain ⟨e,xs,he⟩:=h
 rintro (h | ⟨g',s',e',xs',h,hlt⟩)
 ·rw [he] at h;simp at h
 ·rw [he] at h;simp at h;omega
theorem VR.own_inv {w:World} {L:Lay} {objs:List AObj} {id gen off len s:Nat} {x:Value} (h:VR w L objs (.own id gen off len) x) (hl:live objs id gen s) :
 (len=0/\∃ ad,x = .slice ad 0 0) \/ ∃ b o n cap,L.blk id=some (b,o,n)/\x = .slice (some ⟨b,o+off*s,none⟩) len cap/\len<=cap/\cap<=maxLen/\o+(off+cap)*s<=n:=by
 cases h with
 | tree h=>cases h
 | ownS _ _ _ _ _ h=>exact absurd h (not_stale hl)
 | ownN _ _ _ ad s h=>exact .inl ⟨rfl,ad,rfl⟩
 | ownL _ _ _ _ cap s' b o n h hn hc hm hr =>
  obtain rfl:=live_uniq hl h
  exact .inr ⟨b,o,n,cap,hn,rfl,hc,hm,hr⟩
theorem VR.ref_inv {w:World} {L:Lay} {objs:List AObj} {id gen el c s:Nat} {x:Value} (h:VR w L objs (.ref id gen el c) x) (hl:live objs id gen s) :
 ∃ b o n,L.blk id=some (b,o,n)/\x = .pointer (some ⟨b,o+el*s+c,none⟩):=by
 cases h with
 | tree h=>cases h
 | refS _ _ _ _ _ h=>exact absurd h (not_stale hl)
 | refL _ _ _ _ s' b o n h hn =>
  obtain rfl:=live_uniq hl h
  exact ⟨b,o,n,hn,rfl⟩
theorem VR.mref_inv {w:World} {L:Lay} {objs:List AObj} {id gen s:Nat} {x:Value} (h:VR w L objs (.mref id gen) x) (hl:live objs id gen s) :
 ∃ b o n,L.blk id=some (b,o,n)/\x = .map (some b):=by
 cases h with
 | tree h=>cases h
 | mapS _ _ _ h=>exact absurd h (not_stale hl)
 | mapL _ _ s' b o n h hn=>exact ⟨b,o,n,hn,rfl⟩
theorem stale_next {objs:List AObj} {id gen size gen' size':Nat} {elem elem':TypeId} {xs xs':List AV} (ho:objs[id]? = some (.arr gen size elem xs)) (hg:gen<=gen') :
 ∀ i g,stale objs i g->stale (objs.set id (.arr gen' size' elem' xs')) i g:=by
 intro i g h
 have hid:=(List.getElem?_eq_some_iff.1 ho).1
 by_cases e:id=i
 ·subst e
  rcases h with h | ⟨g',s',e',xs',h,hlt⟩
  ·rw [ho] at h;simp at h
  ·rw [ho] at h;simp at h
   refine .inr ⟨gen',_,_,_,List.getElem?_set_self hid,?_⟩
   omega
 ·unfold stale at h ⊢
  rwa [List.getElem?_set_ne e]
theorem Good.set {F0:FD} {w0 w w':World} {L:Lay} {objs:List AObj} {id gen gen' size:Nat} {elem:TypeId} {xs xs':List AV} (g:Good F0 w0 w L objs)
 (ho:objs[id]? = some (.arr gen size elem xs)) (b o:Nat) (cur:Array Value) (hext:w.os=w'.os/\w.tape=w'.tape/\w.output=w'.output/\w.heap.size<=w'.heap.size)
 (hw:∀ k,k<w.heap.size->(∀ o n,L.blk id ≠ some (k,o,n))->w'.heap[k]? = w.heap[k]?)
 (hb:(∃ o n,L.blk id=some (b,o,n)) \/ w.heap.size<=b) (hc:Blk elem cur (w'.heap[b]?))
 (hr:Row w L objs cur o size xs') (hg:gen<gen' \/ gen=gen'/\L.blk id=some (b,o,cur.size)) :
 Later w L objs w' (L.put id (some (b,o,cur.size))) (objs.set id (.arr gen' size elem xs')) /\
 Good F0 w0 w' (L.put id (some (b,o,cur.size))) (objs.set id (.arr gen' size elem xs')):=by
 have hid:=(List.getElem?_eq_some_iff.1 ho).1
 have blk:∀ i,(L.put id (some (b,o,cur.size))).blk i=if i=id then some (b,o,cur.size) else L.blk i:=fun _=>rfl
 have hFb:∀ k,L.F k->k<w.heap.size->w'.heap[k]? = w.heap[k]?:=by
  intro k hF hk
  refine hw k hk fun o n e=>(g.own _ _ _ _ e).1 hF
 have hb':b<w'.heap.size:=hc.lt
 have hl:Later w L objs w' (L.put id (some (b,o,cur.size))) (objs.set id (.arr gen' size elem xs')):=by
  refine ⟨fun k hF hk=>⟨hFb k hF hk,hF⟩,stale_next ho (by omega),fun i g' s h=>?_⟩
  by_cases e:id=i
  ·subst e
   obtain ⟨e',ys,h⟩:=h
   rw [ho] at h;simp at h
   obtain ⟨rfl,rfl,rfl,rfl⟩:=h
   rcases hg with hg | ⟨rfl,hg⟩
   ·exact .inl (.inr ⟨gen',_,_,_,List.getElem?_set_self hid,hg⟩)
   ·exact .inr ⟨⟨_,_,List.getElem?_set_self hid⟩,by rw [blk,if_pos rfl,hg]⟩
  ·refine .inr ⟨?_,by rw [blk,if_neg (Ne.symm e)]⟩
   unfold live at h ⊢
   rwa [List.getElem?_set_ne e]
 refine ⟨hl,fun i o' ho'=>?_,fun i hi=>?_,fun i i' b1 o1 n1 o2 n2 h1 h2=>?_,fun i b1 o1 n1 hb1=>?_,fun k hF=>?_,?_,g.gl.stay hl.wk⟩
 ·by_cases e:i=id
  ·subst e
   rw [List.getElem?_set_self hid] at ho'
   simp only [Option.some.injEq] at ho'
   subst ho'
   unfold OR
   rw [blk,if_pos rfl]
   exact ⟨cur,hc,rfl,hr.stay hl⟩
  ·rw [List.getElem?_set_ne (Ne.symm e)] at ho'
   have:=g.obj i o' ho'
   cases o' with
   | void=>unfold OR at this ⊢;rw [blk,if_neg e];exact this
   | dead=>unfold OR at this ⊢;rw [blk,if_neg e];exact this
   | probe k st li bk ps=>exact this.probe_stay hl (by rw [blk,if_neg e])
   | arr gen size elem xs =>
    unfold OR at this ⊢
    rw [blk,if_neg e]
    cases hbk:L.blk i with
    | none=>rw [hbk] at this;exact this
    | some q =>
     obtain ⟨b1,o1,n1⟩:=q
     rw [hbk] at this
     obtain ⟨cur1,hc1,hn1,hr1⟩:=this
     exact ⟨cur1,hc1.tr (hw b1 (g.own _ _ _ _ hbk).2.2 (fun o n e'=>e (g.inj _ _ _ _ _ _ _ hbk e'))),hn1,hr1.stay hl⟩
 ·rw [List.length_set] at hi
  rw [blk,if_neg (by omega)];exact g.out i hi
 ·rw [blk] at h1 h2
  split at h1 <;> split at h2
  ·omega
  ·rename_i e1 e2
   simp at h1
   obtain ⟨rfl,_⟩:=h1
   rcases hb with ⟨o,n,hb⟩ | hb
   ·exact absurd (g.inj _ _ _ _ _ _ _ h2 hb) e2
   ·have:=(g.own _ _ _ _ h2).2.2;omega
  ·rename_i e1 e2
   simp at h2
   obtain ⟨rfl,_⟩:=h2
   rcases hb with ⟨o,n,hb⟩ | hb
   ·exact absurd (g.inj _ _ _ _ _ _ _ h1 hb) e1
   ·have:=(g.own _ _ _ _ h1).2.2;omega
  ·exact g.inj _ _ _ _ _ _ _ h1 h2
 ·rw [blk] at hb1
  split at hb1
  ·simp at hb1
   obtain ⟨rfl,_⟩:=hb1
   rcases hb with ⟨o,n,hb⟩ | hb
   ·have:=g.own _ _ _ _ hb
    exact ⟨this.1,this.2.1,hb'⟩
   ·exact ⟨fun hF=>by have:=(g.old _ hF).2;omega,g.fresh hb,hb'⟩
  ·have:=g.own _ _ _ _ hb1
   exact ⟨this.1,this.2.1,Nat.lt_of_lt_of_le this.2.2 hext.2.2.2⟩
 ·have:=g.old k hF
  exact ⟨this.1,Nat.lt_of_lt_of_le this.2 hext.2.2.2⟩
 ·refine ⟨hext.1.symm.trans g.ext.os,hext.2.1.symm.trans g.ext.tape,hext.2.2.1.symm.trans g.ext.output,Nat.le_trans g.ext.size hext.2.2.2,fun k hk=>?_,g.ext.lt⟩
  rw [<-g.ext.block k hk]
  exact hw k (Nat.lt_of_lt_of_le (g.ext.lt k hk) g.ext.size) fun o n e=>(g.own _ _ _ _ e).2.1 hk
def cellsAt (objs:List AObj):AV->Option (List AV)
 | .ptr cs=>some cs
 | .ref id gen el c =>
  match objs[id]? with
  | some (.arr g _ e xs)=>if g=gen/\e<mapT then (xs[el]?).map fun x=>x.cells.drop c else none
  | _=>none
 | _=>none
theorem cellsAt_ok {F0:FD} {w0 w:World} {L:Lay} {objs:List AObj} (g:Good F0 w0 w L objs) {x:AV} {v:Value} (h:VR w L objs x v) {cs:List AV} (hc:cellsAt objs x=some cs) :
 ∃ b o,v = .pointer (some ⟨b,o,none⟩)/\∀ j (hj:j<cs.length),∃ u,w.cell? ⟨b,o+j,none⟩=some u/\u.oneCell'=true/\VR w L objs cs[j] u:=by
 cases x with
 | ptr ds =>
  simp only [cellsAt,Option.some.injEq] at hc
  subst hc
  have ht:=h.ptr_inv
  cases ht with
  | ptr _ b o us hF hb hcl h1 hr=>exact ⟨b,o,rfl,fun j hj=>⟨us j,hcl j hj,h1 j hj,.tree (hr j hj)⟩⟩
 | ref id gen el c =>
  simp only [cellsAt] at hc
  split at hc
  ·rename_i g' s e xs ho
   split at hc
   ·rename_i eg
    obtain ⟨eg,hem⟩:=eg
    subst eg
    have hlv:live objs id g' s:=⟨e,xs,ho⟩
    obtain ⟨b,o,n,hbk,rfl⟩:=h.ref_inv hlv
    simp only [Option.map_eq_some_iff] at hc
    obtain ⟨x,hx,rfl⟩:=hc
    have hor:=g.obj _ _ ho
    unfold OR at hor
    rw [hbk] at hor
    obtain ⟨cur,hcur,hn,hr1,hr2⟩:=hor
    have hcur:=hcur.cells hem
    obtain ⟨hel,hxe⟩:=List.getElem?_eq_some_iff.1 hx
    obtain ⟨hs,hr3⟩:=hr2 el hel
    rw [hxe] at hs
    refine ⟨b,_,rfl,fun j hj=>?_⟩
    rw [List.length_drop] at hj
    obtain ⟨u,hu,h1,hv⟩:=hr3 (c+j) (by rw [hxe];omega)
    refine ⟨u,?_,h1,?_⟩
    ·simp only [World.cell?,hcur]
     simpa [Nat.add_assoc] using hu
    ·rw [List.getElem_drop]
     simpa only [hxe] using hv
   ·cases hc
  ·cases hc
 | _=>simp [cellsAt] at hc
section
variable {F0 : FD} {w0 w : World} {L : Lay} {objs : List AObj}
def AV.inn1 (n:Nat):AV->Bool
 | .own id ..=>decide (id<n)
 | .ref id ..=>decide (id<n)
 | .mref id ..=>decide (id<n)
 | .val _ | .list .. | .ptr _ | .junk | .emp | .anyB | .mapd ..=>true
 | .clo _ cs=>cs.isEmpty
 | _=>false
def AV.innA (n:Nat):AV->Bool
 | .agg cs=>cs.all (AV.inn1 n)
 | x=>x.inn1 n
def AV.inn (n:Nat):AV->Bool
 | .agg cs=>cs.all (AV.inn1 n)
 | .tup cs=>cs.all (AV.innA n)
 | .clo _ cs=>cs.all (AV.inn1 n)
 | x=>x.inn1 n
def AObj.innO (n:Nat):AObj->Bool
 | .arr _ _ _ xs=>xs.all (AV.inn n)
 | .probe k _ _ _ ps=>decide (k<=n) && ps.all fun p=>p.1.inn n
 | _=>true
theorem take_live {m id g s:Nat} (hid:id<m):live (objs.take m) id g s ↔ live objs id g s:=by
 unfold live;rw [List.getElem?_take,if_pos hid]
theorem take_stale {m id g:Nat} (hid:id<m):stale (objs.take m) id g ↔ stale objs id g:=by
 unfold stale;rw [List.getElem?_take,if_pos hid]
theorem inn1_vr {m:Nat} {L':Lay} (hF:∀ b,L.F b->L'.F b) (hb:∀ id,id<m->L'.blk id=L.blk id) {x:AV} {v:Value} (h:VR w L objs x v) (hx:x.inn1 m=true):VR w L' (objs.take m) x v:=by
 have tr:∀ {x:AV} {v:Value},TR w L.F x v->VR w L' (objs.take m) x v:=fun h=>.tree (h.mono fun b h _=>hF b h)
 cases h with
 | tree h=>exact tr h
 | junk=>exact .junk _
 | ownS id g o l v h=>exact .ownS _ _ _ _ _ ((take_stale (by simpa [AV.inn1] using hx)).2 h)
 | ownN id g o ad s h=>exact .ownN _ _ _ _ s ((take_live (by simpa [AV.inn1] using hx)).2 h)
 | ownL id g o l cap s b o' n h hn hc hm hr =>
  have hid:id<m:=by simpa [AV.inn1] using hx
  exact .ownL _ _ _ _ _ _ _ _ _ ((take_live hid).2 h) (by rw [hb id hid];exact hn) hc hm hr
 | refS id g e c v h=>exact .refS _ _ _ _ _ ((take_stale (by simpa [AV.inn1] using hx)).2 h)
 | refL id g e c s b o n h hn =>
  have hid:id<m:=by simpa [AV.inn1] using hx
  exact .refL _ _ _ _ _ _ _ _ ((take_live hid).2 h) (by rw [hb id hid];exact hn)
 | mapS id g v h=>exact .mapS _ _ _ ((take_stale (by simpa [AV.inn1] using hx)).2 h)
 | mapL id g s b o n h hn =>
  have hid:id<m:=by simpa [AV.inn1] using hx
  exact .mapL _ _ _ _ _ _ ((take_live hid).2 h) (by rw [hb id hid];exact hn)
 | agg=>simp [AV.inn1] at hx
 | tup=>simp [AV.inn1] at hx
 | clo fn cs vs hl hr =>
  have:cs=[]:=by simpa [AV.inn1] using hx
  subst this
  exact .clo _ _ _ hl fun i h _=>absurd h (by simp)
theorem innA_vr {m:Nat} {L':Lay} (hF:∀ b,L.F b->L'.F b) (hb:∀ id,id<m->L'.blk id=L.blk id) {x:AV} {v:Value} (h:VR w L objs x v) (hx:x.innA m=true):VR w L' (objs.take m) x v:=by
 cases x with
 | agg cs =>
  obtain ⟨vs,rfl,hl,h1,hr⟩:=h.agg_inv
  exact .agg _ _ hl h1 fun i hi h2=>inn1_vr hF hb (hr i hi h2) (List.all_eq_true.1 hx _ (List.getElem_mem _))
 | _=>exact inn1_vr hF hb h hx
theorem below_vr {m:Nat} {L':Lay} (hF:∀ b,L.F b->L'.F b) (hb:∀ id,id<m->L'.blk id=L.blk id) {x:AV} {v:Value} (h:VR w L objs x v) (hx:x.inn m=true):VR w L' (objs.take m) x v:=by
 cases x with
 | agg cs =>
  obtain ⟨vs,rfl,hl,h1,hr⟩:=h.agg_inv
  exact .agg _ _ hl h1 fun i hi h2=>inn1_vr hF hb (hr i hi h2) (List.all_eq_true.1 hx _ (List.getElem_mem _))
 | tup cs =>
  obtain ⟨vs,rfl,hl,hr⟩:=h.tup_inv
  exact .tup _ _ hl fun i hi h2=>innA_vr hF hb (hr i hi h2) (List.all_eq_true.1 hx _ (List.getElem_mem _))
 | clo fn cs =>
  obtain ⟨vs,rfl,hl,hr⟩:=h.clo_inv
  exact .clo _ _ _ hl fun i hi h2=>inn1_vr hF hb (hr i hi h2) (List.all_eq_true.1 hx _ (List.getElem_mem _))
 | _=>exact inn1_vr hF hb h hx
theorem below_cells {m:Nat} {x:AV} (hx:x.inn m=true):∀ c ∈ x.cells,c.inn m=true:=by
 have b1:∀ {c:AV},c.inn1 m=true->c.inn m=true:=by
  intro c h
  cases c with
  | agg=>cases h
  | tup=>cases h
  | clo fn cs =>
   have:cs=[]:=by simpa [AV.inn1] using h
   subst this;rfl
  | _=>exact h
 intro c hc
 cases x with
 | agg cs=>exact b1 (List.all_eq_true.1 hx c hc)
 | _=>simp only [AV.cells,List.mem_singleton] at hc;subst hc;exact hx
def Lay.cut (L:Lay) (m:Nat):Lay:=⟨L.F,fun id=>if id<m then L.blk id else none⟩
theorem good_drop (g:Good F0 w0 w L objs) (m:Nat) (ho:∀ o ∈ objs.take m,o.innO m=true):Good F0 w0 w (L.cut m) (objs.take m):=by
 have hF:∀ b,L.F b->(L.cut m).F b:=fun _ h=>h
 have hb:∀ id,id<m->(L.cut m).blk id=L.blk id:=fun id h=>if_pos h
 refine ⟨fun id o ho'=>?_,fun id hid=>?_,fun i j b o n o' n' h1 h2=>?_,fun i b o n h=>?_,g.old,g.ext,g.gl⟩
 ·rw [List.getElem?_take] at ho'
  split at ho'
  ·rename_i hid
   have:=g.obj id o ho'
   have hob:=ho o (List.mem_of_getElem? (by rw [List.getElem?_take,if_pos hid];exact ho'))
   cases o with
   | void=>unfold OR at this ⊢;rw [hb id hid];exact this
   | dead=>unfold OR at this ⊢;rw [hb id hid];exact this
   | probe k st li bk ps =>
    obtain ⟨h0,h1,h2,h3⟩:=this
    simp only [AObj.innO,Bool.and_eq_true,decide_eq_true_eq] at hob
    refine ⟨(hb id hid).trans h0,fun i g' hi hs=>(take_stale (by omega)).2 (h1 i g' hi hs),fun i g' s hi hs=>?_,fun p hp=>below_vr hF hb (h3 p hp) (List.all_eq_true.1 hob.2 p hp)⟩
    rcases h2 i g' s hi hs with h | ⟨h,e⟩
    ·exact .inl ((take_stale (by omega)).2 h)
    ·exact .inr ⟨(take_live (by omega)).2 h,(hb i (by omega)).trans e⟩
   | arr gen size elem xs =>
    unfold OR at this ⊢
    rw [hb id hid]
    cases hbk:L.blk id with
    | none=>rw [hbk] at this;exact this
    | some q =>
     obtain ⟨b,o',n⟩:=q
     rw [hbk] at this
     obtain ⟨cur,hc,hn,hr1,hr2⟩:=this
     refine ⟨cur,hc,hn,hr1,fun i hi=>⟨(hr2 i hi).1,fun j hj=>?_⟩⟩
     obtain ⟨u,h1,h2,h3⟩:=(hr2 i hi).2 j hj
     exact ⟨u,h1,h2,below_vr hF hb h3 (below_cells (List.all_eq_true.1 hob _ (List.getElem_mem _)) _ (List.getElem_mem _))⟩
  ·cases ho'
 ·show (if id<m then L.blk id else none)=none
  split
  ·have hid':(objs.take m).length<=id:=hid
   rw [List.length_take] at hid';exact g.out id (by show objs.length<=id;omega)
  ·rfl
 ·have h1':(if i<m then L.blk i else none)=some (b,o,n):=h1
  have h2':(if j<m then L.blk j else none)=some (b,o',n'):=h2
  split at h1' <;> split at h2' <;> first | exact g.inj _ _ _ _ _ _ _ h1' h2' | cases h1' | cases h2'
 ·have h':(if i<m then L.blk i else none)=some (b,o,n):=h
  split at h'
  ·exact g.own _ _ _ _ h'
  ·cases h'
structure Done (base:List AObj) (L:Lay) (base':List AObj) (L':Lay):Prop where
 st:∀ id g,stale base id g->stale base' id g
 li:∀ id g s,live base id g s->stale base' id g \/ (live base' id g s/\L'.blk id=L.blk id)
theorem live_lt {id g s:Nat} (h:live objs id g s):id<objs.length:=by
 obtain ⟨e,xs,h⟩:=h
 exact (List.getElem?_eq_some_iff.1 h).1
theorem stale_lt {id g:Nat} (h:stale objs id g):id<objs.length:=by
 rcases h with h | ⟨_,_,_,_,h,_⟩ <;> exact (List.getElem?_eq_some_iff.1 h).1
theorem live_app {id g s:Nat} (tail:List AObj) (h:live objs id g s):live (objs++tail) id g s:=by
 have:=live_lt h
 unfold live at h ⊢
 rwa [List.getElem?_append_left this]
theorem stale_app {id g:Nat} (tail:List AObj) (h:stale objs id g):stale (objs++tail) id g:=by
 have:=stale_lt h
 unfold stale at h ⊢
 rwa [List.getElem?_append_left this]
def inFD (F0:FD) (L:Lay) (k:Nat):FD:=⟨L.F,fun b=>F0.K b \/ L.F b \/ ∃ id o n,k<=id/\L.blk id=some (b,o,n),[]⟩
theorem mod_in {base tail:List AObj} (g:Good F0 w0 w L (base++tail)) (hb:(base.all fun o=>o.innO base.length)=true):Good (inFD F0 L base.length) w w (L.cut base.length) base:=by
 have h:=good_drop g base.length (fun o ho=>by rw [List.take_left] at ho;exact List.all_eq_true.1 hb o ho)
 rw [List.take_left] at h
 refine ⟨h.obj,h.out,h.inj,fun id b o n hbk=>?_,fun b hF=>⟨.inl hF,(g.old b hF).2⟩,Kept.refl fun b hK=>?_,g.gl⟩
 ·have h1:=h.own id b o n hbk
  refine ⟨h1.1,?_,h1.2.2⟩
  rintro (hk | hk | ⟨id',o',n',hk,hbk'⟩)
  ·exact h1.2.1 hk
  ·exact h1.1 hk
  ·have hbk2:(if id<base.length then L.blk id else none)=some (b,o,n):=hbk
   split at hbk2
   ·have:=g.inj _ _ _ _ _ _ _ hbk2 hbk'
    omega
   ·cases hbk2
 ·rcases hK with hk | hk | ⟨id',o',n',hk,hbk'⟩
  ·exact Nat.lt_of_lt_of_le (g.ext.lt b hk) g.ext.size
  ·exact (g.old b hk).2
  ·exact (g.own _ _ _ _ hbk').2.2
theorem mod_out {w':World} {L':Lay} {base base' tail:List AObj} (g:Good F0 w0 w L (base++tail)) (hlen:base'.length=base.length) (g':Good (inFD F0 L base.length) w w' L' base') (hd:Done base (L.cut base.length) base' L') :
 ∃ L'',Good F0 w0 w' L'' (base'++tail)/\Later w L (base++tail) w' L'' (base'++tail)/\∀ x v,VR w' L' base' x v->VR w' L'' (base'++tail) x v:=by
 let L2:Lay:=⟨fun b=>L.F b \/ L'.F b,fun id=>if id<base.length then L'.blk id else L.blk id⟩
 have b1:∀ id,id<base.length->L2.blk id=L'.blk id:=fun id h=>if_pos h
 have b2:∀ id,¬ id<base.length->L2.blk id=L.blk id:=fun id h=>if_neg h
 have up:Later w' L' base' w' L2 (base'++tail):=by
  refine ⟨fun b hF _=>⟨rfl,.inr hF⟩,fun id g h=>stale_app _ h,fun id g s h=>.inr ⟨live_app _ h,b1 id (by have:=live_lt h;omega)⟩⟩
 have HL:Later w L (base++tail) w' L2 (base'++tail):=by
  refine ⟨fun b hF hb=>⟨g'.ext.block b (.inr (.inl hF)),.inl hF⟩,fun id gg h=>?_,fun id gg s h=>?_⟩
  ·by_cases hlt:id<base.length
   ·have h':stale base id gg:=by unfold stale at h ⊢;rwa [List.getElem?_append_left hlt] at h
    exact stale_app _ (hd.st _ _ h')
   ·unfold stale at h ⊢
    rw [List.getElem?_append_right (by omega)] at h ⊢
    rw [hlen];exact h
  ·by_cases hlt:id<base.length
   ·have h':live base id gg s:=by unfold live at h ⊢;rwa [List.getElem?_append_left hlt] at h
    rcases hd.li _ _ _ h' with h1 | ⟨h1,e⟩
    ·exact .inl (stale_app _ h1)
    ·refine .inr ⟨live_app _ h1,?_⟩
     rw [b1 id hlt,e]
     exact if_pos hlt
   ·refine .inr ⟨?_,b2 id hlt⟩
    unfold live at h ⊢
    rw [List.getElem?_append_right (by omega)] at h ⊢
    rw [hlen];exact h
 refine ⟨L2,⟨fun id o ho=>?_,fun id hid=>?_,fun i j b o n o' n' h1 h2=>?_,fun id b o n hbk=>?_,fun b hF=>?_,?_,g.gl.stay HL.wk⟩,HL,fun x v h=>h.stay up⟩
 ·by_cases hlt:id<base.length
  ·rw [List.getElem?_append_left (by omega)] at ho
   have:=g'.obj id o ho
   cases o with
   | void=>unfold OR at this ⊢;rw [b1 id hlt];exact this
   | dead=>unfold OR at this ⊢;rw [b1 id hlt];exact this
   | probe k st li bk ps=>exact this.probe_stay up (b1 id hlt)
   | arr gen size elem xs =>
    unfold OR at this ⊢
    rw [b1 id hlt]
    cases hbk:L'.blk id with
    | none=>rw [hbk] at this;exact this
    | some q =>
     obtain ⟨b,o',n⟩:=q
     rw [hbk] at this
     obtain ⟨cur,hc,hn,hr⟩:=this
     exact ⟨cur,hc,hn,hr.stay up⟩
  ·have ho2:(base++tail)[id]? = some o:=by
    rw [List.getElem?_append_right (by omega)] at ho ⊢
    rw [<-hlen];exact ho
   have:=g.obj id o ho2
   cases o with
   | void=>unfold OR at this ⊢;rw [b2 id hlt];exact this
   | dead=>unfold OR at this ⊢;rw [b2 id hlt];exact this
   | probe k st li bk ps=>exact this.probe_stay HL (b2 id hlt)
   | arr gen size elem xs =>
    unfold OR at this ⊢
    rw [b2 id hlt]
    cases hbk:L.blk id with
    | none=>rw [hbk] at this;exact this
    | some q =>
     obtain ⟨b,o',n⟩:=q
     rw [hbk] at this
     obtain ⟨cur,hc,hn,hr⟩:=this
     exact ⟨cur,hc.tr (g'.ext.block b (.inr (.inr ⟨id,o',n,by omega,hbk⟩))),hn,hr.stay HL⟩
 ·rw [List.length_append,hlen] at hid
  rw [b2 id (by omega)]
  exact g.out id (by rw [List.length_append];omega)
 ·by_cases hi:i<base.length <;> by_cases hj:j<base.length
  ·rw [b1 i hi] at h1;rw [b1 j hj] at h2;exact g'.inj _ _ _ _ _ _ _ h1 h2
  ·rw [b1 i hi] at h1;rw [b2 j hj] at h2
   exact absurd (.inr (.inr ⟨j,o',n',by omega,h2⟩)) (g'.own _ _ _ _ h1).2.1
  ·rw [b2 i hi] at h1;rw [b1 j hj] at h2
   exact absurd (.inr (.inr ⟨i,o,n,by omega,h1⟩)) (g'.own _ _ _ _ h2).2.1
  ·rw [b2 i hi] at h1;rw [b2 j hj] at h2;exact g.inj _ _ _ _ _ _ _ h1 h2
 ·by_cases hi:id<base.length
  ·rw [b1 id hi] at hbk
   have h1:=g'.own _ _ _ _ hbk
   exact ⟨fun hF=>hF.elim (fun hF=>h1.2.1 (.inr (.inl hF))) h1.1,fun hk=>h1.2.1 (.inl hk),h1.2.2⟩
  ·rw [b2 id hi] at hbk
   have h1:=g.own _ _ _ _ hbk
   refine ⟨fun hF=>hF.elim h1.1 fun hF=>?_,h1.2.1,Nat.lt_of_lt_of_le h1.2.2 g'.ext.size⟩
   rcases (g'.old b hF).1 with h2 | h2
   ·exact h1.1 h2
   ·exact h2 (.inr (.inr ⟨id,o,n,by omega,hbk⟩))
 ·rcases hF with hF | hF
  ·have h1:=g.old b hF
   exact ⟨h1.1,Nat.lt_of_lt_of_le h1.2 g'.ext.size⟩
  ·have h1:=g'.old b hF
   refine ⟨?_,h1.2⟩
   rcases h1.1 with h2 | h2
   ·exact (g.old b h2).1
   ·exact .inr fun hk=>h2 (.inl hk)
 ·exact ⟨g'.ext.os.trans g.ext.os,g'.ext.tape.trans g.ext.tape,g'.ext.output.trans g.ext.output,Nat.le_trans g.ext.size g'.ext.size,fun b hk=>(g'.ext.block b (.inl hk)).trans (g.ext.block b hk),g.ext.lt⟩
def AV.shift1 (k:Nat):AV->AV
 | .own id g o l=>.own (id+k) g o l
 | .ref id g e c=>.ref (id+k) g e c
 | .mref id g=>.mref (id+k) g
 | x=>x
def AV.shiftA (k:Nat):AV->AV
 | .agg cs=>.agg (cs.map (AV.shift1 k))
 | x=>x.shift1 k
def AV.shift (k:Nat):AV->AV
 | .agg cs=>.agg (cs.map (AV.shift1 k))
 | .tup cs=>.tup (cs.map (AV.shiftA k))
 | .clo f cs=>.clo f (cs.map (AV.shift1 k))
 | x=>x.shift1 k
def AObj.shiftO (k:Nat):AObj->AObj
 | .arr g s e xs=>.arr g s e (xs.map (AV.shift k))
 | o=>o
def AObj.plain:AObj->Bool
 | .probe ..=>false
 | _=>true
theorem live_shift {news:List AObj} {id g s:Nat} (h:live news id g s):live (objs++news.map (AObj.shiftO objs.length)) (id+objs.length) g s:=by
 obtain ⟨e,xs,h⟩:=h
 refine ⟨e,xs.map (AV.shift objs.length),?_⟩
 rw [List.getElem?_append_right (by omega),Nat.add_sub_cancel,List.getElem?_map,h];rfl
theorem stale_shift {news:List AObj} {id g:Nat} (h:stale news id g):stale (objs++news.map (AObj.shiftO objs.length)) (id+objs.length) g:=by
 rcases h with h | ⟨g',s,e,xs,h,hlt⟩
 ·left
  rw [List.getElem?_append_right (by omega),Nat.add_sub_cancel,List.getElem?_map,h];rfl
 ·right
  refine ⟨g',s,e,xs.map (AV.shift objs.length),?_,hlt⟩
  rw [List.getElem?_append_right (by omega),Nat.add_sub_cancel,List.getElem?_map,h];rfl
theorem shift1_vr {w':World} {L' L2:Lay} {news:List AObj} (hF:∀ b,L'.F b->L2.F b) (hb:∀ id,L2.blk (id+objs.length)=L'.blk id) {m:Nat} {x:AV} {v:Value} (h:VR w' L' news x v) (hx:x.inn1 m=true) :
 VR w' L2 (objs++news.map (AObj.shiftO objs.length)) (x.shift1 objs.length) v:=by
 have tr:∀ {x:AV} {v:Value},TR w' L'.F x v->VR w' L2 (objs++news.map (AObj.shiftO objs.length)) x v:=fun h=>.tree (h.mono fun b h _=>hF b h)
 cases h with
 | tree h =>
  have e:x.shift1 objs.length=x:=by cases h <;> rfl
  rw [e];exact tr h
 | junk=>exact .junk _
 | ownS id g o l v h=>exact .ownS _ _ _ _ _ (stale_shift h)
 | ownN id g o ad s h=>exact .ownN _ _ _ _ s (live_shift h)
 | ownL id g o l cap s b o' n h hn hc hm hr=>exact .ownL _ _ _ _ _ _ _ _ _ (live_shift h) (by rw [hb];exact hn) hc hm hr
 | refS id g e c v h=>exact .refS _ _ _ _ _ (stale_shift h)
 | refL id g e c s b o n h hn=>exact .refL _ _ _ _ _ _ _ _ (live_shift h) (by rw [hb];exact hn)
 | mapS id g v h=>exact .mapS _ _ _ (stale_shift h)
 | mapL id g s b o n h hn=>exact .mapL _ _ _ _ _ _ (live_shift h) (by rw [hb];exact hn)
 | agg=>simp [AV.inn1] at hx
 | tup=>simp [AV.inn1] at hx
 | clo fn cs vs hl hr =>
  have:cs=[]:=by simpa [AV.inn1] using hx
  subst this
  exact .clo _ _ _ hl fun i h _=>absurd h (by simp)
theorem shiftA_vr {w':World} {L' L2:Lay} {news:List AObj} (hF:∀ b,L'.F b->L2.F b) (hb:∀ id,L2.blk (id+objs.length)=L'.blk id) {m:Nat} {x:AV} {v:Value} (h:VR w' L' news x v) (hx:x.innA m=true) :
 VR w' L2 (objs++news.map (AObj.shiftO objs.length)) (x.shiftA objs.length) v:=by
 cases x with
 | agg cs =>
  obtain ⟨vs,rfl,hl,h1,hr⟩:=h.agg_inv
  refine .agg _ _ (by simpa using hl) h1 fun i hi h2=>?_
  rw [List.getElem_map]
  exact shift1_vr hF hb (hr i (by simpa using hi) h2) (List.all_eq_true.1 hx _ (List.getElem_mem _))
 | _=>exact shift1_vr (m:=m) hF hb h hx
theorem shift_vr {w':World} {L' L2:Lay} {news:List AObj} (hF:∀ b,L'.F b->L2.F b) (hb:∀ id,L2.blk (id+objs.length)=L'.blk id) {m:Nat} {x:AV} {v:Value} (h:VR w' L' news x v) (hx:x.inn m=true) :
 VR w' L2 (objs++news.map (AObj.shiftO objs.length)) (x.shift objs.length) v:=by
 cases x with
 | agg cs =>
  obtain ⟨vs,rfl,hl,h1,hr⟩:=h.agg_inv
  refine .agg _ _ (by simpa using hl) h1 fun i hi h2=>?_
  rw [List.getElem_map]
  exact shift1_vr hF hb (hr i (by simpa using hi) h2) (List.all_eq_true.1 hx _ (List.getElem_mem _))
 | tup cs =>
  obtain ⟨vs,rfl,hl,hr⟩:=h.tup_inv
  refine .tup _ _ (by simpa using hl) fun i hi h2=>?_
  rw [List.getElem_map]
  exact shiftA_vr hF hb (hr i (by simpa using hi) h2) (List.all_eq_true.1 hx _ (List.getElem_mem _))
 | clo fn cs =>
  obtain ⟨vs,rfl,hl,hr⟩:=h.clo_inv
  refine .clo _ _ _ (by simpa using hl) fun i hi h2=>?_
  rw [List.getElem_map]
  exact shift1_vr hF hb (hr i (by simpa using hi) h2) (List.all_eq_true.1 hx _ (List.getElem_mem _))
 | _=>exact shift1_vr (m:=m) hF hb h hx
theorem shift_cells (k:Nat) (x:AV):(x.shift k).cells.length=x.cells.length/\∀ j (h:j<x.cells.length) (h2:j<(x.shift k).cells.length),(x.shift k).cells[j]=(x.cells[j]).shift k \/ ∃ cs,x = .agg cs/\(x.shift k).cells[j]=(x.cells[j]).shift1 k:=by
 cases x with
 | agg cs=>exact ⟨by simp [AV.shift,AV.cells],fun j h h2=>.inr ⟨cs,rfl,by simp [AV.shift,AV.cells]⟩⟩
 | _ =>
  refine ⟨rfl,fun j h h2=>.inl ?_⟩
  have:j=0:=by simp [AV.cells] at h;omega
  subst this;rfl
theorem new_out {w':World} {L':Lay} {news:List AObj} (g:Good F0 w0 w L objs) (g':Good ⟨L.F,(· < w.heap.size),[]⟩ w w' L' news) (hp:(news.all AObj.plain)=true) (hi:(news.all fun o=>o.innO news.length)=true) :
 ∃ L2,Good F0 w0 w' L2 (objs++news.map (AObj.shiftO objs.length))/\Later w L objs w' L2 (objs++news.map (AObj.shiftO objs.length))/\∀ x v,VR w' L' news x v->x.inn news.length=true->VR w' L2 (objs++news.map (AObj.shiftO objs.length)) (x.shift objs.length) v:=by
 have hx:=g'.ext.ext
 let L2:Lay:=⟨fun b=>L.F b \/ L'.F b,fun id=>if id<objs.length then L.blk id else L'.blk (id-objs.length)⟩
 have b1:∀ id,id<objs.length->L2.blk id=L.blk id:=fun id h=>if_pos h
 have b2:∀ id,¬ id<objs.length->L2.blk id=L'.blk (id-objs.length):=fun id h=>if_neg h
 have b3:∀ id,L2.blk (id+objs.length)=L'.blk id:=fun id=>by rw [b2 _ (by omega),Nat.add_sub_cancel]
 have hF2:∀ b,L'.F b->L2.F b:=fun b h=>Or.inr h
 have HL:Later w L objs w' L2 (objs++news.map (AObj.shiftO objs.length)) :=
  ⟨fun b hF hb=>⟨hx.block b hb,.inl hF⟩,fun _ _ h=>stale_app _ h,fun _ _ _ h=>.inr ⟨live_app _ h,b1 _ (live_lt h)⟩⟩
 refine ⟨L2,⟨fun id o ho=>?_,fun id hid=>?_,fun i j b o n o' n' h1 h2=>?_,fun id b o n hbk=>?_,fun b hF=>?_,g.ext.then hx,g.gl.stay HL.wk⟩,HL,fun x v h hin=>shift_vr hF2 b3 h hin⟩
 ·by_cases hlt:id<objs.length
  ·rw [List.getElem?_append_left hlt] at ho
   have:=g.obj id o ho
   cases o with
   | void=>unfold OR at this ⊢;rw [b1 id hlt];exact this
   | dead=>unfold OR at this ⊢;rw [b1 id hlt];exact this
   | probe k st li bk ps=>exact this.probe_stay HL (b1 id hlt)
   | arr gen size elem xs =>
    unfold OR at this ⊢
    rw [b1 id hlt]
    cases hbk:L.blk id with
    | none=>rw [hbk] at this;exact this
    | some q =>
     obtain ⟨b,o',n⟩:=q
     rw [hbk] at this
     obtain ⟨cur,hc,hn,hr⟩:=this
     exact ⟨cur,hc.tr (hx.block b (g.own _ _ _ _ hbk).2.2),hn,hr.stay HL⟩
  ·rw [List.getElem?_append_right (by omega),List.getElem?_map,Option.map_eq_some_iff] at ho
   obtain ⟨o1,ho1,rfl⟩:=ho
   have:=g'.obj _ _ ho1
   have hpl:=List.all_eq_true.1 hp _ (List.mem_of_getElem? ho1)
   have hin:=List.all_eq_true.1 hi _ (List.mem_of_getElem? ho1)
   cases o1 with
   | void=>unfold OR at this ⊢;simp only [AObj.shiftO];rw [b2 id hlt];exact this
   | dead=>unfold OR at this ⊢;simp only [AObj.shiftO];rw [b2 id hlt];exact this
   | probe k st li bk ps=>cases hpl
   | arr gen size elem xs =>
    unfold OR at this ⊢
    simp only [AObj.shiftO]
    rw [b2 id hlt]
    cases hbk:L'.blk (id-objs.length) with
    | none=>rw [hbk] at this;subst this;rfl
    | some q =>
     obtain ⟨b,o',n⟩:=q
     rw [hbk] at this
     obtain ⟨cur,hc,hn,hr1,hr2⟩:=this
     refine ⟨cur,hc,hn,by simpa using hr1,fun i hi'=>?_⟩
     rw [List.length_map] at hi'
     obtain ⟨hs,hr3⟩:=hr2 i hi'
     have hxi:(xs[i]).inn news.length=true:=List.all_eq_true.1 hin _ (List.getElem_mem _)
     rw [List.getElem_map]
     obtain ⟨c1,c2⟩:=shift_cells objs.length xs[i]
     refine ⟨c1.trans hs,fun j hj=>?_⟩
     obtain ⟨u,hu,ho1',hv⟩:=hr3 j (by rw [<-c1];exact hj)
     refine ⟨u,hu,ho1',?_⟩
     rcases c2 j (by rw [<-c1];exact hj) hj with e | ⟨cs,e1,e2⟩
     ·rw [e];exact shift_vr hF2 b3 hv (below_cells hxi _ (List.getElem_mem _))
     ·rw [e2]
      refine shift1_vr (m:=news.length) hF2 b3 hv ?_
      generalize xs[i]=x at *
      subst e1
      exact List.all_eq_true.1 hxi _ (List.getElem_mem _)
 ·rw [List.length_append,List.length_map] at hid
  rw [b2 id (by omega)]
  exact g'.out _ (by omega)
 ·have low:∀ {i b o n},L.blk i=some (b,o,n)->b<w.heap.size:=fun h=>(g.own _ _ _ _ h).2.2
  have high:∀ {i b o n},L'.blk i=some (b,o,n)->¬ b<w.heap.size:=fun h=>(g'.own _ _ _ _ h).2.1
  by_cases hi1:i<objs.length <;> by_cases hj1:j<objs.length
  ·rw [b1 i hi1] at h1;rw [b1 j hj1] at h2;exact g.inj _ _ _ _ _ _ _ h1 h2
  ·rw [b1 i hi1] at h1;rw [b2 j hj1] at h2;exact absurd (low h1) (high h2)
  ·rw [b2 i hi1] at h1;rw [b1 j hj1] at h2;exact absurd (low h2) (high h1)
  ·rw [b2 i hi1] at h1;rw [b2 j hj1] at h2
   have:=g'.inj _ _ _ _ _ _ _ h1 h2
   omega
 ·by_cases hi1:id<objs.length
  ·rw [b1 id hi1] at hbk
   have h1:=g.own _ _ _ _ hbk
   refine ⟨fun hF=>hF.elim h1.1 fun hF=>?_,h1.2.1,Nat.lt_of_lt_of_le h1.2.2 hx.size⟩
   rcases (g'.old b hF).1 with h2 | h2
   ·exact h1.1 h2
   ·exact h2 h1.2.2
  ·rw [b2 id hi1] at hbk
   have h1:=g'.own _ _ _ _ hbk
   exact ⟨fun hF=>hF.elim (fun hF=>h1.2.1 (g.old b hF).2) h1.1,g.fresh (Nat.le_of_not_lt h1.2.1),h1.2.2⟩
 ·rcases hF with hF | hF
  ·have h1:=g.old b hF
   exact ⟨h1.1,Nat.lt_of_lt_of_le h1.2 hx.size⟩
  ·have h1:=g'.old b hF
   refine ⟨?_,h1.2⟩
   rcases h1.1 with h2 | h2
   ·exact (g.old b h2).1
   ·exact .inr (g.fresh (Nat.le_of_not_lt h2))
def AV.flatO1:AV->Bool
 | .val _ | .own .. | .ref .. | .mref ..=>true
 | _=>false
def AV.flatO:AV->Bool
 | .agg cs=>cs.all AV.flatO1
 | .tup cs=>cs.all AV.flatO1
 | x=>x.flatO1
def AObj.flat:AObj->Bool
 | .arr _ _ _ xs=>xs.all AV.flatO
 | .probe ..=>false
 | _=>true
theorem flatO1_vr {L':Lay} (hb:L'.blk=L.blk) {x:AV} {v:Value} (h:VR w L objs x v) (hx:x.flatO1=true):VR w L' objs x v:=by
 cases h with
 | tree h =>
  cases x <;> first | (cases hx;done) | (cases h;done) | skip
  cases h;exact .tree (.val _)
 | ownS id g o l v h=>exact .ownS _ _ _ _ _ h
 | ownN id g o ad s h=>exact .ownN _ _ _ _ s h
 | ownL id g o l cap s b o' n h hn hc hm hr=>exact .ownL _ _ _ _ _ _ _ _ _ h (by rw [hb];exact hn) hc hm hr
 | refS id g e c v h=>exact .refS _ _ _ _ _ h
 | refL id g e c s b o n h hn=>exact .refL _ _ _ _ _ _ _ _ h (by rw [hb];exact hn)
 | mapS id g v h=>exact .mapS _ _ _ h
 | mapL id g s b o n h hn=>exact .mapL _ _ _ _ _ _ h (by rw [hb];exact hn)
 | _=>cases hx
theorem flatO_vr {L':Lay} (hb:L'.blk=L.blk) {x:AV} {v:Value} (h:VR w L objs x v) (hx:x.flatO=true):VR w L' objs x v:=by
 cases x with
 | agg cs =>
  obtain ⟨vs,rfl,hl,h1,hr⟩:=h.agg_inv
  exact .agg _ _ hl h1 fun i hi h2=>flatO1_vr hb (hr i hi h2) (List.all_eq_true.1 hx _ (List.getElem_mem _))
 | tup cs =>
  obtain ⟨vs,rfl,hl,hr⟩:=h.tup_inv
  exact .tup _ _ hl fun i hi h2=>flatO1_vr hb (hr i hi h2) (List.all_eq_true.1 hx _ (List.getElem_mem _))
 | _=>exact flatO1_vr hb h hx
theorem flatO_cells {x:AV} (hx:x.flatO=true):∀ c ∈ x.cells,c.flatO=true:=by
 intro c hc
 cases x with
 | agg cs =>
  have:=List.all_eq_true.1 hx c hc
  cases c <;> first | rfl | cases this
 | _=>simp only [AV.cells,List.mem_singleton] at hc;subst hc;exact hx
theorem good_flat {F':Nat->Prop} (g:Good F0 w0 w L objs) (hf:(objs.all AObj.flat)=true) (hF':∀ b,L.F b->Globs.tab b ≠ []->F' b):Good { F0 with F:=F' } w0 w ⟨fun b=>L.F b/\Globs.tab b ≠ [],L.blk⟩ objs:=by
 refine ⟨fun id o ho=>?_,g.out,g.inj,fun id b o n h=>⟨fun hh=>(g.own id b o n h).1 hh.1,(g.own id b o n h).2⟩,fun b h=>⟨.inl (hF' b h.1 h.2),(g.old b h.1).2⟩,g.ext,fun b hb=>⟨⟨(g.gl b hb).1,hb⟩,(g.gl b hb).2⟩⟩
 have h1:=g.obj id o ho
 have h2:=List.all_eq_true.1 hf o (List.mem_of_getElem? ho)
 cases o with
 | void=>exact h1
 | dead=>exact h1
 | probe=>cases h2
 | arr gen size elem xs =>
  unfold OR at h1 ⊢
  show match L.blk id with | none=>_ | some (b,o,n)=>_
  cases hbk:L.blk id with
  | none=>rw [hbk] at h1;exact h1
  | some q =>
   obtain ⟨b,o',n⟩:=q
   rw [hbk] at h1
   obtain ⟨cur,hc,hn,hr1,hr2⟩:=h1
   refine ⟨cur,hc,hn,hr1,fun i hi=>⟨(hr2 i hi).1,fun j hj=>?_⟩⟩
   obtain ⟨u,h3,h4,h5⟩:=(hr2 i hi).2 j hj
   exact ⟨u,h3,h4,flatO_vr (L:=L) (L':=⟨fun b=>L.F b/\Globs.tab b ≠ [],L.blk⟩) rfl h5 (flatO_cells (List.all_eq_true.1 h2 _ (List.getElem_mem _)) _ (List.getElem_mem _))⟩
def AV.ren1 (σ : Nat->Nat):AV->AV
 | .own id g o l=>.own (σ id) g o l
 | .ref id g e c=>.ref (σ id) g e c
 | .mref id g=>.mref (σ id) g
 | x=>x
def AV.renA (σ : Nat->Nat):AV->AV
 | .agg cs=>.agg (cs.map (AV.ren1 σ))
 | x=>x.ren1 σ
def AV.ren (σ : Nat->Nat):AV->AV
 | .agg cs=>.agg (cs.map (AV.ren1 σ))
 | .tup cs=>.tup (cs.map (AV.renA σ))
 | .clo f cs=>.clo f (cs.map (AV.ren1 σ))
 | x=>x.ren1 σ
def AObj.renO (σ : Nat->Nat):AObj->AObj
 | .arr g s e xs=>.arr g s e (xs.map (AV.ren σ))
 | o=>o
def isArr (base:List AObj) (i:Nat):Bool:=match base[i]? with
 | some (.arr ..)=>true
 | _=>false
def AV.inR1 (base:List AObj):AV->Bool
 | .own id ..=>isArr base id
 | .ref id ..=>isArr base id
 | .mref id ..=>isArr base id
 | .clo _ cs=>cs.isEmpty
 | .agg _ | .tup _=>false
 | _=>true
def AV.inRA (base:List AObj):AV->Bool
 | .agg cs=>cs.all (AV.inR1 base)
 | x=>x.inR1 base
def AV.inR (base:List AObj):AV->Bool
 | .agg cs=>cs.all (AV.inR1 base)
 | .tup cs=>cs.all (AV.inRA base)
 | .clo _ cs=>cs.all (AV.inR1 base)
 | x=>x.inR1 base
def AObj.inRO (base:List AObj):AObj->Bool
 | .arr _ _ _ xs=>xs.all (AV.inR base)
 | .void=>true
 | _=>false
theorem isArr_some {base:List AObj} {i:Nat} (h:isArr base i=true):∃ g s e xs,base[i]? = some (.arr g s e xs):=by
 unfold isArr at h
 split at h
 ·exact ⟨_,_,_,_,by assumption⟩
 ·cases h
theorem isArr_of {base:List AObj} {i g s:Nat} {e:TypeId} {xs:List AV} (h:base[i]? = some (.arr g s e xs)):isArr base i=true:=by unfold isArr;rw [h]
theorem isArr_lt {base:List AObj} {i:Nat} (h:isArr base i=true):i<base.length:=by
 obtain ⟨_,_,_,_,h⟩:=isArr_some h
 exact (List.getElem?_eq_some_iff.1 h).1
structure Ren (σ : Nat->Nat) (base objs:List AObj):Prop where
 inj:∀ i j,isArr base i=true->isArr base j=true->σ i = σ j->i=j
 at_:∀ (i g s:Nat) (e:TypeId) (xs:List AV),base[i]? = some (AObj.arr g s e xs)->objs[σ i]? = some (AObj.arr g s e (xs.map (AV.ren σ)))
structure RenTo (σ : Nat->Nat) (base objs base' objs':List AObj):Prop where
 len:objs'.length=objs.length
 to_:∀ i,isArr base i=true->isArr base' i=true
 no_:∀ i,isArr base i=false->isArr base' i=false
 at_:∀ (i g s:Nat) (e:TypeId) (xs:List AV),base'[i]? = some (AObj.arr g s e xs)->objs'[σ i]? = some (AObj.arr g s e (xs.map (AV.ren σ)))
 fr:∀ k,(∀ i,isArr base i=true->σ i ≠ k)->objs'[k]? = objs[k]?
section
variable {σ : Nat -> Nat} {base : List AObj}
end
end
end Dak
namespace Dak
open Go Go.RowKit
variable [Globs]
end Dak
namespace Dak
open Go Go.RowKit
variable [Globs]
variable {P : Program} {F0 : FD} {w0 w : World} {L : Lay} {objs objs0 : List AObj} {nid : Nat}
end Dak
namespace Dak
open Go Go.RowKit
variable [Globs]
variable {P : Program} {F0 : FD} {w0 w : World} {L : Lay} {objs objs0 : List AObj} {nid : Nat}
end Dak
namespace Dak
open Go Go.RowKit
variable [Globs]
variable {P : Program} {F0 : FD} {w0 w : World} {L : Lay} {objs objs0 : List AObj} {nid : Nat}
end Dak
namespace Dak
open Go Go.RowKit
variable [Globs]
variable {P : Program} {F0 : FD} {w0 w : World} {L : Lay} {objs objs0 : List AObj} {nid : Nat}
end Dak
namespace Dak
open Go Go.RowKit
variable [Globs]
variable {P : Program} {F0 : FD} {w0 w : World} {L : Lay} {objs objs0 : List AObj} {nid : Nat}
end Dak
namespace Dak
open Go Go.RowKit
variable [Globs]
variable {P : Program} {F0 : FD} {w0 w : World} {L : Lay} {objs objs0 : List AObj} {nid : Nat}
end Dak
namespace Dak
open Go Go.RowKit
variable [Globs]
variable {P : Program} {F0 : FD} {w0 w : World} {L : Lay} {objs objs0 : List AObj} {nid : Nat}
variable {kt : TypeId} {c : Nat}
end Dak
