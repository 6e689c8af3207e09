/- Lemmas used by Shortest. -/
import Derived.Test.YtjilachpkjlhdaaKa
import Derived.Test.YtjilachpkjlhdaaKb
import Derived.Test.YtjilachpkjlhdaaKc
import Derived.Test.YtjilachpkjlhdaaKd
import Derived.Test.YtjilachpkjlhdaaKe
import Derived.Test.YtjilachpkjlhdaaKf
import Derived.Test.YtjilachpkjlhdaaKg
import Derived.Test.YtjilachpkjlhdaaKi
import Derived.Test.YtjilachpkjlhdaaKm
import Derived.Test.YtjilachpkjlhdaaKn
import Derived.Test.YtjilachpkjlhdaaProg
import Derived.WalkKit
import Derived.WalkSpells
import Derived.WalkLawsBesides
import Derived.Orders
import Derived.Laws.MakeOwn
import Derived.Deep.AppendSrc
import Derived.Lib.AppendZerosOnto
import Derived.Defers
import Derived.Laws.BytesString
import Derived.Laws.StructEq
import Derived.Scope
import Derived.Deep.LoopGhost
import Derived.OrdersIn
import Derived.ControlIn
import Derived.Sort.LoopGhostIn
import Derived.RangeFuncLeaves
import Derived.RangeFuncRecord
import Derived.RangeFuncFrom
import Derived.RangeFuncNested
set_option linter.unusedSimpArgs false
set_option linter.unusedVariables false
set_option linter.unusedSectionVars false
set_option maxRecDepth 100000
namespace Go.Proofs.Ytjilachpkjlhdaa
open Dak
theorem f6:fnC Try.prog 6=some (c6,94,[(.tmp 4)]):=by kernel_rfl
end Go.Proofs.Ytjilachpkjlhdaa
namespace P5
theorem llt_irr:∀ u,¬ llt u u
 | []=>fun h=>h
 | x::u=>fun h=>by
  rcases h with h | ⟨_,h⟩
  ·exact Nat.lt_irrefl _ h
  ·exact llt_irr u h
theorem llt_trans:∀ {u v w:List Nat},llt u v->llt v w->llt u w
 | [],_,_,h,_=>h.elim
 | _::_,[],_,h,_=>h.elim
 | _::_,_::_,[],_,h=>h.elim
 | x::u,y::v,z::w,h,k=>by
  rcases h with h | ⟨rfl,h⟩
  ·rcases k with k | ⟨rfl,k⟩
   ·exact .inl (Nat.lt_trans h k)
   ·exact .inl h
  ·rcases k with k | ⟨rfl,k⟩
   ·exact .inl k
   ·exact .inr ⟨rfl,llt_trans h k⟩
theorem llt_tri:∀ {u v:List Nat},u.length=v.length->llt u v \/ u=v \/ llt v u
 | [],[],_=>.inr (.inl rfl)
 | [],_::_,h=>by simp at h
 | _::_,[],h=>by simp at h
 | x::u,y::v,h=>by
  rcases Nat.lt_trichotomy x y with e | rfl | e
  ·exact .inl (.inl e)
  ·rcases llt_tri (u:=u) (v:=v) (by simpa using h) with e | rfl | e
   ·exact .inl (.inr ⟨rfl,e⟩)
   ·exact .inr (.inl rfl)
   ·exact .inr (.inr (.inr ⟨rfl,e⟩))
  ·exact .inr (.inr (.inl e))
theorem wlt_irr (u:List Nat):¬ wlt u u:=fun h=>h.elim (Nat.lt_irrefl _) fun h=>llt_irr u h.2
theorem wlt_trans {u v w:List Nat} (h:wlt u v) (k:wlt v w):wlt u w:=by
 rcases h with h | ⟨h,h'⟩
 ·rcases k with k | ⟨k,_⟩
  ·exact .inl (Nat.lt_trans h k)
  ·exact .inl (k ▸ h)
 ·rcases k with k | ⟨k,k'⟩
  ·exact .inl (h ▸ k)
  ·exact .inr ⟨h.trans k,llt_trans h' k'⟩
theorem wlt_tri (u v:List Nat):wlt u v \/ u=v \/ wlt v u:=by
 rcases Nat.lt_trichotomy u.length v.length with e | e | e
 ·exact .inl (.inl e)
 ·rcases llt_tri e with h | h | h
  ·exact .inl (.inr ⟨e,h⟩)
  ·exact .inr (.inl h)
  ·exact .inr (.inr (.inr ⟨e.symm,h⟩))
 ·exact .inr (.inr (.inl e))
theorem wlt_app {u v:List Nat} (r:List Nat) (h:wlt u v):wlt (u++r) (v++r):=by
 rcases h with h | ⟨h,h'⟩
 ·exact .inl (by simp;exact h)
 ·exact .inr ⟨by simp [h],llt_app h'⟩
theorem wlt_snoc (u:List Nat) (x:Nat):wlt u (u++[x]):=.inl (by simp)
theorem wlt_of_pre {p r:List Nat}:p=p++r \/ wlt p (p++r):=by
 cases r with
 | nil=>exact .inl (by simp)
 | cons=>exact .inr (.inl (by simp))
theorem wlt_asymm {u v:List Nat} (h:wlt u v):¬ wlt v u:=fun k=>wlt_irr _ (wlt_trans h k)
theorem nat_least {P:Nat->Prop}:∀ (n:Nat),P n->∃ m,P m/\∀ k,k<m->¬ P k:=by
 intro n
 induction n using Nat.strongRecOn with
 | ind n ih =>
  intro h
  by_cases hk:∃ k,k<n/\P k
  ·obtain ⟨k,h1,h2⟩:=hk
   exact ih k h1 h2
  ·exact ⟨n,h,fun k h1 h2=>hk ⟨k,h1,h2⟩⟩
theorem llt_least:∀ (n:Nat) (P:List Nat->Prop),(∃ w,w.length=n/\P w)->∃ u,u.length=n/\P u/\∀ v,v.length=n->P v->¬ llt v u
 | 0,P,⟨w,hw,h⟩=>⟨w,hw,h,fun v hv _=>by
  have:v=[]:=List.eq_nil_of_length_eq_zero hv
  subst this
  exact fun h=>by cases w <;> exact h⟩
 | n+1,P,⟨w,hw,h⟩=>by
  obtain ⟨y,r,rfl⟩:∃ y r,w=y::r:=by cases w with
   | nil=>simp at hw
   | cons y r=>exact ⟨y,r,rfl⟩
  obtain ⟨x,⟨r',hr',hx⟩,hmin⟩:=nat_least (P:=fun x=>∃ r:List Nat,r.length=n/\P (x::r)) y ⟨r,by simpa using hw,h⟩
  obtain ⟨u,hu,hP,hl⟩:=llt_least n (fun r=>P (x::r)) ⟨r',hr',hx⟩
  refine ⟨x::u,by simp [hu],hP,fun v hv hPv=>?_⟩
  obtain ⟨z,s,rfl⟩:∃ z s,v=z::s:=by cases v with
   | nil=>simp at hv
   | cons z s=>exact ⟨z,s,rfl⟩
  have hs:s.length=n:=by simpa using hv
  rintro (hlt | ⟨rfl,hlt⟩)
  ·exact hmin z hlt ⟨s,hs,hPv⟩
  ·exact hl s hs hPv hlt
theorem wlt_least (P:List Nat->Prop) (h:∃ w,P w):∃ u,P u/\∀ v,P v->¬ wlt v u:=by
 obtain ⟨w,hw⟩:=h
 obtain ⟨n,⟨w',hn,hw'⟩,hmin⟩:=nat_least (P:=fun n=>∃ w:List Nat,w.length=n/\P w) w.length ⟨w,rfl,hw⟩
 obtain ⟨u,hu,hP,hl⟩:=llt_least n P ⟨w',hn,hw'⟩
 refine ⟨u,hP,fun v hv=>?_⟩
 rintro (h | ⟨h,h'⟩)
 ·exact hmin v.length (by omega) ⟨v,rfl,hv⟩
 ·exact hl v (by omega) hv h'
section
variable {K S : Type}
def srow (nx:K->Nat->K) (fr:K->S->Bool) (ad:S->K->S) (k:K) (w:List Int):List Nat->S->List (K × List Int) × S
 | [],z=>([],z)
 | x::xs,z=>if fr (nx k x) z then ((nx k x,w++[(x:Int)])::(srow nx fr ad k w xs (ad z (nx k x))).1,(srow nx fr ad k w xs (ad z (nx k x))).2)
  else srow nx fr ad k w xs (ad z (nx k x))
def sgo (nx:K->Nat->K) (fr:K->S->Bool) (ad:S->K->S) (goal:K->Bool) (sy:Nat):Nat->List (K × List Int)->S->Option (List Int)
 | 0,_,_=>none
 | _+1,[],_=>none
 | f+1,(k,w)::l,z=>if goal k then some w else
  sgo nx fr ad goal sy f (l++(srow nx fr ad k w (List.range sy) z).1) (srow nx fr ad k w (List.range sy) z).2
structure Srch {Q:Type} (nx:K->Nat->K) (fr:K->S->Bool) (ad:S->K->S) (goal:K->Bool) (sy:Nat) (k0:K) (pt:K->Q->Prop) (lq:List Nat->Q->Prop) (G:K->Prop) (Z:S->Prop) (sn:S->Q->Prop) (m:S->Nat):Prop where
 g0:G k0
 gs:∀ k x,G k->x<sy->G (nx k x)
 goalI:∀ k,G k->(goal k=true ↔ ∃ q,pt k q/\lq [] q)
 step:∀ k x w,G k->x<sy->((∃ q,pt (nx k x) q/\lq w q) ↔ ∃ q,pt k q/\lq (x::w) q)
 lett:∀ w q,lq w q->∀ x ∈ w,x<sy
 frI:∀ t z,G t->Z z->(fr t z=true ↔ ∃ q,pt t q/\¬ sn z q)
 snI:∀ t z q,G t->Z z->(sn (ad z t) q ↔ sn z q \/ pt t q)
 zs:∀ t z,G t->Z z->Z (ad z t)
 m1:∀ t z,G t->Z z->fr t z=true->m (ad z t)+1<=m z
 m0:∀ t z,G t->Z z->fr t z=false->m (ad z t)<=m z
variable {Q : Type} {nx : K -> Nat -> K} {fr : K -> S -> Bool} {ad : S -> K -> S} {goal : K -> Bool} {sy : Nat} {k0 : K} {pt : K -> Q -> Prop} {lq : List Nat -> Q -> Prop} {G : K -> Prop} {Z : S -> Prop} {sn : S -> Q -> Prop} {m : S -> Nat}
abbrev keyF (nx:K->Nat->K) (k0:K) (v:List Nat):K × List Int:=(v.foldl nx k0,wI v)
theorem keyF_snoc (v:List Nat) (x:Nat):keyF nx k0 (v++[x])=(nx (v.foldl nx k0) x,wI v++[(x:Int)]):=by
 rw [keyF,List.foldl_append,wI_snoc];rfl
theorem Srch.good (H:Srch nx fr ad goal sy k0 pt lq G Z sn m):∀ (v:List Nat) (k:K),G k->(∀ x ∈ v,x<sy)->G (v.foldl nx k)
 | [],_,h,_=>h
 | x::v,k,h,hv=>H.good v (nx k x) (H.gs k x h (hv x (by simp))) fun y hy=>hv y (by simp [hy])
theorem Srch.split (H:Srch nx fr ad goal sy k0 pt lq G Z sn m) (r:List Nat):∀ (v:List Nat) (k:K),G k->(∀ x ∈ v,x<sy)->((∃ q,pt (v.foldl nx k) q/\lq r q) ↔ ∃ q,pt k q/\lq (v++r) q)
 | [],_,_,_=>Iff.rfl
 | x::v,k,h,hv=>(H.split r v (nx k x) (H.gs k x h (hv x (by simp))) fun y hy=>hv y (by simp [hy])).trans (H.step k x (v++r) h (hv x (by simp)))
def RW (a b:List Nat):Prop:=wlt a b/\∀ y,wlt b (a++[y])
structure SInv (sy:Nat) (nx:K->Nat->K) (k0:K) (pt:K->Q->Prop) (Z:S->Prop) (sn:S->Q->Prop) (u:List Nat) (vs:List (List Nat)) (z:S):Prop where
 srt:vs.Pairwise RW
 good:∀ v ∈ vs,∀ x ∈ v,x<sy
 zok:Z z
 seen:∀ q,sn z q->∃ v:List Nat,(∀ x ∈ v,x<sy)/\pt (v.foldl nx k0) q/\∀ v' ∈ vs,∀ y,wlt v (v'++[y])
 hit:∃ p r,u=p++r/\p ∈ vs
theorem srow_inv (H:Srch nx fr ad goal sy k0 pt lq G Z sn m) {u:List Nat} (hu:∃ q,pt k0 q/\lq u q) (hmin:∀ v,(∃ q,pt k0 q/\lq v q)->¬ wlt v u) {v1:List Nat} (h1:∀ x ∈ v1,x<sy) :
 ∀ (xs:List Nat) (vs:List (List Nat)) (z:S),xs.Pairwise (· < ·)->(∀ x ∈ xs,x<sy)->vs.Pairwise RW->(∀ v ∈ vs,∀ x ∈ v,x<sy)->Z z ->
 (∀ v ∈ vs,∀ x ∈ xs,RW v (v1++[x])) ->
 (∀ q,sn z q->∃ v:List Nat,(∀ x ∈ v,x<sy)/\pt (v.foldl nx k0) q/\(∀ v' ∈ vs,∀ y,wlt v (v'++[y]))/\∀ x ∈ xs,wlt v (v1++[x])) ->
 ((∃ p r,u=p++r/\p ∈ vs) \/ ∃ x r,x ∈ xs/\u=v1++x::r) ->
 ∃ new,(srow nx fr ad (v1.foldl nx k0) (wI v1) xs z).1=new.map (keyF nx k0)/\SInv sy nx k0 pt Z sn u (vs++new) (srow nx fr ad (v1.foldl nx k0) (wI v1) xs z).2/\new.length+m (srow nx fr ad (v1.foldl nx k0) (wI v1) xs z).2<=m z
 | [],vs,z,_,_,a1,a2,a3,_,a5,a6=>by
  refine ⟨[],rfl,⟨by simpa using a1,by simpa using a2,a3,fun q hq=>?_,?_⟩,by simp [srow]⟩
  ·obtain ⟨v,b1,b2,b3,_⟩:=a5 q hq
   exact ⟨v,b1,b2,by simpa using b3⟩
  ·rcases a6 with h | ⟨x,_,h,_⟩
   ·simpa using h
   ·simp at h
 | x::xs,vs,z,hp,hx,a1,a2,a3,a4,a5,a6=>by
  have hxs:x<sy:=hx x (by simp)
  have hg1:G (v1.foldl nx k0):=H.good v1 k0 H.g0 h1
  have ht:G (nx (v1.foldl nx k0) x):=H.gs _ _ hg1 hxs
  have h1x:∀ y ∈ v1++[x],y<sy:=fun y hy=>by
   rcases List.mem_append.1 hy with h | h
   ·exact h1 y h
   ·rw [List.mem_singleton.1 h];exact hxs
  have hfx:(v1++[x]).foldl nx k0=nx (v1.foldl nx k0) x:=by rw [List.foldl_append];rfl
  have hp1:=(List.pairwise_cons.1 hp).1
  have hp2:=(List.pairwise_cons.1 hp).2
  have hz:Z (ad z (nx (v1.foldl nx k0) x)):=H.zs _ _ ht a3
  by_cases hf:fr (nx (v1.foldl nx k0) x) z=true
  ·obtain ⟨new,e1,e2,e3⟩:=srow_inv H hu hmin h1 xs (vs++[v1++[x]]) (ad z (nx (v1.foldl nx k0) x)) hp2 (fun y hy=>hx y (by simp [hy]))
    (by
     rw [List.pairwise_append]
     refine ⟨a1,by simp,fun v hv w hw=>?_⟩
     rw [List.mem_singleton.1 hw]
     exact a4 v hv x (by simp))
    (fun v hv=>by
     rcases List.mem_append.1 hv with h | h
     ·exact a2 v h
     ·rw [List.mem_singleton.1 h];exact h1x)
    hz
    (fun v hv y hy=>by
     rcases List.mem_append.1 hv with h | h
     ·exact a4 v h y (by simp [hy])
     ·rw [List.mem_singleton.1 h]
      exact ⟨wlt_last v1 (hp1 y hy),fun k=>.inl (by simp)⟩)
    (fun q hq=>by
     rcases (H.snI _ _ q ht a3).1 hq with h | h
     ·obtain ⟨v,b1,b2,b3,b4⟩:=a5 q h
      refine ⟨v,b1,b2,fun v' hv' y=>?_,fun y hy=>b4 y (by simp [hy])⟩
      rcases List.mem_append.1 hv' with h' | h'
      ·exact b3 v' h' y
      ·rw [List.mem_singleton.1 h']
       exact wlt_trans (b4 x (by simp)) (wlt_snoc _ y)
     ·refine ⟨v1++[x],h1x,by rw [hfx];exact h,fun v' hv' y=>?_,fun y hy=>wlt_last v1 (hp1 y hy)⟩
      rcases List.mem_append.1 hv' with h' | h'
      ·exact (a4 v' h' x (by simp)).2 y
      ·rw [List.mem_singleton.1 h']
       exact wlt_snoc _ y)
    (by
     rcases a6 with ⟨p,r,h,h'⟩ | ⟨y,r,h,h'⟩
     ·exact .inl ⟨p,r,h,by simp [h']⟩
     ·rcases List.mem_cons.1 h with rfl | h
      ·exact .inl ⟨v1++[y],r,by rw [h'];simp,by simp⟩
      ·exact .inr ⟨y,r,h,h'⟩)
   refine ⟨(v1++[x])::new,?_,?_,?_⟩
   ·rw [srow,if_pos hf,List.map_cons,keyF_snoc]
    simp only [e1]
   ·rw [srow,if_pos hf]
    simp only
    rw [List.append_cons]
    exact e2
   ·have:=H.m1 _ _ ht a3 hf
    rw [srow,if_pos hf]
    simp only [List.length_cons]
    omega
  ·have hfb:fr (nx (v1.foldl nx k0) x) z=false:=by simpa using hf
   have hin:∀ q,pt (nx (v1.foldl nx k0) x) q->sn z q:=fun q hq=>by
    refine Classical.byContradiction fun hc=>hf ((H.frI _ _ ht a3).2 ⟨q,hq,hc⟩)
   obtain ⟨new,e1,e2,e3⟩:=srow_inv H hu hmin h1 xs vs (ad z (nx (v1.foldl nx k0) x)) hp2 (fun y hy=>hx y (by simp [hy])) a1 a2 hz
    (fun v hv y hy=>a4 v hv y (by simp [hy]))
    (fun q hq=>by
     have h:sn z q:=((H.snI _ _ q ht a3).1 hq).elim id (hin q)
     obtain ⟨v,b1,b2,b3,b4⟩:=a5 q h
     exact ⟨v,b1,b2,b3,fun y hy=>b4 y (by simp [hy])⟩)
    (by
     rcases a6 with h | ⟨y,r,h,h'⟩
     ·exact .inl h
     ·rcases List.mem_cons.1 h with rfl | h
      ·exfalso
       have hs:u=(v1++[y])++r:=by rw [h'];simp
       obtain ⟨q,hq1,hq2⟩:=(H.split r (v1++[y]) k0 H.g0 h1x).2 (by rw [<-hs];exact hu)
       rw [hfx] at hq1
       obtain ⟨v,b1,b2,_,b4⟩:=a5 q (hin q hq1)
       have hacc:=(H.split r v k0 H.g0 b1).1 ⟨q,b2,hq2⟩
       refine hmin _ hacc ?_
       rw [hs]
       exact wlt_app r (b4 y (by simp))
      ·exact .inr ⟨y,r,h,h'⟩)
   refine ⟨new,?_,?_,?_⟩
   ·rw [srow,if_neg hf];exact e1
   ·rw [srow,if_neg hf];exact e2
   ·have:=H.m0 _ _ ht a3 hfb
    rw [srow,if_neg hf]
    omega
theorem sgo_inv (H:Srch nx fr ad goal sy k0 pt lq G Z sn m) {u:List Nat} (hu:∃ q,pt k0 q/\lq u q) (hmin:∀ v,(∃ q,pt k0 q/\lq v q)->¬ wlt v u) :
 ∀ (f:Nat) (vs:List (List Nat)) (z:S),SInv sy nx k0 pt Z sn u vs z->vs.length+m z+1<=f->sgo nx fr ad goal sy f (vs.map (keyF nx k0)) z=some (wI u)
 | 0,_,_,_,hf=>by omega
 | f+1,vs,z,hi,hf=>by
  obtain ⟨p,r,hpr,hp⟩:=hi.hit
  cases vs with
  | nil=>simp at hp
  | cons v1 vs =>
   have h1:=hi.good v1 (by simp)
   have hg:=H.good v1 k0 H.g0 h1
   rw [List.map_cons,sgo]
   by_cases hG:goal (v1.foldl nx k0)=true
   ·rw [if_pos hG]
    obtain ⟨q,b1,b2⟩:=(H.goalI _ hg).1 hG
    have hacc:=(H.split [] v1 k0 H.g0 h1).1 ⟨q,b1,b2⟩
    rw [List.append_nil] at hacc
    have hle:v1=p \/ wlt v1 p:=by
     rcases List.mem_cons.1 hp with rfl | h
     ·exact .inl rfl
     ·exact .inr ((List.pairwise_cons.1 hi.srt).1 p h).1
    have hpu:p=u \/ wlt p u:=by
     rcases wlt_of_pre (p:=p) (r:=r) with h | h
     ·exact .inl (by rw [hpr];exact h)
     ·exact .inr (by rw [hpr];exact h)
    have:v1=u:=by
     rcases hle with rfl | h
     ·rcases hpu with h | h
      ·exact h
      ·exact absurd h (hmin _ hacc)
     ·rcases hpu with rfl | h'
      ·exact absurd h (hmin _ hacc)
      ·exact absurd (wlt_trans h h') (hmin _ hacc)
    rw [this]
   ·rw [if_neg hG]
    have hs:=hi.srt
    rw [List.pairwise_cons] at hs
    obtain ⟨new,e1,e2,e3⟩:=srow_inv H hu hmin h1 (List.range sy) vs z (range_lt sy) (fun x hx=>List.mem_range.1 hx) hs.2 (fun v hv=>hi.good v (by simp [hv])) hi.zok
     (fun v hv x _=>⟨(hs.1 v hv).2 x,fun y=>wlt_snoc2 x y (hs.1 v hv).1⟩)
     (fun q hq=>by
      obtain ⟨v,b1,b2,b3⟩:=hi.seen q hq
      exact ⟨v,b1,b2,fun v' hv'=>b3 v' (by simp [hv']),fun x _=>b3 v1 (by simp) x⟩)
     (by
      rcases List.mem_cons.1 hp with rfl | h
      ·cases r with
       | nil =>
        exfalso
        rw [List.append_nil] at hpr
        subst hpr
        refine hG ((H.goalI _ hg).2 ((H.split [] u k0 H.g0 h1).2 ?_))
        rw [List.append_nil];exact hu
       | cons x r =>
        obtain ⟨q,_,hq⟩:=hu
        exact .inr ⟨x,r,List.mem_range.2 (H.lett u q hq x (by rw [hpr];simp)),hpr⟩
      ·exact .inl ⟨p,r,hpr,h⟩)
    rw [e1,<-List.map_append]
    refine sgo_inv H hu hmin f _ _ e2 ?_
    simp only [List.length_cons,List.length_append] at hf ⊢
    omega
theorem srow_map (H:Srch nx fr ad goal sy k0 pt lq G Z sn m) {v1:List Nat} (h1:∀ x ∈ v1,x<sy):∀ (xs:List Nat) (z:S),(∀ x ∈ xs,x<sy)->∃ new:List (List Nat),(srow nx fr ad (v1.foldl nx k0) (wI v1) xs z).1=new.map (keyF nx k0)/\∀ v ∈ new,∀ x ∈ v,x<sy
 | [],z,_=>⟨[],rfl,by simp⟩
 | x::xs,z,hx=>by
  obtain ⟨new,e1,e2⟩:=srow_map H h1 xs (ad z (nx (v1.foldl nx k0) x)) fun y hy=>hx y (by simp [hy])
  by_cases hf:fr (nx (v1.foldl nx k0) x) z=true
  ·refine ⟨(v1++[x])::new,?_,fun v hv=>?_⟩
   ·rw [srow,if_pos hf,List.map_cons,keyF_snoc]
    simp only [e1]
   ·rcases List.mem_cons.1 hv with rfl | h
    ·intro y hy
     rcases List.mem_append.1 hy with h | h
     ·exact h1 y h
     ·rw [List.mem_singleton.1 h];exact hx x (by simp)
    ·exact e2 v h
  ·exact ⟨new,by rw [srow,if_neg hf];exact e1,e2⟩
theorem sgo_some (H:Srch nx fr ad goal sy k0 pt lq G Z sn m):∀ (f:Nat) (vs:List (List Nat)) (z:S),(∀ v ∈ vs,∀ x ∈ v,x<sy)->∀ w,sgo nx fr ad goal sy f (vs.map (keyF nx k0)) z=some w->∃ q v,w=wI v/\pt k0 q/\lq v q
 | 0,_,_,_,w,h=>by simp [sgo] at h
 | f+1,[],_,_,w,h=>by simp [sgo] at h
 | f+1,v1::vs,z,hv,w,h=>by
  have h1:=hv v1 (by simp)
  have hg:=H.good v1 k0 H.g0 h1
  rw [List.map_cons,sgo] at h
  by_cases hG:goal (v1.foldl nx k0)=true
  ·rw [if_pos hG] at h
   have hacc:=(H.split [] v1 k0 H.g0 h1).1 ((H.goalI _ hg).1 hG)
   rw [List.append_nil] at hacc
   obtain ⟨q,a,b⟩:=hacc
   exact ⟨q,v1,(Option.some.inj h).symm,a,b⟩
  ·rw [if_neg hG] at h
   obtain ⟨new,e1,e2⟩:=srow_map H h1 (List.range sy) z fun x hx=>List.mem_range.1 hx
   rw [e1,<-List.map_append] at h
   refine sgo_some H f _ _ (fun v hv'=>?_) w h
   rcases List.mem_append.1 hv' with h' | h'
   ·exact hv v (by simp [h'])
   ·exact e2 v h'
theorem first_word (H:Srch nx fr ad goal sy k0 pt lq G Z sn m) {z:S} (hz:Z z) (h0:∀ q,sn z q->pt k0 q) {f:Nat} (hf:m z+2<=f) :
 (sgo nx fr ad goal sy f [(k0,[])] z=none/\∀ w,¬ ∃ q,pt k0 q/\lq w q) \/ ∃ u,sgo nx fr ad goal sy f [(k0,[])] z=some (wI u)/\(∃ q,pt k0 q/\lq u q)/\∀ v,(∃ q,pt k0 q/\lq v q)->¬ wlt v u:=by
 have e0 : [(k0,[])]=([[]]:List (List Nat)).map (keyF nx k0):=rfl
 by_cases hw:∃ w,∃ q,pt k0 q/\lq w q
 ·obtain ⟨u,hu,hmin⟩:=wlt_least (fun w=>∃ q,pt k0 q/\lq w q) hw
  refine .inr ⟨u,?_,hu,hmin⟩
  rw [e0]
  refine sgo_inv H hu hmin f [[]] z ⟨by simp,by simp,hz,fun q hq=>⟨[],by simp,h0 q hq,fun v' hv' y=>?_⟩,⟨[],u,rfl,by simp⟩⟩ (by simp;omega)
  rw [List.mem_singleton.1 hv']
  exact .inl (by simp)
 ·refine .inl ⟨?_,fun w h=>hw ⟨w,h⟩⟩
  cases e:sgo nx fr ad goal sy f [(k0,[])] z with
  | none=>rfl
  | some w =>
   rw [e0] at e
   obtain ⟨q,v,_,a,b⟩:=sgo_some H f [[]] z (by simp) w e
   exact absurd ⟨v,q,a,b⟩ hw
end
end P5
namespace P5
theorem cl_idem {n:Nat} {r:Nat->Nat->Bool} {s:List Bool} (hl:s.length=n):cl n r (cl n r s)=cl n r s:=by
 have h:=cl_is (r:=r) hl
 exact (cl_is h.len).uniq ⟨h.len,fun _ h=>h,h.clo,fun P h1 _ j hj=>h1 j hj⟩
theorem cl_mono {n:Nat} {r:Nat->Nat->Bool} {s t:List Bool} (hs:s.length=n) (ht:t.length=n) (h:∀ i,bt s i=true->bt (cl n r t) i=true) (j:Nat) (hj:bt (cl n r s) j=true):bt (cl n r t) j=true :=
 (cl_is hs).least (fun j=>bt (cl n r t) j=true) h (fun i j hi hr _ hjn=>(cl_is ht).clo i j hi hr hjn) j hj
structure ClosS (a:Au) (s:List Bool):Prop where
 len:s.length=a.acc.length
 clo:clA a s=s
theorem clos_after (a:Au) (s:List Bool) (x:Int):ClosS a (afterA a s x):=⟨afterA_len _ _ _,cl_idem (imgA_len _ _ _)⟩
theorem clos_one (a:Au) (q:Nat):ClosS a (clA a (oneS a.acc.length q)):=⟨cl_len (oneS_len _ _),cl_idem (oneS_len _ _)⟩
theorem clos_first (a:Au):ClosS a (firstA a):=clos_one a 0
theorem one_self {a:Au} {q:Nat} (h:q<a.acc.length):bt (clA a (oneS a.acc.length q)) q=true:=(cl_is (oneS_len _ _)).sub q (oneS_bt.2 ⟨h,rfl⟩)
theorem one_sub {a:Au} {s:List Bool} (h:ClosS a s) {q:Nat} (hq:bt s q=true) {j:Nat} (hj:bt (clA a (oneS a.acc.length q)) j=true):bt s j=true:=by
 rw [<-h.clo]
 refine cl_mono (oneS_len _ _) h.len (fun i hi=>?_) j hj
 rw [(oneS_bt.1 hi).2]
 exact (cl_is h.len).sub q hq
theorem after_split {a:Au} {s:List Bool} (h:ClosS a s) (x:Int) (j:Nat):bt (afterA a s x) j=true ↔ ∃ q,bt s q=true/\bt (afterA a (clA a (oneS a.acc.length q)) x) j=true:=by
 unfold afterA clA
 rw [cl_one (imgA_len _ _ _)]
 constructor
 ·rintro ⟨k,hk,hj⟩
  obtain ⟨hk0,e,he,h1,h2,h3⟩:=imgA_bt.1 hk
  refine ⟨e.1.toNat,h2,?_⟩
  rw [cl_one (imgA_len _ _ _)]
  have hlt:=bt_lt h2
  rw [h.len] at hlt
  exact ⟨k,imgA_bt.2 ⟨hk0,e,he,h1,one_self hlt,h3⟩,hj⟩
 ·rintro ⟨q,hq,hj⟩
  rw [cl_one (imgA_len _ _ _)] at hj
  obtain ⟨k,hk,hj⟩:=hj
  obtain ⟨hk0,e,he,h1,h2,h3⟩:=imgA_bt.1 hk
  exact ⟨k,imgA_bt.2 ⟨hk0,e,he,h1,one_sub h hq h2,h3⟩,hj⟩
theorem acceptsGo_split {a:Au}:∀ (w:List Int) {s:List Bool},ClosS a s->(acceptsGo a w s=true ↔ ∃ q,bt s q=true/\acceptsGo a w (clA a (oneS a.acc.length q))=true)
 | [],s,h=>by
  simp only [acceptsGo]
  constructor
  ·intro hm
   obtain ⟨i,h1,h2⟩:=meets_iff.1 hm
   have hlt:=bt_lt h1
   rw [h.len] at hlt
   exact ⟨i,h1,meets_iff.2 ⟨i,one_self hlt,h2⟩⟩
  ·rintro ⟨q,hq,hm⟩
   obtain ⟨i,h1,h2⟩:=meets_iff.1 hm
   exact meets_iff.2 ⟨i,one_sub h hq h1,h2⟩
 | x::w,s,h=>by
  simp only [acceptsGo]
  by_cases hx:x<0 \/ a.sy<=x
  ·simp [if_pos hx]
  ·simp only [if_neg hx]
   rw [acceptsGo_split w (clos_after a s x)]
   constructor
   ·rintro ⟨j,h1,h2⟩
    obtain ⟨q,hq,hj⟩:=(after_split h x j).1 h1
    exact ⟨q,hq,(acceptsGo_split w (clos_after a _ x)).2 ⟨j,hj,h2⟩⟩
   ·rintro ⟨q,hq,h1⟩
    obtain ⟨j,hj,h2⟩:=(acceptsGo_split w (clos_after a _ x)).1 h1
    exact ⟨j,(after_split h x j).2 ⟨q,hq,hj⟩,h2⟩
theorem accepts_lett {a:Au}:∀ (w:List Nat) (s:List Bool),acceptsGo a (wI w) s=true->∀ x ∈ w,(x:Int)<a.sy
 | [],_,_,_,hx=>by simp at hx
 | y::w,s,h,x,hx=>by
  rw [wI,List.map_cons,acceptsGo] at h
  by_cases hy:(y:Int)<0 \/ a.sy<=(y:Int)
  ·rw [if_pos hy] at h;cases h
  ·rw [if_neg hy] at h
   rcases List.mem_cons.1 hx with rfl | hx
   ·omega
   ·exact accepts_lett w _ h x hx
theorem shortRow_s (a:Au) (s:List Bool) (w:List Int):∀ (xs:List Nat) (z:List Bool),shortRow a s w xs z=srow (fun s x=>afterA a s (x:Int)) freshB orS s w xs z
 | [],_=>rfl
 | x::xs,z=>by
  rw [shortRow,srow]
  rw [shortRow_s a s w xs]
theorem shortGo_s (a:Au):∀ (f:Nat) (l:List (List Bool × List Int)) (z:List Bool),shortGo a f l z=sgo (fun s x=>afterA a s (x:Int)) freshB orS (fun s=>meets s a.acc) a.sy.toNat f l z
 | 0,_,_=>rfl
 | _+1,[],_=>rfl
 | f+1,(s,w)::l,z=>by
  rw [shortGo,sgo]
  simp only [shortRow_s]
  rw [shortGo_s a f]
theorem short_srch {a:Au} (hv:VA a):Srch (Q:=Nat) (fun s x=>afterA a s (x:Int)) freshB orS (fun s=>meets s a.acc) a.sy.toNat (firstA a)
 (fun s q=>bt s q=true) (fun w q=>acceptsGo a (wI w) (clA a (oneS a.acc.length q))=true) (ClosS a) (fun z=>z.length=a.acc.length) (fun z q=>bt z q=true) (fun z=>a.acc.length-cnt z) where
 g0:=clos_first a
 gs:=fun s x _ _=>clos_after a s x
 goalI:=fun s h=>by
  have:=acceptsGo_split [] h
  simpa only [acceptsGo,wI,List.map_nil] using this
 step:=fun s x w h hx=>by
  have hsy:=hv.sy
  have e:∀ s,acceptsGo a (wI (x::w)) s=acceptsGo a (wI w) (afterA a s (x:Int)):=fun s=>by
   rw [wI,List.map_cons,acceptsGo,if_neg (by omega)];rfl
  rw [<-acceptsGo_split (wI w) (clos_after a s (x:Int)),<-e,acceptsGo_split _ h]
 lett:=fun w q h x hx=>by have:=accepts_lett w _ h x hx;omega
 frI:=fun t z _ _=>freshB_iff
 snI:=fun t z q _ _=>orS_bt
 zs:=fun t z ht hz=>by simp only [orS_len,hz,ht.len,Nat.max_self]
 m1:=fun t z ht hz hf=>by
  obtain ⟨i,h1,h2⟩:=freshB_iff.1 hf
  have hl:(orS z t).length=a.acc.length:=by simp only [orS_len,hz,ht.len,Nat.max_self]
  have hm:=cnt_mono z (orS z t) (by rw [hz,hl]) (fun i hi=>orS_bt.2 (.inl hi))
  have hne:cnt z ≠ cnt (orS z t):=fun e=>by
   refine h2 ?_
   rw [hm.2 e]
   exact orS_bt.2 (.inr h1)
  have:=cnt_le (orS z t)
  have:=hm.1
  omega
 m0:=fun t z ht hz _=>by
  have hl:(orS z t).length=a.acc.length:=by simp only [orS_len,hz,ht.len,Nat.max_self]
  have hm:=cnt_mono z (orS z t) (by rw [hz,hl]) (fun i hi=>orS_bt.2 (.inl hi))
  omega
def FirstW (L:List Nat->Prop) (r:Option (List Int)):Prop:=(r=none/\∀ w,¬ L w) \/ ∃ u,r=some (wI u)/\L u/\∀ v,L v->¬ wlt v u
theorem FirstW.congr {L M:List Nat->Prop} {r:Option (List Int)} (h:FirstW L r) (e:∀ w,L w ↔ M w):FirstW M r:=by
 have:L=M:=funext fun w=>propext (e w)
 rwa [<-this]
theorem FirstW.uniq {L:List Nat->Prop} {r s:Option (List Int)} (h:FirstW L r) (k:FirstW L s):r=s:=by
 rcases h with ⟨rfl,h⟩ | ⟨u,rfl,hu,hmin⟩
 ·rcases k with ⟨rfl,_⟩ | ⟨u,rfl,hu,_⟩
  ·rfl
  ·exact absurd hu (h u)
 ·rcases k with ⟨rfl,k⟩ | ⟨v,rfl,hv,kmin⟩
  ·exact absurd hu (k u)
  ·rcases wlt_tri u v with h | rfl | h
   ·exact absurd h (kmin u hu)
   ·rfl
   ·exact absurd h (hmin v hv)
theorem shortest_first {a:Au} (hv:VA a):FirstW (fun w=>acceptsM a (wI w)=true) (shortestM a):=by
 have h0:=valid_VA.2 hv
 rw [shortestM,if_pos h0,shortGo_s]
 have hc:cnt (firstA a)<=a.acc.length:=by have:=cnt_le (firstA a);rwa [firstA_len] at this
 refine FirstW.congr (L:=fun w=>∃ q,bt (firstA a) q=true/\acceptsGo a (wI w) (clA a (oneS a.acc.length q))=true) (first_word (short_srch hv) (firstA_len a) (fun q h=>h) (by omega)) fun w=>?_
 rw [acceptsM,if_pos h0]
 exact (acceptsGo_split (wI w) (clos_first a)).symm
def langI (g:Gr) (i:Int) (w:List Nat):Bool:=if i<0 then false else lang g w i.toNat
theorem langI_step (g:Gr) (i:Int) (x:Nat) (w:List Nat):langI g (stepI g i x) w=langI g i (x::w):=by
 unfold langI stepI
 by_cases h:i<0
 ·rw [if_pos h,if_pos h,if_pos (by omega)]
 ·rw [if_neg h,if_neg h,lang]
theorem langI_nil (g:Gr) (i:Int):langI g i []=(decide (0<=i) && bt g.acc i.toNat):=by
 unfold langI
 by_cases h:i<0
 ·rw [if_pos h,decide_eq_false (by omega)];rfl
 ·rw [if_neg h,decide_eq_true (by omega),Bool.true_and];rfl
def addP (z:List PI) (t:PI):List PI:=if t ∈ z then z else z++[t]
def freshP (t:PI) (z:List PI):Bool:=decide (t ∉ z)
theorem apartRow_s (g h:Gr) (p:PI) (w:List Int):∀ (xs:List Nat) (z:List PI),apartRow g h p w xs z=srow (stepP g h) freshP addP p w xs z
 | [],_=>rfl
 | x::xs,z=>by
  rw [apartRow,srow]
  simp only [freshP,addP,decide_eq_true_eq]
  by_cases hm:stepP g h p x ∈ z
  ·rw [if_pos hm,if_neg (not_not_intro hm),if_pos hm,apartRow_s g h p w xs]
  ·rw [if_neg hm,if_pos hm,if_neg hm,apartRow_s g h p w xs]
theorem apartGo_s (g h:Gr):∀ (f:Nat) (l:List (PI × List Int)) (z:List PI),apartGo g h f l z=sgo (stepP g h) freshP addP (tellsI g h) g.sy f l z
 | 0,_,_=>rfl
 | _+1,[],_=>rfl
 | f+1,(p,w)::l,z=>by
  rw [apartGo,sgo]
  simp only [apartRow_s]
  rw [apartGo_s g h f]
theorem apart_srch {g h:Gr} (hg:GrOk g) (hh:GrOk h) (hs:g.sy=h.sy):Srch (Q:=PI) (stepP g h) freshP addP (tellsI g h) g.sy (0,0)
 (fun k q=>k=q) (fun w p=>langI g p.1 w ≠ langI h p.2 w) (InD g h) (fun z=>z.Nodup/\∀ p ∈ z,InD g h p) (fun z q=>q ∈ z) (fun z=>(g.acc.length+1)*(h.acc.length+1)-z.length) where
 g0:=⟨by omega,by have:=hg.n;omega,by omega,by have:=hh.n;omega⟩
 gs:=fun p x hp _=>⟨(stepI_in hg _ _).1,(stepI_in hg _ _).2,(stepI_in hh _ _).1,(stepI_in hh _ _).2⟩
 goalI:=fun p hp=>by
  have:tellsI g h p=true ↔ langI g p.1 [] ≠ langI h p.2 []:=by
   rw [langI_nil,langI_nil,tellsI,bne_iff_ne]
  rw [this]
  exact ⟨fun h=>⟨p,rfl,h⟩,fun ⟨q,e,h⟩=>e ▸ h⟩
 step:=fun p x w hp hx=>by
  have:(langI g (stepP g h p x).1 w ≠ langI h (stepP g h p x).2 w) ↔ langI g p.1 (x::w) ≠ langI h p.2 (x::w):=by
   rw [stepP,langI_step,langI_step]
  exact ⟨fun ⟨q,e,h⟩=>⟨p,rfl,this.1 (e ▸ h)⟩,fun ⟨q,e,h⟩=>⟨_,rfl,this.2 (e ▸ h)⟩⟩
 lett:=fun w p hp x hx=>by
  refine Classical.byContradiction fun hc=>hp ?_
  unfold langI
  rw [lang_sy hg w _ ⟨x,hx,by omega⟩,lang_sy hh w _ ⟨x,hx,by omega⟩,ite_self,ite_self]
 frI:=fun t z _ _=>by
  simp only [freshP,decide_eq_true_eq]
  exact ⟨fun h=>⟨t,rfl,h⟩,fun ⟨q,e,h⟩=>e ▸ h⟩
 snI:=fun t z q _ _=>by
  unfold addP
  split
  ·rename_i hm
   exact ⟨.inl,fun h=>h.elim id fun e=>e ▸ hm⟩
  ·rw [List.mem_append,List.mem_singleton]
   exact ⟨fun h=>h.elim .inl fun e=>.inr e.symm,fun h=>h.elim .inl fun e=>.inr e.symm⟩
 zs:=fun t z ht hz=>by
  unfold addP
  split
  ·exact hz
  ·rename_i hm
   refine ⟨?_,fun p hp=>?_⟩
   ·rw [List.nodup_append]
    refine ⟨hz.1,by simp,fun a ha b hb=>?_⟩
    rw [List.mem_singleton.1 hb]
    exact fun e=>hm (e ▸ ha)
   ·rcases List.mem_append.1 hp with h | h
    ·exact hz.2 p h
    ·rw [List.mem_singleton.1 h];exact ht
 m1:=fun t z ht hz hf=>by
  have hm:t ∉ z:=by simpa [freshP] using hf
  have hl:=sub_len (S:=allP g.acc.length h.acc.length) (l:=t::z) (List.nodup_cons.2 ⟨hm,hz.1⟩) (fun p hp=>by
   rcases List.mem_cons.1 hp with rfl | hp
   ·exact allP_mem ht
   ·exact allP_mem (hz.2 p hp))
  rw [allP_len,List.length_cons] at hl
  simp only [addP,if_neg hm,List.length_append,List.length_singleton]
  omega
 m0:=fun t z ht hz hf=>by
  have hm:t ∈ z:=by simpa [freshP] using hf
  simp only [addP,if_pos hm]
  exact Nat.le_refl _
theorem apart_first {g h:Gr} (hg:GrOk g) (hh:GrOk h) (hs:g.sy=h.sy) (gn:g.acc.length<=256) (hn:h.acc.length<=256):FirstW (fun w=>lang g w 0 ≠ lang h w 0) (apartM g h):=by
 rw [apartM,apartGo_s]
 have hm:(g.acc.length+1)*(h.acc.length+1)<=257*257:=Nat.mul_le_mul (by omega) (by omega)
 refine FirstW.congr (L:=fun w=>∃ q:PI,((0,0):PI)=q/\langI g q.1 w ≠ langI h q.2 w) (first_word (apart_srch hg hh hs) (z:=[(0,0)]) ⟨by simp,fun p hp=>?_⟩ (fun q hq=>(List.mem_singleton.1 hq).symm) ?_) fun w=>?_
 ·rw [List.mem_singleton.1 hp]
  exact (apart_srch hg hh hs).g0
 ·simp only [List.length_singleton]
  omega
 ·exact ⟨fun ⟨q,e,h⟩=>by subst e;exact h,fun h=>⟨_,rfl,h⟩⟩
end P5
namespace P5
theorem norm_uniq {g h:Gr} (hg:Norm g) (hh:Norm h) (hs:g.sy=h.sy) (e:lng g 0=lng h 0):g=h:=by
 rw [hg.can,hh.can,hs,e]
theorem auOf_inj {g h:Gr} (hg:GrOk g) (hh:GrOk h) (e:auOf g=auOf h):g=h:=by
 rw [<-tab_auOf hg,<-tab_auOf hh,e]
theorem differ_first {a b:Au} (h:(differM a b).2=0):FirstW (fun w=>acceptsM a (wI w) ≠ acceptsM b (wI w)) (differM a b).1/\(fixedM a).2=0/\(fixedM b).2=0/\((differM a b).1=none ↔ (fixedM a).1=(fixedM b).1):=by
 unfold differM at h ⊢
 simp only at h ⊢
 by_cases h0:(twoM a b).1=0
 ·rw [if_pos h0]
  obtain ⟨va,vb,hs,fa,fb,g,k,e,ea,eb,ng,nk,sg,sk,lg,lk⟩:=two_norm h0
  rw [e]
  simp only
  have gl:=ng.va.n.2
  have kl:=nk.va.n.2
  have hf:=apart_first ng.ok nk.ok (by rw [sg,sk]) gl kl
  refine ⟨hf.congr fun w=>?_,fa,fb,?_⟩
  ·rw [show lang g w 0=acceptsM a (wI w) from congrFun lg w,show lang k w 0=acceptsM b (wI w) from congrFun lk w]
  ·rw [ea,eb]
   simp only
   constructor
   ·intro hn
    rcases hf with ⟨_,h1⟩ | ⟨u,h1,_⟩
    ·have:g=k:=norm_uniq ng nk (by rw [sg,sk]) (funext fun w=>Classical.byContradiction fun hc=>h1 w hc)
     rw [this]
    ·rw [hn] at h1;cases h1
   ·intro he
    have hgk:=auOf_inj ng.ok nk.ok he
    subst hgk
    rcases hf with ⟨h1,_⟩ | ⟨u,_,h1,_⟩
    ·exact h1
    ·exact absurd rfl h1
 ·rw [if_neg h0] at h
  exact absurd h h0
theorem differ_err {a b:Au} (ha:validM a=0) (hb:validM b=0) (hs:a.sy=b.sy):(differM a b).2=0 \/ (differM a b).1=none/\(differM a b).2=4:=by
 unfold differM twoM
 simp only
 rw [if_pos ha,if_pos hb,if_pos hs]
 have key:∀ c,validM c=0->¬ (fixedM c).2=0->(fixedM c).2=4:=fun c hc h=>by
  rcases fixed_cases c with h1 | ⟨_,h1 | ⟨h1,_⟩⟩
  ·exact absurd h1 h
  ·exact h1
  ·exact absurd (valid_VA.1 hc) h1
 by_cases h4:(fixedM a).2=0
 ·rw [if_pos h4]
  by_cases h5:(fixedM b).2=0
  ·rw [if_pos h5];exact .inl rfl
  ·rw [if_neg h5]
   simp only
   rw [if_neg h5]
   exact .inr ⟨rfl,key b hb h5⟩
 ·rw [if_neg h4]
  simp only
  rw [if_neg h4]
  exact .inr ⟨rfl,key a ha h4⟩
end P5
namespace P5
theorem wordsN_sorted (y:Nat):∀ n,(wordsN y n).Pairwise wlt
 | 0=>by simp [wordsN]
 | n+1=>by
  rw [wordsN,List.pairwise_append]
  refine ⟨wordsN_sorted y n,lvN_sorted y (n+1),fun u hu v hv=>.inl ?_⟩
  have h1:=(wordsN_mem.1 hu).1
  have h2:=(lvN_mem.1 hv).1
  omega
theorem ahead_not {y:Nat} {L:List Nat->Prop} {u:List Nat} (hu:L u) (hmin:∀ v,L v->¬ wlt v u) (hlett:∀ v,L v->∀ x ∈ v,x<y) {n:Nat} {i:Nat} (hi:i<(wordsN y n).length) (hne:∀ j (h:j<=i),(wordsN y n)[j]'(by omega) ≠ u):¬ L (wordsN y n)[i]:=by
 intro hL
 have hm:=wordsN_mem.1 (List.getElem_mem hi)
 rcases wlt_tri u (wordsN y n)[i] with h | h | h
 ·have hul:u.length<=n:=by
   rcases h with h | ⟨h,_⟩ <;> omega
  obtain ⟨j,hj,he⟩:=List.getElem_of_mem (wordsN_mem.2 ⟨hul,hlett u hu⟩)
  rcases Nat.lt_trichotomy j i with h2 | h2 | h2
  ·exact hne j (by omega) he
  ·subst h2;exact hne j (Nat.le_refl _) he
  ·have:=List.pairwise_iff_getElem.1 (wordsN_sorted y n) i j hi hj h2
   rw [he] at this
   exact wlt_asymm h this
 ·exact hne i (Nat.le_refl _) h.symm
 ·exact hmin _ hL h
end P5
namespace Go.Proofs.Ytjilachpkjlhdaa
open Go.RowKit Dak P5
open Nat (reduceEqDiff reduceLT reduceAdd)
abbrev noneA (s:Int):Au:=⟨s,[false],[]⟩
theorem noacc_go {a:Au} (h:∀ i,bt a.acc i=false):∀ (w:List Int) (s:List Bool),acceptsGo a w s=false
 | [],s=>by
  rw [acceptsGo]
  cases e:meets s a.acc with
  | false=>rfl
  | true=>obtain ⟨i,_,h2⟩:=meets_iff.1 e;rw [h] at h2;cases h2
 | x::w,s=>by
  rw [acceptsGo]
  split
  ·rfl
  ·exact noacc_go h w _
theorem noneA_acc (s:Int) (w:List Int):acceptsM (noneA s) w=false:=by
 unfold acceptsM
 split
 ·refine noacc_go (fun i=>?_) _ _
  match i with
  | 0=>rfl
  | n+1=>simp [bt]
 ·rfl
theorem noneA_VA {s:Int} (h:1<=s/\s<=64):VA (noneA s):=⟨h,⟨by simp,by simp⟩,by simp,fun e he=>by simp at he⟩
theorem noneA_snap {objs:List AObj} (s:Int):Snap objs (.agg [vi s,.list 1 [vb false],.val (.slice none 0 0)]) (vau (noneA s)):=by
 refine .agg _ _ rfl fun i h1 h2=>?_
 match i,h1,h2 with
 | 0,_,_=>exact .tree _ rfl
 | 1,_,_=>exact .tree _ rfl
 | 2,_,_=>exact .nil 3
theorem accepts_sy {a:Au} {w:List Nat} (h:acceptsM a (wI w)=true):∀ x ∈ w,x<a.sy.toNat:=by
 unfold acceptsM at h
 split at h
 ·intro x hx
  have:=accepts_lett w _ h x hx
  omega
 ·cases h
set_option maxHeartbeats 4000000 in
theorem AutomatonShortest_s (l:List Int) (symbols:Int) (hl:∀ x ∈ l,I64 x) (hs:I64 symbols) :
 Ctr Try.prog 6 [vints l,vi symbols] (vb true):=by
 refine specC f6 (by simp) fun F0 w0=>?_
 have hp:=pair2_s l [] symbols hl (fun x hx=>by simp at hx) hs
 obtain ⟨m1,m2⟩:=made_sz l (symN symbols)
 obtain ⟨s1,s2,_⟩:=symN_bd symbols
 have hz0:SzA (madeM l (symN symbols)):=⟨by omega,by omega⟩
 have hv:=made_VA l s1 (by omega)
 have hasy:(madeM l (symN symbols)).sy=(symN symbols:Int):=rfl
 generalize symN symbols=y at *
 generalize madeM l y=A at hp hz0 hv hasy
 generalize madeM [] y=D at hp
 have hlv:=lives_s
 have hv0:=valid_VA.2 hv
 have hvn:=noneA_VA hv.sy
 have h1:=ownA_s A hz0
 have h2:=Shortest_s A hz0
 replace h2:Ctr Try.prog 18 [vau A] (.tup [vints ((shortestM A).getD []),vb (shortestM A).isSome]):=h2
 have h3:=Differ_s A (noneA A.sy) hz0 ⟨by simp,by simp⟩
 have hW:=Words_s y s2
 have hde:=differ_err hv0 (valid_VA.2 hvn) (show A.sy=(noneA A.sy).sy from rfl)
 have hdf:=fun h=>(differ_first (a:=A) (b:=noneA A.sy) h).1
 have hsf:=shortest_first hv
 have hacc:=fun w (hw:w.length<=100000)=>Accepts_s A hz0 w hw
 have heq:(differM A (noneA A.sy)).2=0->(differM A (noneA A.sy)).1=shortestM A:=fun h=>(hdf h).congr (fun w=>by rw [noneA_acc];simp) |>.uniq hsf
 obtain ⟨dw,de,hd⟩:∃ w e,differM A (noneA A.sy)=(w,e):=⟨_,_,rfl⟩
 rw [hd] at h3 hde heq
 simp only at h3 hde heq
 have hsl:∀ w,shortestM A=some w->w.length<=1000:=fun w h=>short_len w h
 obtain ⟨S,hS⟩:∃ S,shortestM A=S:=⟨_,rfl⟩
 rw [hS] at h2 heq hsl hsf
 unfold c6
 refine CwpE.cut (st:=⟨[(0,vints l),(1,vi symbols)],[]⟩) ?_ ?_
 ·simp only [go_sem,↓reduceIte,reduceLT]
  exact ⟨_,WkE.kq,rfl⟩
 refine CwpE.cut (st:=⟨[(5,.ref 0 1 0 0)],[oB A,oB D]⟩) ?_ ?_
 ·simp only [go_sem,↓reduceIte,reduceCtorEq,reduceLT,reduceEqDiff]
  refine callN hp (.cons (.tree _ rfl) (.cons (.nil 1) (.cons (.tree _ rfl) .nil))) ?_
  simp only [go_sem,↓reduceIte,reduceLT,reduceEqDiff,reduceAdd]
  exact ⟨_,WkE.kp,rfl⟩
 refine CwpE.cut (st:=⟨[(5,.ref 0 1 0 0),(7,vints (S.getD [])),(8,vb S.isSome)],[oB A,oB D]⟩) ?_ ?_
 ·simp only [go_sem,↓reduceIte,reduceLT,reduceAdd]
  refine callT h1 rfl ?_
  simp only [go_sem,↓reduceIte,reduceLT]
  refine callT h2 rfl ?_
  simp only [go_sem,↓reduceIte,reduceLT,reduceEqDiff]
  exact ⟨_,WkE.kp,rfl⟩
 refine CwpE.cut (st:=⟨[(5,.ref 0 1 0 0),(7,vints (S.getD [])),(8,vb S.isSome),(9,vints (dw.getD [])),(10,vb dw.isSome),(11,vi de)],[oB A,oB D]⟩) ?_ ?_
 ·simp only [go_sem,Nat.reducePow,Nat.reduceLeDiff,↓reduceIte,reduceLT,reduceEqDiff,reduceAdd,Nat.reduceMul]
  refine callT h1 rfl ?_
  simp only [go_sem,Nat.reducePow,Nat.reduceLeDiff,↓reduceIte,reduceLT,reduceEqDiff,reduceAdd,Nat.reduceMul]
  refine callN h3 (.cons (.tree _ rfl) (.cons (noneA_snap A.sy) .nil)) ?_
  simp only [go_sem,↓reduceIte,reduceLT,reduceEqDiff]
  exact ⟨_,WkE.kp,rfl⟩
 by_cases he:de=0
 rotate_left
 ·have h4:de=4:=hde.elim (fun h=>absurd h he) fun h=>h.2
  subst h4
  refine CwpE.vc ?_
  simp only [go_sem,↓reduceIte,reduceLT,reduceEqDiff,Int.reduceEq]
  refine callT hlv rfl ?_
  simp only [go_sem,↓reduceIte,reduceLT,reduceEqDiff]
  exact .tree _ rfl
 subst he
 rw [heq rfl]
 have hSb:(S.isSome == S.isSome)=true:=beq_self_eq_true _
 have hSl:(S.getD []).length<=1000:=by
  cases h:S with
  | none=>simp
  | some w=>exact hsl w h
 have hsame:=SameInts_s (S.getD []) (S.getD []) (by omega)
 rw [decide_eq_true rfl] at hsame
 refine CwpE.cut (st:=⟨[(5,.ref 0 1 0 0),(7,vints (S.getD [])),(8,vb S.isSome)],[oB A,oB D]⟩) ?_ ?_
 ·simp only [go_sem,↓reduceIte,reduceLT,reduceEqDiff,hSb,Bool.not_true]
  refine callT hsame rfl ?_
  simp only [go_sem,↓reduceIte,reduceLT,reduceEqDiff]
  exact ⟨_,WkE.kp,rfl⟩
 refine CwpE.cut (st:=⟨[(5,.ref 0 1 0 0),(7,vints (S.getD [])),(8,vb S.isSome),(12,.list 1 (vws (wordsN y 4)))],[oB A,oB D]⟩) ?_ ?_
 ·simp only [go_sem,↓reduceIte,reduceLT,hasy]
  refine callT hW rfl ?_
  simp only [go_sem,↓reduceIte,reduceLT]
  exact ⟨_,WkE.kp,rfl⟩
 have hay:A.sy.toNat=y:=by omega
 have hWl:=wordsN_len3 s2 4 (by omega)
 have hWm:∀ w ∈ wordsN y 4,w.length<=4:=fun w hw=>(wordsN_mem.1 hw).1
 have hnot:∀ i (hi:i<(wordsN y 4).length),(S.isSome=true->∀ j (h:j<=i),wI ((wordsN y 4)[j]'(by omega)) ≠ S.getD [])->acceptsM A (wI (wordsN y 4)[i])=false:=by
  intro i hi hne
  rcases hsf with ⟨_,hno⟩ | ⟨u,hu,hL,hmin⟩
  ·cases e:acceptsM A (wI (wordsN y 4)[i]) with
   | false=>rfl
   | true=>exact absurd e (hno _)
  ·have:=ahead_not (y:=y) (L:=fun w=>acceptsM A (wI w)=true) (n:=4) hL hmin (fun v hv=>by rw [<-hay];exact accepts_sy hv) hi (fun j hj hej=>hne (by rw [hu];rfl) j hj (by rw [hej,hu];rfl))
   simpa using this
 obtain ⟨W,hWe⟩:∃ W,wordsN y 4=W:=⟨_,rfl⟩
 simp only [hWe] at hWl hWm hnot ⊢
 refine CwpE.step (fun z=>z=⟨[(5,.ref 0 1 0 0),(7,vints (S.getD [])),(8,vb S.isSome)],[oB A,oB D]⟩) ?_ ?_
 rotate_left
 ·rintro _ rfl
  refine CwpE.vc ?_
  rcases hsf with ⟨hu,_⟩ | ⟨u,hu,hL,_⟩
  ·rw [hu]
   simp only [go_sem,↓reduceIte,reduceLT,reduceEqDiff,Option.isSome_none,Bool.not_false]
   refine callT hlv rfl ?_
   simp only [go_sem,↓reduceIte,reduceLT,reduceEqDiff]
   exact .tree _ rfl
  ·rw [hu] at hSl ⊢
   have h5:=hacc (wI u) (by simp only [Option.getD_some] at hSl;omega)
   have hL':acceptsM A (wI u)=true:=hL
   rw [hL'] at h5
   simp only [go_sem,↓reduceIte,reduceLT,reduceEqDiff,reduceAdd,Option.isSome_some,Option.getD_some,Bool.not_true]
   refine callT h1 rfl ?_
   simp only [go_sem,↓reduceIte,reduceLT,reduceEqDiff]
   refine callT h5 rfl ?_
   simp only [go_sem,↓reduceIte,reduceLT,reduceEqDiff]
   refine callT hlv rfl ?_
   simp only [go_sem,↓reduceIte,reduceLT,reduceEqDiff]
   exact .tree _ rfl
 obtain ⟨Inv,hInv⟩:∃ Inv:Nat->Prop,Inv=fun i=>(S.isSome=true->∀ j (h:j<i) (h2:j<W.length),wI (W[j]) ≠ S.getD []):=⟨_,rfl⟩
 have hI0:Inv 0:=by rw [hInv];exact fun _ j hj=>by omega
 simp only [go_sem,↓reduceIte,reduceLT]
 refine loopX 0 (fun m z=>∃ i:Nat,m=W.length-i/\i<=W.length/\Inv i/\z=⟨[(5,.ref 0 1 0 0),(7,vints (S.getD [])),(8,vb S.isSome),(12,.list 1 (vws W)),(13,vi i)],[oB A,oB D]⟩)
  (fun z=>z=⟨[(5,.ref 0 1 0 0),(7,vints (S.getD [])),(8,vb S.isSome)],[oB A,oB D]⟩) W.length
  ⟨[(5,.ref 0 1 0 0),(7,vints (S.getD [])),(8,vb S.isSome),(12,.list 1 (vws W)),(13,vi (0:Nat))],[oB A,oB D]⟩ (WkE.kp) ⟨0,by omega,by omega,hI0,rfl⟩ ?_ ?_
 rotate_left
 ·rintro z rfl
  simp only [go_sem,↓reduceIte]
  exact ⟨_,.refl _ _,rfl⟩
 rintro m z ⟨i,rfl,hi,hinv,rfl⟩
 rw [hInv] at hinv
 have hvl:(vws W).length=W.length:=by rw [vws,List.length_map]
 by_cases hlt:i<W.length
 rotate_left
 ·have gk:¬ (i:Int)<((vws W).length:Int):=by omega
  obtain ⟨V,hV⟩:∃ V,vws W=V:=⟨_,rfl⟩
  rw [hV] at gk ⊢
  simp only [go_sem,↓reduceIte,reduceLT,reduceEqDiff,gk]
  exact ⟨_,WkE.kp,rfl⟩
 have g1:(i:Int)<((vws W).length:Int):=by omega
 have g0:(0:Int)<=(i:Int):=by omega
 have wi:=wrap_s i (by omega)
 have hget:=vws_get hlt
 have hwl:=hWm _ (List.getElem_mem hlt)
 have hwil:=wI_len W[i]
 have hsm:=SameInts_s (wI W[i]) (S.getD []) (by omega)
 have hac:=hacc (wI W[i]) (by omega)
 have hno:=hnot i hlt
 have step:(S.isSome=true->wI W[i] ≠ S.getD [])->acceptsM A (wI W[i])=false/\Inv (i+1):=fun h=>by
  have h2:S.isSome=true->∀ j (h:j<i+1) (h2:j<W.length),wI (W[j]) ≠ S.getD []:=fun hs j hj hjl=>by
   by_cases e:j=i
   ·subst e;exact h hs
   ·exact hinv hs j (by omega) hjl
  exact ⟨hno fun hs j hj=>h2 hs j (by omega) (by omega),by rw [hInv];exact h2⟩
 obtain ⟨V,hV⟩:∃ V,vws W=V:=⟨_,rfl⟩
 rw [hV] at g1 hget ⊢
 have fin:∀ st,Inv (i+1)->WkE 94 st ⟨[(5,.ref 0 1 0 0),(7,vints (S.getD [])),(8,vb S.isSome),(12,.list 1 V),(13,vi (i+1:Nat))],[oB A,oB D]⟩->∃ m s',m<W.length-i/\WkE 94 st s'/\∃ i:Nat,m=W.length-i/\i<=W.length/\Inv i/\s'=⟨[(5,.ref 0 1 0 0),(7,vints (S.getD [])),(8,vb S.isSome),(12,.list 1 V),(13,vi i)],[oB A,oB D]⟩ :=
  fun st h hst=>⟨W.length-(i+1),_,by omega,hst,i+1,rfl,by omega,h,rfl⟩
 generalize W[i]=w at hget hsm hac step
 cases hsb:S.isSome with
 | false =>
  obtain ⟨hf,hi2⟩:=step (fun h=>by rw [hsb] at h;cases h)
  rw [hf] at hac
  rw [hsb] at fin
  simp only [go_sem,↓reduceIte,reduceLT,reduceEqDiff,reduceAdd,g1,g0,hget,Int.toNat_natCast]
  refine callT h1 rfl ?_
  simp only [go_sem,↓reduceIte,reduceLT,reduceEqDiff,g0,hget,Int.toNat_natCast]
  refine callT hac rfl ?_
  simp only [go_sem,↓reduceIte,reduceLT,reduceEqDiff,wi]
  exact fin _ hi2 (WkE.kp)
 | true =>
  by_cases hew:wI w=S.getD []
  ·rw [decide_eq_true hew] at hsm
   rw [<-hsb]
   simp only [go_sem,↓reduceIte,reduceLT,reduceEqDiff,g1,g0,hget,Int.toNat_natCast,hsb]
   refine callT hsm rfl ?_
   simp only [go_sem,↓reduceIte,reduceLT,reduceEqDiff]
   refine ⟨_,?_,rfl⟩
   exact WkE.kp
  ·obtain ⟨hf,hi2⟩:=step (fun _=>hew)
   rw [decide_eq_false hew] at hsm
   rw [hf] at hac
   rw [hsb] at fin
   simp only [go_sem,↓reduceIte,reduceLT,reduceEqDiff,g1,g0,hget,Int.toNat_natCast]
   refine callT hsm rfl ?_
   simp only [go_sem,↓reduceIte,reduceLT,reduceEqDiff,reduceAdd,g0,hget,Int.toNat_natCast]
   refine callT h1 rfl ?_
   simp only [go_sem,↓reduceIte,reduceLT,reduceEqDiff,g0,hget,Int.toNat_natCast]
   refine callT hac rfl ?_
   simp only [go_sem,↓reduceIte,reduceLT,reduceEqDiff,wi]
   exact fin _ hi2 (WkE.kp)
end Go.Proofs.Ytjilachpkjlhdaa
