/- Lemmas used by all laws. -/
import Derived.Test.YtjilachpkjlhdaaJa
import Derived.Test.YtjilachpkjlhdaaJb
import Derived.Test.YtjilachpkjlhdaaJc
import Derived.Test.YtjilachpkjlhdaaJd
import Derived.Test.YtjilachpkjlhdaaJe
import Derived.Test.YtjilachpkjlhdaaJf
import Derived.Test.YtjilachpkjlhdaaJg
import Derived.WalkKit
import Derived.WalkSpells
import Derived.WalkLawsBesides
import Derived.Orders
import Derived.Laws.MakeOwn
import Derived.Deep.AppendSrc
import Derived.Lib.AppendZerosOnto
import Derived.Defers
import Derived.Laws.BytesString
import Derived.Laws.StructEq
import Derived.Scope
import Derived.Deep.LoopGhost
import Derived.OrdersIn
import Derived.ControlIn
import Derived.Sort.LoopGhostIn
import Derived.RangeFuncLeaves
import Derived.RangeFuncRecord
import Derived.Test.YtjilachpkjlhdaaProg
import Derived.RangeFuncFrom
import Derived.RangeFuncNested
set_option linter.unusedSimpArgs false
set_option linter.unusedVariables false
set_option linter.unusedSectionVars false
set_option maxRecDepth 100000
namespace Dak
open Go Go.RowKit
variable [Globs]
variable {P : Program} {F0 : FD} {w0 : World} {n : Nat} {Q : Exit -> Est -> Prop} {s : Est}
variable {K : Est -> Prop} {rest : List COper} {d : Option Nat} {g : Option (Nat × Bool)}
variable {objs0 : List AObj} {KQ : List (Nat × AV) -> List AObj -> Prop} {env : List (Nat × AV)} {cr : List AObj}
theorem Q_glen {x:Operand} {t:Nat} {w:Bool}:QopsE P n objs0 (⟨d,some (t,w),.len x⟩::rest) KQ env cr=guardE (gdB (lk env t)) w (qK (qstepK (objs0++cr) objs0 (evE env) (objs0.length+cr.length) (.len x)) n d env cr (QopsE P n objs0 rest KQ)) (okD n d/\QopsE P n objs0 rest KQ (putE env d nov) cr):=nrfl rfl
attribute [go_sem] Option.map_some
attribute [go_sem] and_true
attribute [go_sem] Q_glen Nat.le_refl List.mapM_cons List.mapM_nil List.map_cons List.map_nil List.all_cons List.all_nil List.length_cons List.length_nil List.length_append List.append_nil List.nil_append List.cons_append Option.bind_some Option.bind_none Option.map_some Option.map_none Option.pure_def Option.some.injEq exists_eq_left' true_and and_true if_true if_false ite_true ite_false Bool.false_eq_true Bool.true_eq_false Bool.and_true Bool.true_and Bool.and_false Bool.false_and ne_eq not_true_eq_false not_false_eq_true forall_const false_implies true_implies implies_true Bool.not_eq_false Bool.not_eq_true List.getElem?_cons_zero List.getElem?_cons_succ List.set_cons_zero List.set_cons_succ Value.oneCell' beq_self_eq_true decide_true decide_false Nat.add_zero Nat.zero_add AV.val.injEq Value.int.injEq Value.bool.injEq Bool.not_true Bool.not_false bne_self_eq_false IntKind.bits Nat.lt_add_one Nat.zero_lt_succ Nat.one_ne_zero List.length_map List.drop_zero List.take_length List.take_succ_cons List.take_zero List.drop_succ_cons List.head?_cons or_true true_or or_false false_or and_self Int.toNat_natCast List.set_nil List.replicate_zero List.drop_nil List.take_nil List.length_range List.take_of_length_le Option.bind_eq_bind
end Dak
namespace Go.Proofs.Ytjilachpkjlhdaa
open Dak
def c7:CCode :=
 (sR [oo 2 (.mov bF)]
 (sR [vv 15 0,oo 16 (cL 33 [T 15,kk 12]),oo 17 (.ibin .add (kk 1) (T 16)),vv 3 17]
 (sR [vv 18 3,oo 19 (cL 34 [T 18]),oo 20 (cL 13 [T 19]),oo 4 (aZ 34),sS 3 4 20]
 (sR [oo 22 (ld3 4),oo 23 (cL 22 [T 22]),vv 21 23,oo 24 (eX 21 0),oo 25 (eX 21 1),oo 5 (aZ 34),sS 3 5 24,vv 6 25]
 (sR [oo 27 (ld3 4),oo 28 (cL 35 [T 27]),vv 26 28,oo 29 (eX 26 0),oo 30 (eX 26 1),oo 7 (aZ 34),sS 3 7 29,vv 8 30]
 (sR [oo 32 (ld3 4),oo 33 (cL 28 [T 32]),vv 31 33,oo 34 (eX 31 0),oo 35 (eX 31 1),oo 9 (aZ 34),sS 3 9 34,vv 10 35]
 (.seq (sR [vv 36 3,oo 37 (iK .gtr 36 8)]
 (.cond (T 37)
 (sR [vv 38 6,oo 39 (iK .eql 38 4),vv 40 39,vt 41 40 8,gt 42 40 (iK .eql 41 4),oo 43 (.pick (T 40) (T 42) bF),vv 44 43,vt 45 44 10,gt 46 44 (iK .eql 45 4),oo 47 (.pick (T 44) (T 46) bF),vv 48 47,gt 49 48 (fA 1 5),gt 50 48 (ld1 49),gt 51 48 (lN 50),gt 52 48 (fA 1 9),gt 53 48 (ld1 52),gt 54 48 (lN 53),gt 55 48 (iB .add 51 54),gt 56 48 (iK .eql 55 0),oo 57 (.pick (T 48) (T 56) bF),vv 58 57,gt 59 58 (cL 21 []),oo 60 (.pick (T 58) (T 59) bF),vv 2 60]
 .ret)
 .skip))
 (sR [oo 11 (.mov (kk 1))]
 (.seq (sR [oo 12 (.mov (kk 0))]
 (.block 0 (.loop
 (.seq (sR [vv 61 12,vv 62 3,oo 63 (iB .lss 61 62)]
 (.cond (T 63)
 .skip
 (.exit 0)))
 (.seq (.block 1 (rR [vv 66 11,oo 67 (iK .mul 66 2),vv 11 67]))
 (rR [vv 64 12,oo 65 (iK .add 64 1),vv 12 65]))))))
 (sR [oo 69 (ld3 9),oo 70 (cL 28 [T 69]),vv 68 70,oo 71 (eX 68 0),oo 72 (eX 68 1),oo 13 (aZ 34),sS 3 13 71,vv 14 72]
 (.seq (.drawn [vv 73 6,oo 74 (iK .eql 73 0),vv 75 74,vt 76 75 8,gt 77 75 (iK .eql 76 0),oo 78 (.pick (T 75) (T 77) bF),vv 79 78,vt 80 79 10,gt 81 79 (iK .eql 80 0),oo 82 (.pick (T 79) (T 81) bF),vv 83 82,vt 84 83 14,gt 85 83 (iK .eql 84 0),oo 86 (.pick (T 83) (T 85) bF),vv 87 86,gt 88 87 (fA 1 5),gt 89 87 (ld1 88),gt 90 87 (lN 89),vt 91 87 11,gt 92 87 (iB .eql 90 91),oo 93 (.pick (T 87) (T 92) bF),vv 94 93,gt 95 94 (fA 1 9),gt 96 94 (ld1 95),gt 97 94 (lN 96),vt 98 94 3,gt 99 94 (iK .add 98 1),gt 100 94 (iB .eql 97 99),oo 101 (.pick (T 94) (T 100) bF),vv 102 101,gt 103 102 (ld3 13),gt 104 102 (ld3 5),gt 105 102 (cL 31 [T 104])] [(gt 106 102 (cL 24 [T 103,T 105]),[]),(oo 107 (.pick (T 102) (T 106) bF),[]),(vv 108 107,[]),(gt 109 108 (cL 21 []),[]),(oo 110 (.pick (T 108) (T 109) bF),[]),(vv 2 110,[])])
 .ret)))))))))))
theorem f7:fnC Try.prog 7=some (c7,111,[(.tmp 2)]):=by kernel_rfl
def c34:CCode :=
 (sR [oo 2 (aZ 26)]
 (sR [vv 5 0,oo 6 (iK .add 5 1),oo 7 (.mkslice 4 1 1 (.val (.bool false)) (T 6) (T 6)),oo 8 (.build [nI,nS,nS] [(0,(1,(kk 2))),(1,(1,(T 7)))]),oo 3 (aZ 26),sS 3 3 8]
 (sR [oo 9 (fA 1 3),oo 10 (ld1 9),vv 11 0,oo 12 (iS 1 10 11),nn (.store 1 (T 12) bT)]
 (sR [oo 13 (.build [nI,nI,nI] [(0,(1,(kk 0))),(1,(1,(kk 0))),(2,(1,(kk 0)))]),oo 14 (.build [nI,nI,nI] [(0,(1,(kk 0))),(1,(1,(kk 1))),(2,(1,(kk 0)))]),oo 15 (.build [nI,nI,nI] [(0,(1,(kk 0))),(1,(1,(kk 1))),(2,(1,(kk 1)))]),oo 16 (.bslice 71 3 [T 13,T 14,T 15]),oo 17 (fA 2 3),sS 1 17 16]
 (.seq (sR [oo 4 (.mov (kk 1))]
 (.block 0 (.loop
 (.seq (sR [vv 18 4,vv 19 0,oo 20 (iB .lss 18 19)]
 (.cond (T 20)
 .skip
 (.exit 0)))
 (.seq (.block 1 (rR [oo 23 (fA 2 3),oo 24 (ld1 23),vv 25 4,vv 26 4,oo 27 (iK .add 26 1),oo 28 (.build [nI,nI,nI] [(0,(1,(T 25))),(1,(1,(kk 0))),(2,(1,(T 27)))]),vv 29 4,vv 30 4,oo 31 (iK .add 30 1),oo 32 (.build [nI,nI,nI] [(0,(1,(T 29))),(1,(1,(kk 1))),(2,(1,(T 31)))]),oo 33 (.bslice 71 3 [T 28,T 32]),oo 34 (.append 71 3 24 (T 24) (T 33)),oo 35 (fA 2 3),sS 1 35 34]))
 (rR [vv 21 4,oo 22 (iK .add 21 1),vv 4 22]))))))
 (sR [oo 36 (ld3 3),sS 3 2 36]
 .ret))))))
theorem f34:fnC Try.prog 34=some (c34,37,[(.cell 2 true 3)]):=by kernel_rfl
end Go.Proofs.Ytjilachpkjlhdaa
namespace P5
section
variable {K L : Type} [DecidableEq K] [DecidableEq L]
def RelL (R:K->L->Prop) (l:List K) (m:List L):Prop:=l.length=m.length/\∀ i (h:i<l.length) (h2:i<m.length),R l[i] m[i]
def RelO (R:K->L->Prop):Option K->Option L->Prop
 | none,none=>True
 | some k,some t=>R k t
 | _,_=>False
omit [DecidableEq K] [DecidableEq L] in
theorem RelL.snoc {R:K->L->Prop} {l:List K} {m:List L} {k:K} {t:L} (h:RelL R l m) (hk:R k t):RelL R (l++[k]) (m++[t]):=by
 refine ⟨by simp [h.1],fun i h1 h2=>?_⟩
 simp only [List.length_append,List.length_singleton] at h1
 by_cases hi:i<l.length
 ·rw [List.getElem_append_left hi,List.getElem_append_left (by rw [<-h.1];exact hi)];exact h.2 i hi _
 ·have e:i=l.length:=by omega
  subst e
  rw [List.getElem_append_right (Nat.le_refl _),List.getElem_append_right (by rw [h.1];exact Nat.le_refl _)]
  simpa [h.1] using hk
omit [DecidableEq K] [DecidableEq L] in
theorem RelL.tail {R:K->L->Prop} {k:K} {t:L} {l:List K} {m:List L} (h:RelL R (k::l) (t::m)):R k t/\RelL R l m :=
 ⟨h.2 0 (by simp) (by simp),by have:=h.1;simpa using this,fun i h1 h2=>h.2 (i+1) (by simpa using h1) (by simpa using h2)⟩
theorem posF_sim {R:K->L->Prop} (hR:∀ k t k' t',R k t->R k' t'->(k=k' ↔ t=t')):∀ {l:List K} {m:List L} {k:K} {t:L},RelL R l m->R k t->posF l k=posF m t
 | [],[],_,_,_,_=>rfl
 | [],_::_,_,_,h,_=>by have:=h.1;simp at this
 | _::_,[],_,_,h,_=>by have:=h.1;simp at this
 | a::l,b::m,k,t,h,hk=>by
  obtain ⟨h1,h2⟩:=h.tail
  rw [posF,posF,posF_sim hR h2 hk]
  have:=hR a b k t h1 hk
  by_cases e:a=k
  ·rw [if_pos e,if_pos (this.1 e)]
  ·rw [if_neg e,if_neg (fun e'=>e (this.2 e'))]
theorem addK_sim {R:K->L->Prop} (hR:∀ k t k' t',R k t->R k' t'->(k=k' ↔ t=t')) {l:List K} {m:List L} {k:K} {t:L} (h:RelL R l m) (hk:R k t):RelL R (addK l k) (addK m t):=by
 unfold addK
 rw [posF_sim hR h hk,h.1]
 split
 ·exact h
 ·exact h.snoc hk
theorem rowGo_sim {R:K->L->Prop} (hR:∀ k t k' t',R k t->R k' t'->(k=k' ↔ t=t')) {nk:Nat->Option K} {nt:Nat->Option L}:∀ (xs:List Nat) {l:List K} {m:List L},(∀ x ∈ xs,RelO R (nk x) (nt x))->RelL R l m->(rowGo nk xs l).1=(rowGo nt xs m).1/\RelL R (rowGo nk xs l).2 (rowGo nt xs m).2
 | [],_,_,_,h=>⟨rfl,h⟩
 | x::xs,l,m,hn,h=>by
  have hx:=hn x (by simp)
  have hn':∀ x ∈ xs,RelO R (nk x) (nt x):=fun y hy=>hn y (by simp [hy])
  rw [rowGo,rowGo]
  cases h1:nk x with
  | none =>
   cases h2:nt x with
   | none =>
    obtain ⟨e1,e2⟩:=rowGo_sim hR xs hn' h
    exact ⟨by simp only [e1],e2⟩
   | some t=>rw [h1,h2] at hx;exact hx.elim
  | some k =>
   cases h2:nt x with
   | none=>rw [h1,h2] at hx;exact hx.elim
   | some t =>
    rw [h1,h2] at hx
    obtain ⟨e1,e2⟩:=rowGo_sim hR xs hn' (addK_sim hR h hx)
    exact ⟨by simp only [e1,posF_sim hR h hx],e2⟩
theorem bfsGo_sim {R:K->L->Prop} (hR:∀ k t k' t',R k t->R k' t'->(k=k' ↔ t=t')) {nk:K->Nat->Option K} {nt:L->Nat->Option L} {M sy:Nat} (hn:∀ k t,R k t->∀ x,x<sy->RelO R (nk k x) (nt t x)):∀ (f:Nat) (l:List K) (m:List L) (rows:List (List Int)),RelL R l m ->
 (bfsGo M nk sy f l rows=none/\bfsGo M nt sy f m rows=none) \/ ∃ l' m' rows',bfsGo M nk sy f l rows=some (l',rows')/\bfsGo M nt sy f m rows=some (m',rows')/\RelL R l' m'
 | 0,l,m,rows,h=>.inr ⟨l,m,rows,rfl,rfl,h⟩
 | f+1,l,m,rows,h=>by
  rw [bfsGo,bfsGo]
  by_cases hlt:rows.length<l.length
  ·have hlt2:rows.length<m.length:=by rw [<-h.1];exact hlt
   rw [dif_pos hlt,dif_pos hlt2]
   obtain ⟨e1,e2⟩:=rowGo_sim hR (nk:=nk l[rows.length]) (nt:=nt m[rows.length]) (List.range sy) (fun x hx=>hn _ _ (h.2 _ hlt hlt2) x (List.mem_range.1 hx)) h
   simp only [e2.1,e1]
   by_cases hM:M<(rowGo (nt m[rows.length]) (List.range sy) m).2.length
   ·rw [if_pos hM,if_pos hM];exact .inl ⟨rfl,rfl⟩
   ·rw [if_neg hM,if_neg hM]
    exact bfsGo_sim hR hn f _ _ _ e2
  ·rw [dif_neg hlt,dif_neg (by rw [<-h.1];exact hlt)]
   exact .inr ⟨l,m,rows,rfl,rfl,h⟩
theorem bfs_sim {R:K->L->Prop} (hR:∀ k t k' t',R k t->R k' t'->(k=k' ↔ t=t')) {nk:K->Nat->Option K} {nt:L->Nat->Option L} {M sy:Nat} (hn:∀ k t,R k t->∀ x,x<sy->RelO R (nk k x) (nt t x)) {k0:K} {t0:L} (h0:R k0 t0) :
 (bfs M nk sy k0=none/\bfs M nt sy t0=none) \/ ∃ l m rows,bfs M nk sy k0=some (l,rows)/\bfs M nt sy t0=some (m,rows)/\RelL R l m :=
 bfsGo_sim hR hn _ _ _ _ ⟨rfl,fun i h1 h2=>by
  have:i=0:=by simpa using h1
  subst this
  exact h0⟩
end
section
variable {K : Type} [DecidableEq K]
end
section
variable {K : Type} [DecidableEq K]
end
theorem lang_out {g:Gr} (h:GrOk g) {i:Nat} (hi:g.acc.length<=i):∀ w,lang g w i=false
 | []=>by
  rw [lang]
  by_cases hb:bt g.acc i=true
  ·have:=bt_lt hb;omega
  ·simpa using hb
 | x::w=>by
  rw [lang]
  have:gto g i x = -1:=by
   unfold gto
   have e1:g.to.getD i []=[]:=by rw [List.getD_eq_getElem?_getD,List.getElem?_eq_none (by rw [h.len];exact hi)];rfl
   rw [e1];rfl
  rw [this];rfl
end P5
namespace P5
theorem fixed_cases (a:Au):(fixedM a).2=0 \/ (fixedM a).1=nilA/\((fixedM a).2=4 \/ ¬ VA a/\(fixedM a).2=validM a):=by
 unfold fixedM
 by_cases hv:validM a=0
 ·rw [if_pos hv]
  cases setsM a with
  | none=>exact .inr ⟨rfl,.inl rfl⟩
  | some d =>
   simp only
   rcases checked_cases (leastR d) with ⟨_,c2⟩ | ⟨_,c2⟩
   ·exact .inl (by rw [c2])
   ·exact .inr ⟨by rw [c2],.inl (by rw [c2])⟩
 ·rw [if_neg hv]
  exact .inr ⟨rfl,.inr ⟨fun h=>hv (valid_VA.2 h),rfl⟩⟩
theorem norm_uniq {g h:Gr} (hg:Norm g) (hh:Norm h) (hs:g.sy=h.sy) (e:lng g 0=lng h 0):g=h:=by
 rw [hg.can,hh.can,hs,e]
theorem neg_to {g:Gr} (h:GrOk g) {i x:Nat} (hi:i<=g.acc.length) (hx:x<g.sy):gto (negG g) i x=if gto g i x<0 then (g.acc.length:Int) else gto g i x:=by
 have hl:=h.len
 unfold gto negG
 simp only [List.getD_eq_getElem?_getD]
 by_cases hi2:i<g.acc.length
 ·have hr:=h.row g.to[i] (List.getElem_mem _)
  rw [List.getElem?_append_left (by rw [List.length_map];omega),List.getElem?_map,List.getElem?_eq_getElem (l:=g.to) (i:=i) (by omega)]
  simp only [Option.map_some,Option.getD_some]
  rw [List.getElem?_map,List.getElem?_eq_getElem (i:=x) (by rw [hr];exact hx)]
  rfl
 ·have:i=g.acc.length:=by omega
  subst this
  rw [List.getElem?_append_right (by rw [List.length_map];omega),List.length_map,hl,Nat.sub_self,List.getElem?_eq_none (l:=g.to) (by omega)]
  simp only [List.getElem?_cons_zero,Option.getD_some,Option.getD_none,List.getElem?_nil]
  rw [List.getElem?_replicate_of_lt hx]
  simp
theorem neg_acc {g:Gr} {i:Nat} (hi:i<=g.acc.length):bt (negG g).acc i = !bt g.acc i:=by
 unfold bt negG
 simp only [List.getD_eq_getElem?_getD]
 by_cases hi2:i<g.acc.length
 ·rw [List.getElem?_append_left (by rw [List.length_map];omega),List.getElem?_map,List.getElem?_eq_getElem (by omega)]
  rfl
 ·have:i=g.acc.length:=by omega
  subst this
  rw [List.getElem?_append_right (by rw [List.length_map];omega),List.length_map,Nat.sub_self,List.getElem?_eq_none (l:=g.acc) (by omega)]
  rfl
theorem neg_lang {g:Gr} (h:GrOk g):∀ (w:List Nat) (i:Nat),(∀ x ∈ w,x<g.sy)->i<=g.acc.length->lang (negG g) w i = !lang g w i
 | [],i,_,hi=>neg_acc hi
 | x::w,i,hw,hi=>by
  have hx:=hw x (by simp)
  have hw':∀ y ∈ w,y<g.sy:=fun y hy=>hw y (by simp [hy])
  rw [lang,lang,neg_to h hi hx]
  have h1:=h.hi i x
  by_cases h0:gto g i x<0
  ·rw [if_pos h0,if_pos h0,if_neg (by omega),Int.toNat_natCast,neg_lang h w _ hw' (Nat.le_refl _),lang_out h (Nat.le_refl _)]
  ·rw [if_neg h0,if_neg h0,if_neg h0,neg_lang h w _ hw' (by omega)]
end P5
namespace Go.Proofs.Ytjilachpkjlhdaa
open Go.RowKit Dak P5
theorem objsP_snap (sy:Int) (A:List Bool) (E:List Edg) (objs:List AObj) (i4 i5 p q:Nat) (hp:p=A.length) (hq:q=E.length) (h4:objs[i4]? = some (.arr p 1 4 (A.map vb))) (h5:objs[i5]? = some (.arr q 3 71 (E.map vedge))) :
 Snap objs (.agg [vi sy,.own i4 p 0 p,.own i5 q 0 q]) (vau ⟨sy,A,E⟩):=by
 subst hp hq
 refine .agg _ _ rfl fun i h1 h2=>?_
 match i,h1,h2 with
 | 0,_,_=>exact .tree _ rfl
 | 1,_,_ =>
  refine .own i4 A.length 0 A.length 1 4 _ _ h4 (by simp) (by simp) fun q hq=>?_
  simp only [Nat.zero_add]
  exact .tree _ (List.all_eq_true.1 (isT_map (fun _=>rfl) _) _ (List.getElem_mem _))
 | 2,_,_ =>
  refine .own i5 E.length 0 E.length 3 71 _ _ h5 (by simp) (by simp) fun q hq=>?_
  simp only [Nat.zero_add]
  exact .tree _ (List.all_eq_true.1 (isT_map (fun _=>rfl) _) _ (List.getElem_mem _))
theorem fixed_sz (a:Au):SzA (fixedM a).1:=by
 rcases fixed_cases a with h | ⟨h,_⟩
 ·obtain ⟨_,g,d,_,_,h3,h4,_⟩:=fixed_norm h
  rw [h3];exact szA_va h4.va
 ·rw [h];exact ⟨by simp,by simp⟩
theorem turn_sz (a:Au):SzA (turnM a).1:=by
 unfold turnM
 split
 ·split
  ·exact nilA_sz
  ·exact checked_sz _
 ·exact nilA_sz
end Go.Proofs.Ytjilachpkjlhdaa
namespace P5
def lateE (k:Nat):List Edg:=[(0,0,0),(0,1,0),(0,1,1)]++(List.range (k-1)).flatMap fun (i:Nat)=>[(((i+1:Nat):Int),0,((i+2:Nat):Int)),(((i+1:Nat):Int),1,((i+2:Nat):Int))]
def lateM (k:Nat):Au:=⟨2,List.replicate k false++[true],lateE k⟩
theorem late_len (k:Nat):(lateM k).acc.length=k+1:=by simp [lateM]
theorem mem_lateE {k:Nat} {e:Edg}:e ∈ lateE k ↔ e=(0,0,0) \/ e=(0,1,0) \/ e=(0,1,1) \/ ∃ i b:Nat,1<=i/\i<k/\b<2/\e=((i:Int),(b:Int),((i+1:Nat):Int)):=by
 unfold lateE
 simp only [List.cons_append,List.nil_append,List.mem_cons,List.mem_flatMap,List.mem_range,List.not_mem_nil,or_false]
 constructor
 ·rintro (h | h | h | ⟨i,hi,h | h⟩)
  ·exact .inl h
  ·exact .inr (.inl h)
  ·exact .inr (.inr (.inl h))
  ·exact .inr (.inr (.inr ⟨i+1,0,by omega,by omega,by omega,h⟩))
  ·exact .inr (.inr (.inr ⟨i+1,1,by omega,by omega,by omega,h⟩))
 ·rintro (h | h | h | ⟨i,b,h1,h2,h3,h⟩)
  ·exact .inl h
  ·exact .inr (.inl h)
  ·exact .inr (.inr (.inl h))
  ·refine .inr (.inr (.inr ⟨i-1,by omega,?_⟩))
   have e1:i-1+1=i:=by omega
   have e2:i-1+2=i+1:=by omega
   rw [e1,e2]
   have:b=0 \/ b=1:=by omega
   rcases this with rfl | rfl
   ·exact .inl h
   ·exact .inr h
theorem late_VA {k:Nat} (h1:1<=k) (h2:k<=12):VA (lateM k):=by
 refine ⟨⟨by simp [lateM],by simp [lateM]⟩,⟨by rw [late_len];omega,by rw [late_len];omega⟩,?_,fun e he=>?_⟩
 ·show (lateE k).length<=4096
  exact (by decide:∀ k,k<=12->(lateE k).length<=4096) k h2
 ·rw [late_len]
  rcases mem_lateE.1 he with rfl | rfl | rfl | ⟨i,b,h3,h4,h5,rfl⟩ <;> simp only [lateM] <;> omega
def codeS (k n:Nat):List Bool:=(List.range (k+1)).map fun j=>decide (j=0) || n.testBit (j-1)
theorem codeS_len (k n:Nat):(codeS k n).length=k+1:=by simp [codeS]
theorem codeS_bt (k n j:Nat):bt (codeS k n) j=true ↔ j<k+1/\(j=0 \/ n.testBit (j-1)=true):=by
 rw [codeS,bt_map];simp
def nxN (k n x:Nat):Nat:=(2*n+x) % 2 ^ k
theorem nxN_lt (k n x:Nat):nxN k n x<2 ^ k:=Nat.mod_lt _ (Nat.pow_pos (by omega))
theorem nxN_bit {k n x j:Nat} (hx:x<2):(nxN k n x).testBit j=(decide (j<k) && (if j=0 then decide (x=1) else n.testBit (j-1))):=by
 rw [nxN,Nat.testBit_mod_two_pow]
 congr 1
 cases j with
 | zero =>
  rw [if_pos rfl,Nat.testBit_zero]
  have:x=0 \/ x=1:=by omega
  rcases this with rfl | rfl
  ·simp
  ·rw [decide_eq_decide];omega
 | succ j =>
  rw [if_neg (by omega),Nat.testBit_succ]
  congr 1;omega
theorem late_eps (k i j:Nat):epsR (lateM k) i j=false:=by
 cases h:epsR (lateM k) i j with
 | false=>rfl
 | true =>
  rw [epsR,List.any_eq_true] at h
  obtain ⟨e,he,h⟩:=h
  simp only [decide_eq_true_eq] at h
  rcases mem_lateE.1 he with rfl | rfl | rfl | ⟨i,b,h3,h4,h5,rfl⟩
  ·simp at h
  ·simp at h
  ·simp at h
  ·have:=h.1;simp only at this;omega
theorem late_cl {k:Nat} {s:List Bool} (h:s.length=k+1):clA (lateM k) s=s:=cl_noeps (by rw [late_len,h]) (late_eps k)
theorem late_first (k:Nat):firstA (lateM k)=codeS k 0:=by
 rw [firstA,late_cl (by rw [oneS_len,late_len])]
 refine bt_ext (by rw [oneS_len,codeS_len,late_len]) fun j _=>?_
 rw [oneS_bt,codeS_bt,late_len];simp
theorem late_after {k n x:Nat} (h1:1<=k) (hx:x<2):afterA (lateM k) (codeS k n) (x:Int)=codeS k (nxN k n x):=by
 rw [afterA,late_cl (by rw [imgA_len,late_len])]
 refine bt_ext (by rw [imgA_len,codeS_len,late_len]) fun j hj=>?_
 rw [imgA_len,late_len] at hj
 rw [imgA_bt,late_len,codeS_bt]
 have hx2:x=0 \/ x=1:=by omega
 constructor
 ·rintro ⟨_,e,he,h2,h3,h4⟩
  refine ⟨hj,?_⟩
  rcases mem_lateE.1 he with rfl | rfl | rfl | ⟨i,b,h5,h6,h7,rfl⟩
  ·simp only at h4;exact .inl (by omega)
  ·simp only at h4;exact .inl (by omega)
  ·simp only at h2 h4
   refine .inr ?_
   have:j-1=0:=by omega
   rw [nxN_bit hx,this,if_pos rfl]
   simp only [Bool.and_eq_true,decide_eq_true_eq];omega
  ·simp only at h2 h3 h4
   refine .inr ?_
   rw [Int.toNat_natCast,codeS_bt] at h3
   have:j=i+1:=by omega
   subst this
   rw [nxN_bit hx,Nat.add_sub_cancel,if_neg (by omega),Bool.and_eq_true,decide_eq_true_eq]
   exact ⟨h6,h3.2.resolve_left (by omega)⟩
 ·rintro ⟨_,h2⟩
  refine ⟨hj,?_⟩
  by_cases j0:j=0
  ·subst j0
   refine ⟨(0,(x:Int),0),mem_lateE.2 ?_,rfl,by rw [codeS_bt];simp,rfl⟩
   rcases hx2 with rfl | rfl
   ·exact .inl rfl
   ·exact .inr (.inl rfl)
  ·have h3:=h2.resolve_left j0
   rw [nxN_bit hx,Bool.and_eq_true,decide_eq_true_eq] at h3
   by_cases j1:j=1
   ·subst j1
    rw [if_pos rfl,decide_eq_true_eq] at h3
    obtain ⟨_,rfl⟩:=h3
    exact ⟨(0,1,1),mem_lateE.2 (.inr (.inr (.inl rfl))),rfl,by rw [codeS_bt];simp,rfl⟩
   ·rw [if_neg (by omega)] at h3
    refine ⟨(((j-1:Nat):Int),(x:Int),((j-1+1:Nat):Int)),mem_lateE.2 (.inr (.inr (.inr ⟨j-1,x,by omega,by omega,hx,rfl⟩))),rfl,?_,by simp only;omega⟩
    rw [Int.toNat_natCast,codeS_bt]
    exact ⟨by omega,.inr h3.2⟩
theorem late_any {k n x:Nat} (hx:x<2):anyA (lateM k) (codeS k n) (x:Int)=true:=by
 rw [anyA,List.any_eq_true]
 refine ⟨(0,(x:Int),0),mem_lateE.2 ?_,?_⟩
 ·have hx2:x=0 \/ x=1:=by omega
  rcases hx2 with rfl | rfl
  ·exact .inl rfl
  ·exact .inr (.inl rfl)
 ·have:bt (codeS k n) 0=true:=by rw [codeS_bt];simp
  simp only [Bool.and_eq_true,decide_eq_true_eq]
  exact ⟨trivial,this⟩
theorem late_next {k n x:Nat} (h1:1<=k) (hx:x<2):nextA (lateM k) (codeS k n) x=some (codeS k (nxN k n x)):=by
 rw [nextA,if_pos (late_any hx),late_after h1 hx]
theorem codeS_inj {k n m:Nat} (hn:n<2 ^ k) (hm:m<2 ^ k) (h:codeS k n=codeS k m):n=m:=by
 refine Nat.eq_of_testBit_eq fun j=>?_
 by_cases hj:j<k
 ·have e:bt (codeS k n) (j+1)=true ↔ bt (codeS k m) (j+1)=true:=by rw [h]
  rw [codeS_bt,codeS_bt,Nat.add_sub_cancel] at e
  rw [Bool.eq_iff_iff]
  constructor
  ·intro a;exact (e.1 ⟨by omega,.inr a⟩).2.resolve_left (by omega)
  ·intro a;exact (e.2 ⟨by omega,.inr a⟩).2.resolve_left (by omega)
 ·rw [Nat.testBit_lt_two_pow (Nat.lt_of_lt_of_le hn (Nat.pow_le_pow_right (by omega) (by omega))),Nat.testBit_lt_two_pow (Nat.lt_of_lt_of_le hm (Nat.pow_le_pow_right (by omega) (by omega)))]
def bfsN (M k:Nat):Option (List Nat × List (List Int)):=bfs M (fun n x=>some (nxN k n x)) 2 0
theorem late_bfs {k:Nat} (h1:1<=k) (M:Nat):(bfs M (nextA (lateM k)) 2 (firstA (lateM k))=none/\bfsN M k=none) \/ ∃ l m rows,bfs M (nextA (lateM k)) 2 (firstA (lateM k))=some (l,rows)/\bfsN M k=some (m,rows)/\RelL (fun s n=>n<2 ^ k/\s=codeS k n) l m:=by
 refine bfs_sim (R:=fun s n=>n<2 ^ k/\s=codeS k n) ?_ ?_ ⟨Nat.pow_pos (by omega),late_first k⟩
 ·rintro s n s' n' ⟨hn,rfl⟩ ⟨hn',rfl⟩
  exact ⟨fun h=>codeS_inj hn hn' h,fun h=>by rw [h]⟩
 ·rintro s n ⟨hn,rfl⟩ x hx
  rw [late_next h1 hx]
  exact ⟨nxN_lt _ _ _,rfl⟩
theorem bfsN_small:∀ k,k<9->(bfsN 256 k).map (fun r=>r.1.length)=some (2 ^ k):=by decide +kernel
theorem bfsN_big:∀ k,k<13->9<=k->bfsN 256 k=none:=by decide +kernel
theorem bfsN_257:∀ k,k<9->(bfsN 257 k).map (fun r=>r.1.length)=some (2 ^ k):=by decide +kernel
theorem edAll_le {m:Nat}:∀ (rs:List (List Int)) (i:Nat),(∀ r ∈ rs,r.length<=m)->(edAll i rs).length<=rs.length*m
 | [],_,_=>by simp [edAll]
 | r::rs,i,h=>by
  have er:∀ (i:Int) (r:List Int) (x:Nat),(edRow i x r).length<=r.length:=by
   intro i r
   induction r with
   | nil=>intro x;simp [edRow]
   | cons t r ih =>
    intro x
    rw [edRow]
    have:=ih (x+1)
    split <;> simp only [List.length_cons] <;> omega
  rw [edAll,List.length_append,List.length_cons,Nat.add_mul,Nat.one_mul]
  have h1:=edAll_le rs (i+1) (fun r hr=>h r (by simp [hr]))
  have h2:=er (i:Int) r 0
  have h3:=h r (by simp)
  omega
theorem auOf_va {g:Gr} (h:GrOk g) (h1:1<=g.sy) (h2:g.sy<=16) (hn:g.acc.length<=256):VA (auOf g):=by
 have hed:(auOf g).ed.length<=4096:=by
  have:=edAll_le g.to 0 (m:=g.sy) (fun r hr=>Nat.le_of_eq (h.row r hr))
  rw [h.len] at this
  exact Nat.le_trans this (Nat.le_trans (Nat.mul_le_mul hn h2) (by omega))
 refine ⟨⟨by show (1:Int)<=(g.sy:Int);omega,by show (g.sy:Int)<=64;omega⟩,⟨h.n,hn⟩,hed,fun e he=>?_⟩
 obtain ⟨i,x,hi,hx,h5,rfl⟩:=(mem_auOf h).1 he
 have:=h.hi i x
 have ha:(auOf g).acc.length=g.acc.length:=rfl
 have hs:(auOf g).sy=(g.sy:Int):=rfl
 simp only
 rw [ha,hs]
 omega
theorem late_big {k:Nat} (h1:9<=k) (h2:k<=12):fixedM (lateM k)=(nilA,4):=by
 have hs:setsM (lateM k)=none:=by
  show (bfs 256 (nextA (lateM k)) 2 (firstA (lateM k))).map _=none
  rcases late_bfs (show 1<=k by omega) 256 with ⟨h,_⟩ | ⟨l,m,rows,_,h,_⟩
  ·rw [h];rfl
  ·rw [bfsN_big k (by omega) h1] at h;cases h
 rw [fixedM,if_pos (valid_VA.2 (late_VA (by omega) h2)),hs]
theorem checked_ok {d:Gr} (h:GrOk d) (h1:1<=d.sy) (h2:d.sy<=16) (hn:(leastR d).acc.length<=256) (hd:d.acc.length<=257):checkedM (leastR d)=(auOf (leastR d),0):=by
 have hv:VA (auOf (leastR d)):=auOf_va (leastR_lang h hd).1 h1 h2 hn
 rw [checkedM,if_pos (valid_VA.2 hv)]
theorem late_small {k:Nat} (h1:1<=k) (h2:k<=8):(fixedM (lateM k)).2=0:=by
 have hN:=bfsN_small k (by omega)
 rcases late_bfs h1 256 with ⟨_,h⟩ | ⟨l,m,rows,h,_,_⟩
 ·rw [h] at hN;cases hN
 ·have hs:setsM (lateM k)=some (grOf 2 (fun s=>meets s (lateM k).acc) l rows):=by
   show (bfs 256 (nextA (lateM k)) 2 (firstA (lateM k))).map _=_
   rw [h];rfl
  obtain ⟨g1,g2,g3,_⟩:=setsM_ok hs
  rw [fixedM,if_pos (valid_VA.2 (late_VA h1 (by omega))),hs]
  simp only
  have hs2:(grOf 2 (fun s=>meets s (lateM k).acc) l rows).sy=2:=rfl
  rw [checked_ok g1 (by rw [hs2];omega) (by rw [hs2];omega) (Nat.le_trans (leastR_lang g1 (by omega)).2.1 g2) (by omega)]
def lgN (k n:Nat):Lng:=fun w=>klang (fun n x=>some (nxN k n x)) (fun n=>n.testBit (k-1)) 2 w n
theorem lgN_cons {k n x:Nat} {w:List Nat} (hx:x<2):lgN k n (x::w)=lgN k (nxN k n x) w:=by
 rw [lgN,klang,if_pos hx];rfl
theorem late_klang {k:Nat} (h1:1<=k):∀ (w:List Nat) (n:Nat),klang (nextA (lateM k)) (fun s=>meets s (lateM k).acc) 2 w (codeS k n)=lgN k n w
 | [],n=>by
  show meets (codeS k n) (lateM k).acc=n.testBit (k-1)
  rw [Bool.eq_iff_iff,meets_iff]
  have hacc:∀ i,bt (lateM k).acc i=true ↔ i=k:=fun i=>by
   show (List.replicate k false++[true]).getD i false=true ↔ i=k
   rw [List.getD_eq_getElem?_getD,List.getElem?_append]
   split
   ·rename_i h
    rw [List.length_replicate] at h
    rw [List.getElem?_replicate,if_pos h]
    simp;omega
   ·rename_i h
    rw [List.length_replicate] at h ⊢
    by_cases e:i=k
    ·subst e;simp
    ·have:1<=i-k:=by omega
     rw [List.getElem?_eq_none (by simpa using this)]
     simp [e]
  constructor
  ·rintro ⟨i,h2,h3⟩
   rw [hacc] at h3
   subst h3
   rw [codeS_bt] at h2
   exact h2.2.resolve_left (by omega)
  ·intro h
   exact ⟨k,by rw [codeS_bt];exact ⟨by omega,.inr h⟩,(hacc k).2 rfl⟩
 | x::w,n=>by
  rw [klang]
  by_cases hx:x<2
  ·rw [if_pos hx,late_next h1 hx,lgN_cons hx]
   exact late_klang h1 w _
  ·rw [if_neg hx,lgN,klang,if_neg hx]
theorem late_accepts {k:Nat} (h1:1<=k) (h2:k<=8) (w:List Nat):acceptsM (lateM k) (wI w)=lgN k 0 w:=by
 have hva:=late_VA h1 (show k<=12 by omega)
 rw [acceptsM,if_pos (valid_VA.2 hva),<-late_klang h1 w 0,<-late_first]
 exact (accepts_klang hva w (firstA (lateM k)) (firstA_len _)).symm
theorem lgN_zeros {k:Nat}:∀ (m n:Nat),m<k->lgN k n (List.replicate m 0)=n.testBit (k-1-m)
 | 0,n,_=>rfl
 | m+1,n,h=>by
  rw [List.replicate_succ,lgN_cons (by omega),lgN_zeros m _ (by omega),nxN_bit (by omega),if_neg (by omega)]
  have e:decide (k-1-m<k)=true:=decide_eq_true (by omega)
  rw [e,Bool.true_and]
  congr 1
theorem lgN_inj {k n m:Nat} (hn:n<2 ^ k) (hm:m<2 ^ k) (h:lgN k n=lgN k m):n=m:=by
 refine Nat.eq_of_testBit_eq fun j=>?_
 by_cases hj:j<k
 ·have:=congrFun h (List.replicate (k-1-j) 0)
  rw [lgN_zeros _ _ (by omega),lgN_zeros _ _ (by omega)] at this
  have e:k-1-(k-1-j)=j:=by omega
  rwa [e] at this
 ·rw [Nat.testBit_lt_two_pow (Nat.lt_of_lt_of_le hn (Nat.pow_le_pow_right (by omega) (by omega))),Nat.testBit_lt_two_pow (Nat.lt_of_lt_of_le hm (Nat.pow_le_pow_right (by omega) (by omega)))]
theorem lgN_some {k:Nat} (h1:1<=k) (n:Nat):lgN k n (1::List.replicate (k-1) 0)=true:=by
 rw [lgN_cons (by omega),lgN_zeros _ _ (by omega),nxN_bit (by omega)]
 have e:k-1-(k-1)=0:=by omega
 rw [e]
 simp;omega
theorem late_canon {k:Nat} (h1:1<=k) (h2:k<=8):∃ l m rows,canonL 2 (lgN k 0)=some (l,rows)/\bfsN 257 k=some (m,rows)/\l.length=2 ^ k/\RelL (fun L n=>n<2 ^ k/\L=lgN k n) l m:=by
 have hN:=bfsN_257 k (by omega)
 rcases bfs_sim (M:=257) (sy:=2) (nk:=nextL) (nt:=fun n x=>some (nxN k n x)) (k0:=lgN k 0) (t0:=0) (R:=fun L n=>n<2 ^ k/\L=lgN k n) (by
  rintro s n s' n' ⟨hn,rfl⟩ ⟨hn',rfl⟩
  exact ⟨fun h=>lgN_inj hn hn' h,fun h=>by rw [h]⟩) (by
  rintro s n ⟨hn,rfl⟩ x hx
  have:nextL (lgN k n) x=some (lgN k (nxN k n x)):=by
   unfold nextL
   rw [if_neg]
   ·congr 1
    funext w
    exact lgN_cons hx
   ·intro h
    have:=h (1::List.replicate (k-1) 0)
    rw [lgN_cons hx,lgN_some h1] at this
    cases this
  rw [this]
  exact ⟨nxN_lt _ _ _,rfl⟩) ⟨Nat.pow_pos (by omega),rfl⟩ with ⟨_,h⟩ | ⟨l,m,rows,h,h',hr⟩
 ·rw [show bfs 257 (fun n x=>some (nxN k n x)) 2 0=bfsN 257 k from rfl] at h
  rw [h] at hN;cases hN
 ·have h'':bfsN 257 k=some (m,rows):=h'
  rw [h''] at hN
  exact ⟨l,m,rows,h,h'',by rw [hr.1];exact Option.some.inj hN,hr⟩
theorem late_norm {k:Nat} (h1:1<=k) (h2:k<=8):∃ g,fixedM (lateM k)=(auOf g,0)/\Norm g/\g.sy=2/\g.acc.length=2 ^ k/\lng g 0=lgN k 0:=by
 obtain ⟨_,g,d,_,_,h3,h4,h5,h6⟩:=fixed_norm (late_small h1 h2)
 have hl:lng g 0=lgN k 0:=by rw [h6];exact funext fun w=>late_accepts h1 h2 w
 have hs:g.sy=2:=h5
 refine ⟨g,h3,h4,hs,?_,hl⟩
 obtain ⟨l,m,rows,c1,_,c3,_⟩:=late_canon h1 h2
 have:=h4.can
 rw [hs,hl,canonG,c1] at this
 rw [this]
 simp only [List.length_map]
 exact c3
theorem turn_fin {g:Gr} (h:GrOk g) (V:List (List Nat)) (hV:V.length<=256) (h0:∃ v ∈ V,∀ i,i<g.acc.length->lang g [] i=lang g v i)
 (hc:∀ v ∈ V,∀ x,x<g.sy->(∀ i,lang g (x::v) i=false) \/ ∃ u ∈ V,∀ i,i<g.acc.length->lang g (x::v) i=lang g u i):∃ d,turnedM (auOf g)=some d:=by
 have hsy:(auOf g).sy.toNat=g.sy:=Int.toNat_natCast _
 have hset:∀ v,SetV g v ((List.range g.acc.length).map fun i=>lang g v i):=fun v=>⟨by simp,fun j=>by
  rw [bt_map,Bool.and_eq_true,decide_eq_true_eq]
  refine ⟨fun h=>h.2,fun hl=>⟨Classical.byContradiction fun hn=>?_,hl⟩⟩
  rw [lang_out h (by omega)] at hl;cases hl⟩
 have huniq:∀ {u v:List Nat} {s t:List Bool},SetV g u s->SetV g v t->(∀ i,i<g.acc.length->lang g u i=lang g v i)->s=t:=fun {u v s t} hs ht e=>bt_ext (by rw [hs.len,ht.len]) fun i hi=>by
  rw [hs.get,ht.get,e i (by rw [<-hs.len];exact hi)]
 obtain ⟨l,rows,hb,_⟩:=bfs_small (M:=256) (next:=nextT (auOf g)) (sy:=g.sy) (first:=g.acc) (S:=V.map fun v=>(List.range g.acc.length).map fun i=>lang g v i) (by rw [List.length_map];exact hV) (by
  obtain ⟨v,hv,e⟩:=h0
  exact List.mem_map.2 ⟨v,hv,(huniq (setV_acc g) (hset v) e).symm⟩) (by
  intro s hs x t hx ht
  obtain ⟨v,hv,rfl⟩:=List.mem_map.1 hs
  have hst:=setV_turn h (hset v) hx
  unfold nextT at ht
  split at ht
  ·rename_i ha
   rw [<-Option.some.inj ht]
   rcases hc v hv x hx with hn | ⟨u,hu,e⟩
   ·obtain ⟨j,hj⟩:=(anyT_iff h hx).1 ha
    rw [hst.get,hn] at hj;cases hj
   ·exact List.mem_map.2 ⟨u,hu,(huniq hst (hset u) e).symm⟩
  ·cases ht)
 exact ⟨_,by rw [turnedM,hsy];show (bfs 256 (nextT (auOf g)) g.sy g.acc).map _=_;rw [hb];rfl⟩
theorem turn_done {g:Gr} (hg:Norm g) (h2:g.sy=2) {d:Gr} (hd:turnedM (auOf g)=some d):(turnM (auOf g)).2=0:=by
 have hf:=fixed_again hg
 obtain ⟨d1,d2,d3,_⟩:=turned_ok hg.ok hd
 rw [turnM,hf]
 simp only
 rw [if_pos trivial,hd]
 simp only
 rw [checked_ok d1 (by omega) (by omega) (Nat.le_trans (leastR_lang d1 (by omega)).2.1 d2) (by omega)]
theorem norm_states {K:Type} {g:Gr} (hg:Norm g) (h2:g.sy=2) (F:K->Lng) (P:K->Prop) {l:List Lng} {m:List K} {rows:List (List Int)} (hc:canonL 2 (lng g 0)=some (l,rows)) (hr:RelL (fun L n=>P n/\L=F n) l m) :
 g.acc.length=l.length/\∀ i,i<g.acc.length->∃ n,P n/\∀ w,(∀ x ∈ w,x<2)->lang g w i=F n w:=by
 have hcan:=hg.can
 rw [h2,canonG,hc] at hcan
 simp only at hcan
 have hgl:g=grOf 2 (fun L:Lng=>L []) l rows:=hcan
 have hlen:g.acc.length=l.length:=by rw [hgl];simp [grOf]
 obtain ⟨b1,b2,_⟩:=bfs_ok (M:=257) (by omega) hc
 refine ⟨hlen,fun i hi=>?_⟩
 have hi':i<l.length:=by omega
 have him:i<m.length:=by rw [<-hr.1];exact hi'
 obtain ⟨p1,p2⟩:=hr.2 i hi' him
 refine ⟨m[i],p1,fun w hw=>?_⟩
 rw [hgl,grOf_lang b1 b2 w i hi',klang_nextL 2 w _ hw,p2]
def nxR (k m x:Nat):Option Nat:=if m+1<k then some (m+1) else if m+1=k then (if x=1 then some k else none) else some k
def lgR (k m:Nat):Lng:=fun w=>klang (nxR k) (fun m=>decide (m=k)) 2 w m
theorem lgR_nil (k m:Nat):lgR k m []=decide (m=k):=rfl
theorem lgR_a {k m x:Nat} {w:List Nat} (hx:x<2) (h:m+1<k):lgR k m (x::w)=lgR k (m+1) w:=by
 rw [lgR,klang,if_pos hx,nxR,if_pos h];rfl
theorem lgR_b {k m x:Nat} {w:List Nat} (hx:x<2) (h:m+1=k):lgR k m (x::w)=(decide (x=1) && lgR k k w):=by
 rw [lgR,klang,if_pos hx,nxR,if_neg (by omega),if_pos h]
 by_cases e:x=1
 ·rw [if_pos e,decide_eq_true e,Bool.true_and];rfl
 ·rw [if_neg e,decide_eq_false e,Bool.false_and]
theorem lgR_c {k x:Nat} {w:List Nat} (hx:x<2):lgR k k (x::w)=lgR k k w:=by
 rw [lgR,klang,if_pos hx,nxR,if_neg (by omega),if_neg (by omega)];rfl
theorem lgR_x {k m x:Nat} {w:List Nat} (hx:¬ x<2):lgR k m (x::w)=false:=by
 rw [lgR,klang,if_neg hx]
theorem lgR_all {k:Nat}:∀ w:List Nat,lgR k k w=decide (∀ x ∈ w,x<2)
 | []=>by rw [lgR_nil];simp
 | x::w=>by
  by_cases hx:x<2
  ·rw [lgR_c hx,lgR_all w,decide_eq_decide];simp [hx]
  ·rw [lgR_x hx];symm;rw [decide_eq_false_iff_not];intro h;exact hx (h x (by simp))
theorem lgR_take {k:Nat}:∀ (w:List Nat) (m t:Nat),m<=k->k-m<=t->(∀ x ∈ w,x<2)->lgR k m (w.take t)=lgR k m w
 | [],m,t,_,_,_=>by simp
 | x::w,m,t,hm,ht,hw=>by
  have hx:=hw x (by simp)
  have hw':∀ x ∈ w,x<2:=fun y hy=>hw y (by simp [hy])
  by_cases e:m=k
  ·subst e
   rw [lgR_all,lgR_all,decide_eq_decide]
   exact ⟨fun _=>hw,fun _ y hy=>hw y (List.mem_of_mem_take hy)⟩
  ·obtain ⟨t,rfl⟩:∃ s,t=s+1:=⟨t-1,by omega⟩
   rw [List.take_succ_cons]
   by_cases e2:m+1=k
   ·rw [lgR_b hx e2,lgR_b hx e2,lgR_take w k t (by omega) (by omega) hw']
   ·rw [lgR_a hx (by omega),lgR_a hx (by omega),lgR_take w (m+1) t (by omega) (by omega) hw']
theorem lgR_ones {k:Nat} (h1:1<=k):∀ (t m:Nat),m<=k->lgR k m (List.replicate t 1)=decide (k<=m+t)
 | 0,m,hm=>by rw [List.replicate_zero,lgR_nil,decide_eq_decide];omega
 | t+1,m,hm=>by
  rw [List.replicate_succ]
  by_cases e:m=k
  ·subst e
   rw [lgR_c (by omega),lgR_ones h1 t _ hm,decide_eq_decide];omega
  ·by_cases e2:m+1=k
   ·rw [lgR_b (by omega) e2,lgR_ones h1 t k (by omega),decide_eq_true (rfl:1=1),Bool.true_and,decide_eq_decide];omega
   ·rw [lgR_a (by omega) (by omega),lgR_ones h1 t (m+1) (by omega),decide_eq_decide];omega
theorem lgR_zero {k:Nat} (h1:1<=k):∀ (t m:Nat),m<k->lgR k m (List.replicate t 0)=false
 | 0,m,hm=>by rw [List.replicate_zero,lgR_nil,decide_eq_false (by omega)]
 | t+1,m,hm=>by
  rw [List.replicate_succ]
  by_cases e2:m+1=k
  ·rw [lgR_b (by omega) e2,decide_eq_false (by omega),Bool.false_and]
  ·rw [lgR_a (by omega) (by omega),lgR_zero h1 t (m+1) (by omega)]
theorem lgR_inj {k m m':Nat} (h1:1<=k) (hm:m<=k) (hm':m'<=k) (h:lgR k m=lgR k m'):m=m':=by
 have a:=congrFun h (List.replicate (k-m) 1)
 have b:=congrFun h (List.replicate (k-m') 1)
 rw [lgR_ones h1 _ _ hm,lgR_ones h1 _ _ hm',decide_eq_decide] at a b
 omega
theorem lgR_some {k m:Nat} (h1:1<=k) (hm:m<=k):lgR k m (List.replicate (k-m) 1)=true:=by
 rw [lgR_ones h1 _ _ hm];exact decide_eq_true (by omega)
def bfsR (k:Nat):Option (List Nat × List (List Int)):=bfs 257 (nxR k) 2 0
theorem bfsR_len:∀ k,k<9->1<=k->(bfsR k).map (fun r=>r.1.length)=some (k+1):=by decide +kernel
theorem rev_canon {k:Nat} (h1:1<=k) (h2:k<=8):∃ l m rows,canonL 2 (lgR k 0)=some (l,rows)/\l.length=k+1/\RelL (fun L n=>n<=k/\L=lgR k n) l m:=by
 have hN:=bfsR_len k (by omega) h1
 rcases bfs_sim (M:=257) (sy:=2) (nk:=nextL) (nt:=nxR k) (k0:=lgR k 0) (t0:=0) (R:=fun L n=>n<=k/\L=lgR k n) (by
  rintro s n s' n' ⟨hn,rfl⟩ ⟨hn',rfl⟩
  exact ⟨fun h=>lgR_inj h1 hn hn' h,fun h=>by rw [h]⟩) (by
  rintro s n ⟨hn,rfl⟩ x hx
  have some_:∀ t,t<=k->nxR k n x=some t->(∀ w,lgR k n (x::w)=lgR k t w)->RelO (fun L n=>n<=k/\L=lgR k n) (nextL (lgR k n) x) (nxR k n x):=fun t ht e hw=>by
   have:nextL (lgR k n) x=some (lgR k t):=by
    unfold nextL
    rw [if_neg]
    ·congr 1
     funext w
     exact hw w
    ·intro h
     have:=h (List.replicate (k-t) 1)
     rw [hw,lgR_some h1 ht] at this
     cases this
   rw [this,e]
   exact ⟨ht,rfl⟩
  by_cases e:n=k
  ·subst e
   exact some_ n (by omega) (by rw [nxR,if_neg (by omega),if_neg (by omega)]) fun w=>lgR_c hx
  ·by_cases e2:n+1=k
   ·by_cases e3:x=1
    ·exact some_ k (by omega) (by rw [nxR,if_neg (by omega),if_pos e2,if_pos e3]) fun w=>by rw [lgR_b hx e2,decide_eq_true e3,Bool.true_and]
    ·have a:nextL (lgR k n) x=none:=by
      unfold nextL
      rw [if_pos]
      intro w
      rw [lgR_b hx e2,decide_eq_false e3,Bool.false_and]
     have b:nxR k n x=none:=by rw [nxR,if_neg (by omega),if_pos e2,if_neg e3]
     rw [a,b];trivial
   ·exact some_ (n+1) (by omega) (by rw [nxR,if_pos (by omega)]) fun w=>lgR_a hx (by omega)) ⟨by omega,rfl⟩ with ⟨_,h⟩ | ⟨l,m,rows,h,h',hr⟩
 ·rw [show bfs 257 (nxR k) 2 0=bfsR k from rfl] at h
  rw [h] at hN;cases hN
 ·have h'':bfsR k=some (m,rows):=h'
  rw [h''] at hN
  exact ⟨l,m,rows,h,by rw [hr.1];exact Option.some.inj hN,hr⟩
def lvN (y:Nat):Nat->List (List Nat)
 | 0=>[[]]
 | n+1=>(lvN y n).flatMap fun w=>(List.range y).map fun x=>w++[x]
theorem lvN_mem {y:Nat}:∀ {n:Nat} {w:List Nat},w ∈ lvN y n ↔ w.length=n/\∀ x ∈ w,x<y
 | 0,w=>by
  rw [lvN,List.mem_singleton]
  constructor
  ·rintro rfl;simp
  ·intro h;exact List.eq_nil_of_length_eq_zero h.1
 | n+1,w=>by
  rw [lvN]
  simp only [List.mem_flatMap,List.mem_map,List.mem_range]
  constructor
  ·rintro ⟨v,hv,x,hx,rfl⟩
   obtain ⟨h1,h2⟩:=lvN_mem.1 hv
   refine ⟨by simp [h1],fun z hz=>?_⟩
   rcases List.mem_append.1 hz with h | h
   ·exact h2 z h
   ·rw [List.mem_singleton.1 h];exact hx
  ·rintro ⟨h1,h2⟩
   have hne:w ≠ []:=fun e=>by rw [e] at h1;simp at h1
   refine ⟨w.dropLast,lvN_mem.2 ⟨by rw [List.length_dropLast,h1];omega,fun x hx=>h2 x (List.dropLast_subset w hx)⟩,w.getLast hne,h2 _ (List.getLast_mem hne),List.dropLast_concat_getLast hne⟩
theorem klang_snoc {K:Type} (next:K->Nat->Option K) (acc:K->Bool) (sy x:Nat):∀ (u:List Nat) (n:K),klang next acc sy (u++[x]) n=klang next (fun t=>klang next acc sy [x] t) sy u n
 | [],n=>rfl
 | y::u,n=>by
  rw [List.cons_append,klang,klang]
  split
  ·split
   ·rfl
   ·exact klang_snoc next acc sy x u _
  ·rfl
theorem klang_false {K:Type} (next:K->Nat->Option K) (sy:Nat):∀ (u:List Nat) (n:K),klang next (fun _=>false) sy u n=false
 | [],n=>rfl
 | y::u,n=>by
  rw [klang]
  split
  ·split
   ·rfl
   ·exact klang_false next sy u _
  ·rfl
def btN (k j:Nat) (w:List Nat):Bool:=klang (fun n x=>some (nxN k n x)) (fun n=>n.testBit j) 2 w 0
theorem btN_x {k j x:Nat} (u:List Nat) (hx:¬ x<2):btN k j (u++[x])=false:=by
 rw [btN,klang_snoc]
 have:(fun t:Nat=>klang (fun n x=>some (nxN k n x)) (fun n=>n.testBit j) 2 [x] t)=fun _=>false:=funext fun t=>by rw [klang,if_neg hx]
 rw [this,klang_false]
theorem btN_s {k j x:Nat} (u:List Nat) (hx:x<2) (hj:j+1<k):btN k (j+1) (u++[x])=btN k j u:=by
 rw [btN,klang_snoc]
 have:(fun t:Nat=>klang (fun n x=>some (nxN k n x)) (fun n=>n.testBit (j+1)) 2 [x] t)=fun t=>t.testBit j:=funext fun t=>by
  rw [klang,if_pos hx]
  show (nxN k t x).testBit (j+1)=_
  rw [nxN_bit hx,if_neg (by omega),decide_eq_true hj,Bool.true_and,Nat.add_sub_cancel]
 rw [this];rfl
theorem btN_all {k:Nat} (c:Bool):∀ (u:List Nat) (n:Nat),klang (fun n x=>some (nxN k n x)) (fun _=>c) 2 u n=(c && decide (∀ x ∈ u,x<2))
 | [],n=>by rw [klang];simp
 | y::u,n=>by
  rw [klang]
  by_cases hy:y<2
  ·rw [if_pos hy]
   show klang (fun n x=>some (nxN k n x)) (fun _=>c) 2 u _=_
   rw [btN_all c u]
   congr 1
   rw [decide_eq_decide];simp [hy]
  ·rw [if_neg hy]
   have:decide (∀ x ∈ y::u,x<2)=false:=decide_eq_false fun h=>hy (h y (by simp))
   rw [this,Bool.and_false]
theorem btN_0 {k x:Nat} (u:List Nat) (hx:x<2) (hk:0<k):btN k 0 (u++[x])=(decide (x=1) && decide (∀ x ∈ u,x<2)):=by
 rw [btN,klang_snoc]
 have:(fun t:Nat=>klang (fun n x=>some (nxN k n x)) (fun n=>n.testBit 0) 2 [x] t)=fun _=>decide (x=1):=funext fun t=>by
  rw [klang,if_pos hx]
  show (nxN k t x).testBit 0=_
  rw [nxN_bit hx,if_pos rfl,decide_eq_true hk,Bool.true_and]
 rw [this,btN_all]
theorem rev_bt {k:Nat}:∀ (w:List Nat) (m:Nat),m<k->lgR k m w=btN k (k-1-m) w.reverse
 | [],m,hm=>by
  rw [lgR_nil,decide_eq_false (by omega)]
  show false=(0:Nat).testBit _
  rw [Nat.zero_testBit]
 | x::w,m,hm=>by
  rw [List.reverse_cons]
  by_cases hx:x<2
  ·by_cases e:m+1=k
   ·have:k-1-m=0:=by omega
    rw [lgR_b hx e,this,btN_0 _ hx (by omega),lgR_all]
    congr 1
    rw [decide_eq_decide];simp
   ·obtain ⟨j,hj⟩:∃ j,k-1-m=j+1:=⟨k-2-m,by omega⟩
    have hj':k-1-(m+1)=j:=by omega
    rw [lgR_a hx (by omega),rev_bt w (m+1) (by omega),hj,btN_s _ hx (by omega),hj']
  ·rw [lgR_x hx,btN_x _ hx]
theorem rev_lang {k:Nat} (h1:1<=k) (w:List Nat):lgN k 0 w.reverse=lgR k 0 w:=(rev_bt w 0 (by omega)).symm
theorem turn_late {k:Nat} {g:Gr} (h3:fixedM (lateM k)=(auOf g,0)) (h4:Norm g):turnM (lateM k)=turnM (auOf g):=by
 rw [turnM,turnM,h3,fixed_again h4]
theorem late_turn {k:Nat} (h1:1<=k) (h2:k<=8):∃ g,turnM (lateM k)=(auOf g,0)/\Norm g/\g.sy=2/\g.acc.length=k+1/\lng g 0=lgR k 0:=by
 obtain ⟨g,h3,h4,hs,hl,hL⟩:=late_norm h1 h2
 obtain ⟨l,m,rows,c1,_,c3,c4⟩:=late_canon h1 h2
 obtain ⟨_,hst⟩:=norm_states (P:=fun n=>n<2 ^ k) h4 hs (lgN k) (by rw [hL];exact c1) c4
 have hz:∀ t:Nat,∀ x ∈ List.replicate t 0,x<2:=fun t x hx=>by rw [List.eq_of_mem_replicate hx];omega
 have hfin:∃ d,turnedM (auOf g)=some d:=by
  refine turn_fin h4.ok ((List.range k).map (fun t=>List.replicate t 0)++[1::List.replicate (k-1) 0]) (by simp;omega) ⟨[],List.mem_append.2 (.inl (List.mem_map.2 ⟨0,List.mem_range.2 (by omega),rfl⟩)),fun _ _=>rfl⟩ ?_
  intro v hv x hx
  rw [hs] at hx
  rcases List.mem_append.1 hv with hv | hv
  ·obtain ⟨t,ht,rfl⟩:=List.mem_map.1 hv
   rw [List.mem_range] at ht
   by_cases e:t+1=k
   ·by_cases e1:x=1
    ·subst e1
     have:k-1=t:=by omega
     exact .inr ⟨1::List.replicate t 0,by rw [this];simp,fun _ _=>rfl⟩
    ·refine .inl fun i=>?_
     by_cases hi:i<g.acc.length
     ·obtain ⟨n,_,hn⟩:=hst i hi
      rw [hn _ (fun y hy=>by rcases List.mem_cons.1 hy with rfl | hy;exact hx;exact hz t y hy),lgN_cons hx,lgN_zeros _ _ ht,nxN_bit hx]
      have:k-1-t=0:=by omega
      rw [this,if_pos rfl,decide_eq_false e1,Bool.and_false]
     ·exact lang_out h4.ok (by omega) _
   ·refine .inr ⟨List.replicate (t+1) 0,List.mem_append.2 (.inl (List.mem_map.2 ⟨t+1,List.mem_range.2 (by omega),rfl⟩)),fun i hi=>?_⟩
    obtain ⟨n,_,hn⟩:=hst i hi
    rw [hn _ (fun y hy=>by rcases List.mem_cons.1 hy with rfl | hy;exact hx;exact hz t y hy),hn _ (hz _),lgN_cons hx,lgN_zeros _ _ ht,lgN_zeros _ _ (by omega),nxN_bit hx,if_neg (by omega),decide_eq_true (show k-1-t<k by omega),Bool.true_and]
    congr 1
  ·rw [List.mem_singleton] at hv
   subst hv
   refine .inr ⟨_,List.mem_append.2 (.inr (List.mem_singleton.2 rfl)),fun i hi=>?_⟩
   obtain ⟨n,_,hn⟩:=hst i hi
   have hb:∀ y ∈ 1::List.replicate (k-1) 0,y<2:=fun y hy=>by rcases List.mem_cons.1 hy with rfl | hy;omega;exact hz _ y hy
   rw [hn _ (fun y hy=>by rcases List.mem_cons.1 hy with rfl | hy;exact hx;exact hb y hy),hn _ hb,lgN_cons hx,lgN_some h1,lgN_some h1]
 obtain ⟨d,hd⟩:=hfin
 have hdone:=turn_done h4 hs hd
 rw [<-turn_late h3 h4] at hdone
 obtain ⟨_,g',k1,k2,k3,k4⟩:=turn_norm hdone
 have hs':g'.sy=2:=k3
 have hl':lng g' 0=lgR k 0:=by
  rw [k4]
  funext w
  rw [late_accepts h1 h2,rev_lang h1]
 obtain ⟨l',m',rows',c1',c3',c4'⟩:=rev_canon h1 h2
 obtain ⟨n1,_⟩:=norm_states (P:=fun n=>n<=k) k2 hs' (lgR k) (by rw [hl'];exact c1') c4'
 exact ⟨g',k1,k2,hs',by rw [n1,c3'],hl'⟩
theorem lv_len:∀ k,k<9->(lvN 2 k).length<=256:=by decide +kernel
theorem late_twice {k:Nat} (h1:1<=k) (h2:k<=8) {g:Gr} (k2:Norm g) (hs:g.sy=2) (hL:lng g 0=lgR k 0):turnM (auOf g)=fixedM (lateM k):=by
 obtain ⟨l,m,rows,c1,_,c4⟩:=rev_canon h1 h2
 obtain ⟨_,hst⟩:=norm_states (P:=fun n=>n<=k) k2 hs (lgR k) (by rw [hL];exact c1) c4
 have hz:∀ t:Nat,∀ x ∈ List.replicate t 0,x<2:=fun t x hx=>by rw [List.eq_of_mem_replicate hx];omega
 have hfin:∃ d,turnedM (auOf g)=some d:=by
  refine turn_fin k2.ok (lvN 2 k) (lv_len k (by omega)) ⟨List.replicate k 0,lvN_mem.2 ⟨by simp,hz k⟩,fun i hi=>?_⟩ ?_
  ·obtain ⟨n,hn,hw⟩:=hst i hi
   rw [hw _ (by simp),hw _ (hz k),lgR_nil]
   by_cases e:n=k
   ·rw [e,lgR_all,decide_eq_decide]
    exact ⟨fun _=>hz k,fun _=>rfl⟩
   ·rw [decide_eq_false e,lgR_zero h1 _ _ (by omega)]
  ·intro v hv x hx
   rw [hs] at hx
   obtain ⟨v1,v2⟩:=lvN_mem.1 hv
   have hxv:∀ y ∈ x::v,y<2:=fun y hy=>by rcases List.mem_cons.1 hy with rfl | hy;exact hx;exact v2 y hy
   have htk:∀ y ∈ (x::v).take k,y<2:=fun y hy=>hxv y (List.mem_of_mem_take hy)
   refine .inr ⟨(x::v).take k,lvN_mem.2 ⟨by simp;omega,htk⟩,fun i hi=>?_⟩
   obtain ⟨n,hn,hw⟩:=hst i hi
   rw [hw _ hxv,hw _ htk,lgR_take _ _ _ hn (by omega) hxv]
 obtain ⟨d,hd⟩:=hfin
 obtain ⟨_,g2,e1,e2,e3,e4⟩:=turn_norm (turn_done k2 hs hd)
 obtain ⟨g0,h3,h4,hs0,_,hL0⟩:=late_norm h1 h2
 have hs2:g2.sy=2:=by rw [e3];show ((g.sy:Int)).toNat=2;rw [hs];rfl
 have:g2=g0:=norm_uniq e2 h4 (by rw [hs2,hs0]) (by
  rw [e4,hL0]
  funext w
  rw [accepts_norm k2.ok k2.va]
  show lng g 0 w.reverse=_
  rw [hL,<-rev_lang h1,List.reverse_reverse])
 rw [e1,h3,this]
def lgC (k n:Nat):Lng:=fun w=>decide (∀ x ∈ w,x<2) && !lgN k n w
theorem lgC_ok {k n:Nat} {w:List Nat} (hw:∀ x ∈ w,x<2):lgC k n w = !lgN k n w:=by rw [lgC,decide_eq_true hw,Bool.true_and]
theorem lgC_cons {k n x:Nat} {w:List Nat} (hx:x<2):lgC k n (x::w)=lgC k (nxN k n x) w:=by
 rw [lgC,lgC,lgN_cons hx]
 congr 1
 rw [decide_eq_decide];simp [hx]
theorem lgC_some {k:Nat} (h1:1<=k) (n:Nat):lgC k n (0::List.replicate (k-1) 0)=true:=by
 rw [lgC_ok (fun y hy=>by rcases List.mem_cons.1 hy with rfl | hy;omega;rw [List.eq_of_mem_replicate hy];omega),lgN_cons (by omega),lgN_zeros _ _ (by omega),nxN_bit (by omega)]
 have e:k-1-(k-1)=0:=by omega
 rw [e]
 simp
theorem lgC_inj {k n m:Nat} (hn:n<2 ^ k) (hm:m<2 ^ k) (h:lgC k n=lgC k m):n=m:=by
 refine Nat.eq_of_testBit_eq fun j=>?_
 by_cases hj:j<k
 ·have:=congrFun h (List.replicate (k-1-j) 0)
  have hz:∀ x ∈ List.replicate (k-1-j) 0,x<2:=fun x hx=>by rw [List.eq_of_mem_replicate hx];omega
  rw [lgC_ok hz,lgC_ok hz,lgN_zeros _ _ (by omega),lgN_zeros _ _ (by omega)] at this
  have e:k-1-(k-1-j)=j:=by omega
  rw [e] at this
  exact Bool.not_inj this
 ·rw [Nat.testBit_lt_two_pow (Nat.lt_of_lt_of_le hn (Nat.pow_le_pow_right (by omega) (by omega))),Nat.testBit_lt_two_pow (Nat.lt_of_lt_of_le hm (Nat.pow_le_pow_right (by omega) (by omega)))]
theorem neg_canon {k:Nat} (h1:1<=k) (h2:k<=8):∃ l rows,canonL 2 (lgC k 0)=some (l,rows)/\l.length=2 ^ k:=by
 have hN:=bfsN_257 k (by omega)
 rcases bfs_sim (M:=257) (sy:=2) (nk:=nextL) (nt:=fun n x=>some (nxN k n x)) (k0:=lgC k 0) (t0:=0) (R:=fun L n=>n<2 ^ k/\L=lgC k n) (by
  rintro s n s' n' ⟨hn,rfl⟩ ⟨hn',rfl⟩
  exact ⟨fun h=>lgC_inj hn hn' h,fun h=>by rw [h]⟩) (by
  rintro s n ⟨hn,rfl⟩ x hx
  have:nextL (lgC k n) x=some (lgC k (nxN k n x)):=by
   unfold nextL
   rw [if_neg]
   ·congr 1
    funext w
    exact lgC_cons hx
   ·intro h
    have:=h (0::List.replicate (k-1) 0)
    rw [lgC_cons hx,lgC_some h1] at this
    cases this
  rw [this]
  exact ⟨nxN_lt _ _ _,rfl⟩) ⟨Nat.pow_pos (by omega),rfl⟩ with ⟨_,h⟩ | ⟨l,m,rows,h,h',hr⟩
 ·rw [show bfs 257 (fun n x=>some (nxN k n x)) 2 0=bfsN 257 k from rfl] at h
  rw [h] at hN;cases hN
 ·have h'':bfsN 257 k=some (m,rows):=h'
  rw [h''] at hN
  exact ⟨l,rows,h,by rw [hr.1];exact Option.some.inj hN⟩
theorem late_not {k:Nat} (h1:1<=k) (h2:k<=8):(notM (lateM k)).2=0:=by
 obtain ⟨g,h3,h4,hs,hl,hL⟩:=late_norm h1 h2
 have hp:2 ^ k<=2 ^ 8:=Nat.pow_le_pow_right (by omega) h2
 have nok:=neg_ok h4.ok
 have nl:(negG g).acc.length<=257:=by simp only [negG,List.length_append,List.length_map,List.length_singleton];omega
 have nsy:(negG g).sy=2:=hs
 have hC:lng (negG g) 0=lgC k 0:=by
  funext w
  by_cases hw:∀ x ∈ w,x<2
  ·rw [lgC_ok hw]
   show lang (negG g) w 0=_
   rw [neg_lang h4.ok w 0 (fun x hx=>by rw [hs];exact hw x hx) (by omega)]
   congr 1
   exact congrFun hL w
  ·rw [lgC,decide_eq_false hw,Bool.false_and]
   simp only [Classical.not_forall] at hw
   obtain ⟨x,hx,hx2⟩:=hw
   exact lang_sy nok w 0 ⟨x,hx,by rw [nsy];omega⟩
 obtain ⟨l,rows,c1,c2⟩:=neg_canon h1 h2
 have hle:=leastR_eq nok nl
 rw [nsy,hC,canonG,c1] at hle
 have hlen:(leastR (negG g)).acc.length<=256:=by rw [hle];simp only [List.length_map];omega
 rw [notM,h3]
 simp only
 rw [if_pos trivial,tab_auOf h4.ok,checked_ok nok (by omega) (by omega) hlen nl]
theorem late_none {k:Nat} (h1:9<=k) (h2:k<=12):fixedM (lateM k)=(nilA,4)/\notM (lateM k)=(nilA,4)/\turnM (lateM k)=(nilA,4):=by
 have h:=late_big h1 h2
 refine ⟨h,?_,?_⟩
 ·rw [notM,h];rfl
 ·rw [turnM,h];rfl
end P5
namespace Go.Proofs.Ytjilachpkjlhdaa
open Go.RowKit Dak P5
def lateP (i:Nat):List Edg:=[(0,0,0),(0,1,0),(0,1,1)]++(List.range i).flatMap fun (i:Nat)=>[(((i+1:Nat):Int),0,((i+2:Nat):Int)),(((i+1:Nat):Int),1,((i+2:Nat):Int))]
theorem lateP_len (i:Nat):(lateP i).length=2*i+3:=by
 unfold lateP
 induction i with
 | zero=>rfl
 | succ i ih =>
  rw [List.range_succ,List.flatMap_append,<-List.append_assoc,List.length_append,ih]
  simp;omega
theorem lateP_succ (i:Nat):lateP (i+1)=lateP i++[(((i+1:Nat):Int),0,((i+2:Nat):Int)),(((i+1:Nat):Int),1,((i+2:Nat):Int))]:=by
 unfold lateP
 rw [List.range_succ,List.flatMap_append,<-List.append_assoc];simp
theorem lateP_lateE {k:Nat}:lateP (k-1)=lateE k:=rfl
def objsLt (A:List Bool) (E:List Edg):List AObj:=[.arr 1 3 26 [nil3],.arr A.length 1 4 (A.map vb),.arr 1 3 26 [.agg [vi 2,.own 1 A.length 0 A.length,.own 3 E.length 0 E.length]],.arr E.length 3 71 (E.map vedge)]
theorem objsLt_eq (A:List Bool) (E:List Edg):objsLt A E=[.arr 1 3 26 [nil3],.arr A.length 1 4 (A.map vb),.arr 1 3 26 [.agg [vi 2,.own 1 A.length 0 A.length,.own 3 E.length 0 E.length]],.arr E.length 3 71 (E.map vedge)]:=rfl
theorem late_acc (k:Nat):putS (noneS (k+1)) k=List.replicate k false++[true]:=by
 refine bt_ext (by rw [putS_len];simp [noneS]) fun j hj=>?_
 rw [putS_len] at hj
 have hj:j<k+1:=by simpa [noneS] using hj
 rw [putS_bt (by simp [noneS]),noneS_bt,Bool.or_false,decide_eq_true_eq]
 show j=k ↔ (List.replicate k false++[true]).getD j false=true
 rw [List.getD_eq_getElem?_getD]
 by_cases e:j=k
 ·subst e;simp
 ·rw [List.getElem?_append_left (by simp;omega),List.getElem?_replicate,if_pos (by omega)]
  simp [e]
set_option maxHeartbeats 4000000 in
theorem Late_s (k:Nat) (h1:1<=k) (h2:k<=12):Ctr Try.prog 34 [vi k] (vau (lateM k)):=by
 refine specC f34 (by simp) fun F0 w0=>?_
 have w1:=wrap_s k (by omega)
 have q0:(0:Int)<=((k+1:Nat):Int):=by omega
 have q2:((1:Nat):Int)*((k+1:Nat):Int)<=281474976710656:=by omega
 have q4:((k+1:Nat):Int)<=9223372036854775807:=by omega
 have g0:(0:Int)<=(k:Int):=by omega
 have g1:(k:Int)<((k+1:Nat):Int):=by omega
 unfold c34
 refine CwpE.cut (st:=⟨[(0,vi k),(2,.ref 0 1 0 0)],[.arr 1 3 26 [nil3]]⟩) ?_ ?_
 ·simp only [go_sem]
  exact ⟨_,WkE.kp,rfl⟩
 refine CwpE.cut (st:=⟨[(0,vi k),(2,.ref 0 1 0 0),(3,.ref 2 1 0 0)],[.arr 1 3 26 [nil3],.arr (k+1) 1 4 ((noneS (k+1)).map vb),.arr 1 3 26 [.agg [vi 2,.own 1 (k+1) 0 (k+1),.val (.slice none 0 0)]]]⟩) ?_ ?_
 ·rw [none_map]
  simp only [go_sem,w1,q0,q2,q4,Int.le_refl,Int.toNat_natCast]
  exact ⟨_,WkE.kp,rfl⟩
 refine CwpE.cut (st:=⟨[(0,vi k),(2,.ref 0 1 0 0),(3,.ref 2 1 0 0)],[.arr 1 3 26 [nil3],.arr (k+1) 1 4 ((List.replicate k false++[true]).map vb),.arr 1 3 26 [.agg [vi 2,.own 1 (k+1) 0 (k+1),.val (.slice none 0 0)]]]⟩) ?_ ?_
 ·have hg:=bt_get (s:=noneS (k+1)) (k:=k) (by simp [noneS])
  simp only [go_sem,g0,g1,hg,bt_set,late_acc,Int.toNat_natCast]
  exact ⟨_,WkE.kp,rfl⟩
 have hA:(List.replicate k false++[true]).length=k+1:=by simp
 refine CwpE.seqJ (fun st=>st=⟨[(0,vi k),(2,.ref 0 1 0 0),(3,.ref 2 1 0 0)],objsLt (List.replicate k false++[true]) (lateP 0)⟩) ?_ ?_
 ·refine CwpE.regionC (csa:=[⟨some 13,none,.build [(.val (.int .i64 0)),(.val (.int .i64 0)),(.val (.int .i64 0))] [(0,(1,(kk 0))),(1,(1,(kk 0))),(2,(1,(kk 0)))]⟩,⟨some 14,none,.build [(.val (.int .i64 0)),(.val (.int .i64 0)),(.val (.int .i64 0))] [(0,(1,(kk 0))),(1,(1,(kk 1))),(2,(1,(kk 0)))]⟩,⟨some 15,none,.build [(.val (.int .i64 0)),(.val (.int .i64 0)),(.val (.int .i64 0))] [(0,(1,(kk 0))),(1,(1,(kk 1))),(2,(1,(kk 1)))]⟩]) (csb:=[⟨some 17,none,.fieldAddr 2 (T 3)⟩,nn (.store 1 (T 17) (T 16))]) (by omega) (by decide) ?_
  simp only [go_sem]
  refine ⟨_,WkE.keep (env':=[(0,vi k),(2,.ref 0 1 0 0),(3,.ref 2 1 0 0),(16,.own 3 3 0 3)]) (by simp only [go_sem];try rfl),?_⟩
  simp only [go_sem]
  rw [objsLt_eq,hA]
  exact ⟨_,WkE.kp,rfl⟩
 rintro _ rfl
 refine CwpE.step (fun z=>z=⟨[(0,vi k),(2,.ref 0 1 0 0),(3,.ref 2 1 0 0)],objsLt (List.replicate k false++[true]) (lateE k)⟩) ?_ ?_
 rotate_left
 ·rintro _ rfl
  refine CwpE.vc ?_
  rw [objsLt_eq,hA]
  simp only [go_sem]
  exact objsP_snap 2 _ _ _ 1 3 (k+1) (lateE k).length (by simp) rfl rfl rfl
 simp only [go_sem]
 refine loopX 0 (fun m z=>∃ i:Nat,m=k-i/\1<=i/\i<=k/\z=⟨[(0,vi k),(2,.ref 0 1 0 0),(3,.ref 2 1 0 0),(4,vi i)],objsLt (List.replicate k false++[true]) (lateP (i-1))⟩)
  (fun z=>z=⟨[(0,vi k),(2,.ref 0 1 0 0),(3,.ref 2 1 0 0)],objsLt (List.replicate k false++[true]) (lateE k)⟩) (k-1) ⟨[(0,vi k),(2,.ref 0 1 0 0),(3,.ref 2 1 0 0),(4,vi (1:Nat))],objsLt (List.replicate k false++[true]) (lateP 0)⟩ (WkE.kp) ⟨1,by omega,by omega,by omega,rfl⟩ ?_ ?_
 rotate_left
 ·rintro z rfl
  simp only [go_sem]
  exact ⟨_,.refl _ _,rfl⟩
 rintro m z ⟨i,rfl,hi1,hi,rfl⟩
 by_cases hlt:i<k
 rotate_left
 ·obtain rfl:i=k:=by omega
  simp only [go_sem,Int.lt_irrefl]
  rw [lateP_lateE]
  exact ⟨_,WkE.kp,rfl⟩
 have gi:(i:Int)<(k:Int):=by omega
 have wi:=wrap_s i (by omega)
 have hsu:lateP i=lateP (i-1)++[((i:Int),0,((i+1:Nat):Int)),((i:Int),1,((i+1:Nat):Int))]:=by
  obtain ⟨j,rfl⟩:∃ j,i=j+1:=⟨i-1,by omega⟩
  exact lateP_succ j
 have hle:=lateP_len (i-1)
 have hle2:=lateP_len i
 have hnx:lateP (i+1-1)=lateP i:=by rw [Nat.add_sub_cancel]
 obtain ⟨E0,hE0⟩:∃ E,lateP (i-1)=E:=⟨_,rfl⟩
 obtain ⟨E1,hE1⟩:∃ E,lateP i=E:=⟨_,rfl⟩
 rw [hE0,hE1] at hsu
 rw [hE0] at hle ⊢
 rw [hE1] at hle2 hnx
 have qe:E1.length*24<=140737488355328:=by omega
 have hm:E0.map vedge++[vedge ((i:Int),0,((i+1:Nat):Int)),vedge ((i:Int),1,((i+1:Nat):Int))]=E1.map vedge:=by rw [hsu,List.map_append];rfl
 have hl2:E0.length+2=E1.length:=by omega
 rw [objsLt_eq (List.replicate k false++[true]) E0]
 simp only [go_sem,gi,wi,qe,hm,hl2]
 refine ⟨k-(i+1),⟨[(0,vi k),(2,.ref 0 1 0 0),(3,.ref 2 1 0 0),(4,vi (i+1:Nat))],objsLt (List.replicate k false++[true]) E1⟩,by omega,?_,i+1,rfl,by omega,by omega,by rw [hnx]⟩
 rw [objsLt_eq (List.replicate k false++[true]) E1]
 simp only [List.length_append,List.length_cons,List.length_nil,Nat.zero_add]
 exact WkE.kp
theorem late_lim {k:Nat} (h1:1<=k) (h2:k<=8):∃ D N T,fixedM (lateM k)=(D,0)/\P5.notM (lateM k)=(N,0)/\turnM (lateM k)=(T,0)/\turnM T=(D,0)/\D.acc.length=2 ^ k/\T.acc.length=k+1:=by
 obtain ⟨g,h3,_,_,h4,_⟩:=late_norm h1 h2
 obtain ⟨t,h5,h6,h7,h8,h9⟩:=late_turn h1 h2
 refine ⟨auOf g,(P5.notM (lateM k)).1,auOf t,h3,Prod.ext rfl (late_not h1 h2),h5,?_,h4,h8⟩
 rw [late_twice h1 h2 h6 h7 h9,h3]
theorem late_sz {k:Nat} (h1:1<=k) (h2:k<=12):SzA (lateM k):=szA_va (late_VA h1 h2)
abbrev env7 (K:Nat) (e f t:Int):List (Nat × AV):=[(3,vi K),(4,.ref 0 1 0 0),(5,.ref 1 1 0 0),(6,vi e),(7,.ref 2 1 0 0),(8,vi f),(9,.ref 3 1 0 0),(10,vi t)]
set_option maxHeartbeats 4000000 in
theorem AutomatonLimits_s (k:Int) (hk:I64 k):Ctr Try.prog 7 [vi k] (vb true):=by
 refine specC f7 (by simp) fun F0 w0=>?_
 have hA:=Around_s k 12 hk (I64_of (by omega) (by omega))
 have hbd:=aroundL_bd k 12 (by omega)
 obtain ⟨x,hx⟩:∃ x,aroundL k 12=x:=⟨_,rfl⟩
 rw [hx] at hA hbd
 obtain ⟨K,hK⟩:∃ K:Nat,1+x=(K:Int):=⟨(1+x).toNat,by omega⟩
 have hwr:IntKind.i64.wrap (1+x)=(K:Int):=by rw [wrap_id (by omega) (by omega)];exact hK
 have K1:1<=K:=by omega
 have K2:K<=12:=by omega
 have hL:=Late_s K K1 K2
 have hz:=late_sz K1 K2
 have hO:=ownA_s (lateM K) hz
 have hF:=Fixed_s (lateM K) hz
 have hN:=Not_s (lateM K) hz
 have hT:=Turn_s (lateM K) hz
 have hlv:=lives_s
 obtain ⟨A,hAe⟩:∃ A,lateM K=A:=⟨_,rfl⟩
 obtain ⟨D,e,hD⟩:∃ D e,fixedM A=(D,e):=⟨_,_,rfl⟩
 obtain ⟨N,f,hNe⟩:∃ N f,P5.notM A=(N,f):=⟨_,_,rfl⟩
 obtain ⟨T',t,hTe⟩:∃ T t,turnM A=(T,t):=⟨_,_,rfl⟩
 rw [hAe] at hL hO hF hN hT
 rw [hD] at hF
 rw [hNe] at hN
 rw [hTe] at hT
 have hDz:SzA D:=by have:=fixed_sz A;rw [hD] at this;exact this
 have hTz:SzA T':=by have:=turn_sz A;rw [hTe] at this;exact this
 unfold c7
 refine CwpE.cut (st:=⟨[(0,vi k)],[]⟩) ?_ ?_
 ·simp only [go_sem]
  exact ⟨_,WkE.kp,rfl⟩
 refine CwpE.cut (st:=⟨[(3,vi K)],[]⟩) ?_ ?_
 ·simp only [go_sem]
  refine callT hA rfl ?_
  simp only [go_sem,hwr]
  exact ⟨_,WkE.kp,rfl⟩
 refine CwpE.cut (st:=⟨[(3,vi K),(4,.ref 0 1 0 0)],[oX A]⟩) ?_ ?_
 ·simp only [go_sem]
  refine callT hL rfl ?_
  simp only [go_sem]
  refine callT hO rfl ?_
  simp only [go_sem]
  exact ⟨_,WkE.kp,rfl⟩
 refine CwpE.cut (st:=⟨[(3,vi K),(4,.ref 0 1 0 0),(5,.ref 1 1 0 0),(6,vi e)],[oX A,oX D]⟩) ?_ ?_
 ·simp only [go_sem]
  refine callT hF rfl ?_
  simp only [go_sem]
  exact ⟨_,WkE.kp,rfl⟩
 refine CwpE.cut (st:=⟨[(3,vi K),(4,.ref 0 1 0 0),(5,.ref 1 1 0 0),(6,vi e),(7,.ref 2 1 0 0),(8,vi f)],[oX A,oX D,oX N]⟩) ?_ ?_
 ·simp only [go_sem]
  refine callT hN rfl ?_
  simp only [go_sem]
  exact ⟨_,WkE.kp,rfl⟩
 refine CwpE.cut (st:=⟨env7 K e f t,[oX A,oX D,oX N,oX T']⟩) ?_ ?_
 ·simp only [go_sem]
  refine callT hT rfl ?_
  simp only [go_sem]
  exact ⟨_,WkE.kp,rfl⟩
 by_cases hbig:9<=K
 ·obtain ⟨b1,b2,b3⟩:=late_none hbig K2
  rw [hAe] at b1 b2 b3
  rw [b1] at hD
  rw [b2] at hNe
  rw [b3] at hTe
  obtain ⟨rfl,rfl⟩:=Prod.mk.inj hD
  obtain ⟨rfl,rfl⟩:=Prod.mk.inj hNe
  obtain ⟨rfl,rfl⟩:=Prod.mk.inj hTe
  have g8:(8:Int)<(K:Int):=by omega
  have z00:IntKind.i64.wrap (((0:Nat):Int)+((0:Nat):Int))=0:=by decide
  refine CwpE.vc ?_
  simp only [go_sem,g8,z00,List.length_nil]
  refine callT hlv rfl ?_
  simp only [go_sem]
  exact .tree _ rfl
 have g8:¬ (8:Int)<(K:Int):=by omega
 obtain ⟨D',N',T2,c1,c2,c3,c4,c5,c6⟩:=late_lim K1 (show K<=8 by omega)
 rw [hAe] at c1 c2 c3
 rw [c1] at hD
 rw [c2] at hNe
 rw [c3] at hTe
 obtain ⟨rfl,rfl⟩:=Prod.mk.inj hD
 obtain ⟨rfl,rfl⟩:=Prod.mk.inj hNe
 obtain ⟨rfl,rfl⟩:=Prod.mk.inj hTe
 have hT2:=Turn_s T2 hTz
 rw [c4] at hT2
 have hP:=plainA_s D' hDz
 have hS:=same_s D' D' hDz hDz
 rw [decide_eq_true rfl] at hS
 refine CwpE.cut (st:=⟨env7 K 0 0 0,[oX A,oX D',oX N',oX T2]⟩) ?_ ?_
 ·simp only [go_sem,g8]
  exact ⟨_,WkE.kp,rfl⟩
 refine CwpE.cut (st:=⟨(11,vi (1:Nat))::env7 K 0 0 0,[oX A,oX D',oX N',oX T2]⟩) ?_ ?_
 ·simp only [go_sem]
  exact ⟨_,WkE.kp,rfl⟩
 refine CwpE.step (fun z=>z=⟨(11,vi (2 ^ K:Nat))::env7 K 0 0 0,[oX A,oX D',oX N',oX T2]⟩) ?_ ?_
 ·simp only [go_sem]
  refine loopX 0 (fun m z=>∃ i:Nat,m=K-i/\i<=K/\z=⟨(12,vi i)::(11,vi (2 ^ i:Nat))::env7 K 0 0 0,[oX A,oX D',oX N',oX T2]⟩)
   (fun z=>z=⟨(11,vi (2 ^ K:Nat))::env7 K 0 0 0,[oX A,oX D',oX N',oX T2]⟩) K ⟨(12,vi (0:Nat))::(11,vi (2 ^ 0:Nat))::env7 K 0 0 0,[oX A,oX D',oX N',oX T2]⟩ (WkE.kp) ⟨0,by omega,by omega,rfl⟩ ?_ ?_
  rotate_left
  ·rintro z rfl
   simp only [go_sem]
   exact ⟨_,.refl _ _,rfl⟩
  rintro m z ⟨i,rfl,hi,rfl⟩
  by_cases hlt:i<K
  rotate_left
  ·obtain rfl:i=K:=by omega
   simp only [go_sem,Int.lt_irrefl]
   exact ⟨_,WkE.kp,rfl⟩
  have gi:(i:Int)<(K:Int):=by omega
  have wi:=wrap_s i (by omega)
  have hp:2 ^ (i+1)<=2 ^ 8:=Nat.pow_le_pow_right (by omega) (by omega)
  have hp2:2 ^ (i+1)=2 ^ i*2:=Nat.pow_succ 2 i
  have wm:IntKind.i64.wrap (((2 ^ i:Nat):Int)*2)=((2 ^ (i+1):Nat):Int):=by
   rw [wrap_id (by omega) (by omega),hp2];omega
  obtain ⟨p,hp0⟩:∃ p,2 ^ i=p:=⟨_,rfl⟩
  obtain ⟨q,hq0⟩:∃ q,2 ^ (i+1)=q:=⟨_,rfl⟩
  rw [hp0,hq0] at wm
  rw [hp0]
  simp only [go_sem,gi,wi,wm]
  exact ⟨K-(i+1),⟨(12,vi (i+1:Nat))::(11,vi (q:Nat))::env7 K 0 0 0,[oX A,oX D',oX N',oX T2]⟩,by omega,WkE.kp,i+1,rfl,by omega,by rw [hq0]⟩
 rintro _ rfl
 obtain ⟨M,hM⟩:∃ M,2 ^ K=M:=⟨_,rfl⟩
 rw [hM] at c5 ⊢
 have wK:=wrap_s K (by omega)
 refine CwpE.vc ?_
 simp only [go_sem]
 refine callT hT2 rfl ?_
 simp only [go_sem,List.length_map,c5,c6,wK]
 refine callT hP rfl ?_
 simp only [go_sem]
 refine callT hS rfl ?_
 simp only [go_sem]
 refine callT hlv rfl ?_
 simp only [go_sem]
 exact .tree _ rfl
end Go.Proofs.Ytjilachpkjlhdaa
