/- Lemmas used by Differs. -/
import Derived.Test.YtjilachpkjlhdaaJa
import Derived.Test.YtjilachpkjlhdaaJb
import Derived.Test.YtjilachpkjlhdaaJc
import Derived.Test.YtjilachpkjlhdaaJd
import Derived.Test.YtjilachpkjlhdaaJe
import Derived.Test.YtjilachpkjlhdaaJf
import Derived.Test.YtjilachpkjlhdaaJg
set_option linter.unusedSimpArgs false
set_option linter.unusedVariables false
set_option linter.unusedSectionVars false
set_option maxRecDepth 100000
namespace Go.Proofs.Ytjilachpkjlhdaa
open Dak
theorem f5:fnC Try.prog 5=some (c5,172,[(.tmp 12)]):=by kernel_rfl
def c27:CCode :=
 (sR [oo 2 (.box 26 (T 0)),oo 3 (.box 26 (T 1)),oo 4 (.mov (.const (.slice none 0 0))),oo 5 (.mov bF),oo 6 (.mov (kk 0))]
 (sR [oo 13 (ld3 2),oo 14 (ld3 3),oo 15 (cL 58 [T 13,T 14]),vv 12 15,oo 16 (eX 12 0),oo 17 (eX 12 1),oo 18 (eX 12 2),oo 7 (aZ 26),oo 8 (aZ 26),sS 3 7 16,sS 3 8 17,vv 9 18]
 (.seq (sR [vv 19 9,oo 20 (iK .neq 19 0)]
 (.cond (T 20)
 (sR [vv 21 9,oo 4 (.mov (.const (.slice none 0 0))),oo 5 (.mov bF),vv 6 21]
 .ret)
 .skip))
 (sR [oo 23 (ld3 7),oo 24 (ld3 8),oo 25 (cL 59 [T 23,T 24]),vv 22 25,oo 26 (eX 22 0),oo 27 (eX 22 1),vv 10 26,vv 11 27]
 (sR [vv 28 10,vv 29 11,vv 4 28,vv 5 29,oo 6 (.mov (kk 0))]
 .ret)))))
theorem f27:fnC Try.prog 27=some (c27,30,[(.tmp 4),(.tmp 5),(.tmp 6)]):=by kernel_rfl
def c29:CCode :=
 (sR [oo 1 (.box 26 (T 0)),oo 2 (aZ 26),oo 3 (.mov (kk 0))]
 (sR [oo 16 (ld3 1),oo 17 (cL 23 [T 16]),vv 15 17,oo 18 (eX 15 0),oo 19 (eX 15 1),oo 4 (aZ 26),sS 3 4 18,vv 5 19]
 (.seq (sR [vv 20 5,oo 21 (iK .neq 20 0)]
 (.cond (T 21)
 (sR [oo 22 (.build [nI,nS,nS] []),vv 23 5,sS 3 2 22,vv 3 23]
 .ret)
 .skip))
 (sR [oo 6 (.mov (.const (.slice none 0 0)))]
 (sR [vv 24 6,oo 25 (fA 1 4),oo 26 (ld1 25),oo 27 (.append 4 1 1 (T 24) (T 26)),vv 6 27]
 (sR [vv 28 6,oo 29 (.bslice 23 1 [T 28]),vv 7 29]
 (sR [oo 30 (fA 0 1),oo 31 (ld1 30),oo 32 (.build [nI,nS,nS] [(0,(1,(T 31)))]),oo 8 (aZ 26),sS 3 8 32]
 (.seq (sR [oo 9 (.mov (kk 0))]
 (.block 0 (.loop
 (.seq (sR [vv 33 9,vv 34 7,oo 35 (lN 34),oo 36 (iB .lss 33 35)]
 (.cond (T 36)
 .skip
 (.exit 0)))
 (.seq (.block 1 (.seq (.drawn [oo 39 (fA 1 8),oo 40 (ld1 39),vv 41 7,vv 42 9,oo 43 (iS 1 41 42),oo 44 (ld1 43),oo 45 (.idxS 1 (T 44) (kk 0)),oo 46 (ld1 45),oo 47 (.bslice 4 1 [T 46])] [(oo 48 (.append 4 1 1 (T 40) (T 47)),[]),(oo 49 (fA 1 8),[]),(sS 1 49 48,[])])
 (sR [oo 10 (.mov (kk 0))]
 (.block 2 (.loop
 (.seq (sR [vv 50 10,oo 51 (fA 0 1),oo 52 (ld1 51),oo 53 (iB .lss 50 52)]
 (.cond (T 53)
 .skip
 (.exit 2)))
 (.seq (.block 3 (sR [oo 56 (fA 1 4),oo 57 (ld1 56),oo 58 (lN 57),oo 59 (.mkslice 4 1 1 (.val (.bool false)) (T 58) (T 58)),vv 11 59]
 (sR [oo 12 (.mov bF)]
 (.seq (sR [oo 13 (.mov (kk 0))]
 (.block 4 (.loop
 (.seq (sR [vv 60 13,oo 61 (fA 2 4),oo 62 (ld1 61),oo 63 (lN 62),oo 64 (iB .lss 60 63)]
 (.cond (T 64)
 .skip
 (.exit 4)))
 (.seq (.block 5 (.seq (.drawn [oo 67 (fA 2 4),oo 68 (ld1 67),vv 69 13,oo 70 (iS 3 68 69),oo 71 (fA 1 70),oo 72 (ld1 71),vv 73 10,oo 74 (iB .eql 72 73),vv 75 74,vt 76 75 7,vt 77 75 9,gt 78 75 (iS 1 76 77),gt 79 75 (ld1 78),gt 80 75 (fA 2 4),gt 81 75 (ld1 80),vt 82 75 13,gt 83 75 (iS 3 81 82),gt 84 75 (fA 2 83),gt 85 75 (ld1 84),gt 86 75 (iS 1 79 85),gt 87 75 (ld1 86),oo 88 (.pick (T 75) (T 87) bF)] [])
 (.cond (T 88)
 (sR [vv 89 11,oo 90 (fA 2 4),oo 91 (ld1 90),vv 92 13,oo 93 (iS 3 91 92),oo 94 (fA 0 93),oo 95 (ld1 94),oo 96 (iS 1 89 95),nn (.store 1 (T 96) bT)]
 (rR [oo 12 (.mov bT)]))
 .skip)))
 (rR [vv 65 13,oo 66 (iK .add 65 1),vv 13 66]))))))
 (.seq (sR [vv 97 12,oo 98 (.lnot (T 97))]
 (.cond (T 98)
 (.exit 3)
 .skip))
 (sR [vv 99 7,vv 100 11,oo 101 (cL 64 [T 99,T 100]),vv 14 101]
 (.seq (sR [vv 102 14,oo 103 (iK .lss 102 0)]
 (.cond (T 103)
 (sR [vv 104 7,oo 105 (lN 104),vv 14 105]
 (rR [vv 106 7,vv 107 11,oo 108 (.bslice 23 1 [T 107]),oo 109 (.append 23 1 24 (T 106) (T 108)),vv 7 109]))
 .skip))
 (.seq (sR [vv 110 7,oo 111 (lN 110),oo 112 (iK .gtr 111 256)]
 (.cond (T 112)
 (sR [oo 113 (.build [nI,nS,nS] []),sS 3 2 113,oo 3 (.mov (kk 4))]
 .ret)
 .skip))
 (rR [oo 114 (fA 2 8),oo 115 (ld1 114),vv 116 9,vv 117 10,vv 118 14,oo 119 (.build [nI,nI,nI] [(0,(1,(T 116))),(1,(1,(T 117))),(2,(1,(T 118)))]),oo 120 (.bslice 71 3 [T 119]),oo 121 (.append 71 3 24 (T 115) (T 120)),oo 122 (fA 2 8),sS 1 122 121])))))))))
 (rR [vv 54 10,oo 55 (iK .add 54 1),vv 10 55]))))))))
 (rR [vv 37 9,oo 38 (iK .add 37 1),vv 9 38]))))))
 (sR [oo 123 (ld3 8),oo 124 (cL 53 [T 123]),oo 125 (cL 52 [T 124]),oo 126 (eX 125 0),oo 127 (eX 125 1),sS 3 2 126,vv 3 127]
 .ret)))))))))
theorem f29:fnC Try.prog 29=some (c29,128,[(.cell 2 true 3),(.tmp 3)]):=by kernel_rfl
def c59:CCode :=
 (sR [oo 2 (.box 26 (T 0)),oo 3 (.box 26 (T 1)),oo 4 (.mov (.const (.slice none 0 0))),oo 5 (.mov bF)]
 (sR [oo 16 (ld3 2),oo 17 (cL 71 [T 16]),vv 6 17]
 (sR [oo 18 (ld3 3),oo 19 (cL 71 [T 18]),vv 7 19]
 (sR [oo 20 (.build [nI,nI] [(0,(1,(kk 0))),(1,(1,(kk 0)))]),oo 21 (.bslice 109 2 [T 20]),vv 8 21]
 (sR [oo 22 (.bslice 22 1 [(.const (.slice none 0 0))]),vv 9 22]
 (.seq (sR [oo 10 (.mov (kk 0))]
 (.block 0 (.loop
 (.seq (sR [vv 23 10,vv 24 8,oo 25 (lN 24),oo 26 (iB .lss 23 25)]
 (.cond (T 26)
 .skip
 (.exit 0)))
 (.seq (.block 1 (.seq (.seq (.drawn [oo 29 (ld3 2),oo 30 (ld3 3),vv 31 8,vv 32 10,oo 33 (iS 2 31 32),oo 34 (.load true 2 (T 33))] [(oo 35 (cL 78 [T 29,T 30,T 34]),[])])
 (.cond (T 35)
 (sR [vv 36 9,vv 37 10,oo 38 (iS 1 36 37),oo 39 (ld1 38),vv 4 39,oo 5 (.mov bT)]
 .ret)
 .skip))
 (sR [oo 11 (.mov (kk 0))]
 (.block 2 (.loop
 (.seq (sR [vv 40 11,oo 41 (fA 0 2),oo 42 (ld1 41),oo 43 (iB .lss 40 42)]
 (.cond (T 43)
 .skip
 (.exit 2)))
 (.seq (.block 3 (.seq (.drawn [vv 46 6,vv 47 8,vv 48 10,oo 49 (iS 2 47 48),oo 50 (.idxA 2 1 (T 49) (kk 0)),oo 51 (ld1 50),vv 52 11,oo 53 (cL 79 [T 46,T 51,T 52]),vv 54 7,vv 55 8,vv 56 10,oo 57 (iS 2 55 56),oo 58 (.idxA 2 1 (T 57) (kk 1)),oo 59 (ld1 58),vv 60 11,oo 61 (cL 79 [T 54,T 59,T 60]),oo 62 (.build [nI,nI] [(0,(1,(T 53))),(1,(1,(T 61)))]),oo 12 (.alloc 109 (.agg [nI,nI]))] [(sS 2 12 62,[])])
 (sR [oo 13 (.mov bF)]
 (.seq (sR [oo 14 (.mov (kk 0))]
 (.block 4 (.loop
 (.seq (sR [vv 63 14,vv 64 8,oo 65 (lN 64),oo 66 (iB .lss 63 65),vv 67 66,vt 68 67 13,gt 69 67 (.lnot (T 68)),oo 70 (.pick (T 67) (T 69) bF)]
 (.cond (T 70)
 .skip
 (.exit 4)))
 (.seq (.block 5 (.drawn [vv 73 8,vv 74 14,oo 75 (iS 2 73 74),oo 76 (.load true 2 (T 75)),oo 77 (.load true 2 (T 12)),oo 78 (.aeq false 2 (T 76) (T 77)),vv 13 78] []))
 (rR [vv 71 14,oo 72 (iK .add 71 1),vv 14 72]))))))
 (.seq (sR [vv 79 13]
 (.cond (T 79)
 (.exit 3)
 .skip))
 (sR [vv 80 8,oo 81 (.load true 2 (T 12)),oo 82 (.bslice 109 2 [T 81]),oo 83 (.append 109 2 16 (T 80) (T 82)),vv 8 83]
 (sR [oo 15 (.mov (.const (.slice none 0 0)))]
 (rR [vv 84 9,vv 85 15,vv 86 9,vv 87 10,oo 88 (iS 1 86 87),oo 89 (ld1 88),oo 90 (.append 3 1 8 (T 85) (T 89)),vv 91 11,oo 92 (.bslice 3 1 [T 91]),oo 93 (.append 3 1 8 (T 90) (T 92)),oo 94 (.bslice 22 1 [T 93]),oo 95 (.append 22 1 24 (T 84) (T 94)),vv 9 95]))))))))
 (rR [vv 44 11,oo 45 (iK .add 44 1),vv 11 45]))))))))
 (rR [vv 27 10,oo 28 (iK .add 27 1),vv 10 28]))))))
 (sR [oo 4 (.mov (.const (.slice none 0 0))),oo 5 (.mov bF)]
 .ret)))))))
theorem f59:fnC Try.prog 59=some (c59,96,[(.tmp 4),(.tmp 5)]):=by kernel_rfl
def c78:CCode :=
 (sR [oo 3 (.box 26 (T 0)),oo 4 (.box 26 (T 1)),oo 5 (.box 109 (T 2)),oo 6 (.mov bF)]
 (sR [oo 9 (.idxA 2 1 (T 5) (kk 0)),oo 10 (ld1 9),oo 11 (iK .geq 10 0),vv 12 11,gt 13 12 (fA 1 3),gt 14 12 (ld1 13),gt 15 12 (.idxA 2 1 (T 5) (kk 0)),gt 16 12 (ld1 15),gt 17 12 (.imax (T 16) (kk 0)),gt 18 12 (iS 1 14 17),gt 19 12 (ld1 18),oo 20 (.pick (T 12) (T 19) bF),vv 7 20]
 (sR [oo 21 (.idxA 2 1 (T 5) (kk 1)),oo 22 (ld1 21),oo 23 (iK .geq 22 0),vv 24 23,gt 25 24 (fA 1 4),gt 26 24 (ld1 25),gt 27 24 (.idxA 2 1 (T 5) (kk 1)),gt 28 24 (ld1 27),gt 29 24 (.imax (T 28) (kk 0)),gt 30 24 (iS 1 26 29),gt 31 24 (ld1 30),oo 32 (.pick (T 24) (T 31) bF),vv 8 32]
 (sR [vv 33 7,vv 34 8,oo 35 (.bbin .neq (T 33) (T 34)),vv 6 35]
 .ret))))
theorem f78:fnC Try.prog 78=some (c78,36,[(.tmp 6)]):=by kernel_rfl
def c79:CCode :=
 (sR [oo 6 (.mov (kk 0))]
 (.seq (sR [vv 7 1,oo 8 (iK .lss 7 0)]
 (.cond (T 8)
 (sR [oo 6 (.mov (kk (-1)))]
 .ret)
 .skip))
 (sR [vv 9 0,vv 10 1,oo 11 (iS 1 9 10),oo 12 (ld1 11),vv 13 2,oo 14 (iS 1 12 13),oo 15 (ld1 14),vv 6 15]
 .ret)))
theorem f79:fnC Try.prog 79=some (c79,16,[(.tmp 6)]):=by kernel_rfl
end Go.Proofs.Ytjilachpkjlhdaa
namespace P5
theorem fixed_cases (a:Au):(fixedM a).2=0 \/ (fixedM a).1=nilA/\((fixedM a).2=4 \/ ¬ VA a/\(fixedM a).2=validM a):=by
 unfold fixedM
 by_cases hv:validM a=0
 ·rw [if_pos hv]
  cases setsM a with
  | none=>exact .inr ⟨rfl,.inl rfl⟩
  | some d =>
   simp only
   rcases checked_cases (leastR d) with ⟨_,c2⟩ | ⟨_,c2⟩
   ·exact .inl (by rw [c2])
   ·exact .inr ⟨by rw [c2],.inl (by rw [c2])⟩
 ·rw [if_neg hv]
  exact .inr ⟨rfl,.inr ⟨fun h=>hv (valid_VA.2 h),rfl⟩⟩
def llt:List Nat->List Nat->Prop
 | x::u,y::v=>x<y \/ x=y/\llt u v
 | _,_=>False
def wlt (u v:List Nat):Prop:=u.length<v.length \/ u.length=v.length/\llt u v
theorem llt_trans:∀ {u v w:List Nat},llt u v->llt v w->llt u w
 | [],_,_,h,_=>h.elim
 | _::_,[],_,h,_=>h.elim
 | _::_,_::_,[],_,h=>h.elim
 | x::u,y::v,z::w,h,k=>by
  rcases h with h | ⟨rfl,h⟩
  ·rcases k with k | ⟨rfl,k⟩
   ·exact .inl (Nat.lt_trans h k)
   ·exact .inl h
  ·rcases k with k | ⟨rfl,k⟩
   ·exact .inl k
   ·exact .inr ⟨rfl,llt_trans h k⟩
theorem llt_app:∀ {u v a b:List Nat},llt u v->llt (u++a) (v++b)
 | [],_,_,_,h=>h.elim
 | _::_,[],_,_,h=>h.elim
 | x::u,y::v,a,b,h=>by
  rcases h with h | ⟨rfl,h⟩
  ·exact .inl h
  ·exact .inr ⟨rfl,llt_app h⟩
theorem llt_pre:∀ (u:List Nat) {a b:List Nat},llt a b->llt (u++a) (u++b)
 | [],_,_,h=>h
 | _::u,_,_,h=>.inr ⟨rfl,llt_pre u h⟩
theorem wlt_trans {u v w:List Nat} (h:wlt u v) (k:wlt v w):wlt u w:=by
 rcases h with h | ⟨h,h'⟩
 ·rcases k with k | ⟨k,_⟩
  ·exact .inl (Nat.lt_trans h k)
  ·exact .inl (k ▸ h)
 ·rcases k with k | ⟨k,k'⟩
  ·exact .inl (h ▸ k)
  ·exact .inr ⟨h.trans k,llt_trans h' k'⟩
theorem wlt_app {u v:List Nat} (r:List Nat) (h:wlt u v):wlt (u++r) (v++r):=by
 rcases h with h | ⟨h,h'⟩
 ·exact .inl (by simp;exact h)
 ·exact .inr ⟨by simp [h],llt_app h'⟩
theorem wlt_snoc2 {u v:List Nat} (x y:Nat) (h:wlt u v):wlt (u++[x]) (v++[y]):=by
 rcases h with h | ⟨h,h'⟩
 ·exact .inl (by simp;exact h)
 ·exact .inr ⟨by simp [h],llt_app h'⟩
theorem wlt_snoc (u:List Nat) (x:Nat):wlt u (u++[x]):=.inl (by simp)
theorem wlt_last (u:List Nat) {x y:Nat} (h:x<y):wlt (u++[x]) (u++[y]):=.inr ⟨by simp,llt_pre u (.inl h)⟩
theorem wlt_of_pre {p r:List Nat}:p=p++r \/ wlt p (p++r):=by
 cases r with
 | nil=>exact .inl (by simp)
 | cons=>exact .inr (.inl (by simp))
theorem nat_least {P:Nat->Prop}:∀ (n:Nat),P n->∃ m,P m/\∀ k,k<m->¬ P k:=by
 intro n
 induction n using Nat.strongRecOn with
 | ind n ih =>
  intro h
  by_cases hk:∃ k,k<n/\P k
  ·obtain ⟨k,h1,h2⟩:=hk
   exact ih k h1 h2
  ·exact ⟨n,h,fun k h1 h2=>hk ⟨k,h1,h2⟩⟩
theorem llt_least:∀ (n:Nat) (P:List Nat->Prop),(∃ w,w.length=n/\P w)->∃ u,u.length=n/\P u/\∀ v,v.length=n->P v->¬ llt v u
 | 0,P,⟨w,hw,h⟩=>⟨w,hw,h,fun v hv _=>by
  have:v=[]:=List.eq_nil_of_length_eq_zero hv
  subst this
  exact fun h=>by cases w <;> exact h⟩
 | n+1,P,⟨w,hw,h⟩=>by
  obtain ⟨y,r,rfl⟩:∃ y r,w=y::r:=by cases w with
   | nil=>simp at hw
   | cons y r=>exact ⟨y,r,rfl⟩
  obtain ⟨x,⟨r',hr',hx⟩,hmin⟩:=nat_least (P:=fun x=>∃ r:List Nat,r.length=n/\P (x::r)) y ⟨r,by simpa using hw,h⟩
  obtain ⟨u,hu,hP,hl⟩:=llt_least n (fun r=>P (x::r)) ⟨r',hr',hx⟩
  refine ⟨x::u,by simp [hu],hP,fun v hv hPv=>?_⟩
  obtain ⟨z,s,rfl⟩:∃ z s,v=z::s:=by cases v with
   | nil=>simp at hv
   | cons z s=>exact ⟨z,s,rfl⟩
  have hs:s.length=n:=by simpa using hv
  rintro (hlt | ⟨rfl,hlt⟩)
  ·exact hmin z hlt ⟨s,hs,hPv⟩
  ·exact hl s hs hPv hlt
theorem wlt_least (P:List Nat->Prop) (h:∃ w,P w):∃ u,P u/\∀ v,P v->¬ wlt v u:=by
 obtain ⟨w,hw⟩:=h
 obtain ⟨n,⟨w',hn,hw'⟩,hmin⟩:=nat_least (P:=fun n=>∃ w:List Nat,w.length=n/\P w) w.length ⟨w,rfl,hw⟩
 obtain ⟨u,hu,hP,hl⟩:=llt_least n P ⟨w',hn,hw'⟩
 refine ⟨u,hP,fun v hv=>?_⟩
 rintro (h | ⟨h,h'⟩)
 ·exact hmin v.length (by omega) ⟨v,rfl,hv⟩
 ·exact hl v (by omega) hv h'
section
variable {K S : Type}
def srow (nx:K->Nat->K) (fr:K->S->Bool) (ad:S->K->S) (k:K) (w:List Int):List Nat->S->List (K × List Int) × S
 | [],z=>([],z)
 | x::xs,z=>if fr (nx k x) z then ((nx k x,w++[(x:Int)])::(srow nx fr ad k w xs (ad z (nx k x))).1,(srow nx fr ad k w xs (ad z (nx k x))).2)
  else srow nx fr ad k w xs (ad z (nx k x))
def sgo (nx:K->Nat->K) (fr:K->S->Bool) (ad:S->K->S) (goal:K->Bool) (sy:Nat):Nat->List (K × List Int)->S->Option (List Int)
 | 0,_,_=>none
 | _+1,[],_=>none
 | f+1,(k,w)::l,z=>if goal k then some w else
  sgo nx fr ad goal sy f (l++(srow nx fr ad k w (List.range sy) z).1) (srow nx fr ad k w (List.range sy) z).2
structure Srch {Q:Type} (nx:K->Nat->K) (fr:K->S->Bool) (ad:S->K->S) (goal:K->Bool) (sy:Nat) (k0:K) (pt:K->Q->Prop) (lq:List Nat->Q->Prop) (G:K->Prop) (Z:S->Prop) (sn:S->Q->Prop) (m:S->Nat):Prop where
 g0:G k0
 gs:∀ k x,G k->x<sy->G (nx k x)
 goalI:∀ k,G k->(goal k=true ↔ ∃ q,pt k q/\lq [] q)
 step:∀ k x w,G k->x<sy->((∃ q,pt (nx k x) q/\lq w q) ↔ ∃ q,pt k q/\lq (x::w) q)
 lett:∀ w q,lq w q->∀ x ∈ w,x<sy
 frI:∀ t z,G t->Z z->(fr t z=true ↔ ∃ q,pt t q/\¬ sn z q)
 snI:∀ t z q,G t->Z z->(sn (ad z t) q ↔ sn z q \/ pt t q)
 zs:∀ t z,G t->Z z->Z (ad z t)
 m1:∀ t z,G t->Z z->fr t z=true->m (ad z t)+1<=m z
 m0:∀ t z,G t->Z z->fr t z=false->m (ad z t)<=m z
variable {Q : Type} {nx : K -> Nat -> K} {fr : K -> S -> Bool} {ad : S -> K -> S} {goal : K -> Bool} {sy : Nat} {k0 : K} {pt : K -> Q -> Prop} {lq : List Nat -> Q -> Prop} {G : K -> Prop} {Z : S -> Prop} {sn : S -> Q -> Prop} {m : S -> Nat}
theorem wI_snoc (w:List Nat) (x:Nat):wI (w++[x])=wI w++[(x:Int)]:=by simp [wI]
abbrev keyF (nx:K->Nat->K) (k0:K) (v:List Nat):K × List Int:=(v.foldl nx k0,wI v)
theorem keyF_snoc (v:List Nat) (x:Nat):keyF nx k0 (v++[x])=(nx (v.foldl nx k0) x,wI v++[(x:Int)]):=by
 rw [keyF,List.foldl_append,wI_snoc];rfl
theorem Srch.good (H:Srch nx fr ad goal sy k0 pt lq G Z sn m):∀ (v:List Nat) (k:K),G k->(∀ x ∈ v,x<sy)->G (v.foldl nx k)
 | [],_,h,_=>h
 | x::v,k,h,hv=>H.good v (nx k x) (H.gs k x h (hv x (by simp))) fun y hy=>hv y (by simp [hy])
theorem Srch.split (H:Srch nx fr ad goal sy k0 pt lq G Z sn m) (r:List Nat):∀ (v:List Nat) (k:K),G k->(∀ x ∈ v,x<sy)->((∃ q,pt (v.foldl nx k) q/\lq r q) ↔ ∃ q,pt k q/\lq (v++r) q)
 | [],_,_,_=>Iff.rfl
 | x::v,k,h,hv=>(H.split r v (nx k x) (H.gs k x h (hv x (by simp))) fun y hy=>hv y (by simp [hy])).trans (H.step k x (v++r) h (hv x (by simp)))
def RW (a b:List Nat):Prop:=wlt a b/\∀ y,wlt b (a++[y])
structure SInv (sy:Nat) (nx:K->Nat->K) (k0:K) (pt:K->Q->Prop) (Z:S->Prop) (sn:S->Q->Prop) (u:List Nat) (vs:List (List Nat)) (z:S):Prop where
 srt:vs.Pairwise RW
 good:∀ v ∈ vs,∀ x ∈ v,x<sy
 zok:Z z
 seen:∀ q,sn z q->∃ v:List Nat,(∀ x ∈ v,x<sy)/\pt (v.foldl nx k0) q/\∀ v' ∈ vs,∀ y,wlt v (v'++[y])
 hit:∃ p r,u=p++r/\p ∈ vs
theorem srow_inv (H:Srch nx fr ad goal sy k0 pt lq G Z sn m) {u:List Nat} (hu:∃ q,pt k0 q/\lq u q) (hmin:∀ v,(∃ q,pt k0 q/\lq v q)->¬ wlt v u) {v1:List Nat} (h1:∀ x ∈ v1,x<sy) :
 ∀ (xs:List Nat) (vs:List (List Nat)) (z:S),xs.Pairwise (· < ·)->(∀ x ∈ xs,x<sy)->vs.Pairwise RW->(∀ v ∈ vs,∀ x ∈ v,x<sy)->Z z ->
 (∀ v ∈ vs,∀ x ∈ xs,RW v (v1++[x])) ->
 (∀ q,sn z q->∃ v:List Nat,(∀ x ∈ v,x<sy)/\pt (v.foldl nx k0) q/\(∀ v' ∈ vs,∀ y,wlt v (v'++[y]))/\∀ x ∈ xs,wlt v (v1++[x])) ->
 ((∃ p r,u=p++r/\p ∈ vs) \/ ∃ x r,x ∈ xs/\u=v1++x::r) ->
 ∃ new,(srow nx fr ad (v1.foldl nx k0) (wI v1) xs z).1=new.map (keyF nx k0)/\SInv sy nx k0 pt Z sn u (vs++new) (srow nx fr ad (v1.foldl nx k0) (wI v1) xs z).2/\new.length+m (srow nx fr ad (v1.foldl nx k0) (wI v1) xs z).2<=m z
 | [],vs,z,_,_,a1,a2,a3,_,a5,a6=>by
  refine ⟨[],rfl,⟨by simpa using a1,by simpa using a2,a3,fun q hq=>?_,?_⟩,by simp [srow]⟩
  ·obtain ⟨v,b1,b2,b3,_⟩:=a5 q hq
   exact ⟨v,b1,b2,by simpa using b3⟩
  ·rcases a6 with h | ⟨x,_,h,_⟩
   ·simpa using h
   ·simp at h
 | x::xs,vs,z,hp,hx,a1,a2,a3,a4,a5,a6=>by
  have hxs:x<sy:=hx x (by simp)
  have hg1:G (v1.foldl nx k0):=H.good v1 k0 H.g0 h1
  have ht:G (nx (v1.foldl nx k0) x):=H.gs _ _ hg1 hxs
  have h1x:∀ y ∈ v1++[x],y<sy:=fun y hy=>by
   rcases List.mem_append.1 hy with h | h
   ·exact h1 y h
   ·rw [List.mem_singleton.1 h];exact hxs
  have hfx:(v1++[x]).foldl nx k0=nx (v1.foldl nx k0) x:=by rw [List.foldl_append];rfl
  have hp1:=(List.pairwise_cons.1 hp).1
  have hp2:=(List.pairwise_cons.1 hp).2
  have hz:Z (ad z (nx (v1.foldl nx k0) x)):=H.zs _ _ ht a3
  by_cases hf:fr (nx (v1.foldl nx k0) x) z=true
  ·obtain ⟨new,e1,e2,e3⟩:=srow_inv H hu hmin h1 xs (vs++[v1++[x]]) (ad z (nx (v1.foldl nx k0) x)) hp2 (fun y hy=>hx y (by simp [hy]))
    (by
     rw [List.pairwise_append]
     refine ⟨a1,by simp,fun v hv w hw=>?_⟩
     rw [List.mem_singleton.1 hw]
     exact a4 v hv x (by simp))
    (fun v hv=>by
     rcases List.mem_append.1 hv with h | h
     ·exact a2 v h
     ·rw [List.mem_singleton.1 h];exact h1x)
    hz
    (fun v hv y hy=>by
     rcases List.mem_append.1 hv with h | h
     ·exact a4 v h y (by simp [hy])
     ·rw [List.mem_singleton.1 h]
      exact ⟨wlt_last v1 (hp1 y hy),fun k=>.inl (by simp)⟩)
    (fun q hq=>by
     rcases (H.snI _ _ q ht a3).1 hq with h | h
     ·obtain ⟨v,b1,b2,b3,b4⟩:=a5 q h
      refine ⟨v,b1,b2,fun v' hv' y=>?_,fun y hy=>b4 y (by simp [hy])⟩
      rcases List.mem_append.1 hv' with h' | h'
      ·exact b3 v' h' y
      ·rw [List.mem_singleton.1 h']
       exact wlt_trans (b4 x (by simp)) (wlt_snoc _ y)
     ·refine ⟨v1++[x],h1x,by rw [hfx];exact h,fun v' hv' y=>?_,fun y hy=>wlt_last v1 (hp1 y hy)⟩
      rcases List.mem_append.1 hv' with h' | h'
      ·exact (a4 v' h' x (by simp)).2 y
      ·rw [List.mem_singleton.1 h']
       exact wlt_snoc _ y)
    (by
     rcases a6 with ⟨p,r,h,h'⟩ | ⟨y,r,h,h'⟩
     ·exact .inl ⟨p,r,h,by simp [h']⟩
     ·rcases List.mem_cons.1 h with rfl | h
      ·exact .inl ⟨v1++[y],r,by rw [h'];simp,by simp⟩
      ·exact .inr ⟨y,r,h,h'⟩)
   refine ⟨(v1++[x])::new,?_,?_,?_⟩
   ·rw [srow,if_pos hf,List.map_cons,keyF_snoc]
    simp only [e1]
   ·rw [srow,if_pos hf]
    simp only
    rw [List.append_cons]
    exact e2
   ·have:=H.m1 _ _ ht a3 hf
    rw [srow,if_pos hf]
    simp only [List.length_cons]
    omega
  ·have hfb:fr (nx (v1.foldl nx k0) x) z=false:=by simpa using hf
   have hin:∀ q,pt (nx (v1.foldl nx k0) x) q->sn z q:=fun q hq=>by
    refine Classical.byContradiction fun hc=>hf ((H.frI _ _ ht a3).2 ⟨q,hq,hc⟩)
   obtain ⟨new,e1,e2,e3⟩:=srow_inv H hu hmin h1 xs vs (ad z (nx (v1.foldl nx k0) x)) hp2 (fun y hy=>hx y (by simp [hy])) a1 a2 hz
    (fun v hv y hy=>a4 v hv y (by simp [hy]))
    (fun q hq=>by
     have h:sn z q:=((H.snI _ _ q ht a3).1 hq).elim id (hin q)
     obtain ⟨v,b1,b2,b3,b4⟩:=a5 q h
     exact ⟨v,b1,b2,b3,fun y hy=>b4 y (by simp [hy])⟩)
    (by
     rcases a6 with h | ⟨y,r,h,h'⟩
     ·exact .inl h
     ·rcases List.mem_cons.1 h with rfl | h
      ·exfalso
       have hs:u=(v1++[y])++r:=by rw [h'];simp
       obtain ⟨q,hq1,hq2⟩:=(H.split r (v1++[y]) k0 H.g0 h1x).2 (by rw [<-hs];exact hu)
       rw [hfx] at hq1
       obtain ⟨v,b1,b2,_,b4⟩:=a5 q (hin q hq1)
       have hacc:=(H.split r v k0 H.g0 b1).1 ⟨q,b2,hq2⟩
       refine hmin _ hacc ?_
       rw [hs]
       exact wlt_app r (b4 y (by simp))
      ·exact .inr ⟨y,r,h,h'⟩)
   refine ⟨new,?_,?_,?_⟩
   ·rw [srow,if_neg hf];exact e1
   ·rw [srow,if_neg hf];exact e2
   ·have:=H.m0 _ _ ht a3 hfb
    rw [srow,if_neg hf]
    omega
theorem range_lt (n:Nat):(List.range n).Pairwise (· < ·):=List.pairwise_lt_range
theorem sgo_inv (H:Srch nx fr ad goal sy k0 pt lq G Z sn m) {u:List Nat} (hu:∃ q,pt k0 q/\lq u q) (hmin:∀ v,(∃ q,pt k0 q/\lq v q)->¬ wlt v u) :
 ∀ (f:Nat) (vs:List (List Nat)) (z:S),SInv sy nx k0 pt Z sn u vs z->vs.length+m z+1<=f->sgo nx fr ad goal sy f (vs.map (keyF nx k0)) z=some (wI u)
 | 0,_,_,_,hf=>by omega
 | f+1,vs,z,hi,hf=>by
  obtain ⟨p,r,hpr,hp⟩:=hi.hit
  cases vs with
  | nil=>simp at hp
  | cons v1 vs =>
   have h1:=hi.good v1 (by simp)
   have hg:=H.good v1 k0 H.g0 h1
   rw [List.map_cons,sgo]
   by_cases hG:goal (v1.foldl nx k0)=true
   ·rw [if_pos hG]
    obtain ⟨q,b1,b2⟩:=(H.goalI _ hg).1 hG
    have hacc:=(H.split [] v1 k0 H.g0 h1).1 ⟨q,b1,b2⟩
    rw [List.append_nil] at hacc
    have hle:v1=p \/ wlt v1 p:=by
     rcases List.mem_cons.1 hp with rfl | h
     ·exact .inl rfl
     ·exact .inr ((List.pairwise_cons.1 hi.srt).1 p h).1
    have hpu:p=u \/ wlt p u:=by
     rcases wlt_of_pre (p:=p) (r:=r) with h | h
     ·exact .inl (by rw [hpr];exact h)
     ·exact .inr (by rw [hpr];exact h)
    have:v1=u:=by
     rcases hle with rfl | h
     ·rcases hpu with h | h
      ·exact h
      ·exact absurd h (hmin _ hacc)
     ·rcases hpu with rfl | h'
      ·exact absurd h (hmin _ hacc)
      ·exact absurd (wlt_trans h h') (hmin _ hacc)
    rw [this]
   ·rw [if_neg hG]
    have hs:=hi.srt
    rw [List.pairwise_cons] at hs
    obtain ⟨new,e1,e2,e3⟩:=srow_inv H hu hmin h1 (List.range sy) vs z (range_lt sy) (fun x hx=>List.mem_range.1 hx) hs.2 (fun v hv=>hi.good v (by simp [hv])) hi.zok
     (fun v hv x _=>⟨(hs.1 v hv).2 x,fun y=>wlt_snoc2 x y (hs.1 v hv).1⟩)
     (fun q hq=>by
      obtain ⟨v,b1,b2,b3⟩:=hi.seen q hq
      exact ⟨v,b1,b2,fun v' hv'=>b3 v' (by simp [hv']),fun x _=>b3 v1 (by simp) x⟩)
     (by
      rcases List.mem_cons.1 hp with rfl | h
      ·cases r with
       | nil =>
        exfalso
        rw [List.append_nil] at hpr
        subst hpr
        refine hG ((H.goalI _ hg).2 ((H.split [] u k0 H.g0 h1).2 ?_))
        rw [List.append_nil];exact hu
       | cons x r =>
        obtain ⟨q,_,hq⟩:=hu
        exact .inr ⟨x,r,List.mem_range.2 (H.lett u q hq x (by rw [hpr];simp)),hpr⟩
      ·exact .inl ⟨p,r,hpr,h⟩)
    rw [e1,<-List.map_append]
    refine sgo_inv H hu hmin f _ _ e2 ?_
    simp only [List.length_cons,List.length_append] at hf ⊢
    omega
theorem srow_map (H:Srch nx fr ad goal sy k0 pt lq G Z sn m) {v1:List Nat} (h1:∀ x ∈ v1,x<sy):∀ (xs:List Nat) (z:S),(∀ x ∈ xs,x<sy)->∃ new:List (List Nat),(srow nx fr ad (v1.foldl nx k0) (wI v1) xs z).1=new.map (keyF nx k0)/\∀ v ∈ new,∀ x ∈ v,x<sy
 | [],z,_=>⟨[],rfl,by simp⟩
 | x::xs,z,hx=>by
  obtain ⟨new,e1,e2⟩:=srow_map H h1 xs (ad z (nx (v1.foldl nx k0) x)) fun y hy=>hx y (by simp [hy])
  by_cases hf:fr (nx (v1.foldl nx k0) x) z=true
  ·refine ⟨(v1++[x])::new,?_,fun v hv=>?_⟩
   ·rw [srow,if_pos hf,List.map_cons,keyF_snoc]
    simp only [e1]
   ·rcases List.mem_cons.1 hv with rfl | h
    ·intro y hy
     rcases List.mem_append.1 hy with h | h
     ·exact h1 y h
     ·rw [List.mem_singleton.1 h];exact hx x (by simp)
    ·exact e2 v h
  ·exact ⟨new,by rw [srow,if_neg hf];exact e1,e2⟩
theorem sgo_some (H:Srch nx fr ad goal sy k0 pt lq G Z sn m):∀ (f:Nat) (vs:List (List Nat)) (z:S),(∀ v ∈ vs,∀ x ∈ v,x<sy)->∀ w,sgo nx fr ad goal sy f (vs.map (keyF nx k0)) z=some w->∃ q v,w=wI v/\pt k0 q/\lq v q
 | 0,_,_,_,w,h=>by simp [sgo] at h
 | f+1,[],_,_,w,h=>by simp [sgo] at h
 | f+1,v1::vs,z,hv,w,h=>by
  have h1:=hv v1 (by simp)
  have hg:=H.good v1 k0 H.g0 h1
  rw [List.map_cons,sgo] at h
  by_cases hG:goal (v1.foldl nx k0)=true
  ·rw [if_pos hG] at h
   have hacc:=(H.split [] v1 k0 H.g0 h1).1 ((H.goalI _ hg).1 hG)
   rw [List.append_nil] at hacc
   obtain ⟨q,a,b⟩:=hacc
   exact ⟨q,v1,(Option.some.inj h).symm,a,b⟩
  ·rw [if_neg hG] at h
   obtain ⟨new,e1,e2⟩:=srow_map H h1 (List.range sy) z fun x hx=>List.mem_range.1 hx
   rw [e1,<-List.map_append] at h
   refine sgo_some H f _ _ (fun v hv'=>?_) w h
   rcases List.mem_append.1 hv' with h' | h'
   ·exact hv v (by simp [h'])
   ·exact e2 v h'
theorem first_word (H:Srch nx fr ad goal sy k0 pt lq G Z sn m) {z:S} (hz:Z z) (h0:∀ q,sn z q->pt k0 q) {f:Nat} (hf:m z+2<=f) :
 (sgo nx fr ad goal sy f [(k0,[])] z=none/\∀ w,¬ ∃ q,pt k0 q/\lq w q) \/ ∃ u,sgo nx fr ad goal sy f [(k0,[])] z=some (wI u)/\(∃ q,pt k0 q/\lq u q)/\∀ v,(∃ q,pt k0 q/\lq v q)->¬ wlt v u:=by
 have e0 : [(k0,[])]=([[]]:List (List Nat)).map (keyF nx k0):=rfl
 by_cases hw:∃ w,∃ q,pt k0 q/\lq w q
 ·obtain ⟨u,hu,hmin⟩:=wlt_least (fun w=>∃ q,pt k0 q/\lq w q) hw
  refine .inr ⟨u,?_,hu,hmin⟩
  rw [e0]
  refine sgo_inv H hu hmin f [[]] z ⟨by simp,by simp,hz,fun q hq=>⟨[],by simp,h0 q hq,fun v' hv' y=>?_⟩,⟨[],u,rfl,by simp⟩⟩ (by simp;omega)
  rw [List.mem_singleton.1 hv']
  exact .inl (by simp)
 ·refine .inl ⟨?_,fun w h=>hw ⟨w,h⟩⟩
  cases e:sgo nx fr ad goal sy f [(k0,[])] z with
  | none=>rfl
  | some w =>
   rw [e0] at e
   obtain ⟨q,v,_,a,b⟩:=sgo_some H f [[]] z (by simp) w e
   exact absurd ⟨v,q,a,b⟩ hw
end
end P5
namespace P5
def FirstW (L:List Nat->Prop) (r:Option (List Int)):Prop:=(r=none/\∀ w,¬ L w) \/ ∃ u,r=some (wI u)/\L u/\∀ v,L v->¬ wlt v u
theorem FirstW.congr {L M:List Nat->Prop} {r:Option (List Int)} (h:FirstW L r) (e:∀ w,L w ↔ M w):FirstW M r:=by
 have:L=M:=funext fun w=>propext (e w)
 rwa [<-this]
def langI (g:Gr) (i:Int) (w:List Nat):Bool:=if i<0 then false else lang g w i.toNat
theorem langI_step (g:Gr) (i:Int) (x:Nat) (w:List Nat):langI g (stepI g i x) w=langI g i (x::w):=by
 unfold langI stepI
 by_cases h:i<0
 ·rw [if_pos h,if_pos h,if_pos (by omega)]
 ·rw [if_neg h,if_neg h,lang]
theorem langI_nil (g:Gr) (i:Int):langI g i []=(decide (0<=i) && bt g.acc i.toNat):=by
 unfold langI
 by_cases h:i<0
 ·rw [if_pos h,decide_eq_false (by omega)];rfl
 ·rw [if_neg h,decide_eq_true (by omega),Bool.true_and];rfl
def addP (z:List PI) (t:PI):List PI:=if t ∈ z then z else z++[t]
def freshP (t:PI) (z:List PI):Bool:=decide (t ∉ z)
theorem apartRow_s (g h:Gr) (p:PI) (w:List Int):∀ (xs:List Nat) (z:List PI),apartRow g h p w xs z=srow (stepP g h) freshP addP p w xs z
 | [],_=>rfl
 | x::xs,z=>by
  rw [apartRow,srow]
  simp only [freshP,addP,decide_eq_true_eq]
  by_cases hm:stepP g h p x ∈ z
  ·rw [if_pos hm,if_neg (not_not_intro hm),if_pos hm,apartRow_s g h p w xs]
  ·rw [if_neg hm,if_pos hm,if_neg hm,apartRow_s g h p w xs]
theorem apartGo_s (g h:Gr):∀ (f:Nat) (l:List (PI × List Int)) (z:List PI),apartGo g h f l z=sgo (stepP g h) freshP addP (tellsI g h) g.sy f l z
 | 0,_,_=>rfl
 | _+1,[],_=>rfl
 | f+1,(p,w)::l,z=>by
  rw [apartGo,sgo]
  simp only [apartRow_s]
  rw [apartGo_s g h f]
theorem apart_srch {g h:Gr} (hg:GrOk g) (hh:GrOk h) (hs:g.sy=h.sy):Srch (Q:=PI) (stepP g h) freshP addP (tellsI g h) g.sy (0,0)
 (fun k q=>k=q) (fun w p=>langI g p.1 w ≠ langI h p.2 w) (InD g h) (fun z=>z.Nodup/\∀ p ∈ z,InD g h p) (fun z q=>q ∈ z) (fun z=>(g.acc.length+1)*(h.acc.length+1)-z.length) where
 g0:=⟨by omega,by have:=hg.n;omega,by omega,by have:=hh.n;omega⟩
 gs:=fun p x hp _=>⟨(stepI_in hg _ _).1,(stepI_in hg _ _).2,(stepI_in hh _ _).1,(stepI_in hh _ _).2⟩
 goalI:=fun p hp=>by
  have:tellsI g h p=true ↔ langI g p.1 [] ≠ langI h p.2 []:=by
   rw [langI_nil,langI_nil,tellsI,bne_iff_ne]
  rw [this]
  exact ⟨fun h=>⟨p,rfl,h⟩,fun ⟨q,e,h⟩=>e ▸ h⟩
 step:=fun p x w hp hx=>by
  have:(langI g (stepP g h p x).1 w ≠ langI h (stepP g h p x).2 w) ↔ langI g p.1 (x::w) ≠ langI h p.2 (x::w):=by
   rw [stepP,langI_step,langI_step]
  exact ⟨fun ⟨q,e,h⟩=>⟨p,rfl,this.1 (e ▸ h)⟩,fun ⟨q,e,h⟩=>⟨_,rfl,this.2 (e ▸ h)⟩⟩
 lett:=fun w p hp x hx=>by
  refine Classical.byContradiction fun hc=>hp ?_
  unfold langI
  rw [lang_sy hg w _ ⟨x,hx,by omega⟩,lang_sy hh w _ ⟨x,hx,by omega⟩,ite_self,ite_self]
 frI:=fun t z _ _=>by
  simp only [freshP,decide_eq_true_eq]
  exact ⟨fun h=>⟨t,rfl,h⟩,fun ⟨q,e,h⟩=>e ▸ h⟩
 snI:=fun t z q _ _=>by
  unfold addP
  split
  ·rename_i hm
   exact ⟨.inl,fun h=>h.elim id fun e=>e ▸ hm⟩
  ·rw [List.mem_append,List.mem_singleton]
   exact ⟨fun h=>h.elim .inl fun e=>.inr e.symm,fun h=>h.elim .inl fun e=>.inr e.symm⟩
 zs:=fun t z ht hz=>by
  unfold addP
  split
  ·exact hz
  ·rename_i hm
   refine ⟨?_,fun p hp=>?_⟩
   ·rw [List.nodup_append]
    refine ⟨hz.1,by simp,fun a ha b hb=>?_⟩
    rw [List.mem_singleton.1 hb]
    exact fun e=>hm (e ▸ ha)
   ·rcases List.mem_append.1 hp with h | h
    ·exact hz.2 p h
    ·rw [List.mem_singleton.1 h];exact ht
 m1:=fun t z ht hz hf=>by
  have hm:t ∉ z:=by simpa [freshP] using hf
  have hl:=sub_len (S:=allP g.acc.length h.acc.length) (l:=t::z) (List.nodup_cons.2 ⟨hm,hz.1⟩) (fun p hp=>by
   rcases List.mem_cons.1 hp with rfl | hp
   ·exact allP_mem ht
   ·exact allP_mem (hz.2 p hp))
  rw [allP_len,List.length_cons] at hl
  simp only [addP,if_neg hm,List.length_append,List.length_singleton]
  omega
 m0:=fun t z ht hz hf=>by
  have hm:t ∈ z:=by simpa [freshP] using hf
  simp only [addP,if_pos hm]
  exact Nat.le_refl _
theorem apart_first {g h:Gr} (hg:GrOk g) (hh:GrOk h) (hs:g.sy=h.sy) (gn:g.acc.length<=256) (hn:h.acc.length<=256):FirstW (fun w=>lang g w 0 ≠ lang h w 0) (apartM g h):=by
 rw [apartM,apartGo_s]
 have hm:(g.acc.length+1)*(h.acc.length+1)<=257*257:=Nat.mul_le_mul (by omega) (by omega)
 refine FirstW.congr (L:=fun w=>∃ q:PI,((0,0):PI)=q/\langI g q.1 w ≠ langI h q.2 w) (first_word (apart_srch hg hh hs) (z:=[(0,0)]) ⟨by simp,fun p hp=>?_⟩ (fun q hq=>(List.mem_singleton.1 hq).symm) ?_) fun w=>?_
 ·rw [List.mem_singleton.1 hp]
  exact (apart_srch hg hh hs).g0
 ·simp only [List.length_singleton]
  omega
 ·exact ⟨fun ⟨q,e,h⟩=>by subst e;exact h,fun h=>⟨_,rfl,h⟩⟩
theorem norm_uniq {g h:Gr} (hg:Norm g) (hh:Norm h) (hs:g.sy=h.sy) (e:lng g 0=lng h 0):g=h:=by
 rw [hg.can,hh.can,hs,e]
theorem auOf_inj {g h:Gr} (hg:GrOk g) (hh:GrOk h) (e:auOf g=auOf h):g=h:=by
 rw [<-tab_auOf hg,<-tab_auOf hh,e]
theorem differ_first {a b:Au} (h:(differM a b).2=0):FirstW (fun w=>acceptsM a (wI w) ≠ acceptsM b (wI w)) (differM a b).1/\(fixedM a).2=0/\(fixedM b).2=0/\((differM a b).1=none ↔ (fixedM a).1=(fixedM b).1):=by
 unfold differM at h ⊢
 simp only at h ⊢
 by_cases h0:(twoM a b).1=0
 ·rw [if_pos h0]
  obtain ⟨va,vb,hs,fa,fb,g,k,e,ea,eb,ng,nk,sg,sk,lg,lk⟩:=two_norm h0
  rw [e]
  simp only
  have gl:=ng.va.n.2
  have kl:=nk.va.n.2
  have hf:=apart_first ng.ok nk.ok (by rw [sg,sk]) gl kl
  refine ⟨hf.congr fun w=>?_,fa,fb,?_⟩
  ·rw [show lang g w 0=acceptsM a (wI w) from congrFun lg w,show lang k w 0=acceptsM b (wI w) from congrFun lk w]
  ·rw [ea,eb]
   simp only
   constructor
   ·intro hn
    rcases hf with ⟨_,h1⟩ | ⟨u,h1,_⟩
    ·have:g=k:=norm_uniq ng nk (by rw [sg,sk]) (funext fun w=>Classical.byContradiction fun hc=>h1 w hc)
     rw [this]
    ·rw [hn] at h1;cases h1
   ·intro he
    have hgk:=auOf_inj ng.ok nk.ok he
    subst hgk
    rcases hf with ⟨h1,_⟩ | ⟨u,_,h1,_⟩
    ·exact h1
    ·exact absurd rfl h1
 ·rw [if_neg h0] at h
  exact absurd h h0
end P5
namespace Go.Proofs.Ytjilachpkjlhdaa
open Go.RowKit Dak P5
def tellsA (A B:List Bool) (p:PI):Bool:=(decide (0<=p.1) && bt A p.1.toNat) != (decide (0<=p.2) && bt B p.2.toNat)
theorem tells_s (a b:Au) (p:PI) (h1:p.1<a.acc.length) (h2:p.2<b.acc.length):Ctr Try.prog 78 [vau a,vau b,vpair p] (vb (tellsA a.acc b.acc p)):=by
 refine specE f78 (by simp) fun F0 w0=>?_
 obtain ⟨p,q⟩:=p
 simp only at h1 h2
 unfold tellsA
 simp only
 by_cases g1:0<=p
 ·have b1:=bt_get (s:=a.acc) (k:=p.toNat) (by omega)
  have m1:¬ p<0:=by omega
  by_cases g2:0<=q
  ·have b2:=bt_get (s:=b.acc) (k:=q.toNat) (by omega)
   have m2:¬ q<0:=by omega
   simp only [c78,go_sem,↓reduceIte,reduceCtorEq,Nat.reduceLT,Nat.reduceEqDiff,Nat.reduceAdd,Nat.reduceMul,Int.reduceToNat,Int.reduceLE,Int.reduceToNat,Int.le_refl,w02,w12,g1,g2,m1,m2,b1,b2,decide_true,Bool.true_and]
   exact .tree _ rfl
  ·have m2:q<0:=by omega
   simp only [c78,go_sem,↓reduceIte,reduceCtorEq,Nat.reduceLT,Nat.reduceEqDiff,Nat.reduceAdd,Nat.reduceMul,Int.reduceToNat,Int.reduceLE,Int.reduceToNat,Int.le_refl,w02,w12,g1,g2,m1,b1,decide_true,decide_false,Bool.true_and,Bool.false_and]
   exact .tree _ rfl
 ·by_cases g2:0<=q
  ·have b2:=bt_get (s:=b.acc) (k:=q.toNat) (by omega)
   have m2:¬ q<0:=by omega
   simp only [c78,go_sem,↓reduceIte,reduceCtorEq,Nat.reduceLT,Nat.reduceEqDiff,Nat.reduceAdd,Nat.reduceMul,Int.reduceToNat,Int.reduceLE,Int.reduceToNat,Int.le_refl,w02,w12,g1,g2,m2,b2,decide_true,decide_false,Bool.true_and,Bool.false_and]
   exact .tree _ rfl
  ·simp only [c78,go_sem,↓reduceIte,reduceCtorEq,Nat.reduceLT,Nat.reduceEqDiff,Nat.reduceAdd,Nat.reduceMul,Int.reduceToNat,Int.reduceLE,Int.reduceToNat,Int.le_refl,w02,w12,g1,g2,decide_false,Bool.false_and]
   exact .tree _ rfl
theorem step_s (g:Gr) (h:GrOk g) (i:Int) (x:Nat) (hi:i<g.acc.length) (hx:x<g.sy):Ctr Try.prog 79 [vrows g.to,vi i,vi x] (vi (stepI g i x)):=by
 refine specE f79 (by simp) fun F0 w0=>?_
 unfold stepI
 by_cases h0:i<0
 ·rw [if_pos h0]
  simp only [c79,go_sem,↓reduceIte,reduceCtorEq,Nat.reduceLT,Nat.reduceEqDiff,Nat.reduceAdd,Int.reduceNeg,h0]
  exact .tree _ rfl
 ·rw [if_neg h0]
  have a0:0<=i:=by omega
  have r1:=row_get h (i:=i.toNat) (by omega)
  have t1:=gto_get h (i:=i.toNat) (x:=x) (by omega) hx
  have x0:(0:Int)<=(x:Int):=by omega
  simp only [c79,go_sem,↓reduceIte,reduceCtorEq,Nat.reduceLT,Nat.reduceEqDiff,Nat.reduceAdd,Int.reduceNeg,h0,a0,r1,t1,x0,Int.toNat_natCast]
  exact .tree _ rfl
theorem pair_eq_cells (p q:PI):decide ([p.1,p.2]=[q.1,q.2])=decide (p=q):=by
 rw [decide_eq_decide]
 simp only [List.cons.injEq,and_true]
 exact Prod.ext_iff.symm
def objsW2 (a b:Au) (L:List RE):List AObj:=[oB a,oB b,.arr L.length 2 109 ((L.map Prod.fst).map vpair),.arr L.length 1 22 ((L.map Prod.snd).map vints)]
theorem objsW2_eq (a b:Au) (L:List RE):objsW2 a b L=[oB a,oB b,.arr L.length 2 109 ((L.map Prod.fst).map vpair),.arr L.length 1 22 ((L.map Prod.snd).map vints)]:=rfl
theorem objsW2_inn (a b:Au) (L:List RE) (n:Nat):((objsW2 a b L).all fun o=>o.innO n)=true:=by
 rw [objsW2_eq]
 exact Bool.and_eq_true_iff.2 ⟨rfl,Bool.and_eq_true_iff.2 ⟨rfl,Bool.and_eq_true_iff.2 ⟨inn_map fun _=>rfl,Bool.and_eq_true_iff.2 ⟨inn_map fun _=>rfl,rfl⟩⟩⟩⟩
theorem fst_get {L:List RE} {k:Nat} (h:k<L.length):((L.map Prod.fst).map vpair)[k]? = some (vpair L[k].1):=by rw [List.getElem?_map,List.getElem?_map,List.getElem?_eq_getElem h];rfl
theorem snd_get {L:List RE} {k:Nat} (h:k<L.length):((L.map Prod.snd).map vints)[k]? = some (vints L[k].2):=by rw [List.getElem?_map,List.getElem?_map,List.getElem?_eq_getElem h];rfl
set_option maxHeartbeats 8000000 in
theorem Apart_s (g h:Gr) (gok:GrOk g) (hok:GrOk h) (hs:g.sy=h.sy) (gn:g.acc.length<=256) (hn:h.acc.length<=256) (hyb:g.sy<=64):Ctr Try.prog 59 [vau (auOf g),vau (auOf h)] (vwb (apartM g h)):=by
 refine specC f59 (by simp) fun F0 w0=>?_
 have hc:=rtable_s gok (by omega) hyb
 have hd:=rtable_s hok (by omega) (by omega)
 obtain ⟨y,hy⟩:∃ y,g.sy=y:=⟨_,rfl⟩
 have hasy:(auOf g).sy=(y:Int):=by rw [<-hy];rfl
 obtain ⟨B,hB⟩:∃ B,apartM g h=B:=⟨_,rfl⟩
 rw [hB]
 rw [apartM_G] at hB
 unfold c59
 refine CwpE.cut (st:=⟨[(2,.ref 0 1 0 0),(3,.ref 1 1 0 0)],[oB (auOf g),oB (auOf h)]⟩) ?_ ?_
 ·simp only [go_sem]
  exact ⟨_,WkE.kp,rfl⟩
 refine CwpE.cut (st:=⟨[(2,.ref 0 1 0 0),(3,.ref 1 1 0 0),(6,vrows g.to)],[oB (auOf g),oB (auOf h)]⟩) ?_ ?_
 ·simp only [go_sem]
  refine callT hc rfl ?_
  simp only [go_sem]
  exact ⟨_,WkE.kp,rfl⟩
 refine CwpE.cut (st:=⟨[(2,.ref 0 1 0 0),(3,.ref 1 1 0 0),(6,vrows g.to),(7,vrows h.to)],[oB (auOf g),oB (auOf h)]⟩) ?_ ?_
 ·simp only [go_sem]
  refine callT hd rfl ?_
  simp only [go_sem]
  exact ⟨_,WkE.kp,rfl⟩
 refine CwpE.seqJ (fun st=>st=⟨[(2,.ref 0 1 0 0),(3,.ref 1 1 0 0),(6,vrows g.to),(7,vrows h.to),(8,.own 2 1 0 1)],[oB (auOf g),oB (auOf h),.arr 1 2 109 [vpair (0,0)]]⟩) ?_ ?_
 ·refine CwpE.regionC (csa:=[⟨some 20,none,.build [(.val (.int .i64 0)),(.val (.int .i64 0))] [(0,(1,(kk 0))),(1,(1,(kk 0)))]⟩]) (csb:=[⟨some 8,none,.mov (T 21)⟩]) (by omega) (by decide) ?_
  simp only [go_sem]
  refine ⟨_,WkE.keep (env':=[(2,.ref 0 1 0 0),(3,.ref 1 1 0 0),(6,vrows g.to),(7,vrows h.to),(21,.own 2 1 0 1)]) (by simp only [go_sem];try rfl),?_⟩
  simp only [go_sem]
  exact ⟨_,WkE.kp,rfl⟩
 rintro _ rfl
 refine CwpE.seqJ (fun st=>st=⟨[(2,.ref 0 1 0 0),(3,.ref 1 1 0 0),(6,vrows g.to),(7,vrows h.to),(8,.own 2 1 0 1),(9,.own 3 1 0 1)],objsW2 (auOf g) (auOf h) [((0,0),[])]⟩) ?_ ?_
 ·refine CwpE.regionC (csa:=[]) (csb:=[⟨some 9,none,.mov (T 22)⟩]) (by omega) (by decide) ?_
  simp only [go_sem]
  refine ⟨_,WkE.keep (env':=[(2,.ref 0 1 0 0),(3,.ref 1 1 0 0),(6,vrows g.to),(7,vrows h.to),(8,.own 2 1 0 1),(22,.own 3 1 0 1)]) (by simp only [go_sem];try rfl),?_⟩
  simp only [go_sem]
  refine ⟨_,(WkE.nilCell 3 1 1 0 0 1 3 22 [nilV] nilV rfl rfl rfl).trans ((WkE.freezeCell 3 1 1 0 0 4 0 0 0 1 22 3 [.own 4 0 0 0] [] (.own 4 0 0 0) rfl rfl rfl rfl (by omega) (by simp) rfl).trans (WkE.round (by simp only [go_sem];try rfl) rfl (objsW2_inn (auOf g) (auOf h) [((0,0),[])] _) rfl)),rfl⟩
 rintro _ rfl
 refine CwpE.seqJ (fun z=>B=none) ?_ ?_
 rotate_left
 ·rintro z hBn
  rw [hBn]
  obtain ⟨env,objs⟩:=z
  refine CwpE.wk (s':=⟨[],objs⟩) (WkE.kp) ?_
  refine CwpE.vc ?_
  simp only [go_sem]
  exact snap_tup2 (.nil 1) (.tree _ rfl)
 refine CwpE.cut (st:=⟨[(2,.ref 0 1 0 0),(3,.ref 1 1 0 0),(6,vrows g.to),(7,vrows h.to),(8,.own 2 1 0 1),(9,.own 3 1 0 1),(10,vi (0:Nat))],objsW2 (auOf g) (auOf h) [((0,0),[])]⟩) ?_ ?_
 ·simp only [go_sem]
  exact ⟨_,WkE.kp,rfl⟩
 refine CwpE.block ?_
 refine loopXC 0 (fun m z=>∃ (i:Nat) (L:List RE),m=66051-i/\i<=L.length/\ApOk g h L i/\apG g h (66051-i) L i=B /\
  z=⟨[(2,.ref 0 1 0 0),(3,.ref 1 1 0 0),(6,vrows g.to),(7,vrows h.to),(8,.own 2 L.length 0 L.length),(9,.own 3 L.length 0 L.length),(10,vi i)],objsW2 (auOf g) (auOf h) L⟩)
  (fun z=>B=none) 66051 _ (.refl _ _) ⟨0,[((0,0),[])],rfl,by simp,apOk_one gok hok,hB,rfl⟩ ?_ ?_
 rotate_left
 ·rintro z h
  simp only [inBlockE,if_true]
  exact ⟨z,.refl _ _,h⟩
 rintro m z ⟨i,L,rfl,hi,hL,hG,rfl⟩
 have hLb:=hL.le gn hn
 by_cases hlt:i<L.length
 rotate_left
 ·have gk:¬ (i:Int)<(L.length:Int):=by omega
  rw [apG_end (by omega)] at hG
  refine CwpE.vc ?_
  rw [objsW2_eq]
  simp only [go_sem,gk]
  exact ⟨_,.refl _ _,hG.symm⟩
 have g1:(i:Int)<(L.length:Int):=by omega
 have g0:(0:Int)<=(i:Int):=by omega
 have wi:=wrap_s i (by omega)
 have hLi:=fst_get hlt
 have hWi:=snd_get hlt
 have hIn:=hL.inn _ (List.getElem_mem hlt)
 have hwl:=hL.len _ (List.getElem_mem hlt)
 have hf:66051-i=(66051-(i+1))+1:=by omega
 have htell:=@apG_tell g h (66051-(i+1)) L i hlt
 have hstep:=@apG_step g h (66051-(i+1)) L i hlt
 rw [<-hf,hG] at htell hstep
 have hrow:=fun x=>hL.row gok hok (p:=L[i].1) hwl x
 have hkeep:∀ x (hx:i<(apL g h L L[i].1 L[i].2 x).length),(apL g h L L[i].1 L[i].2 x)[i]=L[i]:=fun x hx=>((apL_pre g h L _ _ x).getElem hlt).symm
 obtain ⟨re,hre⟩:∃ re,L[i]=re:=⟨_,rfl⟩
 rw [hre] at hLi hWi hIn hwl htell hstep
 simp only [hre] at hrow hkeep
 obtain ⟨⟨p,q⟩,w⟩:=re
 obtain ⟨a0,a1,b0,b1⟩:=hIn
 simp only at a0 a1 b0 b1 hwl htell hstep hrow hkeep hLi hWi
 have htl:=tells_s (auOf g) (auOf h) (p,q) a1 b1
 have hte:tellsA (auOf g).acc (auOf h).acc (p,q)=tellsI g h (p,q):=rfl
 rw [hte] at htl
 refine CwpE.cut (st:=⟨[(2,.ref 0 1 0 0),(3,.ref 1 1 0 0),(6,vrows g.to),(7,vrows h.to),(8,.own 2 L.length 0 L.length),(9,.own 3 L.length 0 L.length),(10,vi i)],objsW2 (auOf g) (auOf h) L⟩) ?_ ?_
 ·rw [objsW2_eq]
  simp only [go_sem,g1]
  exact ⟨_,WkE.kp,rfl⟩
 refine CwpE.seqJ (fun z=>tellsI g h (p,q)=false/\z=⟨[(2,.ref 0 1 0 0),(3,.ref 1 1 0 0),(6,vrows g.to),(7,vrows h.to),(8,.own 2 (apL g h L (p,q) w y).length 0 (apL g h L (p,q) w y).length),(9,.own 3 (apL g h L (p,q) w y).length 0 (apL g h L (p,q) w y).length),(10,vi i)],objsW2 (auOf g) (auOf h) (apL g h L (p,q) w y)⟩) (CwpE.block ?_) ?_
 rotate_left
 ·rintro z ⟨htf,rfl⟩
  have hs1:=hstep htf
  rw [hy] at hs1
  refine CwpE.vc ?_
  simp only [go_sem,wi]
  refine ⟨66051-(i+1),⟨[(2,.ref 0 1 0 0),(3,.ref 1 1 0 0),(6,vrows g.to),(7,vrows h.to),(8,.own 2 (apL g h L (p,q) w y).length 0 (apL g h L (p,q) w y).length),(9,.own 3 (apL g h L (p,q) w y).length 0 (apL g h L (p,q) w y).length),(10,vi (i+1:Nat))],objsW2 (auOf g) (auOf h) (apL g h L (p,q) w y)⟩,by omega,WkE.kp,i+1,apL g h L (p,q) w y,rfl,?_,hrow y,hs1.symm,rfl⟩
  have:=(apL_pre g h L (p,q) w y).length_le;omega
 refine CwpE.step (fun z=>tellsI g h (p,q)=false/\z=⟨[(2,.ref 0 1 0 0),(3,.ref 1 1 0 0),(6,vrows g.to),(7,vrows h.to),(8,.own 2 L.length 0 L.length),(9,.own 3 L.length 0 L.length),(10,vi i)],objsW2 (auOf g) (auOf h) L⟩) ?_ ?_
 ·have fin0:∀ (st:Est),tellsI g h (p,q)=false->WkE 96 st ⟨[(2,.ref 0 1 0 0),(3,.ref 1 1 0 0),(6,vrows g.to),(7,vrows h.to),(8,.own 2 L.length 0 L.length),(9,.own 3 L.length 0 L.length),(10,vi i)],objsW2 (auOf g) (auOf h) L⟩->∃ s',WkE 96 st s'/\tellsI g h (p,q)=false/\s'=⟨[(2,.ref 0 1 0 0),(3,.ref 1 1 0 0),(6,vrows g.to),(7,vrows h.to),(8,.own 2 L.length 0 L.length),(9,.own 3 L.length 0 L.length),(10,vi i)],objsW2 (auOf g) (auOf h) L⟩:=fun st h0 hst=>⟨_,hst,h0,rfl⟩
  cases ht:tellsI g h (p,q) with
  | true =>
   rw [ht] at htl
   have hB1:=htell ht
   rw [hB1]
   rw [objsW2_eq]
   simp only [go_sem,g1,g0,hLi,Int.toNat_natCast]
   refine callT htl rfl ?_
   simp only [go_sem,g1,g0,hWi,Int.toNat_natCast]
   exact snap_tup2 (.tree _ rfl) (.tree _ rfl)
  | false =>
   rw [ht] at htl
   rw [objsW2_eq]
   simp only [go_sem,g1,g0,hLi,Int.toNat_natCast]
   refine callT htl rfl ?_
   simp only [go_sem]
   exact ⟨_,WkE.kp,rfl⟩
 rintro _ ⟨htf,rfl⟩
 refine CwpE.cut (st:=⟨[(2,.ref 0 1 0 0),(3,.ref 1 1 0 0),(6,vrows g.to),(7,vrows h.to),(8,.own 2 L.length 0 L.length),(9,.own 3 L.length 0 L.length),(10,vi i),(11,vi (0:Nat))],objsW2 (auOf g) (auOf h) L⟩) ?_ ?_
 ·simp only [go_sem]
  exact ⟨_,WkE.kp,rfl⟩
 refine CwpE.block ?_
 refine loopXC 2 (fun m z=>∃ x:Nat,m=y-x/\x<=y/\z=⟨[(2,.ref 0 1 0 0),(3,.ref 1 1 0 0),(6,vrows g.to),(7,vrows h.to),(8,.own 2 (apL g h L (p,q) w x).length 0 (apL g h L (p,q) w x).length),(9,.own 3 (apL g h L (p,q) w x).length 0 (apL g h L (p,q) w x).length),(10,vi i),(11,vi x)],objsW2 (auOf g) (auOf h) (apL g h L (p,q) w x)⟩)
  (fun z=>z=⟨[(2,.ref 0 1 0 0),(3,.ref 1 1 0 0),(6,vrows g.to),(7,vrows h.to),(8,.own 2 (apL g h L (p,q) w y).length 0 (apL g h L (p,q) w y).length),(9,.own 3 (apL g h L (p,q) w y).length 0 (apL g h L (p,q) w y).length),(10,vi i)],objsW2 (auOf g) (auOf h) (apL g h L (p,q) w y)⟩) y
  _ (.refl _ _) ⟨0,by omega,by omega,by rw [apL_zero]⟩ ?_ ?_
 rotate_left
 ·rintro z rfl
  simp only [go_sem]
  exact ⟨_,.refl _ _,htf,rfl⟩
 rintro m z ⟨x,rfl,hx,rfl⟩
 by_cases hxy:x<y
 rotate_left
 ·obtain rfl:x=y:=by omega
  have gk:¬ (x:Int)<(auOf g).sy:=by omega
  refine CwpE.vc ?_
  rw [objsW2_eq]
  simp only [go_sem,gk]
  exact ⟨_,WkE.kp,rfl⟩
 have gx:(x:Int)<(auOf g).sy:=by omega
 have x0:(0:Int)<=(x:Int):=by omega
 have wx:=wrap_s x (by omega)
 have hr1:=(hrow x).le gn hn
 have hsu:=apL_succ g h L (p,q) w x
 have hLl:=(apL_pre g h L (p,q) w x).length_le
 have hkx:=hkeep x (by omega)
 obtain ⟨Lx,hLx⟩:∃ Lx,apL g h L (p,q) w x=Lx:=⟨_,rfl⟩
 simp only [hLx] at hr1 hsu hLl hkx ⊢
 have gi:(i:Int)<(Lx.length:Int):=by omega
 have hLxi:((Lx.map Prod.fst).map vpair)[i]? = some (vpair (p,q)):=by rw [fst_get (by omega),hkx]
 have hWxi:((Lx.map Prod.snd).map vints)[i]? = some (vints w):=by rw [snd_get (by omega),hkx]
 have hs1:=step_s g gok p x a1 (by omega)
 have hs2:=step_s h hok q x b1 (by omega)
 rw [stepP] at hsu
 simp only at hsu
 generalize stepI g p x=u at hs1 hsu
 generalize stepI h q x=v at hs2 hsu
 obtain ⟨L2,hL2⟩:∃ L2,apL g h L (p,q) w (x+1)=L2:=⟨_,rfl⟩
 rw [hL2] at hsu
 refine CwpE.cut (st:=⟨[(2,.ref 0 1 0 0),(3,.ref 1 1 0 0),(6,vrows g.to),(7,vrows h.to),(8,.own 2 Lx.length 0 Lx.length),(9,.own 3 Lx.length 0 Lx.length),(10,vi i),(11,vi x)],objsW2 (auOf g) (auOf h) Lx⟩) ?_ ?_
 ·rw [objsW2_eq]
  simp only [go_sem,gx]
  exact ⟨_,WkE.kp,rfl⟩
 refine CwpE.seqJ (fun z=>z=⟨[(2,.ref 0 1 0 0),(3,.ref 1 1 0 0),(6,vrows g.to),(7,vrows h.to),(8,.own 2 L2.length 0 L2.length),(9,.own 3 L2.length 0 L2.length),(10,vi i),(11,vi x)],objsW2 (auOf g) (auOf h) L2⟩) (CwpE.block ?_) ?_
 rotate_left
 ·rintro _ rfl
  refine CwpE.vc ?_
  simp only [go_sem,wx]
  exact ⟨y-(x+1),⟨[(2,.ref 0 1 0 0),(3,.ref 1 1 0 0),(6,vrows g.to),(7,vrows h.to),(8,.own 2 L2.length 0 L2.length),(9,.own 3 L2.length 0 L2.length),(10,vi i),(11,vi (x+1:Nat))],objsW2 (auOf g) (auOf h) L2⟩,by omega,WkE.kp,x+1,rfl,by omega,by rw [hL2]⟩
 refine CwpE.cut (st:=⟨[(2,.ref 0 1 0 0),(3,.ref 1 1 0 0),(6,vrows g.to),(7,vrows h.to),(8,.own 2 Lx.length 0 Lx.length),(9,.own 3 Lx.length 0 Lx.length),(10,vi i),(11,vi x),(12,.ref 4 1 0 0)],objsW2 (auOf g) (auOf h) Lx++[.arr 1 2 109 [vpair (u,v)]]⟩) ?_ ?_
 ·rw [objsW2_eq (auOf g) (auOf h) Lx]
  simp only [go_sem,Int.le_refl,gi,g0,w02,hLxi,Int.toNat_natCast]
  refine callT hs1 rfl ?_
  simp only [go_sem,Int.reduceLE,gi,g0,w12,hLxi,Int.toNat_natCast]
  refine callT hs2 rfl ?_
  simp only [go_sem]
  exact ⟨_,WkE.kp,rfl⟩
 refine CwpE.cut (st:=⟨[(2,.ref 0 1 0 0),(3,.ref 1 1 0 0),(6,vrows g.to),(7,vrows h.to),(8,.own 2 Lx.length 0 Lx.length),(9,.own 3 Lx.length 0 Lx.length),(10,vi i),(11,vi x),(12,.ref 4 1 0 0),(13,vb false)],objsW2 (auOf g) (auOf h) Lx++[.arr 1 2 109 [vpair (u,v)]]⟩) ?_ ?_
 ·simp only [go_sem]
  exact ⟨_,WkE.kp,rfl⟩
 refine CwpE.step (fun z=>z=⟨[(2,.ref 0 1 0 0),(3,.ref 1 1 0 0),(6,vrows g.to),(7,vrows h.to),(8,.own 2 Lx.length 0 Lx.length),(9,.own 3 Lx.length 0 Lx.length),(10,vi i),(11,vi x),(12,.ref 4 1 0 0),(13,vb (decide ((u,v) ∈ Lx.map Prod.fst)))],objsW2 (auOf g) (auOf h) Lx++[.arr 1 2 109 [vpair (u,v)]]⟩) ?_ ?_
 ·simp only [go_sem]
  refine loopX 4 (fun m z=>∃ j:Nat,m=Lx.length-j/\j<=Lx.length /\
   z=⟨[(2,.ref 0 1 0 0),(3,.ref 1 1 0 0),(6,vrows g.to),(7,vrows h.to),(8,.own 2 Lx.length 0 Lx.length),(9,.own 3 Lx.length 0 Lx.length),(10,vi i),(11,vi x),(12,.ref 4 1 0 0),(13,vb (decide ((u,v) ∈ (Lx.take j).map Prod.fst))),(14,vi j)],objsW2 (auOf g) (auOf h) Lx++[.arr 1 2 109 [vpair (u,v)]]⟩)
   (fun z=>z=⟨[(2,.ref 0 1 0 0),(3,.ref 1 1 0 0),(6,vrows g.to),(7,vrows h.to),(8,.own 2 Lx.length 0 Lx.length),(9,.own 3 Lx.length 0 Lx.length),(10,vi i),(11,vi x),(12,.ref 4 1 0 0),(13,vb (decide ((u,v) ∈ Lx.map Prod.fst)))],objsW2 (auOf g) (auOf h) Lx++[.arr 1 2 109 [vpair (u,v)]]⟩) Lx.length
   ⟨[(2,.ref 0 1 0 0),(3,.ref 1 1 0 0),(6,vrows g.to),(7,vrows h.to),(8,.own 2 Lx.length 0 Lx.length),(9,.own 3 Lx.length 0 Lx.length),(10,vi i),(11,vi x),(12,.ref 4 1 0 0),(13,vb false),(14,vi (0:Nat))],objsW2 (auOf g) (auOf h) Lx++[.arr 1 2 109 [vpair (u,v)]]⟩ (WkE.kp) ⟨0,by omega,by omega,by simp⟩ ?_ ?_
  rotate_left
  ·rintro z rfl
   simp only [go_sem]
   exact ⟨_,.refl _ _,rfl⟩
  rintro m z ⟨j,rfl,hj,rfl⟩
  by_cases hjF:j<Lx.length
  rotate_left
  ·obtain rfl:j=Lx.length:=by omega
   rw [objsW2_eq (auOf g) (auOf h) Lx,List.take_of_length_le (Nat.le_refl _)]
   simp only [go_sem,Int.lt_irrefl]
   exact ⟨_,WkE.kp,rfl⟩
  have j1:(j:Int)<(Lx.length:Int):=by omega
  have j0:(0:Int)<=(j:Int):=by omega
  have wj:=wrap_s j (by omega)
  have hFg:=fst_get hjF
  have htk:=List.take_succ_eq_append_getElem hjF
  obtain ⟨e,he⟩:∃ e,Lx[j]=e:=⟨_,rfl⟩
  rw [he] at hFg htk
  rw [objsW2_eq (auOf g) (auOf h) Lx]
  by_cases hkn:(u,v) ∈ (Lx.take j).map Prod.fst
  ·have hdm:decide ((u,v) ∈ (Lx.take j).map Prod.fst)=true:=decide_eq_true hkn
   have hall:(u,v) ∈ Lx.map Prod.fst:=by
    obtain ⟨e,he,h⟩:=List.mem_map.1 hkn
    exact List.mem_map.2 ⟨e,List.mem_of_mem_take he,h⟩
   rw [hdm]
   simp only [go_sem,j1]
   refine ⟨_,?_,rfl⟩
   rw [decide_eq_true hall]
   exact WkE.kp
  ·have hdm:decide ((u,v) ∈ (Lx.take j).map Prod.fst)=false:=decide_eq_false hkn
   have hnext:decide ((u,v) ∈ (Lx.take (j+1)).map Prod.fst)=decide (e.1=(u,v)):=by
    rw [decide_eq_decide,htk,List.map_append,List.mem_append]
    constructor
    ·rintro (h | h)
     ·exact absurd h hkn
     ·exact (List.mem_singleton.1 h).symm
    ·intro h
     exact .inr (List.mem_singleton.2 h.symm)
   rw [hdm]
   obtain ⟨⟨w1,w2⟩,ww⟩:=e
   simp only at hnext hFg
   have hcell:decide ([w1,w2]=[u,v])=decide ((w1,w2)=(u,v)):=pair_eq_cells (w1,w2) (u,v)
   simp only [go_sem,j1,j0,hFg,wj,hcell,Int.toNat_natCast]
   exact ⟨Lx.length-(j+1),⟨[(2,.ref 0 1 0 0),(3,.ref 1 1 0 0),(6,vrows g.to),(7,vrows h.to),(8,.own 2 Lx.length 0 Lx.length),(9,.own 3 Lx.length 0 Lx.length),(10,vi i),(11,vi x),(12,.ref 4 1 0 0),(13,vb (decide ((w1,w2)=(u,v)))),(14,vi (j+1:Nat))],_⟩,by omega,WkE.kp,j+1,rfl,by omega,by rw [hnext]⟩
 rintro _ rfl
 by_cases hm:(u,v) ∈ Lx.map Prod.fst
 ·rw [if_pos hm] at hsu
  have hdm:decide ((u,v) ∈ Lx.map Prod.fst)=true:=decide_eq_true hm
  rw [hdm,hsu]
  refine CwpE.vc ?_
  simp only [go_sem]
  exact ⟨_,WkE.round (by simp only [go_sem];try rfl) rfl (objsW2_inn _ _ _ _) rfl,rfl⟩
 rw [if_neg hm] at hsu
 have hdm:decide ((u,v) ∈ Lx.map Prod.fst)=false:=decide_eq_false hm
 rw [hdm]
 have ql:(Lx.length+1)*16<=140737488355328:=by omega
 refine CwpE.cut (st:=⟨[(2,.ref 0 1 0 0),(3,.ref 1 1 0 0),(6,vrows g.to),(7,vrows h.to),(8,.own 2 Lx.length 0 Lx.length),(9,.own 3 Lx.length 0 Lx.length),(10,vi i),(11,vi x),(12,.ref 4 1 0 0)],objsW2 (auOf g) (auOf h) Lx++[.arr 1 2 109 [vpair (u,v)]]⟩) ?_ ?_
 ·simp only [go_sem]
  exact ⟨_,WkE.kp,rfl⟩
 obtain ⟨F1,hF1⟩:∃ F1,(Lx.map Prod.fst).map vpair++[vpair (u,v)]=F1:=⟨_,rfl⟩
 refine CwpE.cut (st:=⟨[(2,.ref 0 1 0 0),(3,.ref 1 1 0 0),(6,vrows g.to),(7,vrows h.to),(8,.own 2 (Lx.length+1) 0 (Lx.length+1)),(9,.own 3 Lx.length 0 Lx.length),(10,vi i),(11,vi x)],[oB (auOf g),oB (auOf h),.arr (Lx.length+1) 2 109 F1,.arr Lx.length 1 22 ((Lx.map Prod.snd).map vints),.arr 1 2 109 [vpair (u,v)]]⟩) ?_ ?_
 ·rw [objsW2_eq (auOf g) (auOf h) Lx,<-hF1]
  simp only [go_sem,ql,List.length_map]
  exact ⟨_,WkE.kp,rfl⟩
 refine CwpE.cut (st:=⟨[(15,.own 5 0 0 0),(2,.ref 0 1 0 0),(3,.ref 1 1 0 0),(6,vrows g.to),(7,vrows h.to),(8,.own 2 (Lx.length+1) 0 (Lx.length+1)),(9,.own 3 Lx.length 0 Lx.length),(10,vi i),(11,vi x)],[oB (auOf g),oB (auOf h),.arr (Lx.length+1) 2 109 F1,.arr Lx.length 1 22 ((Lx.map Prod.snd).map vints),.arr 1 2 109 [vpair (u,v)],.arr 0 1 3 []]⟩) ?_ ?_
 ·simp only [go_sem]
  exact ⟨_,(WkE.nil 15 1 3 (by omega) rfl).trans (WkE.kp),rfl⟩
 refine CwpE.vc ?_
 have qw:w.length*8<=140737488355328:=by omega
 have qw1:(w.length+1)*8<=140737488355328:=by omega
 have qW:(Lx.length+1)*24<=140737488355328:=by omega
 simp only [go_sem,gi,g0,hWxi,qw,qw1,qW,List.length_map,Nat.zero_add,Int.toNat_natCast]
 refine ⟨_,?_,rfl⟩
 have hfr:=freezeLast (n:=96) (env:=[(2,.ref 0 1 0 0),(3,.ref 1 1 0 0),(6,vrows g.to),(7,vrows h.to),(8,.own 2 (Lx.length+1) 0 (Lx.length+1)),(9,.own 3 (Lx.length+1) 0 (Lx.length+1)),(10,vi i),(11,vi x)]) [oB (auOf g),oB (auOf h),.arr (Lx.length+1) 2 109 F1] [.arr 1 2 109 [vpair (u,v)]] [.arr 1 1 22 [.own 5 (w.length+1) 0 (w.length+1)]] 3 rfl (Lx.length+1) 1 22 ((Lx.map Prod.snd).map vints) (.own 5 (w.length+1) 0 (w.length+1)) 0 5 (w.map vi++[vi x]) (w.length+1) (by simp) rfl rfl (by rw [List.all_append,Bool.and_eq_true];exact ⟨isT_map (fun _=>rfl) _,rfl⟩)
 have he2 : [oB (auOf g),oB (auOf h),AObj.arr (Lx.length+1) 2 109 F1,.arr (Lx.length+1) 1 22 ((Lx.map Prod.snd).map vints++[.list 1 (w.map vi++[vi x])])]=objsW2 (auOf g) (auOf h) L2:=by
  rw [objsW2_eq,hsu,<-hF1]
  simp only [List.map_append,List.map_cons,List.map_nil,List.length_append,List.length_singleton,vints]
 have hl2:L2.length=Lx.length+1:=by rw [hsu];simp
 rw [<-he2,hl2]
 have hin:([oB (auOf g),oB (auOf h),AObj.arr (Lx.length+1) 2 109 F1,.arr (Lx.length+1) 1 22 ((Lx.map Prod.snd).map vints++[.list 1 (w.map vi++[vi x])])].all fun o=>o.innO 4)=true:=by rw [he2];exact objsW2_inn _ _ _ _
 refine (WkE.keep ?_).trans (hfr.trans (WkE.round ?_ rfl hin rfl))
 ·simp only [go_sem];try rfl
 ·simp only [go_sem];try rfl
set_option maxHeartbeats 4000000 in
theorem rDiffer_s (a b:Au) (ha:SzA a) (hb:SzA b):Ctr Try.prog 27 [vau a,vau b] (.tup [vints ((differM a b).1.getD []),vb (differM a b).1.isSome,vi (differM a b).2]):=by
 refine specC f27 (by simp) fun F0 w0=>?_
 have hpr:=pair_s a b ha hb
 rw [pairR] at hpr
 unfold differM
 simp only
 unfold c27
 refine CwpE.cut (st:=⟨[(2,.ref 0 1 0 0),(3,.ref 1 1 0 0)],[oB a,oB b]⟩) ?_ ?_
 ·simp only [go_sem]
  exact ⟨_,WkE.kp,rfl⟩
 by_cases h0:(twoM a b).1=0
 rotate_left
 ·rw [if_neg h0] at hpr ⊢
  simp only at hpr
  refine CwpE.cut (st:=⟨[(9,vi (twoM a b).1)],[oB a,oB b,oB nilA,oB nilA]⟩) ?_ ?_
  ·simp only [go_sem]
   refine callT hpr rfl ?_
   simp only [go_sem]
   exact ⟨_,WkE.kp,rfl⟩
  refine CwpE.vc ?_
  simp only [go_sem,h0]
  refine .tup _ _ rfl fun i h1 h2=>?_
  match i,h1,h2 with
  | 0,_,_=>exact .nil 1
  | 1,_,_=>exact .tree _ rfl
  | 2,_,_=>exact .tree _ rfl
 rw [if_pos h0] at hpr ⊢
 obtain ⟨va,vb',hs,fa,fb,g,k,e,ea,eb,ng,nk,sg,sk,lg,lk⟩:=two_norm h0
 rw [ea,eb] at hpr
 rw [e]
 simp only at hpr ⊢
 have hsy:=va.sy
 have hap:=Apart_s g k ng.ok nk.ok (by rw [sg,sk]) ng.va.n.2 nk.va.n.2 (by omega)
 generalize apartM g k=B at hap ⊢
 refine CwpE.cut (st:=⟨[(7,.ref 2 1 0 0),(8,.ref 3 1 0 0),(9,vi 0)],[oB a,oB b,oB (auOf g),oB (auOf k)]⟩) ?_ ?_
 ·simp only [go_sem]
  refine callT hpr rfl ?_
  simp only [go_sem]
  exact ⟨_,WkE.kp,rfl⟩
 refine CwpE.vc ?_
 simp only [go_sem]
 refine callT hap rfl ?_
 simp only [go_sem]
 refine .tup _ _ rfl fun i h1 h2=>?_
 match i,h1,h2 with
 | 0,_,_=>exact .tree _ rfl
 | 1,_,_=>exact .tree _ rfl
 | 2,_,_=>exact .tree _ rfl
theorem fixed_sz (a:Au):SzA (fixedM a).1:=by
 rcases fixed_cases a with h | ⟨h,_⟩
 ·obtain ⟨_,g,d,_,_,h3,h4,_⟩:=fixed_norm h
  rw [h3];exact szA_va h4.va
 ·rw [h];exact ⟨by simp,by simp⟩
theorem turn_sz (a:Au):SzA (turnM a).1:=by
 unfold turnM
 split
 ·split
  ·exact nilA_sz
  ·exact checked_sz _
 ·exact nilA_sz
def objsZ (a c:Au) (sy:Int) (L:List (List Bool)) (A:List Bool) (E:List Edg):List AObj :=
 [oB a,.arr 1 3 26 [nil3],oB c,.dead,.arr L.length 1 23 (L.map vbools),.arr 1 3 26 [.agg [vi sy,.own 6 A.length 0 A.length,.own 7 E.length 0 E.length]],.arr A.length 1 4 (A.map vb),.arr E.length 3 71 (E.map vedge)]
theorem objsZ_eq (a c:Au) (sy:Int) (L:List (List Bool)) (A:List Bool) (E:List Edg):objsZ a c sy L A E =
 [oB a,.arr 1 3 26 [nil3],oB c,.dead,.arr L.length 1 23 (L.map vbools),.arr 1 3 26 [.agg [vi sy,.own 6 A.length 0 A.length,.own 7 E.length 0 E.length]],.arr A.length 1 4 (A.map vb),.arr E.length 3 71 (E.map vedge)]:=rfl
theorem objsZ_inn (a c:Au) (sy:Int) (L:List (List Bool)) (A:List Bool) (E:List Edg):((objsZ a c sy L A E).all fun o=>o.innO 8)=true:=by
 rw [objsZ_eq]
 refine Bool.and_eq_true_iff.2 ⟨rfl,Bool.and_eq_true_iff.2 ⟨rfl,Bool.and_eq_true_iff.2 ⟨rfl,Bool.and_eq_true_iff.2 ⟨rfl,Bool.and_eq_true_iff.2 ⟨inn_map fun _=>rfl,Bool.and_eq_true_iff.2 ⟨rfl,Bool.and_eq_true_iff.2 ⟨inn_map fun _=>rfl,Bool.and_eq_true_iff.2 ⟨inn_map fun _=>rfl,rfl⟩⟩⟩⟩⟩⟩⟩⟩
theorem objsZ_inn9 (a c:Au) (sy:Int) (L:List (List Bool)) (A:List Bool) (E:List Edg) (n:Nat) (t:List Bool):((objsZ a c sy L A E++[AObj.arr n 1 4 (t.map vb)]).all fun o=>o.innO 9)=true:=by
 rw [objsZ_eq]
 refine Bool.and_eq_true_iff.2 ⟨rfl,Bool.and_eq_true_iff.2 ⟨rfl,Bool.and_eq_true_iff.2 ⟨rfl,Bool.and_eq_true_iff.2 ⟨rfl,Bool.and_eq_true_iff.2 ⟨inn_map fun _=>rfl,Bool.and_eq_true_iff.2 ⟨rfl,Bool.and_eq_true_iff.2 ⟨inn_map fun _=>rfl,Bool.and_eq_true_iff.2 ⟨inn_map fun _=>rfl,Bool.and_eq_true_iff.2 ⟨inn_map fun _=>rfl,rfl⟩⟩⟩⟩⟩⟩⟩⟩⟩
set_option maxHeartbeats 8000000 in
theorem rTurn_s (a:Au) (ha:SzA a):Ctr Try.prog 29 [vau a] (vae (turnM a)):=by
 refine specC f29 (by simp) fun F0 w0=>?_
 have hfa:=rFixed_s a ha
 unfold turnM
 obtain ⟨c,e,hc⟩:∃ c e,fixedM a=(c,e):=⟨_,_,rfl⟩
 have hco:=fixed_ok (a:=a)
 have hcn:=fixed_norm (a:=a)
 rw [hc] at hfa hco hcn ⊢
 simp only at hco hcn ⊢
 unfold c29
 refine CwpE.cut (st:=⟨[(1,.ref 0 1 0 0),(2,.ref 1 1 0 0),(3,vi 0)],[oB a,.arr 1 3 26 [nil3]]⟩) ?_ ?_
 ·simp only [go_sem]
  exact ⟨_,WkE.kp,rfl⟩
 refine CwpE.cut (st:=⟨[(1,.ref 0 1 0 0),(2,.ref 1 1 0 0),(3,vi 0),(4,.ref 2 1 0 0),(5,vi e)],[oB a,.arr 1 3 26 [nil3],oB c]⟩) ?_ ?_
 ·simp only [go_sem]
  refine callT hfa rfl ?_
  simp only [go_sem]
  exact ⟨_,WkE.kp,rfl⟩
 by_cases he:e=0
 rotate_left
 ·rw [if_neg he]
  refine CwpE.vc ?_
  simp only [go_sem,he]
  exact snap_tup2 nil_snap (.tree _ rfl)
 subst he
 rw [if_pos rfl]
 obtain ⟨va,g,d,h1,h2,h3,h4,h5,_⟩:=hcn rfl
 obtain ⟨cv,hne,hcsy,_⟩:=hco rfl
 obtain ⟨⟨hsy1,hsy2⟩,⟨hn1,hn2⟩,hm,hed⟩:=id cv
 obtain ⟨y,hy⟩:∃ y:Nat,c.sy=(y:Int):=⟨c.sy.toNat,by omega⟩
 have hyT:c.sy.toNat=y:=by omega
 have hay:a.sy=(y:Int):=by omega
 obtain ⟨n,hn⟩:∃ n,c.acc.length=n:=⟨_,rfl⟩
 obtain ⟨B,hB⟩:∃ B,bfs 256 (nextT c) y c.acc=B:=⟨_,rfl⟩
 have htu:turnedM c=B.map fun r=>grOf y (fun s=>bt s 0) r.1 r.2:=by rw [turnedM,hyT,hB]
 rw [htu]
 refine CwpE.cut (st:=⟨[(1,.ref 0 1 0 0),(2,.ref 1 1 0 0),(4,.ref 2 1 0 0)],[oB a,.arr 1 3 26 [nil3],oB c]⟩) ?_ ?_
 ·simp only [go_sem]
  exact ⟨_,WkE.kp,rfl⟩
 refine CwpE.cut (st:=⟨[(6,.own 3 0 0 0),(1,.ref 0 1 0 0),(2,.ref 1 1 0 0),(4,.ref 2 1 0 0)],[oB a,.arr 1 3 26 [nil3],oB c,.arr 0 1 4 []]⟩) ?_ ?_
 ·simp only [go_sem]
  exact ⟨_,(WkE.nil 6 1 4 (by omega) rfl).trans (WkE.kp),rfl⟩
 have q3:n*1<=140737488355328:=by omega
 refine CwpE.cut (st:=⟨[(1,.ref 0 1 0 0),(2,.ref 1 1 0 0),(4,.ref 2 1 0 0),(6,vbools c.acc)],[oB a,.arr 1 3 26 [nil3],oB c,.dead]⟩) ?_ ?_
 ·simp only [go_sem,List.length_map,hn,q3,Nat.zero_add,List.nil_append]
  refine ⟨_,?_,rfl⟩
  have hfz:=WkE.freeze (n:=128) (env:=[(6,.own 3 n 0 n),(1,.ref 0 1 0 0),(2,.ref 1 1 0 0),(4,.ref 2 1 0 0)]) (objs:=[oB a,.arr 1 3 26 [nil3],oB c,.arr n 1 4 (c.acc.map vb)]) 6 3 n 0 n 1 4 (c.acc.map vb) (by omega) rfl rfl (by simp [hn]) (isT_map (fun _=>rfl) _)
  have e1:((c.acc.map vb).drop 0).take n=c.acc.map vb:=by rw [List.drop_zero,List.take_of_length_le (by simp [hn])]
  rw [e1] at hfz
  exact (WkE.kp).trans (hfz.trans (WkE.kp))
 refine CwpE.seqJ (fun st=>st=⟨[(1,.ref 0 1 0 0),(2,.ref 1 1 0 0),(4,.ref 2 1 0 0),(7,.own 4 1 0 1)],[oB a,.arr 1 3 26 [nil3],oB c,.dead,.arr 1 1 23 [vbools c.acc]]⟩) ?_ ?_
 ·refine CwpE.regionC (csa:=[⟨some 28,none,.mov (T 6)⟩]) (csb:=[⟨some 7,none,.mov (T 29)⟩]) (by omega) (by decide) ?_
  simp only [go_sem]
  refine ⟨_,WkE.keep (env':=[(1,.ref 0 1 0 0),(2,.ref 1 1 0 0),(4,.ref 2 1 0 0),(29,.own 4 1 0 1)]) (by simp only [go_sem];try rfl),?_⟩
  simp only [go_sem]
  exact ⟨_,WkE.kp,rfl⟩
 rintro _ rfl
 refine CwpE.cut (st:=⟨[(1,.ref 0 1 0 0),(2,.ref 1 1 0 0),(4,.ref 2 1 0 0),(7,.own 4 1 0 1),(8,.ref 5 1 0 0)],objsZ a c a.sy [c.acc] [] []⟩) ?_ ?_
 ·simp only [go_sem]
  refine ⟨_,(WkE.nilCell 5 1 3 0 1 1 4 26 _ (.agg [vi a.sy,.val (.slice none 0 0),.val (.slice none 0 0)]) rfl rfl rfl).trans ((WkE.nilCell 5 1 3 0 2 3 71 26 _ (.agg [vi a.sy,.own 6 0 0 0,.val (.slice none 0 0)]) rfl rfl rfl).trans (WkE.kp)),rfl⟩
 have hB0:B=bfsGo 256 (nextT c) y 257 [c.acc] []:=by rw [<-hB];rfl
 refine CwpE.seqJ (fun z=>∃ (L:List (List Bool)) (rows:List (List Int)),B=some (L,rows)/\z=⟨[(2,.ref 1 1 0 0),(8,.ref 5 1 0 0)],objsZ a c a.sy L (L.map fun s=>bt s 0) (edAll 0 rows)⟩) ?_ ?_
 rotate_left
 ·rintro _ ⟨L,rows,hBs,rfl⟩
  obtain ⟨o1,o2,o3⟩:=bfs_ok (by omega) (hB.trans hBs)
  rw [hBs]
  simp only [Option.map_some]
  have hl1:1<=L.length:=by have:=o3.length_le;simpa using this
  have hgo:=grOf_ok (acc:=fun s:List Bool=>bt s 0) o1 o2 hl1
  have hlen:(grOf y (fun s:List Bool=>bt s 0) L rows).acc.length<=256:=by show (L.map _).length<=256;rw [List.length_map];exact o1.most
  have hau:auOf (grOf y (fun s:List Bool=>bt s 0) L rows)=⟨a.sy,L.map fun s=>bt s 0,edAll 0 rows⟩:=by rw [hay];rfl
  have hGs:(grOf y (fun s:List Bool=>bt s 0) L rows).sy=y:=rfl
  have hls:=rLeast_s (grOf y (fun s:List Bool=>bt s 0) L rows) hgo (by omega) (by omega)
  have hll:=leastR_lang hgo (by omega)
  generalize grOf y (fun s:List Bool=>bt s 0) L rows=G at hgo hlen hGs hls hll hau ⊢
  have hck:=checked_s (auOf (leastR G)) (szA_of hll.1 (by omega) (by have:(leastR G).sy=G.sy:=rfl;omega))
  rw [checkedM]
  refine CwpE.wk (s':=⟨[(2,.ref 1 1 0 0),(8,.ref 5 1 0 0)],[oB a,.arr 1 3 26 [nil3],oB c,.dead,.arr L.length 1 23 (L.map vbools),oB (auOf G),.dead,.dead]⟩) (by rw [hau,objsZ_eq];exact freeze2 [oB a,.arr 1 3 26 [nil3],oB c,.dead,.arr L.length 1 23 (L.map vbools)] 5 rfl a.sy (L.map fun s=>bt s 0) (edAll 0 rows)) ?_
  refine CwpE.vc ?_
  simp only [go_sem]
  refine callT hls rfl ?_
  simp only [go_sem]
  refine callT hck rfl ?_
  simp only [go_sem]
  exact snap_tup2 (.tree _ rfl) (.tree _ rfl)
 have ha3:c.acc.length=n:=hn
 refine CwpE.cut (st:=⟨[(1,.ref 0 1 0 0),(2,.ref 1 1 0 0),(4,.ref 2 1 0 0),(7,.own 4 1 0 1),(8,.ref 5 1 0 0),(9,vi (0:Nat))],objsZ a c a.sy [c.acc] [] []⟩) ?_ ?_
 ·simp only [go_sem]
  exact ⟨_,WkE.kp,rfl⟩
 refine CwpE.block ?_
 refine loopXC 0 (fun m z=>∃ (i:Nat) (L:List (List Bool)) (rows:List (List Int)),m=257-i/\rows.length=i/\i<=L.length/\L.length<=256/\(∀ t ∈ L,t.length=n)/\(∀ r ∈ rows,r.length=y)/\B=bfsGo 256 (nextT c) y (257-i) L rows /\
  z=⟨[(1,.ref 0 1 0 0),(2,.ref 1 1 0 0),(4,.ref 2 1 0 0),(7,.own 4 L.length 0 L.length),(8,.ref 5 1 0 0),(9,vi i)],objsZ a c a.sy L ((L.take i).map fun s=>bt s 0) (edAll 0 rows)⟩)
  (fun z=>∃ (L:List (List Bool)) (rows:List (List Int)),B=some (L,rows)/\z=⟨[(2,.ref 1 1 0 0),(8,.ref 5 1 0 0)],objsZ a c a.sy L (L.map fun s=>bt s 0) (edAll 0 rows)⟩) 257
  _ (.refl _ _) ⟨0,[c.acc],[],rfl,rfl,by simp,by simp,fun t ht=>by rw [List.mem_singleton.1 ht,hn],fun r hr=>by simp at hr,hB0,rfl⟩ ?_ ?_
 rotate_left
 ·rintro z h
  simp only [inBlockE,if_true]
  exact ⟨z,.refl _ _,h⟩
 rintro m z ⟨i,L,rows,rfl,hri,hiL,hL,hLn,hrl,hBi,rfl⟩
 by_cases hlt:i<L.length
 rotate_left
 ·have gk:¬ (i:Int)<(L.length:Int):=by omega
  rw [bfsGo_end (by omega)] at hBi
  refine CwpE.vc ?_
  rw [objsZ_eq]
  simp only [go_sem,gk,List.length_map]
  refine ⟨⟨[(2,.ref 1 1 0 0),(8,.ref 5 1 0 0)],objsZ a c a.sy L (L.map fun s=>bt s 0) (edAll 0 rows)⟩,?_,L,rows,hBi,rfl⟩
  rw [List.take_of_length_le (by omega),objsZ_eq]
  simp only [List.length_map]
  exact WkE.kp
 have hf:257-i=(257-(i+1))+1:=by omega
 rw [hf,bfsGo_step (by omega)] at hBi
 have hnx:nextT c L[rows.length]=nextT c L[i]:=by simp only [hri]
 rw [hnx] at hBi
 have g1:(i:Int)<(L.length:Int):=by omega
 have g0:(0:Int)<=(i:Int):=by omega
 have wi:=wrap_s i (by omega)
 have hLi:=set_get hlt
 have hLin:=hLn _ (List.getElem_mem hlt)
 have hedl:=edAll_len rows 0 (m:=y) (fun r hr=>Nat.le_of_eq (hrl r hr))
 have hedb:(edAll 0 rows).length<=16384:=Nat.le_trans hedl (Nat.le_trans (Nat.mul_le_mul (show rows.length<=256 by omega) (show y<=64 by omega)) (by omega))
 have hAl:((L.take i).map fun s=>bt s 0).length=i:=by simp;omega
 have hA1:((L.take i).map fun s=>bt s 0)++[bt L[i] 0]=(L.take (i+1)).map fun s=>bt s 0:=by
  rw [List.take_succ_eq_append_getElem hlt,List.map_append];rfl
 have qa:(i+1)*1<=140737488355328:=by omega
 obtain ⟨nx,hnxe⟩:∃ nx,nextT c L[i]=nx:=⟨_,rfl⟩
 rw [hnxe] at hBi
 have nxv:∀ x,nx x=if anyT c L[i] (x:Int) then some (turnS c L[i] (x:Int)) else none:=fun x=>by rw [<-hnxe];rfl
 have nxn:∀ x t,nx x=some t->t.length=n:=fun x t h=>by
  rw [nxv] at h
  split at h
  ·rw [<-Option.some.inj h,turnS_len,hn]
  ·cases h
 have hpart:∀ x,x<=y->(((rowGo nx (List.range x) L).2)).length<=(((rowGo nx (List.range y) L).2)).length:=fun x hx=>(rowGo_part nx hx L).length_le
 have hkeep:∀ x (h:i<(((rowGo nx (List.range x) L).2)).length),(((rowGo nx (List.range x) L).2))[i]=L[i]:=fun x h=>((rowGo_pre nx (List.range x) L).getElem hlt).symm
 have hLxn:∀ x,∀ t ∈ ((rowGo nx (List.range x) L).2),t.length=n:=fun x=>rowGo_all nx (fun t=>t.length=n) nxn _ _ hLn
 generalize hq:L[i]=q at hLi hLin hA1 nxv hkeep
 clear hnxe hnx hq
 have hAe:((L.take i).map fun s=>bt s 0).map vb++[vb (bt q 0)]=((L.take (i+1)).map fun s=>bt s 0).map vb:=by
  rw [<-hA1,List.map_append];rfl
 have hAl1:((L.take (i+1)).map fun s=>bt s 0).length=i+1:=by simp;omega
 refine CwpE.cut (st:=⟨[(1,.ref 0 1 0 0),(2,.ref 1 1 0 0),(4,.ref 2 1 0 0),(7,.own 4 L.length 0 L.length),(8,.ref 5 1 0 0),(9,vi i)],objsZ a c a.sy L ((L.take i).map fun s=>bt s 0) (edAll 0 rows)⟩) ?_ ?_
 ·rw [objsZ_eq]
  simp only [go_sem,g1,List.length_map]
  exact ⟨_,WkE.kp,rfl⟩
 obtain ⟨E0,hE0⟩:∃ E0,edAll 0 rows=E0:=⟨_,rfl⟩
 rw [hE0] at hedb ⊢
 refine CwpE.seqJ (fun z=>(((rowGo nx (List.range y) L).2)).length<=256 /\
  z=⟨[(1,.ref 0 1 0 0),(2,.ref 1 1 0 0),(4,.ref 2 1 0 0),(7,.own 4 ((rowGo nx (List.range y) L).2).length 0 ((rowGo nx (List.range y) L).2).length),(8,.ref 5 1 0 0),(9,vi i)],objsZ a c a.sy ((rowGo nx (List.range y) L).2) ((L.take (i+1)).map fun s=>bt s 0) (E0++edRow (i:Int) 0 (rowGo nx (List.range y) L).1)⟩) (CwpE.block ?_) ?_
 rotate_left
 ·rintro z ⟨h256,rfl⟩
  refine CwpE.vc ?_
  simp only [go_sem,wi]
  refine ⟨257-(i+1),⟨[(1,.ref 0 1 0 0),(2,.ref 1 1 0 0),(4,.ref 2 1 0 0),(7,.own 4 ((rowGo nx (List.range y) L).2).length 0 ((rowGo nx (List.range y) L).2).length),(8,.ref 5 1 0 0),(9,vi (i+1:Nat))],objsZ a c a.sy ((rowGo nx (List.range y) L).2) ((L.take (i+1)).map fun s=>bt s 0) (E0++edRow (i:Int) 0 (rowGo nx (List.range y) L).1)⟩,by omega,WkE.kp,i+1,((rowGo nx (List.range y) L).2),rows++[(rowGo nx (List.range y) L).1],rfl,by simp [hri],?_,h256,hLxn y,?_,?_,?_⟩
  ·have:=(rowGo_pre nx (List.range y) L).length_le;omega
  ·intro r hr
   rcases List.mem_append.1 hr with hr | hr
   ·exact hrl r hr
   ·rw [List.mem_singleton.1 hr,rowGo_len,List.length_range]
  ·rw [hBi,if_neg (by omega)]
  ·have e1:edAll 0 (rows++[(rowGo nx (List.range y) L).1])=E0++edRow (i:Int) 0 (rowGo nx (List.range y) L).1:=by rw [edAll_snoc,hE0,hri,Nat.zero_add]
   have e2:(((rowGo nx (List.range y) L).2).take (i+1)).map (fun s=>bt s 0)=(L.take (i+1)).map fun s=>bt s 0:=by
    obtain ⟨r,hr⟩:=rowGo_pre nx (List.range y) L
    rw [<-hr,List.take_append_of_le_length (by omega)]
   rw [e1,e2]
 have hbq:=bt_get (s:=q) (k:=0) (by omega)
 have gq:(0:Int)<(q.length:Int):=by omega
 refine CwpE.cut (st:=⟨[(1,.ref 0 1 0 0),(2,.ref 1 1 0 0),(4,.ref 2 1 0 0),(7,.own 4 L.length 0 L.length),(8,.ref 5 1 0 0),(9,vi i)],objsZ a c a.sy L ((L.take (i+1)).map fun s=>bt s 0) E0⟩) ?_ ?_
 ·rw [objsZ_eq a c a.sy L ((L.take i).map fun s=>bt s 0) E0]
  simp only [go_sem,Int.le_refl,g1,g0,hLi,hbq,List.length_map,hAl,hAe,qa,Int.toNat_natCast]
  refine ⟨_,?_,rfl⟩
  rw [objsZ_eq,hAl1]
  exact WkE.kp
 obtain ⟨A1,hA1e⟩:∃ A1,((L.take (i+1)).map fun s=>bt s 0)=A1:=⟨_,rfl⟩
 rw [hA1e] at hAl1 ⊢
 refine CwpE.vc ?_
 simp only [go_sem]
 refine loopX 2 (fun m z=>∃ x:Nat,m=y-x/\x<=y/\(((rowGo nx (List.range x) L).2)).length<=256 /\
  z=⟨[(1,.ref 0 1 0 0),(2,.ref 1 1 0 0),(4,.ref 2 1 0 0),(7,.own 4 ((rowGo nx (List.range x) L).2).length 0 ((rowGo nx (List.range x) L).2).length),(8,.ref 5 1 0 0),(9,vi i),(10,vi x)],objsZ a c a.sy ((rowGo nx (List.range x) L).2) A1 (E0++edRow (i:Int) 0 (rowGo nx (List.range x) L).1)⟩)
  (fun z=>(((rowGo nx (List.range y) L).2)).length<=256 /\
   z=⟨[(1,.ref 0 1 0 0),(2,.ref 1 1 0 0),(4,.ref 2 1 0 0),(7,.own 4 ((rowGo nx (List.range y) L).2).length 0 ((rowGo nx (List.range y) L).2).length),(8,.ref 5 1 0 0),(9,vi i)],objsZ a c a.sy ((rowGo nx (List.range y) L).2) A1 (E0++edRow (i:Int) 0 (rowGo nx (List.range y) L).1)⟩) y
  ⟨[(1,.ref 0 1 0 0),(2,.ref 1 1 0 0),(4,.ref 2 1 0 0),(7,.own 4 L.length 0 L.length),(8,.ref 5 1 0 0),(9,vi i),(10,vi (0:Nat))],objsZ a c a.sy L A1 (E0++edRow (i:Int) 0 [])⟩ ?_ ⟨0,by omega,by omega,hL,rfl⟩ ?_ ?_
 ·have e0:E0++edRow (i:Int) 0 []=E0:=by rw [edRow,List.append_nil]
  rw [e0]
  exact WkE.kp
 rotate_left
 ·rintro z h
  simp only [go_sem]
  exact ⟨z,.refl _ _,h⟩
 rintro m z ⟨x,rfl,hx,hL256,rfl⟩
 by_cases hxy:x<y
 rotate_left
 ·obtain rfl:x=y:=by omega
  have gk:¬ (x:Int)<a.sy:=by omega
  rw [objsZ_eq]
  simp only [go_sem,gk]
  refine ⟨⟨[(1,.ref 0 1 0 0),(2,.ref 1 1 0 0),(4,.ref 2 1 0 0),(7,.own 4 ((rowGo nx (List.range x) L).2).length 0 ((rowGo nx (List.range x) L).2).length),(8,.ref 5 1 0 0),(9,vi i)],objsZ a c a.sy ((rowGo nx (List.range x) L).2) A1 (E0++edRow (i:Int) 0 (rowGo nx (List.range x) L).1)⟩,?_,hL256,by rw [objsZ_eq];simp only [List.length_append]⟩
  rw [objsZ_eq]
  simp only [List.length_append]
  exact WkE.kp
 have hp1:=hpart (x+1) (by omega)
 have hlenx:L.length<=(((rowGo nx (List.range x) L).2)).length:=(rowGo_pre nx (List.range x) L).length_le
 have hrx:((rowGo nx (List.range x) L).1).length=x:=by rw [rowGo_len,List.length_range]
 have hee:=edRow_len (i:Int) ((rowGo nx (List.range x) L).1) 0
 have hrr:=rowGo_range nx x L
 have hkx:=hkeep x (by omega)
 have hnx':=hLxn x
 have hnx2:=nxv x
 obtain ⟨Lx,hLx⟩:∃ Lx,((rowGo nx (List.range x) L).2)=Lx:=⟨_,rfl⟩
 obtain ⟨rx,hrxe⟩:∃ rx,(rowGo nx (List.range x) L).1=rx:=⟨_,rfl⟩
 obtain ⟨L1,hL1⟩:∃ L1,((rowGo nx (List.range (x+1)) L).2)=L1:=⟨_,rfl⟩
 obtain ⟨r1,hr1⟩:∃ r1,(rowGo nx (List.range (x+1)) L).1=r1:=⟨_,rfl⟩
 simp only [hLx,hrxe,hL1] at hp1 hlenx hrx hee hrr hkx hnx' hL256 ⊢
 have gx:(x:Int)<a.sy:=by omega
 have wx:=wrap_s x (by omega)
 have gi:(i:Int)<(Lx.length:Int):=by omega
 have hLxi:(Lx.map vbools)[i]? = some (vbools q):=by rw [set_get (by omega),hkx]
 have hel:(E0++edRow (i:Int) 0 rx).length<=16384+64:=by rw [List.length_append];omega
 obtain ⟨E1,hE1⟩:∃ E1,E0++edRow (i:Int) 0 rx=E1:=⟨_,rfl⟩
 rw [hE1] at hel
 have fin:∀ (st:Est) (L2:List (List Bool)) (r2:List Int),L1=L2->r1=r2->L2.length<=256->WkE 128 st ⟨[(1,.ref 0 1 0 0),(2,.ref 1 1 0 0),(4,.ref 2 1 0 0),(7,.own 4 L2.length 0 L2.length),(8,.ref 5 1 0 0),(9,vi i),(10,vi (x+1:Nat))],objsZ a c a.sy L2 A1 (E0++edRow (i:Int) 0 r2)⟩ ->
  ∃ m s',m<y-x/\WkE 128 st s'/\∃ x:Nat,m=y-x/\x<=y/\(((rowGo nx (List.range x) L).2)).length<=256 /\
  s'=⟨[(1,.ref 0 1 0 0),(2,.ref 1 1 0 0),(4,.ref 2 1 0 0),(7,.own 4 ((rowGo nx (List.range x) L).2).length 0 ((rowGo nx (List.range x) L).2).length),(8,.ref 5 1 0 0),(9,vi i),(10,vi x)],objsZ a c a.sy ((rowGo nx (List.range x) L).2) A1 (E0++edRow (i:Int) 0 (rowGo nx (List.range x) L).1)⟩:=by
  rintro st L2 r2 rfl rfl h256 hst
  exact ⟨y-(x+1),_,by omega,hst,x+1,rfl,by omega,by rw [hL1];exact h256,by rw [hL1,hr1]⟩
 rw [hE1]
 have q0:(0:Int)<=(n:Int):=by omega
 have q2:((1:Nat):Int)*(n:Int)<=281474976710656:=by omega
 have q4:(n:Int)<=9223372036854775807:=by omega
 have hqn:q.length=n:=hLin
 rw [objsZ_eq a c a.sy Lx A1 E1]
 simp only [go_sem,gx,List.length_map,hn,q0,q2,q4,Int.le_refl,Int.toNat_natCast]
 refine loopX 4 (fun m z=>∃ (k:Nat) (t:List Bool),m=c.ed.length-k/\k<=c.ed.length/\t.length=n/\(∀ j,bt t j=true ↔ ∃ e ∈ c.ed.take k,e.2.1=(x:Int)/\bt q e.2.2.toNat=true/\e.1=(j:Int)) /\
  z=⟨[(1,.ref 0 1 0 0),(2,.ref 1 1 0 0),(4,.ref 2 1 0 0),(7,.own 4 Lx.length 0 Lx.length),(8,.ref 5 1 0 0),(9,vi i),(10,vi x),(11,.own 8 n 0 n),(12,vb ((c.ed.take k).any fun e=>decide (e.2.1=(x:Int)) && bt q e.2.2.toNat)),(13,vi k)],objsZ a c a.sy Lx A1 E1++[.arr n 1 4 (t.map vb)]⟩)
  (fun z=>z=⟨[(1,.ref 0 1 0 0),(2,.ref 1 1 0 0),(4,.ref 2 1 0 0),(7,.own 4 Lx.length 0 Lx.length),(8,.ref 5 1 0 0),(9,vi i),(10,vi x),(11,vbools (turnS c q (x:Int))),(12,vb (anyT c q (x:Int)))],objsZ a c a.sy Lx A1 E1⟩) c.ed.length
  ⟨[(1,.ref 0 1 0 0),(2,.ref 1 1 0 0),(4,.ref 2 1 0 0),(7,.own 4 Lx.length 0 Lx.length),(8,.ref 5 1 0 0),(9,vi i),(10,vi x),(11,.own 8 n 0 n),(12,vb false),(13,vi (0:Nat))],objsZ a c a.sy Lx A1 E1++[.arr n 1 4 ((noneS n).map vb)]⟩ (by rw [none_map];exact WkE.kp)
  ⟨0,noneS n,by omega,by omega,by simp [noneS],fun j=>by rw [noneS_bt];simp,rfl⟩ ?_ ?_
 rotate_left
 ·rintro z rfl
  rw [objsZ_eq a c a.sy Lx A1 E1]
  have hnx3:=hnx2
  have e0:edRow (i:Int) 0 (rx++[-1])=edRow (i:Int) 0 rx:=by rw [edRow_snoc,if_pos (by omega),List.append_nil]
  cases hany:anyT c q (x:Int) with
  | false =>
   rw [hany] at hnx2
   simp only [Bool.false_eq_true,if_false] at hnx2
   rw [hnx2] at hrr
   simp only [hL1,hr1,Prod.ext_iff] at hrr
   simp only [go_sem,wx]
   refine fin _ Lx (rx++[-1]) hrr.2 hrr.1 hL256 ?_
   rw [e0,hE1]
   exact WkE.kp
  | true =>
   rw [hany] at hnx2
   simp only [if_true] at hnx2
   obtain ⟨t,ht⟩:∃ t,turnS c q (x:Int)=t:=⟨_,rfl⟩
   have htl:t.length=n:=by rw [<-ht,turnS_len,hn]
   rw [ht] at hnx2 ⊢
   rw [hnx2] at hrr
   simp only [hL1,hr1,Prod.ext_iff] at hrr
   have e1:∀ p:Nat,edRow (i:Int) 0 (rx++[(p:Int)])=edRow (i:Int) 0 rx++[((i:Int),(x:Int),(p:Int))]:=fun p=>by
    rw [edRow_snoc,if_neg (by omega),Nat.zero_add,hrx]
   have hfd:=find_s Lx t (by omega) (by omega) (fun s hs=>by rw [hnx' s hs,htl])
   have qe:(E1.length+1)*24<=140737488355328:=by omega
   have hE2:∀ p:Nat,E0++edRow (i:Int) 0 (rx++[(p:Int)])=E1++[((i:Int),(x:Int),(p:Int))]:=fun p=>by rw [e1,<-List.append_assoc,hE1]
   simp only [go_sem]
   refine callF hfd (.cons (.own 4 Lx.length 0 Lx.length 1 23 (Lx.map vbools) (Lx.map vbools) rfl (by simp) (by simp) fun q hq=>by
    simp only [Nat.zero_add]
    exact .tree _ (List.all_eq_true.1 (isT_map (fun _=>rfl) _) _ (List.getElem_mem _))) (.cons (.tree _ rfl) .nil)) rfl ?_
   rcases findM_pos Lx t with ⟨hf1,hf2,hf3⟩ | ⟨hf1,hf2⟩
   ·have hk1:addK Lx t=Lx++[t]:=by rw [addK,if_neg (by omega)]
    rw [hk1,hf3] at hrr
    have ql:(Lx.length+1)*24<=140737488355328:=by omega
    by_cases h256:256<(Lx.length+1)
    ·have hBn:B=none:=by
      rw [hBi,if_pos]
      rw [hrr.2] at hp1
      simp only [List.length_append,List.length_singleton] at hp1
      omega
     have g256:(256:Int)<((Lx.length+1:Nat):Int):=by omega
     rw [hBn]
     simp only [go_sem,hf1,ql,g256,Option.map_none]
     exact snap_tup2 nil_snap (.tree _ rfl)
    ·have g256:¬ (256:Int)<((Lx.length+1:Nat):Int):=by omega
     simp only [go_sem,hf1,ql,g256,qe,wx]
     refine fin _ (Lx++[t]) (rx++[(Lx.length:Int)]) hrr.2 hrr.1 (by simp;omega) ?_
     rw [hE2,objsZ_eq]
     simp only [List.length_append,List.length_singleton,List.map_append,List.map_cons,List.map_nil]
     exact WkE.kp
   ·have hk1:addK Lx t=Lx:=by rw [addK,if_pos hf2]
    rw [hk1] at hrr
    have hnl:¬ ((posF Lx t:Nat):Int)<0:=by omega
    have g256:¬ (256:Int)<(Lx.length:Int):=by omega
    rw [hf1]
    simp only [go_sem,hnl,g256,qe,wx]
    refine fin _ Lx (rx++[(posF Lx t:Int)]) hrr.2 hrr.1 hL256 ?_
    rw [hE2,objsZ_eq]
    simp only [List.length_append,List.length_singleton,List.map_append,List.map_cons,List.map_nil]
    exact WkE.kp
 rintro m z ⟨k,t,rfl,hk,htl,ht,rfl⟩
 have inn9:=fun t=>objsZ_inn9 a c a.sy Lx A1 E1 n t
 by_cases hlt2:k<c.ed.length
 rotate_left
 ·have gk:¬ (k:Int)<(c.ed.length:Int):=by omega
  rw [List.take_of_length_le (by omega)] at ht
  have e1:t=turnS c q (x:Int):=turnS_of (by omega) ht
  have e2:((c.ed.take k).any fun e=>decide (e.2.1=(x:Int)) && bt q e.2.2.toNat)=anyT c q (x:Int):=by rw [List.take_of_length_le (by omega)];rfl
  rw [objsZ_eq a c a.sy Lx A1 E1]
  simp only [go_sem,gk,List.length_map]
  refine ⟨_,?_,rfl⟩
  rw [e2,<-e1]
  have hfz:=WkE.freeze (n:=128) (env:=[(11,.own 8 n 0 n),(1,.ref 0 1 0 0),(2,.ref 1 1 0 0),(4,.ref 2 1 0 0),(7,.own 4 Lx.length 0 Lx.length),(8,.ref 5 1 0 0),(9,vi i),(10,vi x),(12,vb (anyT c q (x:Int)))]) (objs:=objsZ a c a.sy Lx A1 E1++[.arr n 1 4 (t.map vb)]) 11 8 n 0 n 1 4 (t.map vb) (by omega) rfl rfl (by simp [htl]) (isT_map (fun _=>rfl) _)
  have e3:((t.map vb).drop 0).take n=t.map vb:=by rw [List.drop_zero,List.take_of_length_le (by simp [htl])]
  rw [e3] at hfz
  exact (WkE.kp).trans (hfz.trans (WkE.round (by simp only [go_sem];try rfl) rfl (objsZ_inn _ _ _ _ _ _) rfl))
 have k1:(k:Int)<(c.ed.length:Int):=by omega
 have k0:(0:Int)<=(k:Int):=by omega
 have w1:=wrap_s k (by omega)
 have hee2:=hed _ (List.getElem_mem hlt2)
 have heg:=edge_get hlt2
 have htk:=List.take_succ_eq_append_getElem hlt2
 generalize c.ed[k]=e at hee2 heg htk
 obtain ⟨e1,e2,e3⟩:=e
 simp only at hee2
 obtain ⟨p,rfl⟩:∃ p:Nat,e1=(p:Int):=⟨e1.toNat,by omega⟩
 obtain ⟨r,rfl⟩:∃ r:Nat,e3=(r:Int):=⟨e3.toNat,by omega⟩
 have r0:(0:Int)<=(r:Int):=by omega
 have r1':(r:Int)<(q.length:Int):=by omega
 have p0:(0:Int)<=(p:Int):=by omega
 have p1:(p:Int)<(n:Int):=by omega
 have hup:=bt_get (s:=q) (k:=r) (by omega)
 have hur:=bt_get (s:=t) (k:=p) (by omega)
 have hany:((c.ed.take (k+1)).any fun e=>decide (e.2.1=(x:Int)) && bt q e.2.2.toNat)=(((c.ed.take k).any fun e=>decide (e.2.1=(x:Int)) && bt q e.2.2.toNat) || (decide (e2=(x:Int)) && bt q r)):=by
  rw [htk,List.any_append];simp
 have same:(decide (e2=(x:Int)) && bt q r)=false->∀ st,WkE 128 st ⟨[(1,.ref 0 1 0 0),(2,.ref 1 1 0 0),(4,.ref 2 1 0 0),(7,.own 4 Lx.length 0 Lx.length),(8,.ref 5 1 0 0),(9,vi i),(10,vi x),(11,.own 8 n 0 n),(12,vb ((c.ed.take k).any fun e=>decide (e.2.1=(x:Int)) && bt q e.2.2.toNat)),(13,vi (k+1:Nat))],objsZ a c a.sy Lx A1 E1++[.arr n 1 4 (t.map vb)]⟩ ->
  ∃ m z,m<c.ed.length-k/\WkE 128 st z/\∃ (k:Nat) (t:List Bool),m=c.ed.length-k/\k<=c.ed.length/\t.length=n/\(∀ j,bt t j=true ↔ ∃ e ∈ c.ed.take k,e.2.1=(x:Int)/\bt q e.2.2.toNat=true/\e.1=(j:Int)) /\
  z=⟨[(1,.ref 0 1 0 0),(2,.ref 1 1 0 0),(4,.ref 2 1 0 0),(7,.own 4 Lx.length 0 Lx.length),(8,.ref 5 1 0 0),(9,vi i),(10,vi x),(11,.own 8 n 0 n),(12,vb ((c.ed.take k).any fun e=>decide (e.2.1=(x:Int)) && bt q e.2.2.toNat)),(13,vi k)],objsZ a c a.sy Lx A1 E1++[.arr n 1 4 (t.map vb)]⟩:=by
  intro hno st hst
  refine ⟨c.ed.length-(k+1),_,by omega,hst,k+1,t,rfl,by omega,htl,fun j=>?_,by rw [hany,hno,Bool.or_false]⟩
  rw [ht,htk]
  constructor
  ·rintro ⟨e,he,h⟩;exact ⟨e,by simp [he],h⟩
  ·rintro ⟨e,he,h⟩
   rcases List.mem_append.1 he with he | he
   ·exact ⟨e,he,h⟩
   ·rw [List.mem_singleton] at he
    subst he
    simp only [Int.toNat_natCast] at h
    rw [h.1,h.2.1] at hno
    simp at hno
 rw [objsZ_eq a c a.sy Lx A1 E1] at same ⊢
 rw [objsZ_eq a c a.sy Lx A1 E1] at inn9
 by_cases b1:e2=(x:Int)
 rotate_left
 ·have hs1:=same (by simp [b1])
  simp only [go_sem,k1,k0,heg,b1,w1,List.length_map,Int.toNat_natCast]
  exact hs1 _ (WkE.round (by simp only [go_sem];try rfl) rfl (inn9 t) rfl)
 cases b2:bt q r with
 | false =>
  rw [b2] at hup
  have hs1:=same (by rw [b2,Bool.and_false])
  simp only [go_sem,k1,k0,gi,g0,hLxi,heg,b1,hup,r0,w1,List.length_map,Int.toNat_natCast]
  exact hs1 _ (WkE.round (by simp only [go_sem];try rfl) rfl (inn9 t) rfl)
 | true =>
  rw [b2] at hup
  have hpb:∀ j,bt (putS t p) j=(decide (j=p) || bt t j):=fun j=>putS_bt (by omega)
  have hany2:((c.ed.take (k+1)).any fun e=>decide (e.2.1=(x:Int)) && bt q e.2.2.toNat)=true:=by rw [hany,b2];simp [b1]
  simp only [go_sem,k1,k0,gi,g0,hLxi,heg,b1,hup,hur,p0,p1,r0,w1,bt_set,List.length_map,Int.toNat_natCast]
  refine ⟨c.ed.length-(k+1),⟨[(1,.ref 0 1 0 0),(2,.ref 1 1 0 0),(4,.ref 2 1 0 0),(7,.own 4 Lx.length 0 Lx.length),(8,.ref 5 1 0 0),(9,vi i),(10,vi x),(11,.own 8 n 0 n),(12,vb true),(13,vi (k+1:Nat))],objsZ a c a.sy Lx A1 E1++[.arr n 1 4 ((putS t p).map vb)]⟩,by omega,?_,k+1,putS t p,rfl,by omega,by rw [putS_len,htl],fun j=>?_,by rw [hany2];rfl⟩
  ·rw [objsZ_eq a c a.sy Lx A1 E1]
   exact WkE.round (by simp only [go_sem];try rfl) rfl (inn9 _) rfl
  rw [hpb,Bool.or_eq_true,decide_eq_true_eq,ht,htk]
  constructor
  ·rintro (rfl | ⟨e,he,h⟩)
   ·exact ⟨_,List.mem_append.2 (.inr (List.mem_singleton.2 rfl)),b1,by simpa using b2,rfl⟩
   ·exact ⟨e,by simp [he],h⟩
  ·rintro ⟨e,he,h⟩
   rcases List.mem_append.1 he with he | he
   ·exact .inr ⟨e,he,h⟩
   ·rw [List.mem_singleton] at he
    subst he
    exact .inl (by have:=h.2.2;simp only at this;omega)
end Go.Proofs.Ytjilachpkjlhdaa
namespace P5
theorem apartRow_wl (g h:Gr) (p:PI) (w:List Int):∀ (xs:List Nat) (z:List PI),∀ e ∈ (apartRow g h p w xs z).1,e.2.length=w.length+1
 | [],z,e,he=>by simp [apartRow] at he
 | y::xs,z,e,he=>by
  by_cases hy:stepP g h p y ∈ z
  ·rw [apartRow_t hy] at he
   exact apartRow_wl g h p w xs z e he
  ·rw [apartRow_f hy] at he
   rcases List.mem_cons.1 he with rfl | he
   ·simp
   ·exact apartRow_wl g h p w xs _ e he
theorem apartGo_len (g h:Gr):∀ (f n:Nat) (l:List (PI × List Int)) (z:List PI) (u:List Int),(∀ q ∈ l,q.2.length<=n)->apartGo g h f l z=some u->u.length<=n+f
 | 0,_,_,_,_,_,e=>by simp [apartGo] at e
 | f+1,n,[],_,_,_,e=>by simp [apartGo] at e
 | f+1,n,(p,w)::l,z,u,hl,e=>by
  have hw:w.length<=n:=hl (p,w) (by simp)
  rw [apartGo] at e
  by_cases ht:tellsI g h p=true
  ·rw [if_pos ht] at e
   rw [<-Option.some.inj e];omega
  ·rw [if_neg ht] at e
   have:=apartGo_len g h f (n+1) _ _ u (fun q hq=>by
    rcases List.mem_append.1 hq with hq | hq
    ·have:=hl q (by simp [hq]);omega
    ·have:=apartRow_wl g h p w _ _ q hq;omega) e
   omega
theorem differ_len {a b:Au} {u:List Int} (h:(differM a b).1=some u):u.length<=66051:=by
 unfold differM at h
 simp only at h
 split at h
 ·have:=apartGo_len _ _ 66051 0 _ _ u (fun q hq=>by rw [List.mem_singleton.1 hq];simp) h
  omega
 ·simp at h
end P5
namespace Go.Proofs.Ytjilachpkjlhdaa
open Go.RowKit Dak P5
set_option maxHeartbeats 4000000 in
theorem AutomatonDiffers_s (l m:List Int) (symbols at' how by':Int) (hl:∀ x ∈ l,I64 x) (hm:∀ x ∈ m,I64 x) (hs:I64 symbols) (ha:I64 at') (hh:I64 how) (hb:I64 by') :
 Ctr Try.prog 5 [vints l,vints m,vi symbols,vi at',vi how,vi by'] (vb true):=by
 refine specC f5 (by simp) fun F0 w0=>?_
 have hp:=pair2_s l m symbols hl hm hs
 obtain ⟨m1,m2⟩:=made_sz l (symN symbols)
 obtain ⟨m3,m4⟩:=made_sz m (symN symbols)
 obtain ⟨m5,m6⟩:=made_sz m 4
 have hbA:=Bent_s (madeM l (symN symbols)) (by omega) (by omega) at' how by' ha hh hb
 have hM:=Made_s m hm 4 (by omega) (by omega)
 replace hM:Ctr Try.prog 25 [vints m,vi 4] (vau (madeM m 4)):=hM
 have hz0:SzA (madeM l (symN symbols)):=⟨by omega,by omega⟩
 have hz1:SzA (madeM m (symN symbols)):=⟨by omega,by omega⟩
 have hz4:SzA (madeM m 4):=⟨by omega,by omega⟩
 have hz2:=bent_sz (a:=madeM l (symN symbols)) (by omega) (by omega) at' how by'
 generalize madeM l (symN symbols)=A at hp hbA hz0 hz2
 generalize madeM m (symN symbols)=B at hp hz1
 generalize madeM m 4=M4 at hM hz4
 generalize bentM A at' how by'=A' at hbA hz2
 have hlv:=lives_s
 unfold c5
 refine CwpE.cut (st:=⟨[(0,vints l),(1,vints m),(2,vi symbols),(3,vi at'),(4,vi how),(5,vi by')],[]⟩) ?_ ?_
 ·simp only [go_sem]
  exact ⟨_,WkE.kp,rfl⟩
 refine CwpE.cut (st:=⟨[(1,vints m),(3,vi at'),(4,vi how),(5,vi by'),(13,.ref 0 1 0 0),(14,.ref 1 1 0 0)],[oB A,oB B]⟩) ?_ ?_
 ·simp only [go_sem]
  refine callT hp rfl ?_
  simp only [go_sem]
  exact ⟨_,WkE.kp,rfl⟩
 refine CwpE.cut (st:=⟨[(15,.list 1 [.list 3 [vau A,vau B],.list 3 [vau A,vau A],.list 3 [vau A,vau A'],.list 3 [vau A,vau M4]])],[oB A,oB B]⟩) ?_ ?_
 ·simp only [go_sem]
  refine callT hbA rfl ?_
  simp only [go_sem]
  refine callT hM rfl ?_
  simp only [go_sem]
  exact ⟨_,WkE.kp,rfl⟩
 refine CwpE.step (fun z=>∃ env objs,z=⟨env,objs⟩) ?_ ?_
 rotate_left
 ·rintro _ ⟨env,objs,rfl⟩
  refine CwpE.wk (s':=⟨[],objs⟩) (WkE.kp) ?_
  refine CwpE.vc ?_
  simp only [go_sem]
  refine callT hlv rfl ?_
  simp only [go_sem]
  exact .tree _ rfl
 have hall:∀ i:Nat,i<4->∃ X Y:Au,SzA X/\SzA Y/\([.list 3 [vau A,vau B],.list 3 [vau A,vau A],.list 3 [vau A,vau A'],.list 3 [vau A,vau M4]]:List AV)[i]? = some (.list 3 [vau X,vau Y]):=fun i hi=>by
  match i,hi with
  | 0,_=>exact ⟨A,B,hz0,hz1,rfl⟩
  | 1,_=>exact ⟨A,A,hz0,hz0,rfl⟩
  | 2,_=>exact ⟨A,A',hz0,hz2,rfl⟩
  | 3,_=>exact ⟨A,M4,hz0,hz4,rfl⟩
 have hlen:([.list 3 [vau A,vau B],.list 3 [vau A,vau A],.list 3 [vau A,vau A'],.list 3 [vau A,vau M4]]:List AV).length=4:=rfl
 obtain ⟨LL,hLL⟩:∃ LL:List AV,[.list 3 [vau A,vau B],.list 3 [vau A,vau A],.list 3 [vau A,vau A'],.list 3 [vau A,vau M4]]=LL:=⟨_,rfl⟩
 rw [hLL] at hall hlen ⊢
 simp only [go_sem]
 refine loopX 0 (fun m z=>∃ i:Nat,m=4-i/\i<=4/\z=⟨[(15,.list 1 LL),(16,vi i)],[oB A,oB B]⟩)
  (fun z=>∃ env objs,z=⟨env,objs⟩) 4 ⟨[(15,.list 1 LL),(16,vi (0:Nat))],[oB A,oB B]⟩ (WkE.kp) ⟨0,by omega,by omega,rfl⟩ ?_ ?_
 rotate_left
 ·rintro z h
  simp only [go_sem]
  exact ⟨z,.refl _ _,h⟩
 rintro k z ⟨i,rfl,hi,rfl⟩
 by_cases hlt:i<4
 rotate_left
 ·have g:¬ (i:Int)<(LL.length:Int):=by omega
  simp only [go_sem,g]
  exact ⟨_,.refl _ _,_,_,rfl⟩
 have g1:(i:Int)<(LL.length:Int):=by omega
 have g0:(0:Int)<=(i:Int):=by omega
 have wi:=wrap_s i (by omega)
 obtain ⟨X,Y,hX,hY,hget⟩:=hall i hlt
 have h1:=ownA_s X hX
 have h2:=ownA_s Y hY
 have h3:=Differ_s X Y hX hY
 have h4:=rDiffer_s X Y hX hY
 have h5:=Turn_s Y hY
 have h6:=rTurn_s Y hY
 have h8:=same_s (turnM Y).1 (turnM Y).1 (turn_sz Y) (turn_sz Y)
 have h9:=Fixed_s X hX
 have h10:=Fixed_s Y hY
 have hdf:=differ_first (a:=X) (b:=Y)
 have hlw:=@differ_len X Y
 have hcX:=fixed_sz X
 have hcY:=fixed_sz Y
 rw [decide_eq_true rfl] at h8
 generalize turnM Y=S at h5 h6 h8
 obtain ⟨S,f⟩:=S
 generalize differM X Y=R at h3 h4 hdf hlw
 obtain ⟨r,e⟩:=R
 simp only at h3 h4 h5 h6 h8 hdf hlw
 have inn:([oB A,oB B].all fun o=>o.innO 2)=true:=rfl
 have z01:(0:Int)<((2:Nat):Int):=by omega
 have z11:(1:Int)<((2:Nat):Int):=by omega
 have hrl:(r.getD []).length<=66051:=by
  cases r with
  | none=>simp
  | some u=>exact hlw rfl
 obtain ⟨ok,hok⟩:∃ ok,r.isSome=ok:=⟨_,rfl⟩
 rw [hok] at h3 h4
 have h7:=SameInts_s (r.getD []) (r.getD []) (by omega)
 rw [decide_eq_true rfl] at h7
 have h11:=Accepts_s X hX (r.getD []) (by omega)
 have h12:=Accepts_s Y hY (r.getD []) (by omega)
 have fin:∀ st,WkE 172 st ⟨[(15,.list 1 LL),(16,vi (i+1:Nat))],[oB A,oB B]⟩->∃ m s',m<4-i/\WkE 172 st s'/\∃ i:Nat,m=4-i/\i<=4/\s'=⟨[(15,.list 1 LL),(16,vi i)],[oB A,oB B]⟩ :=
  fun st hst=>⟨4-(i+1),_,by omega,hst,i+1,rfl,by omega,rfl⟩
 simp only [go_sem,Int.reduceLE,Int.le_refl,g1,g0,hget,List.length_cons,List.length_nil,Int.toNat_natCast]
 refine callT h1 rfl ?_
 simp only [go_sem]
 refine callT h2 rfl ?_
 simp only [go_sem]
 refine callT h3 rfl ?_
 simp only [go_sem]
 refine callT h4 rfl ?_
 simp only [go_sem]
 refine callT h2 rfl ?_
 simp only [go_sem]
 refine callT h5 rfl ?_
 simp only [go_sem]
 refine callT h6 rfl ?_
 simp only [go_sem]
 refine callT h7 rfl ?_
 simp only [go_sem]
 refine callT h8 rfl ?_
 by_cases he:e=0
 rotate_left
 ·simp only [go_sem,he,wi]
  exact fin _ (WkE.round (by simp only [go_sem];try rfl) rfl inn rfl)
 subst he
 obtain ⟨hfw,e1,e2,hnone⟩:=hdf rfl
 have h13:=plainA_s (fixedM X).1 hcX
 have h14:=plainA_s (fixedM Y).1 hcY
 have h15:=Same_s (fixedM X).1 (fixedM Y).1 hcX hcY
 have key:∀ d:Decidable ((fixedM X).1=(fixedM Y).1),@decide _ d = !r.isSome:=fun d=>by
  cases r with
  | none=>exact @decide_eq_true _ d (hnone.1 rfl)
  | some u=>exact @decide_eq_false _ d (fun h=>by have:=hnone.2 h;cases this)
 rw [key] at h15
 rw [hok] at h15
 clear key hnone
 generalize fixedM X=C at h9 h13 h15 e1
 generalize fixedM Y=D at h10 h14 h15 e2
 obtain ⟨C,c'⟩:=C
 obtain ⟨D,d'⟩:=D
 simp only at h9 h10 h13 h14 h15 e1 e2
 subst e1 e2
 have b1:(true == false)=false:=rfl
 have b2:(false == true)=false:=rfl
 cases ok with
 | false =>
  replace h15:Ctr Try.prog 30 [vau C,vau D] (vb true):=h15
  simp only [go_sem]
  refine callT h1 rfl ?_
  simp only [go_sem]
  refine callT h9 rfl ?_
  simp only [go_sem]
  refine callT h2 rfl ?_
  simp only [go_sem]
  refine callT h10 rfl ?_
  simp only [go_sem]
  refine callT h13 rfl ?_
  simp only [go_sem]
  refine callT h14 rfl ?_
  simp only [go_sem]
  refine callT h15 rfl ?_
  simp only [go_sem,b2,wi]
  exact fin _ (WkE.round (by simp only [go_sem];try rfl) rfl inn rfl)
 | true =>
  obtain ⟨u,rfl⟩:=Option.isSome_iff_exists.1 hok
  replace h15:Ctr Try.prog 30 [vau C,vau D] (vb false):=h15
  replace h11:Ctr Try.prog 16 [vau X,vints u] (vb (acceptsM X u)):=h11
  replace h12:Ctr Try.prog 16 [vau Y,vints u] (vb (acceptsM Y u)):=h12
  have hacc:acceptsM X u ≠ acceptsM Y u:=by
   rcases hfw with ⟨h,_⟩ | ⟨v,h,hv,_⟩
   ·cases h
   ·rw [Option.some.inj h];exact hv
  generalize acceptsM X u=p at h11 hacc
  generalize acceptsM Y u=q at h12 hacc
  simp only [go_sem]
  refine callT h1 rfl ?_
  simp only [go_sem]
  refine callT h9 rfl ?_
  simp only [go_sem]
  refine callT h2 rfl ?_
  simp only [go_sem]
  refine callT h10 rfl ?_
  simp only [go_sem]
  refine callT h13 rfl ?_
  simp only [go_sem]
  refine callT h14 rfl ?_
  simp only [go_sem]
  refine callT h15 rfl ?_
  simp only [go_sem,b1]
  refine callT h1 rfl ?_
  simp only [go_sem]
  refine callT h11 rfl ?_
  simp only [go_sem]
  refine callT h2 rfl ?_
  simp only [go_sem]
  refine callT h12 rfl ?_
  have hpq:(p == q)=false:=by simpa using hacc
  simp only [go_sem,hpq,wi]
  exact fin _ (WkE.round (by simp only [go_sem];try rfl) rfl inn rfl)
end Go.Proofs.Ytjilachpkjlhdaa
