/- Lemmas used by Next, Runs. -/
import Derived.Test.YtdadmhahbeehhaaJa
import Derived.Test.YtdadmhahbeehhaaJb
import Derived.Test.YtdadmhahbeehhaaJc
import Derived.Test.YtdadmhahbeehhaaJd
import Derived.Test.YtdadmhahbeehhaaJe
import Derived.Test.YtdadmhahbeehhaaJf
import Derived.Test.YtdadmhahbeehhaaJg
import Derived.Test.YtdadmhahbeehhaaJi
import Derived.Test.YtdadmhahbeehhaaJj
set_option linter.unusedSimpArgs false
set_option linter.unusedVariables false
set_option linter.unusedSectionVars false
set_option maxRecDepth 100000
namespace Go.Proofs.Ytdadmhahbeehhaa
open Dak
def c11:CCode :=
 (sR [oo 6 (.mov (.const (.slice none 0 0)))]
 (sR [oo 8 (.bslice 3 1 []),vv 9 0,oo 10 (.append 3 1 8 (T 8) (T 9)),vv 7 10]
 (.seq (sR [vv 11 7,oo 12 (lN 11),oo 13 (iK .eql 12 0),vv 14 13,vf 15 14 2,gf 16 14 (iK .rem 15 4),gf 17 14 (iK .eql 16 0),oo 18 (.pick (T 14) bT (T 17))]
 (.cond (T 18)
 (sR [vv 19 7,vv 20 2,oo 21 (iK .quo 20 4),oo 22 (cL 17 [T 21,kk 12]),oo 23 (iK .sub 22 1),oo 24 (.bslice 3 1 [T 23]),oo 25 (.append 3 1 8 (T 19) (T 24)),vv 6 25]
 .ret)
 .skip))
 (sR [vv 26 7,vv 27 1,vv 28 7,oo 29 (lN 28),oo 30 (cL 17 [T 27,T 29]),vv 31 2,oo 32 (iK .quo 31 4),oo 33 (cL 17 [T 32,kk 14]),oo 34 (iK .sub 33 2),oo 35 (iS 1 26 30),sS 1 35 34]
 (sR [vv 36 7,vv 6 36]
 .ret)))))
theorem f11:fnC Try.lprog 11=some (c11,37,[(.tmp 6)]):=by kernel_rfl
def c13:CCode :=
 (sR [oo 6 (.mov (kk 0)),oo 7 (.mov (kk 0))]
 (.seq (sR [vv 17 0,vv 18 1,vv 19 2,oo 20 (cL 26 [T 17,T 18,T 19]),oo 21 (.lnot (T 20))]
 (.cond (T 21)
 (sR [oo 6 (.mov (kk 0)),oo 7 (.mov (kk 1))]
 .ret)
 .skip))
 (sR [vv 23 0,vv 24 1,vv 25 2,oo 26 (cL 27 [T 23,T 24,T 25]),vv 22 26,oo 27 (eX 22 0),oo 28 (eX 22 1),vv 8 27,vv 9 28]
 (sR [oo 10 (.mov (kk (-1)))]
 (sR [oo 11 (.mov (kk 0))]
 (.seq (sR [oo 12 (.mov (kk 0))]
 (.block 0 (.loop
 (.seq (sR [vv 29 12,oo 30 (iK .lss 29 10)]
 (.cond (T 30)
 .skip
 (.exit 0)))
 (.seq (.block 1 (sR [vv 33 12,oo 34 (.ibin .mul (kk 2) (T 33)),vv 35 8,vv 36 9,oo 37 (iB .add 35 36),oo 38 (iK .add 37 1),oo 39 (iB .sub 34 38),vv 13 39]
 (sR [vv 40 13,vv 41 13,oo 42 (.neg (T 41)),oo 43 (.imax (T 40) (T 42)),vv 13 43]
 (sR [oo 14 (.mov (kk 0))]
 (.block 2 (.loop
 (.seq (sR [vv 44 14,vv 45 0,oo 46 (lN 45),oo 47 (iB .lss 44 46)]
 (.cond (T 47)
 .skip
 (.exit 2)))
 (.seq (.block 3 (sR [vv 50 0,vv 51 14,oo 52 (iS 1 50 51),oo 53 (ld1 52),vv 54 12,oo 55 (iB .eql 53 54),vv 15 55]
 (.seq (sR [oo 16 (.mov (kk 0))]
 (.block 4 (.loop
 (.seq (sR [vv 56 16,vv 57 1,oo 58 (lN 57),oo 59 (iB .lss 56 58)]
 (.cond (T 59)
 .skip
 (.exit 4)))
 (.seq (.block 5 (rR [vv 62 15,vv 63 62,vt 64 63 1,vt 65 63 16,gt 66 63 (iS 1 64 65),gt 67 63 (ld1 66),vt 68 63 14,gt 69 63 (iB .neq 67 68),oo 70 (.pick (T 63) (T 69) bF),vv 15 70]))
 (rR [vv 60 16,oo 61 (iK .add 60 1),vv 16 61]))))))
 (sR [vv 71 15,vv 72 71,vt 73 72 10,gt 74 72 (iK .lss 73 0),vt 75 72 74,vf 76 75 13,vf 77 75 11,gf 78 75 (iB .lss 76 77),gt 79 72 (.pick (T 75) bT (T 78)),oo 80 (.pick (T 72) (T 79) bF)]
 (.cond (T 80)
 (sR [vv 81 14,vv 10 81]
 (rR [vv 82 13,vv 11 82]))
 .skip)))))
 (rR [vv 48 14,oo 49 (iK .add 48 1),vv 14 49])))))))))
 (rR [vv 31 12,oo 32 (iK .add 31 1),vv 12 32]))))))
 (.seq (sR [vv 83 10,oo 84 (iK .lss 83 0)]
 (.cond (T 84)
 (sR [oo 6 (.mov (kk 0)),oo 7 (.mov (kk 6))]
 .ret)
 .skip))
 (sR [vv 85 10,vv 6 85,oo 7 (.mov (kk 0))]
 .ret))))))))
theorem f13:fnC Try.lprog 13=some (c13,86,[(.tmp 6),(.tmp 7)]):=by kernel_rfl
def c26:CCode :=
 (sR [oo 6 (.mov bF)]
 (.seq (sR [vv 10 0,oo 11 (cL 32 [T 10]),oo 12 (.lnot (T 11)),vv 13 12,vf 14 13 1,gf 15 13 (lN 14),vf 16 13 2,gf 17 13 (lN 16),gf 18 13 (iB .neq 15 17),oo 19 (.pick (T 13) bT (T 18))]
 (.cond (T 19)
 (sR [oo 6 (.mov bF)]
 .ret)
 .skip))
 (sR [vv 20 0,oo 21 (lN 20),oo 22 (.mkslice 4 1 1 (.val (.bool false)) (T 21) (T 21)),vv 7 22]
 (.seq (sR [oo 8 (.mov (kk 0))]
 (.block 0 (.loop
 (.seq (sR [vv 23 8,vv 24 1,oo 25 (lN 24),oo 26 (iB .lss 23 25)]
 (.cond (T 26)
 .skip
 (.exit 0)))
 (.seq (.block 1 (sR [vv 29 1,vv 30 8,oo 31 (iS 1 29 30),oo 32 (ld1 31),vv 9 32]
 (.seq (sR [vv 33 9,oo 34 (iK .lss 33 0),vv 35 34,vf 36 35 9,vf 37 35 0,gf 38 35 (lN 37),gf 39 35 (iB .geq 36 38),oo 40 (.pick (T 35) bT (T 39)),vv 41 40,vf 42 41 2,vf 43 41 8,gf 44 41 (iS 1 42 43),gf 45 41 (ld1 44),gf 46 41 (iK .neq 45 0),vf 47 41 46,vt 48 47 2,vt 49 47 8,gt 50 47 (iS 1 48 49),gt 51 47 (ld1 50),gt 52 47 (iK .neq 51 1),gf 53 41 (.pick (T 47) (T 52) bF),oo 54 (.pick (T 41) bT (T 53))]
 (.cond (T 54)
 (sR [oo 6 (.mov bF)]
 .ret)
 .skip))
 (.seq (sR [vv 55 7,vv 56 9,oo 57 (iS 1 55 56),oo 58 (ld1 57)]
 (.cond (T 58)
 (sR [oo 6 (.mov bF)]
 .ret)
 .skip))
 (rR [vv 59 7,vv 60 9,oo 61 (iS 1 59 60),nn (.store 1 (T 61) bT)])))))
 (rR [vv 27 8,oo 28 (iK .add 27 1),vv 8 28]))))))
 (sR [oo 6 (.mov bT)]
 .ret)))))
theorem f26:fnC Try.lprog 26=some (c26,62,[(.tmp 6)]):=by kernel_rfl
def c27:CCode :=
 (sR [oo 6 (.mov (kk 0)),oo 7 (.mov (kk 0))]
 (sR [oo 8 (.mov (kk 1048576))]
 (.seq (sR [oo 9 (.mov (kk (-1)))]
 (.block 0 (.loop
 (.seq (sR [vv 13 9,oo 14 (iK .lss 13 10)]
 (.cond (T 14)
 .skip
 (.exit 0)))
 (.seq (.block 1 (rR [vv 17 8,vv 18 0,vv 19 1,vv 20 2,vv 21 9,oo 22 (cL 23 [T 18,T 19,T 20,T 21]),oo 23 (.imin (T 17) (T 22)),vv 8 23]))
 (rR [vv 15 9,oo 16 (iK .add 15 1),vv 9 16]))))))
 (sR [oo 10 (.mov (kk 9))]
 (sR [oo 11 (.mov (kk (-1)))]
 (.seq (sR [oo 12 (.mov (kk (-1)))]
 (.block 2 (.loop
 (.seq (sR [vv 24 12,oo 25 (iK .lss 24 10)]
 (.cond (T 25)
 .skip
 (.exit 2)))
 (.seq (.block 3 (sR [vv 28 0,vv 29 1,vv 30 2,vv 31 12,oo 32 (cL 23 [T 28,T 29,T 30,T 31]),vv 33 8,oo 34 (iB .eql 32 33)]
 (.cond (T 34)
 (sR [vv 35 10,vv 36 12,oo 37 (.imin (T 35) (T 36)),vv 10 37]
 (rR [vv 38 11,vv 39 12,oo 40 (.imax (T 38) (T 39)),vv 11 40]))
 .skip)))
 (rR [vv 26 12,oo 27 (iK .add 26 1),vv 12 27]))))))
 (sR [vv 41 10,vv 42 11,vv 6 41,vv 7 42]
 .ret)))))))
theorem f27:fnC Try.lprog 27=some (c27,43,[(.tmp 6),(.tmp 7)]):=by kernel_rfl
end Go.Proofs.Ytdadmhahbeehhaa
namespace A42
def abS (L:List Int) (ps:List PI) (best:Int) (s:PI) (lev:Int):PI:=if ((cnt L ps lev:Nat):Int)=best then (min s.1 lev,max s.2 lev) else s
def abK (L:List Int) (ps:List PI) (best:Int) (k:Nat):PI:=(levels.take k).foldl (abS L ps best) (9,-1)
theorem abK_step (L:List Int) (ps:List PI) (best:Int) {k:Nat} (h:k<11):abK L ps best (k+1)=abS L ps best (abK L ps best k) (-1+(k:Int)):=by
 simp only [abK,levels_step k h,List.foldl_append,List.foldl_cons,List.foldl_nil]
theorem abK_bd (L:List Int) (ps:List PI) (best:Int):∀ k,k<=11->-1<=(abK L ps best k).1/\(abK L ps best k).1<=9/\-1<=(abK L ps best k).2/\(abK L ps best k).2<=9
 | 0,_=>by simp only [abK,List.take_zero,List.foldl_nil];omega
 | k+1,h=>by
  have:=abK_bd L ps best k (by omega)
  rw [abK_step L ps best (by omega)]
  unfold abS
  split
  ·dsimp only;omega
  ·exact this
theorem abK_in (L:List Int) (ps:List PI) (best:Int):∀ k:Nat,k<=11->∀ j:Nat,j<k->((cnt L ps (-1+(j:Int)):Nat):Int)=best->(abK L ps best k).1 <= -1+(j:Int)/\-1+(j:Int)<=(abK L ps best k).2
 | 0,_,j,hj,_=>by omega
 | k+1,h,j,hj,he=>by
  rw [abK_step L ps best (by omega)]
  unfold abS
  by_cases e:j=k
  ·subst e;rw [if_pos he];dsimp only;omega
  ·have:=abK_in L ps best k (by omega) j (by omega) he
   split
   ·dsimp only;omega
   ·exact this
theorem abK_at (L:List Int) (ps:List PI) (best:Int):∀ k:Nat,k<=11->(abK L ps best k=(9,-1)/\∀ j,j<k->((cnt L ps (-1+(j:Int)):Nat):Int) ≠ best) \/ (((cnt L ps (abK L ps best k).1:Nat):Int)=best/\((cnt L ps (abK L ps best k).2:Nat):Int)=best)
 | 0,_=>.inl ⟨rfl,fun j hj=>by omega⟩
 | k+1,h=>by
  have hb:=abK_bd L ps best k (by omega)
  rw [abK_step L ps best (by omega)]
  unfold abS
  by_cases he:((cnt L ps (-1+(k:Int)):Nat):Int)=best
  ·rw [if_pos he]
   refine .inr ?_
   rcases abK_at L ps best k (by omega) with ⟨e,_⟩ | ⟨e1,e2⟩
   ·rw [e]
    dsimp only
    have m1:min (9:Int) (-1+(k:Int)) = -1+(k:Int):=by omega
    have m2:max (-1:Int) (-1+(k:Int)) = -1+(k:Int):=by omega
    rw [m1,m2];exact ⟨he,he⟩
   ·dsimp only
    refine ⟨?_,?_⟩
    ·rcases Int.le_total (abK L ps best k).1 (-1+(k:Int)) with hh | hh
     ·rw [Int.min_eq_left hh];exact e1
     ·rw [Int.min_eq_right hh];exact he
    ·rcases Int.le_total (abK L ps best k).2 (-1+(k:Int)) with hh | hh
     ·rw [Int.max_eq_right hh];exact he
     ·rw [Int.max_eq_left hh];exact e2
  ·rw [if_neg he]
   rcases abK_at L ps best k (by omega) with ⟨e,hn⟩ | hh
   ·refine .inl ⟨e,fun j hj=>?_⟩
    by_cases e2:j=k
    ·subst e2;exact he
    ·exact hn j (by omega)
   ·exact .inr hh
theorem ab_shown {L:List Int} {ps:List PI} (h:ps.length<=L.length) (hL:L.length<=256):abK L ps (mnK L ps 11) 11=shown L ps:=by
 have hs:=shown_spec h
 have hb:=shown_bd h
 rw [mn_best h hL]
 generalize (sh3 L ps).2.2=best at hs
 have hbd:=abK_bd L ps (best:Int) 11 (by omega)
 rcases abK_at L ps (best:Int) 11 (by omega) with ⟨_,hn⟩ | ⟨e1,e2⟩
 ·have:=hn ((shown L ps).1+1).toNat (by omega)
  have e2 : -1+((((shown L ps).1+1).toNat:Nat):Int)=(shown L ps).1:=by omega
  rw [e2,hs.fc] at this
  exact absurd rfl this
 ·have h1:=hs.in_ (abK L ps best 11).1 (by omega) (by omega) (by omega)
  have h2:=hs.in_ (abK L ps best 11).2 (by omega) (by omega) (by omega)
  have h3:=abK_in L ps best 11 (by omega) ((shown L ps).1+1).toNat (by omega)
  have h4:=abK_in L ps best 11 (by omega) ((shown L ps).2+1).toNat (by omega)
  have e3 : -1+((((shown L ps).1+1).toNat:Nat):Int)=(shown L ps).1:=by omega
  have e4 : -1+((((shown L ps).2+1).toNat:Nat):Int)=(shown L ps).2:=by omega
  rw [e3,hs.fc] at h3
  rw [e4,hs.lc] at h4
  have:=h3 rfl
  have:=h4 rfl
  exact Prod.ext (by omega) (by omega)
structure BF where
 best:Int
 far:Int
 deriving DecidableEq
def bfS (L:List Int) (ps:List PI) (s:PI) (level:Int) (b:BF) (n:Int):BF :=
 if lv L n=level/\isIn ps n=false/\(b.best<0 \/ max (2*level-(s.1+s.2+1)) (-(2*level-(s.1+s.2+1)))<b.far) then ⟨n,max (2*level-(s.1+s.2+1)) (-(2*level-(s.1+s.2+1)))⟩ else b
def bfK (L:List Int) (ps:List PI) (s:PI) (level:Int) (b:BF) (k:Nat):BF:=(nums k).foldl (bfS L ps s level) b
def bfL (L:List Int) (ps:List PI) (s:PI):Nat->BF
 | 0=>⟨-1,0⟩
 | k+1=>bfK L ps s (k:Int) (bfL L ps s k) L.length
theorem nums_step (k:Nat):nums (k+1)=nums k++[(k:Int)]:=by simp [nums,List.range_succ]
theorem bfK_step (L:List Int) (ps:List PI) (s:PI) (level:Int) (b:BF) (k:Nat):bfK L ps s level b (k+1)=bfS L ps s level (bfK L ps s level b k) k:=by
 simp only [bfK,nums_step,List.foldl_append,List.foldl_cons,List.foldl_nil]
structure BI (L:List Int) (ps:List PI) (s:PI) (seen:Int->Prop) (b:BF):Prop where
 none_:b.best<0->∀ n,seen n->isIn ps n=true
 some_:0<=b.best->seen b.best/\isIn ps b.best=false/\b.far=far L s b.best/\∀ n,seen n->isIn ps n=false->far L s b.best<far L s n \/ (far L s b.best=far L s n/\(lv L b.best<lv L n \/ (lv L b.best=lv L n/\b.best<=n)))
theorem bi_step {L:List Int} {ps:List PI} {s:PI} {seen:Int->Prop} {b:BF} (h:BI L ps s seen b) {n level:Int} (hn:0<=n) (hl:lv L n=level) (hlt:∀ m,seen m->lv L m<level \/ (lv L m=level/\m<n)):BI L ps s (fun m=>seen m \/ m=n) (bfS L ps s level b n):=by
 have hfar:max (2*level-(s.1+s.2+1)) (-(2*level-(s.1+s.2+1)))=far L s n:=by unfold far;rw [hl]
 unfold bfS
 rw [hfar]
 by_cases hi:isIn ps n=true
 ·rw [if_neg (by simp [hi])]
  refine ⟨fun hb m hm=>?_,fun hb=>?_⟩
  ·rcases hm with hm | rfl
   ·exact h.none_ hb m hm
   ·exact hi
  ·obtain ⟨a1,a2,a3,a4⟩:=h.some_ hb
   refine ⟨.inl a1,a2,a3,fun m hm hmi=>?_⟩
   rcases hm with hm | rfl
   ·exact a4 m hm hmi
   ·rw [hi] at hmi;cases hmi
 have hi':isIn ps n=false:=by simpa using hi
 by_cases hc:b.best<0 \/ far L s n<b.far
 ·rw [if_pos ⟨hl,hi',hc⟩]
  refine ⟨fun hb=>by dsimp only at hb;omega,fun _=>⟨.inr rfl,hi',rfl,fun m hm hmi=>?_⟩⟩
  rcases hm with hm | rfl
  ·rcases hc with hc | hc
   ·have:=h.none_ hc m hm
    rw [this] at hmi;cases hmi
   ·by_cases hb:b.best<0
    ·have:=h.none_ hb m hm
     rw [this] at hmi;cases hmi
    ·obtain ⟨a1,a2,a3,a4⟩:=h.some_ (by omega)
     have:=a4 m hm hmi
     left;dsimp only;omega
  ·right;dsimp only;exact ⟨rfl,.inr ⟨rfl,Int.le_refl _⟩⟩
 ·rw [if_neg (fun e=>hc e.2.2)]
  refine ⟨fun hb=>absurd (.inl hb) hc,fun hb=>?_⟩
  obtain ⟨a1,a2,a3,a4⟩:=h.some_ hb
  refine ⟨.inl a1,a2,a3,fun m hm hmi=>?_⟩
  rcases hm with hm | rfl
  ·exact a4 m hm hmi
  ·have:=hlt _ a1
   by_cases hf:far L s b.best<far L s m
   ·exact .inl hf
   ·refine .inr ⟨by omega,?_⟩
    rw [hl];omega
theorem bi_K {L:List Int} {ps:List PI} {s:PI} {level:Int} {b:BF} (h:BI L ps s (fun m=>0<=m/\m<L.length/\lv L m<level) b):∀ k,k<=L.length->BI L ps s (fun m=>0<=m/\m<L.length/\(lv L m<level \/ (lv L m=level/\m<k))) (bfK L ps s level b k)
 | 0,_=>by
  have e:bfK L ps s level b 0=b:=rfl
  rw [e]
  refine ⟨fun hb m hm=>h.none_ hb m ⟨hm.1,hm.2.1,by omega⟩,fun hb=>?_⟩
  obtain ⟨a1,a2,a3,a4⟩:=h.some_ hb
  exact ⟨⟨a1.1,a1.2.1,.inl a1.2.2⟩,a2,a3,fun m hm=>a4 m ⟨hm.1,hm.2.1,by omega⟩⟩
 | k+1,hk=>by
  have ih:=bi_K h k (by omega)
  rw [bfK_step]
  by_cases hl:lv L (k:Int)=level
  ·have:=bi_step ih (n:=(k:Int)) (level:=level) (by omega) hl fun m hm=>hm.2.2
   refine ⟨fun hb m hm=>this.none_ hb m ?_,fun hb=>?_⟩
   ·by_cases e:m=k
    ·exact .inr e
    ·exact .inl ⟨hm.1,hm.2.1,by omega⟩
   ·obtain ⟨a1,a2,a3,a4⟩:=this.some_ hb
    refine ⟨?_,a2,a3,fun m hm=>a4 m ?_⟩
    ·rcases a1 with a1 | a1
     ·exact ⟨a1.1,a1.2.1,by omega⟩
     ·rw [a1];exact ⟨by omega,by omega,.inr ⟨hl,by omega⟩⟩
    ·by_cases e:m=k
     ·exact .inr e
     ·exact .inl ⟨hm.1,hm.2.1,by omega⟩
  ·have e:bfS L ps s level (bfK L ps s level b k) k=bfK L ps s level b k:=by
    unfold bfS;rw [if_neg (fun e=>hl e.1)]
   rw [e]
   have key:∀ m,(lv L m<level \/ (lv L m=level/\m<((k+1:Nat):Int)))->lv L m<level \/ (lv L m=level/\m<(k:Int)):=fun m hm=>by
    rcases hm with hm | ⟨h1,h2⟩
    ·exact .inl hm
    ·refine .inr ⟨h1,?_⟩
     have:m ≠ k:=fun e=>hl (e ▸ h1)
     omega
   refine ⟨fun hb m hm=>ih.none_ hb m ⟨hm.1,hm.2.1,key m hm.2.2⟩,fun hb=>?_⟩
   obtain ⟨a1,a2,a3,a4⟩:=ih.some_ hb
   exact ⟨⟨a1.1,a1.2.1,by omega⟩,a2,a3,fun m hm=>a4 m ⟨hm.1,hm.2.1,key m hm.2.2⟩⟩
theorem bi_L {L:List Int} {ps:List PI} {s:PI} (hv:validB L=true):∀ k:Nat,BI L ps s (fun m=>0<=m/\m<L.length/\lv L m<k) (bfL L ps s k)
 | 0=>⟨fun _ m hm=>by have:=lv_bd hv m;omega,fun hb=>by simp [bfL] at hb⟩
 | k+1=>by
  have:=bi_K (L:=L) (ps:=ps) (s:=s) (bi_L hv k) L.length (Nat.le_refl _)
  have key:∀ m:Int,0<=m/\m<L.length/\lv L m<((k+1:Nat):Int)->0<=m/\m<L.length/\(lv L m<(k:Int) \/ (lv L m=(k:Int)/\m<(L.length:Int))):=fun m hm=>⟨hm.1,hm.2.1,by
   have:=hm.2.2
   have:=hm.2.1
   omega⟩
  refine ⟨fun hb m hm=>this.none_ hb m (key m hm),fun hb=>?_⟩
  obtain ⟨a1,a2,a3,a4⟩:=this.some_ hb
  have key2:∀ m:Int,0<=m/\m<L.length/\(lv L m<(k:Int) \/ (lv L m=(k:Int)/\m<(L.length:Int)))->0<=m/\m<L.length/\lv L m<((k+1:Nat):Int):=fun m hm=>⟨hm.1,hm.2.1,by
   have:=hm.2.2
   omega⟩
  exact ⟨key2 _ a1,a2,a3,fun m hm=>a4 m (key m hm)⟩
theorem bf_next {L:List Int} {ps:List PI} (hv:validB L=true):(if (bfL L ps (shown L ps) 10).best<0 then none else some (bfL L ps (shown L ps) 10).best)=nextM L ps:=by
 have hb:=bi_L (ps:=ps) (s:=shown L ps) hv 10
 generalize bfL L ps (shown L ps) 10=b at hb
 have hlv:∀ m,lv L m<((10:Nat):Int):=fun m=>by have:=lv_bd hv m;omega
 unfold nextM
 by_cases h:b.best<0
 ·rw [if_pos h]
  have:leftL L ps=[]:=by
   rw [List.eq_nil_iff_forall_not_mem]
   intro x hx
   have h2:=mem_left.1 hx
   have:=hb.none_ h x ⟨h2.1.1,h2.1.2,hlv x⟩
   rw [h2.2] at this;cases this
  rw [this];rfl
 ·rw [if_neg h]
  obtain ⟨a1,a2,a3,a4⟩:=hb.some_ (by omega)
  have hm:b.best ∈ leftL L ps:=mem_left.2 ⟨⟨a1.1,a1.2.1⟩,a2⟩
  have hne:leftL L ps ≠ []:=List.ne_nil_of_mem hm
  rw [if_neg (by simpa using hne)]
  have h1:=mem_left.1 (minF_in (cmpM L (shown L ps)) hne)
  have h2:=a4 _ ⟨h1.1.1,h1.1.2,hlv _⟩ h1.2
  have h3:=minF_le (L:=L) (s:=shown L ps) hm
  rw [cmp_neg] at h3
  congr 1
  omega
def oddM (l:List Int) (at_ by_:Int):List Int :=
 if l.length=0 \/ by_.tmod 4=0 then l++[aroundL (by_.tdiv 4) 12-1] else l.set (aroundL at_ l.length).toNat (aroundL (by_.tdiv 4) 14-2)
theorem odd_len (l:List Int) (a b:Int):(oddM l a b).length<=l.length+1:=by
 unfold oddM;split <;> simp
end A42
namespace Go.Proofs.Ytdadmhahbeehhaa
open Go.RowKit Dak A42
def metL (n:Nat) (qs:List PI):List Bool:=(List.range n).map fun j:Nat=>isIn qs (j:Int)
theorem metL_get {n:Nat} {qs:List PI} {x:Int} (h0:0<=x) (h1:x<n):((metL n qs).map vb)[x.toNat]? = some (vb (isIn qs x)):=by
 have h:x.toNat<n:=by omega
 simp only [metL,List.getElem?_map,List.getElem?_range h,Option.map_some]
 rw [show ((x.toNat:Nat):Int)=x by omega]
theorem metL_set {n:Nat} {qs:List PI} {x y:Int} (h0:0<=x) (h1:x<n):((metL n qs).map vb).set x.toNat (vb true)=(metL n (qs++[(x,y)])).map vb:=by
 apply List.ext_getElem?
 intro i
 rw [List.getElem?_set]
 by_cases hi:i<n
 ·have e:∀ rs,((metL n rs).map vb)[i]? = some (vb (isIn rs (i:Int))):=fun rs=>by
   simp only [metL,List.getElem?_map,List.getElem?_range hi,Option.map_some]
  rw [e,e]
  by_cases hx:x.toNat=i
  ·rw [if_pos hx,if_pos (by simp [metL];omega)]
   have:x=(i:Int):=by omega
   subst this
   simp [isIn]
  ·rw [if_neg hx]
   have:¬ x=(i:Int):=by omega
   simp [isIn,this]
 ·rw [if_neg (by omega)]
  simp [metL,hi]
theorem metL_len (n:Nat) (qs:List PI):(metL n qs).length=n:=by simp [metL]
set_option maxHeartbeats 4000000 in
theorem rAnswers_s (L asked right:List Int) (hL:L.length<=9223372036854775806) (hA:asked.length<=9223372036854775806) (hR:right.length<=9223372036854775806):Ctr Try.lprog 26 [vints L,vints asked,vints right] (vb (okAns L asked right)):=by
 refine specC f26 (by simp) fun F0 w0=>?_
 unfold c26
 refine CwpE.cut (st:=⟨[(0,vints L),(1,vints asked),(2,vints right)],[]⟩) ?_ ?_
 ·simp only [go_sem]
  exact ⟨_,WkE.kp,rfl⟩
 by_cases hv:validB L=true
 rotate_left
 ·have hv':validB L=false:=by simpa using hv
  have hno:okAns L asked right=false:=by simp [okAns,hv']
  rw [hno]
  refine CwpE.vc ?_
  simp only [go_sem]
  refine callT (rValid_s L hL) rfl ?_
  simp only [go_sem,hv']
  exact .tree _ rfl
 have hLl:=(valid_iff.1 hv).1
 by_cases hle:asked.length=right.length
 rotate_left
 ·have hno:okAns L asked right=false:=by simp [okAns,hle]
  have hle':¬ (asked.length:Int)=(right.length:Int):=by omega
  rw [hno]
  refine CwpE.vc ?_
  simp only [go_sem]
  refine callT (rValid_s L hL) rfl ?_
  simp only [go_sem,hv,List.length_map,hle']
  exact .tree _ rfl
 have hle':(asked.length:Int)=(right.length:Int):=by omega
 have hok:okAns L asked right=okGo L [] (asked.zip right):=by simp [okAns,hv,hle]
 refine CwpE.cut (st:=⟨[(0,vints L),(1,vints asked),(2,vints right)],[]⟩) ?_ ?_
 ·simp only [go_sem]
  refine callT (rValid_s L hL) rfl ?_
  simp only [go_sem,hv,List.length_map,hle']
  exact ⟨_,WkE.kp,rfl⟩
 obtain ⟨ps,hps⟩:∃ ps,asked.zip right=ps:=⟨_,rfl⟩
 have hpl:ps.length=asked.length:=by rw [<-hps,List.length_zip];omega
 have hget:∀ k (h:k<asked.length) (h2:k<right.length),ps[k]? = some (asked[k],right[k]):=fun k h h2=>by
  rw [<-hps]
  exact List.getElem?_zip_eq_some.2 ⟨List.getElem?_eq_getElem h,List.getElem?_eq_getElem h2⟩
 rw [hps] at hok
 have m1:(0:Int)<=(L.length:Int):=by omega
 have m2:((1:Nat):Int)*(L.length:Int)<=281474976710656:=by omega
 have m3:(L.length:Int)<=9223372036854775807:=by omega
 have hrep:List.replicate L.length (vb false)=(metL L.length []).map vb:=by
  apply List.ext_getElem?
  intro i
  by_cases hi:i<L.length
  ·simp [metL,hi,isIn]
  ·simp [metL,hi]
 refine CwpE.cut (st:=⟨[(0,vints L),(1,vints asked),(2,vints right),(7,.own 0 L.length 0 L.length)],[.arr L.length 1 4 ((metL L.length []).map vb)]⟩) ?_ ?_
 ·simp only [go_sem,Int.le_refl,List.length_map,m1,m2,m3]
  rw [<-hrep]
  exact ⟨_,WkE.kp,rfl⟩
 refine CwpE.step (fun s=>okAns L asked right=true/\s=⟨[],[]⟩) ?_ ?_
 rotate_left
 ·rintro s ⟨h,rfl⟩
  rw [h]
  refine CwpE.vc ?_
  simp only [go_sem]
  exact .tree _ rfl
 simp only [go_sem]
 refine loopX 0 (fun m s=>∃ k:Nat,m=asked.length-k/\k<=asked.length/\okAns L asked right=okGo L ((ps.take k).map (·.1)) (ps.drop k)/\s=⟨[(0,vints L),(1,vints asked),(2,vints right),(7,.own 0 L.length 0 L.length),(8,vi k)],[.arr L.length 1 4 ((metL L.length (ps.take k)).map vb)]⟩)
  (fun s=>okAns L asked right=true/\s=⟨[],[]⟩) asked.length ⟨[(0,vints L),(1,vints asked),(2,vints right),(7,.own 0 L.length 0 L.length),(8,vi (0:Nat))],[.arr L.length 1 4 ((metL L.length []).map vb)]⟩ (WkE.kp) ⟨0,rfl,by omega,hok,rfl⟩ ?_ ?_
 rotate_left
 ·rintro s ⟨h,rfl⟩
  simp only [go_sem]
  exact ⟨_,.refl _ _,h,rfl⟩
 rintro m s ⟨k,rfl,hk,hgo,rfl⟩
 by_cases hlt:k<asked.length
 rotate_left
 ·obtain rfl:k=asked.length:=by omega
  rw [List.drop_of_length_le (by omega)] at hgo
  simp only [go_sem,List.length_map,Int.lt_irrefl]
  exact ⟨⟨[],[]⟩,WkE.round trivial rfl rfl rfl,hgo,rfl⟩
 have hltr:k<right.length:=by omega
 have hpk:=hget k hlt hltr
 have hklt:k<ps.length:=by omega
 have hpk':ps[k]=(asked[k],right[k]):=by
  rw [List.getElem?_eq_getElem hklt] at hpk;exact Option.some.inj hpk
 rw [List.drop_eq_getElem_cons hklt,hpk',okGo,isIn_done] at hgo
 have htk:ps.take (k+1)=ps.take k++[(asked[k],right[k])]:=by rw [List.take_succ_eq_append_getElem hklt,hpk']
 have g0:(0:Int)<=(k:Int):=by omega
 have g1:(k:Int)<(asked.length:Int):=by omega
 have g2:(k:Int)<(right.length:Int):=by omega
 have w1:=wrap_s k (by omega)
 generalize hqs:ps.take k=qs at hgo htk
 obtain ⟨n,hn⟩:∃ n,asked[k]=n:=⟨_,rfl⟩
 obtain ⟨x,hx⟩:∃ x,right[k]=x:=⟨_,rfl⟩
 simp only [hn,hx] at hgo htk
 have hlen:=metL_len L.length qs
 by_cases h2:badP L (n,x)=true
 ·have hno:okAns L asked right=false:=by rw [hgo,h2];simp
  rw [hno]
  by_cases a1:n<0
  ·simp only [go_sem,g0,g1,List.length_map,List.getElem?_map,List.getElem?_eq_getElem hlt,hn,a1]
   exact .tree _ rfl
  by_cases a2:(L.length:Int)<=n
  ·simp only [go_sem,g0,g1,List.length_map,List.getElem?_map,List.getElem?_eq_getElem hlt,hn,a1,a2]
   exact .tree _ rfl
  have a3:¬ x=0:=by rintro rfl;simp [badP,a1,a2] at h2
  have a4:¬ x=1:=by rintro rfl;simp [badP,a1,a2] at h2
  simp only [go_sem,g0,g1,List.length_map,List.getElem?_map,List.getElem?_eq_getElem hlt,List.getElem?_eq_getElem hltr,hn,hx,a1,a2,a3,a4]
  exact .tree _ rfl
 have h2':badP L (n,x)=false:=by simpa using h2
 obtain ⟨b1,b2,b3,b4⟩:=badP_iff.1 h2'
 dsimp only at b1 b2 b3 b4
 have a1:¬ n<0:=by omega
 have a2:¬ (L.length:Int)<=n:=by omega
 have hmg:=metL_get (qs:=qs) b1 b2
 have hms:=metL_set (qs:=qs) (y:=x) b1 b2
 rw [<-htk] at hms
 by_cases h1:isIn qs n=true
 ·have hno:okAns L asked right=false:=by rw [hgo,h1];simp
  rw [hno]
  rw [h1] at hmg
  rcases (show x=0 \/ x=1 by omega) with rfl | rfl
  ·simp only [go_sem,g0,g1,List.length_map,List.getElem?_map,List.getElem?_eq_getElem hlt,List.getElem?_eq_getElem hltr,hn,hx,a1,a2,b1,b2,hmg]
   exact .tree _ rfl
  ·simp only [go_sem,Int.reduceEq,g0,g1,List.length_map,List.getElem?_map,List.getElem?_eq_getElem hlt,List.getElem?_eq_getElem hltr,hn,hx,a1,a2,b1,b2,hmg]
   exact .tree _ rfl
 have h1':isIn qs n=false:=by simpa using h1
 rw [h1'] at hmg
 have hgo2:okAns L asked right=okGo L ((ps.take (k+1)).map (·.1)) (ps.drop (k+1)):=by
  rw [hgo,h1',h2',htk];simp
 rcases (show x=0 \/ x=1 by omega) with rfl | rfl
 ·simp only [go_sem,g0,g1,List.length_map,List.getElem?_map,List.getElem?_eq_getElem hlt,List.getElem?_eq_getElem hltr,hn,hx,a1,a2,b1,b2,hmg,hms,w1]
  exact ⟨asked.length-(k+1),⟨[(0,vints L),(1,vints asked),(2,vints right),(7,.own 0 L.length 0 L.length),(8,vi ((k+1:Nat):Int))],[.arr L.length 1 4 ((metL L.length (ps.take (k+1))).map vb)]⟩,by omega,WkE.kp,k+1,rfl,by omega,hgo2,rfl⟩
 ·simp only [go_sem,Int.reduceEq,g0,g1,List.length_map,List.getElem?_map,List.getElem?_eq_getElem hlt,List.getElem?_eq_getElem hltr,hn,hx,a1,a2,b1,b2,hmg,hms,w1]
  exact ⟨asked.length-(k+1),⟨[(0,vints L),(1,vints asked),(2,vints right),(7,.own 0 L.length 0 L.length),(8,vi ((k+1:Nat):Int))],[.arr L.length 1 4 ((metL L.length (ps.take (k+1))).map vb)]⟩,by omega,WkE.kp,k+1,rfl,by omega,hgo2,rfl⟩
theorem rShown_s (L asked right:List Int) (he:asked.length=right.length) (hO:Ok L (asked.zip right)):Ctr Try.lprog 27 [vints L,vints asked,vints right] (vpr (shown L (asked.zip right))):=by
 have hag:=fun lev=>against_s L asked right lev he hO
 have hlen:=hO.len
 have hLl:=(valid_iff.1 hO.valid).1
 rw [<-ab_shown hlen hLl]
 have hcb:=fun lev=>cnt_big (L:=L) (ps:=asked.zip right) (lev:=lev) hlen hLl
 generalize asked.zip right=ps at hag hcb
 refine specC f27 (by simp) fun F0 w0=>?_
 unfold c27
 refine CwpE.cut (st:=⟨[(0,vints L),(1,vints asked),(2,vints right)],[]⟩) ?_ ?_
 ·simp only [go_sem]
  exact ⟨_,WkE.kp,rfl⟩
 refine CwpE.cut (st:=⟨[(0,vints L),(1,vints asked),(2,vints right),(8,vi (mnK L ps 0))],[]⟩) ?_ ?_
 ·simp only [go_sem]
  exact ⟨_,WkE.kp,rfl⟩
 refine CwpE.step (fun s=>s=⟨[(0,vints L),(1,vints asked),(2,vints right),(8,vi (mnK L ps 11))],[]⟩) ?_ ?_
 ·simp only [go_sem]
  refine loopX 0 (fun m s=>∃ k:Nat,m=11-k/\k<=11/\s=⟨[(0,vints L),(1,vints asked),(2,vints right),(8,vi (mnK L ps k)),(9,vi (-1+(k:Int)))],[]⟩)
   (fun s=>s=⟨[(0,vints L),(1,vints asked),(2,vints right),(8,vi (mnK L ps 11))],[]⟩) 11 ⟨[(0,vints L),(1,vints asked),(2,vints right),(8,vi (mnK L ps 0)),(9,vi (-1+((0:Nat):Int)))],[]⟩ (WkE.keep ⟨rfl,rfl,rfl,rfl,rfl,trivial⟩) ⟨0,rfl,by omega,rfl⟩ ?_ ?_
  rotate_left
  ·rintro s rfl
   simp only [go_sem]
   exact ⟨_,.refl _ _,rfl⟩
  rintro m s ⟨k,rfl,hk,rfl⟩
  by_cases hlt:k<11
  ·have hst:=mnK_step L ps hlt
   have hbd:=mnK_bd L ps k (by omega)
   have g1 : -1+(k:Int)<10:=by omega
   have w1:IntKind.i64.wrap (-1+(k:Int)+1) = -1+((k+1:Nat):Int):=by rw [wrap_id (by omega) (by omega)];omega
   obtain ⟨lev,hlev⟩:∃ lev,-1+(k:Int)=lev:=⟨_,rfl⟩
   obtain ⟨b,hb⟩:∃ b,mnK L ps k=b:=⟨_,rfl⟩
   rw [hlev,hb] at hst
   rw [hlev] at g1 w1
   rw [hlev,hb]
   simp only [go_sem,g1]
   refine callT (hag lev) rfl ?_
   simp only [go_sem,w1]
   have e:(if ((A42.cnt L ps lev:Nat):Int)<b then ((A42.cnt L ps lev:Nat):Int) else b)=mnK L ps (k+1):=by
    rw [hst];unfold mnS;split <;> omega
   rw [e]
   exact ⟨11-(k+1),⟨[(0,vints L),(1,vints asked),(2,vints right),(8,vi (mnK L ps (k+1))),(9,vi (-1+((k+1:Nat):Int)))],[]⟩,by omega,WkE.kp,k+1,rfl,by omega,rfl⟩
  ·obtain rfl:k=11:=by omega
   have e1 : -1+((11:Nat):Int)=10:=rfl
   rw [e1]
   simp only [go_sem,Int.reduceNeg,Int.lt_irrefl]
   exact ⟨_,WkE.keep (env':=[(0,vints L),(1,vints asked),(2,vints right),(8,vi (mnK L ps 11))]) (by simp only [go_sem];try trivial),rfl⟩
 rintro s rfl
 obtain ⟨best,hbest⟩:∃ best,mnK L ps 11=best:=⟨_,rfl⟩
 rw [hbest]
 refine CwpE.cut (st:=⟨[(0,vints L),(1,vints asked),(2,vints right),(8,vi best),(10,vi 9)],[]⟩) ?_ ?_
 ·simp only [go_sem]
  exact ⟨_,WkE.kp,rfl⟩
 refine CwpE.cut (st:=⟨[(0,vints L),(1,vints asked),(2,vints right),(8,vi best),(10,vi 9),(11,vi (-1))],[]⟩) ?_ ?_
 ·simp only [go_sem]
  exact ⟨_,WkE.kp,rfl⟩
 refine CwpE.step (fun s=>s=⟨[(10,vi (abK L ps best 11).1),(11,vi (abK L ps best 11).2)],[]⟩) ?_ ?_
 rotate_left
 ·rintro s rfl
  refine CwpE.vc ?_
  simp only [go_sem]
  exact .tree _ rfl
 simp only [go_sem]
 refine loopX 2 (fun m s=>∃ k:Nat,m=11-k/\k<=11/\s=⟨[(0,vints L),(1,vints asked),(2,vints right),(8,vi best),(10,vi (abK L ps best k).1),(11,vi (abK L ps best k).2),(12,vi (-1+(k:Int)))],[]⟩)
  (fun s=>s=⟨[(10,vi (abK L ps best 11).1),(11,vi (abK L ps best 11).2)],[]⟩) 11 ⟨[(0,vints L),(1,vints asked),(2,vints right),(8,vi best),(10,vi (abK L ps best 0).1),(11,vi (abK L ps best 0).2),(12,vi (-1+((0:Nat):Int)))],[]⟩ (WkE.keep ⟨rfl,rfl,rfl,rfl,rfl,rfl,rfl,trivial⟩) ⟨0,rfl,by omega,rfl⟩ ?_ ?_
 rotate_left
 ·rintro s rfl
  simp only [go_sem]
  exact ⟨_,.refl _ _,rfl⟩
 rintro m s ⟨k,rfl,hk,rfl⟩
 by_cases hlt:k<11
 ·have hst:=abK_step L ps best hlt
  have g1 : -1+(k:Int)<10:=by omega
  have w1:IntKind.i64.wrap (-1+(k:Int)+1) = -1+((k+1:Nat):Int):=by rw [wrap_id (by omega) (by omega)];omega
  obtain ⟨lev,hlev⟩:∃ lev,-1+(k:Int)=lev:=⟨_,rfl⟩
  obtain ⟨s,hs⟩:∃ s,abK L ps best k=s:=⟨_,rfl⟩
  obtain ⟨a,b⟩:=s
  rw [hlev,hs] at hst
  rw [hlev] at g1 w1
  rw [hlev,hs]
  by_cases hc:((A42.cnt L ps lev:Nat):Int)=best
  ·rw [abS,if_pos hc] at hst
   simp only [go_sem,g1]
   refine callT (hag lev) rfl ?_
   simp only [go_sem,hc,w1]
   have e1:(if lev<a then lev else a)=(abK L ps best (k+1)).1:=by rw [hst];dsimp only;split <;> omega
   have e2:(if b<lev then lev else b)=(abK L ps best (k+1)).2:=by rw [hst];dsimp only;split <;> omega
   rw [e1,e2]
   exact ⟨11-(k+1),⟨[(0,vints L),(1,vints asked),(2,vints right),(8,vi best),(10,vi (abK L ps best (k+1)).1),(11,vi (abK L ps best (k+1)).2),(12,vi (-1+((k+1:Nat):Int)))],[]⟩,by omega,WkE.kp,k+1,rfl,by omega,rfl⟩
  ·rw [abS,if_neg hc] at hst
   simp only [go_sem,g1]
   refine callT (hag lev) rfl ?_
   simp only [go_sem,hc,w1]
   have e1:a=(abK L ps best (k+1)).1:=by rw [hst]
   have e2:b=(abK L ps best (k+1)).2:=by rw [hst]
   rw [e1,e2]
   exact ⟨11-(k+1),⟨[(0,vints L),(1,vints asked),(2,vints right),(8,vi best),(10,vi (abK L ps best (k+1)).1),(11,vi (abK L ps best (k+1)).2),(12,vi (-1+((k+1:Nat):Int)))],[]⟩,by omega,WkE.kp,k+1,rfl,by omega,rfl⟩
 ·obtain rfl:k=11:=by omega
  have e1 : -1+((11:Nat):Int)=10:=rfl
  rw [e1]
  generalize abK L ps best 11=s
  simp only [go_sem,Int.reduceNeg,Int.lt_irrefl]
  exact ⟨_,WkE.keep (env':=[(10,vi s.1),(11,vi s.2)]) (by simp only [go_sem];try trivial),rfl⟩
def frK (L asked:List Int) (level n:Int) (i:Nat):Bool:=decide (lv L n=level) && !((asked.take i).contains n)
theorem frK_step {L asked:List Int} {level n:Int} {i:Nat} (h:i<asked.length):frK L asked level n (i+1)=(frK L asked level n i && !decide (asked[i]=n)):=by
 unfold frK
 rw [List.take_succ_eq_append_getElem h,Bool.and_assoc,Bool.eq_iff_iff]
 simp only [Bool.and_eq_true,Bool.not_eq_true',List.contains_eq_mem,List.mem_append,List.mem_singleton,decide_eq_true_eq,decide_eq_false_iff_not,not_or]
 constructor
 ·rintro ⟨a,b,c⟩;exact ⟨a,b,fun e=>c e.symm⟩
 ·rintro ⟨a,b,c⟩;exact ⟨a,b,fun e=>c e.symm⟩
theorem frK_end {L asked right:List Int} {level n:Int} (he:asked.length=right.length):frK L asked level n asked.length=(decide (lv L n=level) && !(isIn (asked.zip right) n)):=by
 unfold frK
 rw [List.take_length,<-isIn_done,List.map_fst_zip (by omega)]
abbrev envN (L asked:List Int) (f l:Int) (b:BF) (r:List (Nat × AV)):Est:=⟨(0,vints L)::(1,vints asked)::(8,vi f)::(9,vi l)::(10,vi b.best)::(11,vi b.far)::r,[]⟩
set_option maxHeartbeats 4000000 in
theorem rNext_s (L asked right:List Int) (hL:L.length<=9223372036854775806) (hA:asked.length<=9223372036854775806) (hR:right.length<=9223372036854775806):Ctr Try.lprog 13 [vints L,vints asked,vints right] (vpr (NextM L asked right)):=by
 have hra:=rAnswers_s L asked right hL hA hR
 refine specC f13 (by simp) fun F0 w0=>?_
 by_cases hok:okAns L asked right=true
 rotate_left
 ·have hno:okAns L asked right=false:=by simpa using hok
  have e1:NextM L asked right=(0,1):=by unfold NextM;rw [if_neg hok]
  rw [e1]
  refine CwpE.vc ?_
  simp only [c13,go_sem,↓reduceIte,reduceCtorEq,Nat.reduceLT,Nat.reduceEqDiff,Nat.reduceAdd]
  refine callT hra rfl ?_
  simp only [go_sem,hno]
  exact .tree _ rfl
 obtain ⟨he,hO⟩:=ok_iff.1 hok
 have hv:=hO.valid
 have hLl:=(valid_iff.1 hv).1
 have hal:asked.length<=256:=by
  have:=hO.len
  rw [List.length_zip] at this;omega
 have hb:=shown_bd hO.len
 have hss:=rShown_s L asked right he hO
 have hbf:=bf_next (ps:=asked.zip right) hv
 have e1:NextM L asked right=nxR (nextM L (asked.zip right)):=by unfold NextM;rw [if_pos hok]
 have hend:∀ level n,frK L asked level n asked.length=(decide (lv L n=level) && !(isIn (asked.zip right) n)):=fun level n=>frK_end he
 rw [e1,<-hbf]
 generalize shown L (asked.zip right)=s at hb hss
 generalize asked.zip right=ps at hend
 obtain ⟨f,l⟩:=s
 dsimp only at hb hss
 unfold c13
 refine CwpE.cut (st:=⟨[(0,vints L),(1,vints asked),(2,vints right)],[]⟩) ?_ ?_
 ·simp only [go_sem]
  exact ⟨_,WkE.kp,rfl⟩
 refine CwpE.cut (st:=⟨[(0,vints L),(1,vints asked),(2,vints right)],[]⟩) ?_ ?_
 ·simp only [go_sem]
  refine callT hra rfl ?_
  simp only [go_sem,hok]
  exact ⟨_,WkE.kp,rfl⟩
 refine CwpE.cut (st:=⟨[(0,vints L),(1,vints asked),(8,vi f),(9,vi l)],[]⟩) ?_ ?_
 ·simp only [go_sem]
  refine callT hss rfl ?_
  simp only [go_sem]
  exact ⟨_,WkE.kp,rfl⟩
 refine CwpE.cut (st:=⟨[(0,vints L),(1,vints asked),(8,vi f),(9,vi l),(10,vi (-1))],[]⟩) ?_ ?_
 ·simp only [go_sem]
  exact ⟨_,WkE.kp,rfl⟩
 refine CwpE.cut (st:=envN L asked f l (bfL L ps (f,l) 0) []) ?_ ?_
 ·simp only [go_sem]
  exact ⟨envN L asked f l (bfL L ps (f,l) 0) [],WkE.keep ⟨rfl,rfl,rfl,rfl,rfl,rfl,trivial⟩,rfl⟩
 have e2:IntKind.i64.wrap (f+l)=f+l:=wrap_id (by omega) (by omega)
 have e3:IntKind.i64.wrap (f+l+1)=f+l+1:=wrap_id (by omega) (by omega)
 refine CwpE.seqJ (fun z=>z=envN L asked f l (bfL L ps (f,l) 10) []) ?_ ?_
 rotate_left
 ·rintro z rfl
  obtain ⟨b,hbb⟩:∃ b,bfL L ps (f,l) 10=b:=⟨_,rfl⟩
  rw [hbb]
  refine CwpE.vc ?_
  by_cases hc:b.best<0
  ·rw [if_pos hc]
   simp only [go_sem,hc]
   exact .tree _ rfl
  ·rw [if_neg hc]
   simp only [go_sem,hc]
   exact .tree _ rfl
 refine CwpE.cut (st:=envN L asked f l (bfL L ps (f,l) 0) [(12,vi (0:Nat))]) ?_ ?_
 ·simp only [go_sem]
  exact ⟨envN L asked f l (bfL L ps (f,l) 0) [(12,vi (0:Nat))],WkE.keep ⟨rfl,rfl,rfl,rfl,rfl,rfl,rfl,trivial⟩,rfl⟩
 refine CwpE.block ?_
 refine loopXC 0 (fun m z=>∃ k:Nat,m=10-k/\k<=10/\z=envN L asked f l (bfL L ps (f,l) k) [(12,vi k)])
  (fun z=>z=envN L asked f l (bfL L ps (f,l) 10) []) 10 _ (.refl _ _) ⟨0,rfl,by omega,rfl⟩ ?_ ?_
 rotate_left
 ·rintro z rfl
  simp only [go_sem]
  exact ⟨_,.refl _ _,rfl⟩
 rintro m z ⟨k,rfl,hk,rfl⟩
 obtain ⟨b0,hb0⟩:∃ b,bfL L ps (f,l) k=b:=⟨_,rfl⟩
 by_cases hlt:k<10
 rotate_left
 ·obtain rfl:k=10:=by omega
  refine CwpE.vc ?_
  rw [hb0]
  have e10:((10:Nat):Int)=10:=rfl
  rw [e10]
  simp only [go_sem,Int.lt_irrefl]
  exact ⟨_,WkE.keep (env':=[(0,vints L),(1,vints asked),(8,vi f),(9,vi l),(10,vi b0.best),(11,vi b0.far)]) ⟨rfl,rfl,rfl,rfl,rfl,rfl,trivial⟩,rfl⟩
 have g1:(k:Int)<10:=by omega
 have wk:=wrap_s k (by omega)
 obtain ⟨lev,hlev⟩:∃ lev:Int,(k:Int)=lev:=⟨_,rfl⟩
 have f1:IntKind.i64.wrap (2*lev)=2*lev:=wrap_id (by omega) (by omega)
 have f4:IntKind.i64.wrap (2*lev-(f+l+1))=2*lev-(f+l+1):=wrap_id (by omega) (by omega)
 have f5:IntKind.i64.wrap (0-(2*lev-(f+l+1))) = -(2*lev-(f+l+1)):=by rw [wrap_id (by omega) (by omega)];omega
 obtain ⟨d,hd⟩:∃ d,max (2*lev-(f+l+1)) (-(2*lev-(f+l+1)))=d:=⟨_,rfl⟩
 have hnext:bfL L ps (f,l) (k+1)=bfK L ps (f,l) lev b0 L.length:=by rw [bfL,hb0,hlev]
 rw [hb0,hlev]
 rw [hlev] at g1 wk
 have fin:∀ z,z=envN L asked f l (bfK L ps (f,l) lev b0 L.length) [(12,vi ((k+1:Nat):Int))]->∃ m' s',m'<10-k/\WkE 86 z s'/\∃ k':Nat,m'=10-k'/\k'<=10/\s'=envN L asked f l (bfL L ps (f,l) k') [(12,vi k')]:=fun z hz =>
  ⟨10-(k+1),z,by omega,.refl _ _,k+1,rfl,by omega,by rw [hz,hnext]⟩
 obtain ⟨b1,hb1⟩:∃ b,bfK L ps (f,l) lev b0 L.length=b:=⟨_,rfl⟩
 rw [hb1] at fin
 refine CwpE.cut (st:=envN L asked f l b0 [(12,vi lev)]) ?_ ?_
 ·simp only [go_sem,g1]
  exact ⟨_,WkE.kp,rfl⟩
 refine CwpE.seqJ (fun z=>z=envN L asked f l b1 [(12,vi lev)]) (CwpE.block ?_) ?_
 rotate_left
 ·rintro z rfl
  refine CwpE.vc ?_
  simp only [go_sem,wk]
  obtain ⟨m',s',h1,h2,h3⟩:=fin _ rfl
  exact ⟨m',s',h1,.trans (WkE.kp) h2,h3⟩
 refine CwpE.cut (st:=envN L asked f l b0 [(12,vi lev),(13,vi (2*lev-(f+l+1)))]) ?_ ?_
 ·simp only [go_sem,f1,e2,e3,f4]
  exact ⟨_,WkE.kp,rfl⟩
 refine CwpE.cut (st:=envN L asked f l b0 [(12,vi lev),(13,vi d)]) ?_ ?_
 ·simp only [go_sem,f5]
  have:(if 2*lev-(f+l+1) < -(2*lev-(f+l+1)) then -(2*lev-(f+l+1)) else 2*lev-(f+l+1))=d:=by
   rw [<-hd];split <;> omega
  rw [this]
  exact ⟨_,WkE.kp,rfl⟩
 refine CwpE.cut (st:=envN L asked f l b0 [(12,vi lev),(13,vi d),(14,vi (0:Nat))]) ?_ ?_
 ·simp only [go_sem]
  exact ⟨envN L asked f l b0 [(12,vi lev),(13,vi d),(14,vi (0:Nat))],WkE.keep ⟨rfl,rfl,rfl,rfl,rfl,rfl,rfl,rfl,rfl,trivial⟩,rfl⟩
 refine CwpE.block ?_
 refine loopXC 2 (fun m z=>∃ n:Nat,m=L.length-n/\n<=L.length/\z=envN L asked f l (bfK L ps (f,l) lev b0 n) [(12,vi lev),(13,vi d),(14,vi n)])
  (fun z=>z=envN L asked f l b1 [(12,vi lev)]) L.length _ (.refl _ _) ⟨0,rfl,by omega,rfl⟩ ?_ ?_
 rotate_left
 ·rintro z rfl
  simp only [go_sem]
  exact ⟨_,.refl _ _,rfl⟩
 rintro m z ⟨n,rfl,hn,rfl⟩
 obtain ⟨b2,hb2⟩:∃ b,bfK L ps (f,l) lev b0 n=b:=⟨_,rfl⟩
 by_cases hnl:n<L.length
 rotate_left
 ·obtain rfl:n=L.length:=by omega
  rw [hb1] at hb2
  rw [hb1]
  refine CwpE.vc ?_
  simp only [go_sem,List.length_map,Int.lt_irrefl]
  exact ⟨_,WkE.keep (env':=[(0,vints L),(1,vints asked),(8,vi f),(9,vi l),(10,vi b1.best),(11,vi b1.far),(12,vi lev)]) (by simp only [go_sem];try trivial),rfl⟩
 have gn:(n:Int)<(L.length:Int):=by omega
 have n0:(0:Int)<=(n:Int):=by omega
 have wn:=wrap_s n (by omega)
 have hst:=bfK_step L ps (f,l) lev b0 n
 have hgl:(L.map vi)[(n:Int).toNat]? = some (vi (lv L (n:Int))):=by rw [List.getElem?_map,lv_idx n0 gn];rfl
 have hfe:=hend lev (n:Int)
 rw [hb2] at hst
 rw [hb2]
 obtain ⟨ni,hni⟩:∃ ni:Int,(n:Int)=ni:=⟨_,rfl⟩
 rw [hni] at gn n0 wn hst hgl hfe
 rw [hni]
 refine CwpE.cut (st:=envN L asked f l b2 [(12,vi lev),(13,vi d),(14,vi ni)]) ?_ ?_
 ·simp only [go_sem,List.length_map,gn]
  exact ⟨_,WkE.kp,rfl⟩
 obtain ⟨b3,hb3⟩:∃ b,bfK L ps (f,l) lev b0 (n+1)=b:=⟨_,rfl⟩
 rw [hb3] at hst
 refine CwpE.seqJ (fun z=>z=envN L asked f l b3 [(12,vi lev),(13,vi d),(14,vi ni)]) (CwpE.block ?_) ?_
 rotate_left
 ·rintro z rfl
  refine CwpE.vc ?_
  simp only [go_sem,wn]
  exact ⟨L.length-(n+1),envN L asked f l b3 [(12,vi lev),(13,vi d),(14,vi ((n+1:Nat):Int))],by omega,WkE.kp,n+1,rfl,by omega,by rw [hb3]⟩
 refine CwpE.cut (st:=envN L asked f l b2 [(12,vi lev),(13,vi d),(14,vi ni),(15,vb (frK L asked lev ni 0))]) ?_ ?_
 ·have:frK L asked lev ni 0=decide (lv L ni=lev):=by simp [frK]
  rw [this]
  simp only [go_sem,n0,hgl]
  exact ⟨_,WkE.kp,rfl⟩
 refine CwpE.seqJ (fun z=>z=envN L asked f l b2 [(12,vi lev),(13,vi d),(14,vi ni),(15,vb (frK L asked lev ni asked.length))]) ?_ ?_
 rotate_left
 ·rintro z rfl
  rw [hfe]
  refine CwpE.vc ?_
  unfold bfS at hst
  dsimp only at hst
  rw [hd] at hst
  by_cases c1:lv L ni=lev
  rotate_left
  ·rw [if_neg (fun e=>c1 e.1)] at hst
   rw [hst]
   simp only [go_sem,c1]
   exact ⟨_,WkE.kp,rfl⟩
  by_cases c2:isIn ps ni=true
  ·rw [if_neg (by simp [c2])] at hst
   rw [hst]
   simp only [go_sem,c1,c2]
   exact ⟨_,WkE.kp,rfl⟩
  have c2':isIn ps ni=false:=by simpa using c2
  by_cases c3:b2.best<0
  ·rw [if_pos ⟨c1,c2',.inl c3⟩] at hst
   rw [hst]
   simp only [go_sem,c1,c2',c3]
   exact ⟨_,WkE.kp,rfl⟩
  by_cases c4:d<b2.far
  ·rw [if_pos ⟨c1,c2',.inr c4⟩] at hst
   rw [hst]
   simp only [go_sem,c1,c2',c3,c4]
   exact ⟨_,WkE.kp,rfl⟩
  ·rw [if_neg (fun e=>e.2.2.elim c3 c4)] at hst
   rw [hst]
   simp only [go_sem,c1,c2',c3,c4]
   exact ⟨_,WkE.kp,rfl⟩
 refine CwpE.cut (st:=envN L asked f l b2 [(12,vi lev),(13,vi d),(14,vi ni),(15,vb (frK L asked lev ni 0)),(16,vi (0:Nat))]) ?_ ?_
 ·simp only [go_sem]
  exact ⟨envN L asked f l b2 [(12,vi lev),(13,vi d),(14,vi ni),(15,vb (frK L asked lev ni 0)),(16,vi (0:Nat))],WkE.keep ⟨rfl,rfl,rfl,rfl,rfl,rfl,rfl,rfl,rfl,rfl,rfl,trivial⟩,rfl⟩
 refine CwpE.block ?_
 refine loopXC 4 (fun m z=>∃ i:Nat,m=asked.length-i/\i<=asked.length/\z=envN L asked f l b2 [(12,vi lev),(13,vi d),(14,vi ni),(15,vb (frK L asked lev ni i)),(16,vi i)])
  (fun z=>z=envN L asked f l b2 [(12,vi lev),(13,vi d),(14,vi ni),(15,vb (frK L asked lev ni asked.length))]) asked.length _ (.refl _ _) ⟨0,rfl,by omega,rfl⟩ ?_ ?_
 rotate_left
 ·rintro z rfl
  simp only [go_sem]
  exact ⟨_,.refl _ _,rfl⟩
 rintro m z ⟨i,rfl,hi,rfl⟩
 refine CwpE.vc ?_
 by_cases hil:i<asked.length
 rotate_left
 ·obtain rfl:i=asked.length:=by omega
  simp only [go_sem,List.length_map,Int.lt_irrefl]
  exact ⟨_,WkE.keep (env':=[(0,vints L),(1,vints asked),(8,vi f),(9,vi l),(10,vi b2.best),(11,vi b2.far),(12,vi lev),(13,vi d),(14,vi ni),(15,vb (frK L asked lev ni asked.length))]) (by simp only [go_sem];try trivial),rfl⟩
 have gi:(i:Int)<(asked.length:Int):=by omega
 have i0:(0:Int)<=(i:Int):=by omega
 have wi:=wrap_s i (by omega)
 have hs2:=frK_step (L:=L) (level:=lev) (n:=ni) hil
 have fin2:∀ z,WkE 86 z (envN L asked f l b2 [(12,vi lev),(13,vi d),(14,vi ni),(15,vb (frK L asked lev ni (i+1))),(16,vi ((i+1:Nat):Int))])->∃ m' s',m'<asked.length-i/\WkE 86 z s'/\∃ i':Nat,m'=asked.length-i'/\i'<=asked.length/\s'=envN L asked f l b2 [(12,vi lev),(13,vi d),(14,vi ni),(15,vb (frK L asked lev ni i')),(16,vi i')]:=fun z hz =>
  ⟨asked.length-(i+1),_,by omega,hz,i+1,rfl,by omega,rfl⟩
 obtain ⟨fr2,hfr2⟩:∃ q,frK L asked lev ni (i+1)=q:=⟨_,rfl⟩
 rw [hfr2] at fin2 hs2
 obtain ⟨fr,hfr⟩:∃ q,frK L asked lev ni i=q:=⟨_,rfl⟩
 rw [hfr] at hs2 ⊢
 obtain ⟨ai,hai⟩:∃ a,asked[i]=a:=⟨_,rfl⟩
 rw [hai] at hs2
 cases fr with
 | false =>
  have:fr2=false:=by rw [hs2];rfl
  subst this
  simp only [go_sem,List.length_map,gi,wi]
  exact fin2 _ (WkE.kp)
 | true =>
  by_cases c:ai=ni
  ·have:fr2=false:=by rw [hs2];simp [c]
   subst this
   simp only [go_sem,List.length_map,gi,i0,List.getElem?_map,List.getElem?_eq_getElem hil,hai,wi,c]
   exact fin2 _ (WkE.kp)
  ·have:fr2=true:=by rw [hs2];simp [c]
   subst this
   simp only [go_sem,List.length_map,gi,i0,List.getElem?_map,List.getElem?_eq_getElem hil,hai,wi,c]
   exact fin2 _ (WkE.kp)
theorem tdiv4_I {n:Int} (h:I64 n):I64 (n.tdiv 4):=by
 obtain ⟨h1,h2⟩:=h
 rcases Int.le_total 0 n with h | h
 ·rw [Int.tdiv_eq_ediv_of_nonneg h];exact ⟨by omega,by omega⟩
 ·have e:n = -(-n):=by omega
  rw [e,Int.neg_tdiv,Int.tdiv_eq_ediv_of_nonneg (by omega)];exact ⟨by omega,by omega⟩
theorem tmod4_I {n:Int} : -4<n.tmod 4/\n.tmod 4<4:=by
 have h1:=Int.tmod_lt_of_pos n (show (0:Int)<4 by omega)
 have h2:=Int.lt_tmod_of_pos n (show (0:Int)<4 by omega)
 omega
set_option maxHeartbeats 4000000 in
theorem odd_s (l:List Int) (at_ by_:Int) (hl:l.length<=1000) (ha:I64 at_) (hb:I64 by_):Ctr Try.lprog 11 [vints l,vi at_,vi by_] (vints (oddM l at_ by_)):=by
 have e4:IntKind.i64.wrap (by_.tdiv 4)=by_.tdiv 4:=wrap_id (tdiv4_I hb).1 (tdiv4_I hb).2
 have em:IntKind.i64.wrap (by_.tmod 4)=by_.tmod 4:=by have:=tmod4_I (n:=by_);exact wrap_id (by omega) (by omega)
 have h12:=Around_s (by_.tdiv 4) 12 (tdiv4_I hb) ⟨by omega,by omega⟩
 have h14:=Around_s (by_.tdiv 4) 14 (tdiv4_I hb) ⟨by omega,by omega⟩
 have b12:=aroundL_bd (by_.tdiv 4) 12 (by omega)
 have b14:=aroundL_bd (by_.tdiv 4) 14 (by omega)
 refine specC f11 (by simp) fun F0 w0=>?_
 unfold c11
 refine CwpE.cut (st:=⟨[(0,vints l),(1,vi at_),(2,vi by_)],[]⟩) ?_ ?_
 ·simp only [go_sem]
  exact ⟨_,WkE.kp,rfl⟩
 have hb8:l.length*8<=140737488355328:=by omega
 have hb9:(l.length+1)*8<=140737488355328:=by omega
 have z4:¬ (4:Int)=0:=by omega
 refine CwpE.cut (st:=⟨[(1,vi at_),(2,vi by_),(7,.own 0 l.length 0 l.length)],[.arr l.length 1 3 (l.map vi)]⟩) ?_ ?_
 ·simp only [go_sem,hb8]
  exact ⟨_,WkE.kp,rfl⟩
 have w12:IntKind.i64.wrap (aroundL (by_.tdiv 4) 12-1)=aroundL (by_.tdiv 4) 12-1:=wrap_id (by omega) (by omega)
 have w14:IntKind.i64.wrap (aroundL (by_.tdiv 4) 14-2)=aroundL (by_.tdiv 4) 14-2:=wrap_id (by omega) (by omega)
 have app:Snap [.arr (l.length+1) 1 3 (l.map vi++[vi (aroundL (by_.tdiv 4) 12-1)])] (.own 0 (l.length+1) 0 (l.length+1)) (vints (l++[aroundL (by_.tdiv 4) 12-1])):=by
  have:=snapInts (objs:=[.arr (l.length+1) 1 3 ((l++[aroundL (by_.tdiv 4) 12-1]).map vi)]) 0 (l.length+1) (l++[aroundL (by_.tdiv 4) 12-1]) rfl (by simp)
  rw [List.map_append] at this
  exact this
 by_cases h0:l.length=0
 ·have h0':((l.length:Int)=0)=True:=eq_true (by omega)
  rw [oddM,if_pos (.inl h0)]
  refine CwpE.vc ?_
  simp only [go_sem,h0',z4,e4]
  refine callF h12 (.cons (.tree _ rfl) (.cons (.tree _ rfl) .nil)) rfl ?_
  simp only [go_sem,hb9,w12,List.length_map]
  exact app
 have h0':¬ (l.length:Int)=0:=by omega
 by_cases h3:by_.tmod 4=0
 ·have h3':=eq_true h3
  rw [oddM,if_pos (.inr h3)]
  refine CwpE.vc ?_
  simp only [go_sem,h0',h3',z4,e4]
  refine callF h12 (.cons (.tree _ rfl) (.cons (.tree _ rfl) .nil)) rfl ?_
  simp only [go_sem,hb9,w12,List.length_map]
  exact app
 rw [oddM,if_neg (fun h=>h.elim h0 h3)]
 refine CwpE.cut (st:=⟨[(1,vi at_),(2,vi by_),(7,.own 0 l.length 0 l.length)],[.arr l.length 1 3 (l.map vi)]⟩) ?_ ?_
 ·simp only [go_sem,h0',h3,z4]
  exact ⟨_,WkE.kp,rfl⟩
 have a1:=aroundL_bd at_ l.length (by omega)
 have s1:=Around_s at_ l.length ha ⟨by omega,by omega⟩
 obtain ⟨i,hi⟩:∃ i:Nat,aroundL at_ l.length=i:=⟨(aroundL at_ l.length).toNat,by omega⟩
 rw [hi] at s1 a1
 rw [hi,Int.toNat_natCast]
 have hil:i<l.length:=by omega
 have e0:(0:Int)<=(i:Int):=by omega
 have e1:(i:Int)<(l.length:Int):=by omega
 have hil':(l.map vi)[i]? = some (vi l[i]):=by rw [List.getElem?_map,List.getElem?_eq_getElem hil];rfl
 generalize aroundL (by_.tdiv 4) 14=v at h14 w14
 refine CwpE.cut (st:=⟨[(7,.own 0 l.length 0 l.length)],[.arr l.length 1 3 ((l.set i (v-2)).map vi)]⟩) ?_ ?_
 ·simp only [go_sem]
  refine callF s1 (.cons (.tree _ rfl) (.cons (.tree _ rfl) .nil)) rfl ?_
  simp only [go_sem,z4,e4]
  refine callF h14 (.cons (.tree _ rfl) (.cons (.tree _ rfl) .nil)) rfl ?_
  rw [List.map_set]
  simp only [go_sem,e0,e1,w14,hil']
  exact ⟨_,WkE.kp,rfl⟩
 refine CwpE.vc ?_
 simp only [go_sem]
 exact snapInts 0 _ _ rfl (by simp)
abbrev vrow (r:List (List Int)):AV:=.list 1 (r.map vints)
end Go.Proofs.Ytdadmhahbeehhaa
