/- Lemmas used by Valid. -/
import Derived.Test.YtjilachpkjlhdaaKa
import Derived.Test.YtjilachpkjlhdaaKb
import Derived.Test.YtjilachpkjlhdaaKc
import Derived.Test.YtjilachpkjlhdaaKd
import Derived.Test.YtjilachpkjlhdaaKe
import Derived.Test.YtjilachpkjlhdaaKf
import Derived.Test.YtjilachpkjlhdaaKg
import Derived.Test.YtjilachpkjlhdaaKh
import Derived.Test.YtjilachpkjlhdaaKm
import Derived.Test.YtjilachpkjlhdaaProg
import Derived.WalkKit
import Derived.WalkSpells
import Derived.WalkLawsBesides
import Derived.Orders
import Derived.Laws.MakeOwn
import Derived.Deep.AppendSrc
import Derived.Lib.AppendZerosOnto
import Derived.Defers
import Derived.Laws.BytesString
import Derived.Laws.StructEq
import Derived.Scope
import Derived.Deep.LoopGhost
import Derived.OrdersIn
import Derived.ControlIn
import Derived.Sort.LoopGhostIn
import Derived.RangeFuncLeaves
import Derived.RangeFuncRecord
import Derived.RangeFuncFrom
import Derived.RangeFuncNested
set_option linter.unusedSimpArgs false
set_option linter.unusedVariables false
set_option linter.unusedSectionVars false
set_option maxRecDepth 100000
namespace Go.Proofs.Ytjilachpkjlhdaa
open Dak
def c12:CCode :=
 (.seq (.region [oo 4 (.mov (.const (.slice none 0 0)))])
 (.seq (.region [oo 5 (.mov (.const (.slice none 0 0)))])
 (.seq (.region [vv 6 5,vv 7 0,vv 8 0,oo 9 (.len (T 8)),vv 10 1,oo 11 (.imin (T 9) (T 10)),oo 12 (.slice 1 (T 7) none (some (T 11))),oo 13 (.append 3 1 8 (T 6) (T 12)),vv 4 13])
 .ret)))
theorem f12:fnC Try.prog 12=some (c12,14,[(.tmp 4)]):=by kernel_rfl
def c19:CCode :=
 (.seq (.region [oo 1 (.box 26 (T 0)),oo 2 (.mov (.const (.slice none 0 0))),oo 3 (.mov (.const (.bool false)))])
 (.seq (.seq (.region [oo 16 (.load true 3 (T 1)),oo 17 (.call (.func 15) [(T 16)]),oo 18 (.ibin .neq (T 17) (kk 0))])
 (.cond (T 18)
 (.seq (.region [oo 2 (.mov (.const (.slice none 0 0))),oo 3 (.mov (.const (.bool false)))])
 .ret)
 .skip))
 (.seq (.region [oo 19 (.load true 3 (T 1)),oo 20 (.call (.func 44) [(T 19)]),vv 4 20])
 (.seq (.region [vv 21 4,vv 5 21])
 (.seq (.region [vv 22 4,oo 23 (.build [(.val (.slice none 0 0)),(.val (.slice none 0 0))] [(0,(1,(T 22)))]),oo 24 (.bslice 94 2 [(T 23)]),vv 6 24])
 (.seq (.seq (.region [oo 7 (.mov (kk 0))])
 (.block 0 (.loop
 (.seq (.seq (.region [vv 25 7,vv 26 6,oo 27 (.len (T 26)),oo 28 (.ibin .lss (T 25) (T 27))])
 (.cond (T 28)
 .skip
 (.exit 0)))
 (.seq (.block 1 (.seq (.seq (.drawn [oo 31 (.load true 3 (T 1)),vv 32 6,vv 33 7,oo 34 (.idxS 2 (T 32) (T 33)),oo 35 (.fieldAddr 0 (T 34)),oo 36 (.load false 1 (T 35))] [(oo 37 (.call (.func 46) [(T 31),(T 36)]),[])])
 (.cond (T 37)
 (.seq (.region [vv 38 6,vv 39 7,oo 40 (.idxS 2 (T 38) (T 39)),oo 41 (.fieldAddr 1 (T 40)),oo 42 (.load false 1 (T 41)),vv 2 42,oo 3 (.mov (.const (.bool true)))])
 .ret)
 .skip))
 (.seq (.region [oo 8 (.mov (kk 0))])
 (.block 2 (.loop
 (.seq (.seq (.region [vv 43 8,oo 44 (.fieldAddr 0 (T 1)),oo 45 (.load false 1 (T 44)),oo 46 (.ibin .lss (T 43) (T 45))])
 (.cond (T 46)
 .skip
 (.exit 2)))
 (.seq (.block 3 (.seq (.drawn [oo 50 (.load true 3 (T 1)),vv 51 6,vv 52 7,oo 53 (.idxS 2 (T 51) (T 52)),oo 54 (.fieldAddr 0 (T 53)),oo 55 (.load false 1 (T 54)),vv 56 8] [(oo 57 (.call (.func 45) [(T 50),(T 55),(T 56)]),[]),(vv 49 57,[]),(oo 58 (.extract (T 49) 0),[]),(oo 59 (.extract (T 49) 1),[]),(vv 9 58,[]),(vv 10 59,[])])
 (.seq (.seq (.region [vv 60 10,oo 61 (.lnot (T 60))])
 (.cond (T 61)
 (.exit 3)
 .skip))
 (.seq (.region [oo 11 (.mov (.const (.bool false)))])
 (.seq (.seq (.region [oo 12 (.mov (kk 0))])
 (.block 4 (.loop
 (.seq (.seq (.region [vv 62 12,vv 63 9,oo 64 (.len (T 63)),oo 65 (.ibin .lss (T 62) (T 64))])
 (.cond (T 65)
 .skip
 (.exit 4)))
 (.seq (.block 5 (.region [vv 68 11,vv 69 68,vf 70 69 9,vf 71 69 12,gf 72 69 (.idxS 1 (T 70) (T 71)),gf 73 69 (.load false 1 (T 72)),vf 74 69 73,vt 75 74 5,vt 76 74 12,gt 77 74 (.idxS 1 (T 75) (T 76)),gt 78 74 (.load false 1 (T 77)),gt 79 74 (.lnot (T 78)),gf 80 69 (.pick (T 74) (T 79) (.const (.bool false))),oo 81 (.pick (T 69) (.const (.bool true)) (T 80)),vv 11 81]))
 (.region [vv 66 12,oo 67 (.ibin .add (T 66) (kk 1)),vv 12 67]))))))
 (.seq (.seq (.region [vv 82 11,oo 83 (.lnot (T 82))])
 (.cond (T 83)
 (.exit 3)
 .skip))
 (.seq (.region [oo 13 (.mov (.const (.slice none 0 0)))])
 (.seq (.seq (.region [oo 14 (.mov (kk 0))])
 (.block 6 (.loop
 (.seq (.seq (.region [vv 84 14,vv 85 9,oo 86 (.len (T 85)),oo 87 (.ibin .lss (T 84) (T 86))])
 (.cond (T 87)
 .skip
 (.exit 6)))
 (.seq (.block 7 (.region [vv 90 13,vv 91 5,vv 92 14,oo 93 (.idxS 1 (T 91) (T 92)),oo 94 (.load false 1 (T 93)),vv 95 94,vf 96 95 9,vf 97 95 14,gf 98 95 (.idxS 1 (T 96) (T 97)),gf 99 95 (.load false 1 (T 98)),oo 100 (.pick (T 95) (.const (.bool true)) (T 99)),oo 101 (.bslice 4 1 [(T 100)]),oo 102 (.append 4 1 1 (T 90) (T 101)),vv 13 102]))
 (.region [vv 88 14,oo 89 (.ibin .add (T 88) (kk 1)),vv 14 89]))))))
 (.seq (.region [vv 103 13,vv 5 103])
 (.seq (.region [oo 15 (.mov (.const (.slice none 0 0)))])
 (.region [vv 104 6,vv 105 9,vv 106 15,vv 107 6,vv 108 7,oo 109 (.idxS 2 (T 107) (T 108)),oo 110 (.fieldAddr 1 (T 109)),oo 111 (.load false 1 (T 110)),oo 112 (.append 3 1 8 (T 106) (T 111)),vv 113 8,oo 114 (.bslice 3 1 [(T 113)]),oo 115 (.append 3 1 8 (T 112) (T 114)),oo 116 (.build [(.val (.slice none 0 0)),(.val (.slice none 0 0))] [(0,(1,(T 105))),(1,(1,(T 115)))]),oo 117 (.bslice 94 2 [(T 116)]),oo 118 (.append 94 2 48 (T 104) (T 117)),vv 6 118])))))))))))
 (.region [vv 47 8,oo 48 (.ibin .add (T 47) (kk 1)),vv 8 48]))))))))
 (.region [vv 29 7,oo 30 (.ibin .add (T 29) (kk 1)),vv 7 30]))))))
 (.seq (.region [oo 2 (.mov (.const (.slice none 0 0))),oo 3 (.mov (.const (.bool false)))])
 .ret)))))))
theorem f19:fnC Try.prog 19=some (c19,119,[(.tmp 2),(.tmp 3)]):=by kernel_rfl
end Go.Proofs.Ytjilachpkjlhdaa
namespace Go.Proofs.Ytjilachpkjlhdaa
open Go.RowKit Dak P5
open Nat (reduceEqDiff reduceLT reduceAdd)
theorem Take_s (l:List Int) (m:Nat) (hm:m<=1000):Ctr Try.prog 12 [vints l,vi m] (vints (l.take m)):=by
 refine specC f12 (by simp) fun F0 w0=>?_
 have hmin:(if (m:Int)<(l.length:Int) then (m:Int) else (l.length:Int))=((min l.length m:Nat):Int):=by split <;> omega
 have e1:l.take m=l.take (min l.length m):=by
  by_cases h:m<=l.length
  ·rw [Nat.min_eq_right h]
  ·rw [Nat.min_eq_left (by omega),List.take_of_length_le (by omega),List.take_of_length_le (Nat.le_refl _)]
 obtain ⟨k,hk⟩:∃ k,min l.length m=k:=⟨_,rfl⟩
 rw [e1,hk]
 rw [hk] at hmin
 have hkl:k<=l.length:=by omega
 have hkm:k<=1000:=by omega
 have k0:(0:Int)<=(k:Int):=by omega
 have k1:(k:Int)<=(l.length:Int):=by omega
 unfold c12
 refine CwpE.cut (st:=⟨[(0,vints l),(1,vi m)],[]⟩) ?_ ?_
 ·simp only [go_sem,↓reduceIte,reduceLT]
  exact ⟨_,WkE.kq,rfl⟩
 refine CwpE.cut (st:=⟨[(5,.own 0 0 0 0),(0,vints l),(1,vi m)],[.arr 0 1 3 []]⟩) ?_ ?_
 ·simp only [go_sem,↓reduceIte,reduceLT]
  exact ⟨_,(WkE.nil 5 1 3 (by omega) rfl).trans (WkE.kq),rfl⟩
 have q1:k*8<=140737488355328:=by omega
 have hlk:((l.map vi).take k).length=k:=by simp;omega
 refine CwpE.vc ?_
 simp only [go_sem,↓reduceIte,reduceCtorEq,reduceLT,reduceEqDiff,List.length_map,hmin,k0,k1,q1,hlk,Nat.zero_add,Int.toNat_natCast,Option.bind_some,Option.map_some,List.drop_zero,List.nil_append]
 refine .own 0 k 0 k 1 3 _ _ rfl (by simp;omega) (by simp;omega) fun q hq=>?_
 simp only [Nat.zero_add,List.getElem_map,List.getElem_take]
 exact .tree _ rfl
end Go.Proofs.Ytjilachpkjlhdaa
namespace Go.Proofs.Ytjilachpkjlhdaa
open Go.RowKit Dak P5
open Nat (reduceEqDiff reduceLT reduceAdd)
abbrev vrr (e:RS):AV:=.agg [vbools e.1,vints e.2]
def objsU (a:Au) (L:List RS):List AObj:=[oB a,.arr L.length 2 94 (L.map vrr)]
theorem objsU_eq (a:Au) (L:List RS):objsU a L=[oB a,.arr L.length 2 94 (L.map vrr)]:=rfl
theorem objsU_inn (a:Au) (L:List RS) (n:Nat):((objsU a L).all fun o=>o.innO n)=true:=by
 rw [objsU_eq]
 exact Bool.and_eq_true_iff.2 ⟨rfl,Bool.and_eq_true_iff.2 ⟨inn_map fun _=>rfl,rfl⟩⟩
theorem vrr_get {L:List RS} {k:Nat} (h:k<L.length):(L.map vrr)[k]? = some (vrr L[k]):=by rw [List.getElem?_map,List.getElem?_eq_getElem h];rfl
def frB (t z:List Bool) (k:Nat):Bool:=(List.range k).any fun i=>bt t i && !bt z i
theorem frB_succ (t z:List Bool) (k:Nat):frB t z (k+1)=(frB t z k || (bt t k && !bt z k)):=by
 rw [frB,frB,List.range_succ,List.any_append];simp
theorem frB_all (t z:List Bool):frB t z t.length=freshB t z:=rfl
def orB (z t:List Bool) (k:Nat):List Bool:=(List.range k).map fun i=>bt z i || bt t i
theorem orB_succ (z t:List Bool) (k:Nat):orB z t (k+1)=orB z t k++[bt z k || bt t k]:=by rw [orB,orB,List.range_succ,List.map_append];rfl
theorem orB_len (z t:List Bool) (k:Nat):(orB z t k).length=k:=by simp [orB]
theorem orB_all {z t:List Bool} {n:Nat} (hz:z.length=n) (ht:t.length=n):orB z t n=orS z t:=by rw [orB,orS,hz,ht,Nat.max_self]
theorem orS_sub {z t:List Bool} (hl:t.length=z.length) (h:freshB t z=false):orS z t=z:=by
 refine bt_ext (by rw [orS_len,hl,Nat.max_self]) fun i _=>?_
 rw [orS_bt]
 refine ⟨fun h1=>h1.elim id fun h2=>?_,.inl⟩
 refine Classical.byContradiction fun h3=>?_
 have:=freshB_iff.2 ⟨i,h2,h3⟩
 rw [h] at this;cases this
theorem not_any_fresh {a:Au} (hv:VA a) {s:List Bool} {x:Int} (h:anyA a s x=false) (z:List Bool):freshB (afterA a s x) z=false:=by
 cases e:freshB (afterA a s x) z with
 | false=>rfl
 | true =>
  obtain ⟨i,h1,_⟩:=freshB_iff.1 e
  have:=(any_iff hv s x).2 ⟨i,h1⟩
  rw [h] at this;cases this
set_option maxHeartbeats 8000000 in
theorem rShortest_s (a:Au) (ha:SzA a):Ctr Try.prog 19 [vau a] (vwb (shortestM a)):=by
 refine specC f19 (by simp) fun F0 w0=>?_
 have hval:=rValid_s a ha
 unfold c19
 refine CwpE.cut (st:=⟨[(1,.ref 0 1 0 0)],[oB a]⟩) ?_ ?_
 ·simp only [go_sem,↓reduceIte,reduceLT,reduceAdd]
  exact ⟨_,WkE.kp,rfl⟩
 by_cases h0:validM a=0
 rotate_left
 ·refine CwpE.step (fun _=>False) ?_ (fun _ h=>h.elim)
  have:shortestM a=none:=by rw [shortestM,if_neg h0]
  rw [this]
  simp only [go_sem,↓reduceIte,reduceLT,reduceAdd]
  refine callT hval rfl ?_
  simp only [go_sem,↓reduceIte,reduceLT,reduceEqDiff,h0]
  exact snap_tup2 (.nil 1) (.tree _ rfl)
 rw [h0] at hval
 have hV:=valid_VA.1 h0
 obtain ⟨⟨hsy1,hsy2⟩,⟨hn1,hn2⟩,hm,hed⟩:=id hV
 obtain ⟨y,hy⟩:∃ y:Nat,a.sy=(y:Int):=⟨a.sy.toNat,by omega⟩
 have hyT:a.sy.toNat=y:=by omega
 obtain ⟨n,hn⟩:∃ n,a.acc.length=n:=⟨_,rfl⟩
 have hfi:=First_s a hV
 obtain ⟨B,hB⟩:∃ B,shortestM a=B:=⟨_,rfl⟩
 rw [hB]
 rw [shortestM_G h0,hn] at hB
 refine CwpE.cut (st:=⟨[(1,.ref 0 1 0 0)],[oB a]⟩) ?_ ?_
 ·simp only [go_sem,↓reduceIte,reduceLT,reduceAdd]
  refine callT hval rfl ?_
  simp only [go_sem,↓reduceIte,reduceLT]
  exact ⟨_,WkE.kp,rfl⟩
 refine CwpE.cut (st:=⟨[(1,.ref 0 1 0 0),(4,vbools (firstA a))],[oB a]⟩) ?_ ?_
 ·simp only [go_sem,↓reduceIte,reduceLT,reduceAdd]
  refine callT hfi rfl ?_
  simp only [go_sem,↓reduceIte,reduceLT]
  exact ⟨_,WkE.kp,rfl⟩
 refine CwpE.cut (st:=⟨[(1,.ref 0 1 0 0),(4,vbools (firstA a)),(5,vbools (firstA a))],[oB a]⟩) ?_ ?_
 ·simp only [go_sem,↓reduceIte,reduceLT,reduceEqDiff]
  exact ⟨_,WkE.kp,rfl⟩
 refine CwpE.seqJ (fun st=>st=⟨[(1,.ref 0 1 0 0),(5,vbools (firstA a)),(6,.own 1 1 0 1)],objsU a [(firstA a,[])]⟩) ?_ ?_
 ·refine CwpE.regionC (csa:=[⟨some 22,none,.mov (T 4)⟩,⟨some 23,none,.build [(.val (.slice none 0 0)),(.val (.slice none 0 0))] [(0,(1,(T 22)))]⟩]) (csb:=[⟨some 6,none,.mov (T 24)⟩]) (by omega) (by decide) ?_
  simp only [go_sem,Nat.reduceLeDiff,↓reduceIte,reduceLT,reduceEqDiff,reduceAdd]
  refine ⟨_,WkE.keep (env':=[(1,.ref 0 1 0 0),(5,vbools (firstA a)),(24,.own 1 1 0 1)]) (by simp only [go_sem,↓reduceIte,reduceEqDiff];try rfl),?_⟩
  simp only [go_sem,↓reduceIte,reduceEqDiff]
  refine ⟨_,(WkE.nilCell 1 1 2 0 1 1 3 94 [.agg [vbools (firstA a),nilV]] (.agg [vbools (firstA a),nilV]) rfl rfl rfl).trans ((WkE.freezeCell 1 1 2 0 1 2 0 0 0 1 94 3 [.agg [vbools (firstA a),.own 2 0 0 0]] [] (.agg [vbools (firstA a),.own 2 0 0 0]) rfl rfl rfl rfl (by omega) (by simp) rfl).trans (WkE.round (by simp only [go_sem,↓reduceIte,reduceEqDiff];try rfl) rfl (objsU_inn a [(firstA a,[])] _) rfl)),rfl⟩
 rintro _ rfl
 refine CwpE.seqJ (fun z=>B=none) ?_ ?_
 rotate_left
 ·rintro z hBn
  rw [hBn]
  obtain ⟨env,objs⟩:=z
  refine CwpE.wk (s':=⟨[],objs⟩) (WkE.keep (by simp only [go_sem])) ?_
  refine CwpE.vc ?_
  simp only [go_sem,↓reduceIte,reduceLT,reduceEqDiff]
  exact snap_tup2 (.nil 1) (.tree _ rfl)
 refine CwpE.cut (st:=⟨[(1,.ref 0 1 0 0),(5,vbools (firstA a)),(6,.own 1 1 0 1),(7,vi (0:Nat))],objsU a [(firstA a,[])]⟩) ?_ ?_
 ·simp only [go_sem,↓reduceIte,reduceLT]
  exact ⟨_,WkE.kp,rfl⟩
 refine CwpE.block ?_
 refine loopXC 0 (fun m st=>∃ (i:Nat) (L:List RS) (z:List Bool),m=n+2-i/\i<=L.length/\ShOk a L z i/\shG a (n+2-i) L i z=B /\
  st=⟨[(1,.ref 0 1 0 0),(5,vbools z),(6,.own 1 L.length 0 L.length),(7,vi i)],objsU a L⟩)
  (fun st=>B=none) (n+2) _ (.refl _ _) ⟨0,[(firstA a,[])],firstA a,rfl,by simp,shOk_one a,hB,rfl⟩ ?_ ?_
 rotate_left
 ·rintro z h
  simp only [inBlockE,if_true]
  exact ⟨z,.refl _ _,h⟩
 rintro m st ⟨i,L,z,rfl,hi,hL,hG,rfl⟩
 have hLb:=hL.le
 rw [hn] at hLb
 by_cases hlt:i<L.length
 rotate_left
 ·have gk:¬ (i:Int)<(L.length:Int):=by omega
  rw [shG_end (by omega)] at hG
  refine CwpE.vc ?_
  rw [objsU_eq]
  simp only [go_sem,↓reduceIte,reduceLT,reduceEqDiff,gk]
  exact ⟨_,.refl _ _,hG.symm⟩
 have g1:(i:Int)<(L.length:Int):=by omega
 have g0:(0:Int)<=(i:Int):=by omega
 have wi:=wrap_s i (by omega)
 have hLi:=vrr_get hlt
 have hsl:=hL.sl _ (List.getElem_mem hlt)
 have hwl:=hL.len _ (List.getElem_mem hlt)
 have hf:n+2-i=(n+2-(i+1))+1:=by omega
 have htell:=@shG_tell a (n+2-(i+1)) L i z hlt
 have hstep:=@shG_step a (n+2-(i+1)) L i z hlt
 rw [<-hf,hG] at htell hstep
 rw [hyT] at hstep
 have hrow:=fun x=>hL.row (s:=L[i].1) hwl x
 have hkeep:∀ x (hx:i<(shL a L z L[i].1 L[i].2 x).length),(shL a L z L[i].1 L[i].2 x)[i]=L[i]:=fun x hx=>((shL_pre a L z _ _ x).getElem hlt).symm
 obtain ⟨re,hre⟩:∃ re,L[i]=re:=⟨_,rfl⟩
 rw [hre] at hLi hsl hwl htell hstep
 simp only [hre] at hrow hkeep
 obtain ⟨s,w⟩:=re
 simp only at hsl hwl htell hstep hrow hkeep hLi
 have hme:=accepting_s a s hsl (by omega)
 refine CwpE.cut (st:=⟨[(1,.ref 0 1 0 0),(5,vbools z),(6,.own 1 L.length 0 L.length),(7,vi i)],objsU a L⟩) ?_ ?_
 ·rw [objsU_eq]
  simp only [go_sem,↓reduceIte,reduceLT,reduceEqDiff,g1]
  exact ⟨_,WkE.kp,rfl⟩
 refine CwpE.seqJ (fun st=>meets s a.acc=false/\st=⟨[(1,.ref 0 1 0 0),(5,vbools (shZ a z s w y)),(6,.own 1 (shL a L z s w y).length 0 (shL a L z s w y).length),(7,vi i)],objsU a (shL a L z s w y)⟩) (CwpE.block ?_) ?_
 rotate_left
 ·rintro st ⟨htf,rfl⟩
  have hs1:=hstep htf
  have hle:=(shL_pre a L z s w y).length_le
  refine CwpE.vc ?_
  simp only [go_sem,↓reduceIte,reduceLT,reduceEqDiff,wi]
  exact ⟨n+2-(i+1),⟨[(1,.ref 0 1 0 0),(5,vbools (shZ a z s w y)),(6,.own 1 (shL a L z s w y).length 0 (shL a L z s w y).length),(7,vi (i+1:Nat))],objsU a (shL a L z s w y)⟩,by omega,WkE.kp,i+1,_,_,rfl,by omega,hrow y,hs1.symm,rfl⟩
 refine CwpE.step (fun st=>meets s a.acc=false/\st=⟨[(1,.ref 0 1 0 0),(5,vbools z),(6,.own 1 L.length 0 L.length),(7,vi i)],objsU a L⟩) ?_ ?_
 ·cases ht:meets s a.acc with
  | true =>
   rw [ht] at hme
   have hB1:=htell ht
   rw [hB1]
   rw [objsU_eq]
   simp only [go_sem,↓reduceIte,reduceCtorEq,reduceLT,reduceEqDiff,reduceAdd,g1,g0,hLi,Nat.add_zero,Int.toNat_natCast]
   refine callT hme rfl ?_
   simp only [go_sem,↓reduceIte,reduceLT,reduceEqDiff,g1,g0,hLi,Int.toNat_natCast]
   exact snap_tup2 (.tree _ rfl) (.tree _ rfl)
  | false =>
   rw [ht] at hme
   rw [objsU_eq]
   simp only [go_sem,↓reduceIte,reduceLT,reduceEqDiff,reduceAdd,g1,g0,hLi,Nat.add_zero,Int.toNat_natCast]
   refine callT hme rfl ?_
   simp only [go_sem,↓reduceIte]
   exact ⟨_,WkE.kp,rfl⟩
 rintro _ ⟨htf,rfl⟩
 refine CwpE.cut (st:=⟨[(1,.ref 0 1 0 0),(5,vbools z),(6,.own 1 L.length 0 L.length),(7,vi i),(8,vi (0:Nat))],objsU a L⟩) ?_ ?_
 ·simp only [go_sem,↓reduceIte,reduceLT]
  exact ⟨_,WkE.kp,rfl⟩
 refine CwpE.block ?_
 refine loopXC 2 (fun m st=>∃ x:Nat,m=y-x/\x<=y/\st=⟨[(1,.ref 0 1 0 0),(5,vbools (shZ a z s w x)),(6,.own 1 (shL a L z s w x).length 0 (shL a L z s w x).length),(7,vi i),(8,vi x)],objsU a (shL a L z s w x)⟩)
  (fun st=>st=⟨[(1,.ref 0 1 0 0),(5,vbools (shZ a z s w y)),(6,.own 1 (shL a L z s w y).length 0 (shL a L z s w y).length),(7,vi i)],objsU a (shL a L z s w y)⟩) y
  _ (.refl _ _) ⟨0,by omega,by omega,by rw [shL_zero,shZ_zero]⟩ ?_ ?_
 rotate_left
 ·rintro st rfl
  simp only [go_sem,↓reduceIte]
  exact ⟨_,.refl _ _,htf,rfl⟩
 rintro m st ⟨x,rfl,hx,rfl⟩
 by_cases hxy:x<y
 rotate_left
 ·obtain rfl:x=y:=by omega
  have gk:¬ (x:Int)<a.sy:=by omega
  refine CwpE.vc ?_
  rw [objsU_eq]
  simp only [go_sem,↓reduceIte,reduceLT,reduceEqDiff,gk]
  exact ⟨_,WkE.kp,rfl⟩
 have gx:(x:Int)<a.sy:=by omega
 have wx:=wrap_s x (by omega)
 have hr1:=hrow x
 have hsu:=shL_succ a L z s w x
 have hzu:=shZ_succ a z s w x
 have hLl:=(shL_pre a L z s w x).length_le
 have hkx:=hkeep x (by omega)
 have hafx:=After_s a hV s hsl (x:Int)
 have htl:=afterA_len a s (x:Int)
 have hnf:=fun z=>not_any_fresh hV (s:=s) (x:=(x:Int)) (z:=z)
 obtain ⟨t,ht⟩:∃ t,afterA a s (x:Int)=t:=⟨_,rfl⟩
 rw [ht] at hsu hzu hafx htl
 simp only [ht] at hnf
 obtain ⟨Lx,hLx⟩:∃ Lx,shL a L z s w x=Lx:=⟨_,rfl⟩
 obtain ⟨zx,hzx⟩:∃ zx,shZ a z s w x=zx:=⟨_,rfl⟩
 simp only [hLx] at hsu hLl hkx ⊢
 simp only [hzx] at hsu hzu ⊢
 have hr2:=hr1.le
 have hzl:=hr1.zl
 rw [hLx,hn] at hr2
 rw [hzx] at hzl
 have gi:(i:Int)<(Lx.length:Int):=by omega
 have hLxi:(Lx.map vrr)[i]? = some (vrr (s,w)):=by rw [vrr_get (by omega),hkx]
 obtain ⟨L2,hL2⟩:∃ L2,shL a L z s w (x+1)=L2:=⟨_,rfl⟩
 obtain ⟨z2,hz2⟩:∃ z2,shZ a z s w (x+1)=z2:=⟨_,rfl⟩
 rw [hL2] at hsu
 rw [hz2] at hzu
 refine CwpE.cut (st:=⟨[(1,.ref 0 1 0 0),(5,vbools zx),(6,.own 1 Lx.length 0 Lx.length),(7,vi i),(8,vi x)],objsU a Lx⟩) ?_ ?_
 ·rw [objsU_eq]
  simp only [go_sem,↓reduceIte,reduceLT,reduceEqDiff,gx]
  exact ⟨_,WkE.kp,rfl⟩
 refine CwpE.seqJ (fun st=>st=⟨[(1,.ref 0 1 0 0),(5,vbools z2),(6,.own 1 L2.length 0 L2.length),(7,vi i),(8,vi x)],objsU a L2⟩) (CwpE.block ?_) ?_
 rotate_left
 ·rintro _ rfl
  refine CwpE.vc ?_
  simp only [go_sem,↓reduceIte,reduceLT,reduceEqDiff,wx]
  exact ⟨y-(x+1),⟨[(1,.ref 0 1 0 0),(5,vbools z2),(6,.own 1 L2.length 0 L2.length),(7,vi i),(8,vi (x+1:Nat))],objsU a L2⟩,by omega,WkE.kp,x+1,rfl,by omega,by rw [hL2,hz2]⟩
 refine CwpE.cut (st:=⟨[(1,.ref 0 1 0 0),(5,vbools zx),(6,.own 1 Lx.length 0 Lx.length),(7,vi i),(8,vi x),(9,vbools t),(10,vb (anyA a s (x:Int)))],objsU a Lx⟩) ?_ ?_
 ·rw [objsU_eq]
  simp only [go_sem,↓reduceIte,reduceLT,reduceEqDiff,reduceAdd,gi,g0,hLxi,Nat.add_zero,Int.toNat_natCast]
  refine callT hafx rfl ?_
  simp only [go_sem,↓reduceIte,reduceLT,reduceEqDiff]
  exact ⟨_,WkE.kp,rfl⟩
 cases hany:anyA a s (x:Int) with
 | false =>
  have hfr:=hnf zx hany
  rw [hfr,if_neg (by simp)] at hsu
  rw [orS_sub (by omega) hfr] at hzu
  rw [hsu,hzu]
  refine CwpE.vc ?_
  simp only [go_sem,↓reduceIte,reduceLT,reduceEqDiff]
  exact ⟨_,WkE.kp,rfl⟩
 | true =>
 refine CwpE.cut (st:=⟨[(1,.ref 0 1 0 0),(5,vbools zx),(6,.own 1 Lx.length 0 Lx.length),(7,vi i),(8,vi x),(9,vbools t)],objsU a Lx⟩) ?_ ?_
 ·simp only [go_sem,↓reduceIte,reduceLT,reduceEqDiff]
  exact ⟨_,WkE.kp,rfl⟩
 refine CwpE.cut (st:=⟨[(1,.ref 0 1 0 0),(5,vbools zx),(6,.own 1 Lx.length 0 Lx.length),(7,vi i),(8,vi x),(9,vbools t),(11,vb false)],objsU a Lx⟩) ?_ ?_
 ·simp only [go_sem,↓reduceIte,reduceLT]
  exact ⟨_,WkE.kp,rfl⟩
 have htn:t.length=n:=by omega
 have hzn:zx.length=n:=by omega
 refine CwpE.step (fun st=>st=⟨[(1,.ref 0 1 0 0),(5,vbools zx),(6,.own 1 Lx.length 0 Lx.length),(7,vi i),(8,vi x),(9,vbools t),(11,vb (freshB t zx))],objsU a Lx⟩) ?_ ?_
 ·rw [<-frB_all,htn]
  simp only [go_sem,↓reduceIte,reduceLT]
  refine loopX 4 (fun m st=>∃ k:Nat,m=n-k/\k<=n/\st=⟨[(1,.ref 0 1 0 0),(5,vbools zx),(6,.own 1 Lx.length 0 Lx.length),(7,vi i),(8,vi x),(9,vbools t),(11,vb (frB t zx k)),(12,vi k)],objsU a Lx⟩)
   (fun st=>st=⟨[(1,.ref 0 1 0 0),(5,vbools zx),(6,.own 1 Lx.length 0 Lx.length),(7,vi i),(8,vi x),(9,vbools t),(11,vb (frB t zx n))],objsU a Lx⟩) n
   ⟨[(1,.ref 0 1 0 0),(5,vbools zx),(6,.own 1 Lx.length 0 Lx.length),(7,vi i),(8,vi x),(9,vbools t),(11,vb false),(12,vi (0:Nat))],objsU a Lx⟩ (WkE.kp) ⟨0,by omega,by omega,rfl⟩ ?_ ?_
  rotate_left
  ·rintro st rfl
   simp only [go_sem,↓reduceIte]
   exact ⟨_,.refl _ _,rfl⟩
  rintro m st ⟨k,rfl,hk,rfl⟩
  by_cases hkl:k<n
  rotate_left
  ·obtain rfl:k=n:=by omega
   simp only [go_sem,↓reduceIte,reduceLT,reduceEqDiff,List.length_map,htn,Int.lt_irrefl]
   exact ⟨_,WkE.kp,rfl⟩
  have k1:(k:Int)<(n:Int):=by omega
  have k0:(0:Int)<=(k:Int):=by omega
  have wk:=wrap_s k (by omega)
  have hgt:=bt_get (s:=t) (k:=k) (by omega)
  have hgz:=bt_get (s:=zx) (k:=k) (by omega)
  have hfs:=frB_succ t zx k
  have fin:∀ st,WkE 119 st ⟨[(1,.ref 0 1 0 0),(5,vbools zx),(6,.own 1 Lx.length 0 Lx.length),(7,vi i),(8,vi x),(9,vbools t),(11,vb (frB t zx (k+1))),(12,vi (k+1:Nat))],objsU a Lx⟩->∃ m s',m<n-k/\WkE 119 st s'/\∃ k:Nat,m=n-k/\k<=n/\s'=⟨[(1,.ref 0 1 0 0),(5,vbools zx),(6,.own 1 Lx.length 0 Lx.length),(7,vi i),(8,vi x),(9,vbools t),(11,vb (frB t zx k)),(12,vi k)],objsU a Lx⟩ :=
   fun st hst=>⟨n-(k+1),_,by omega,hst,k+1,rfl,by omega,rfl⟩
  cases hb:frB t zx k with
  | true =>
   rw [hb,Bool.true_or] at hfs
   simp only [go_sem,↓reduceIte,reduceLT,reduceEqDiff,k1,wk,List.length_map,htn]
   refine fin _ ?_
   rw [hfs]
   exact WkE.kp
  | false =>
   rw [hb,Bool.false_or] at hfs
   cases hbt:bt t k with
   | false =>
    rw [hbt] at hgt
    rw [hbt,Bool.false_and] at hfs
    simp only [go_sem,↓reduceIte,reduceLT,reduceEqDiff,k1,k0,wk,hgt,List.length_map,htn,Int.toNat_natCast]
    refine fin _ ?_
    rw [hfs]
    exact WkE.kp
   | true =>
    rw [hbt] at hgt
    rw [hbt,Bool.true_and] at hfs
    simp only [go_sem,↓reduceIte,reduceLT,reduceEqDiff,k1,k0,wk,hgt,hgz,List.length_map,htn,Int.toNat_natCast]
    refine fin _ ?_
    rw [hfs]
    exact WkE.kp
 rintro _ rfl
 cases hfr:freshB t zx with
 | false =>
  rw [hfr,if_neg (by simp)] at hsu
  rw [orS_sub (by omega) hfr] at hzu
  rw [hsu,hzu]
  refine CwpE.vc ?_
  simp only [go_sem,↓reduceIte,reduceLT,reduceEqDiff]
  exact ⟨_,WkE.kp,rfl⟩
 | true =>
 rw [hfr,if_pos rfl] at hsu
 refine CwpE.cut (st:=⟨[(1,.ref 0 1 0 0),(5,vbools zx),(6,.own 1 Lx.length 0 Lx.length),(7,vi i),(8,vi x),(9,vbools t)],objsU a Lx⟩) ?_ ?_
 ·simp only [go_sem,↓reduceIte,reduceLT,reduceEqDiff]
  exact ⟨_,WkE.kp,rfl⟩
 refine CwpE.cut (st:=⟨[(13,.own 2 0 0 0),(1,.ref 0 1 0 0),(5,vbools zx),(6,.own 1 Lx.length 0 Lx.length),(7,vi i),(8,vi x),(9,vbools t)],objsU a Lx++[.arr 0 1 4 []]⟩) ?_ ?_
 ·simp only [go_sem,↓reduceIte,reduceLT]
  exact ⟨_,(WkE.nil 13 1 4 (by omega) rfl).trans (WkE.kp),rfl⟩
 refine CwpE.step (fun st=>st=⟨[(13,vbools z2),(1,.ref 0 1 0 0),(6,.own 1 Lx.length 0 Lx.length),(7,vi i),(8,vi x),(9,vbools t)],objsU a Lx⟩) ?_ ?_
 ·have hzo:z2=orB zx t n:=by rw [hzu,orB_all hzn htn]
  simp only [go_sem,↓reduceIte,reduceLT]
  refine loopX 6 (fun m st=>∃ k:Nat,m=n-k/\k<=n/\st=⟨[(13,.own 2 (orB zx t k).length 0 (orB zx t k).length),(1,.ref 0 1 0 0),(5,vbools zx),(6,.own 1 Lx.length 0 Lx.length),(7,vi i),(8,vi x),(9,vbools t),(14,vi k)],objsU a Lx++[.arr (orB zx t k).length 1 4 ((orB zx t k).map vb)]⟩)
   (fun st=>st=⟨[(13,vbools z2),(1,.ref 0 1 0 0),(6,.own 1 Lx.length 0 Lx.length),(7,vi i),(8,vi x),(9,vbools t)],objsU a Lx⟩) n
   ⟨[(13,.own 2 0 0 0),(1,.ref 0 1 0 0),(5,vbools zx),(6,.own 1 Lx.length 0 Lx.length),(7,vi i),(8,vi x),(9,vbools t),(14,vi (0:Nat))],objsU a Lx++[.arr 0 1 4 []]⟩ (WkE.kp) ⟨0,by omega,by omega,rfl⟩ ?_ ?_
  rotate_left
  ·rintro st rfl
   simp only [go_sem,↓reduceIte]
   exact ⟨_,.refl _ _,rfl⟩
  rintro m st ⟨k,rfl,hk,rfl⟩
  by_cases hkl:k<n
  rotate_left
  ·obtain rfl:k=n:=by omega
   rw [<-hzo]
   have hz2l:z2.length=k:=by rw [hzo,orB_len]
   simp only [go_sem,↓reduceIte,reduceLT,reduceEqDiff,List.length_map,htn,Int.lt_irrefl]
   refine ⟨_,?_,rfl⟩
   have hfz:=WkE.freeze (n:=119) (env:=[(13,.own 2 z2.length 0 z2.length),(1,.ref 0 1 0 0),(6,.own 1 Lx.length 0 Lx.length),(7,vi i),(8,vi x),(9,vbools t)]) (objs:=objsU a Lx++[.arr z2.length 1 4 (z2.map vb)]) 13 2 z2.length 0 z2.length 1 4 (z2.map vb) (by omega) rfl rfl (by simp) (isT_map (fun _=>rfl) _)
   have e1:((z2.map vb).drop 0).take z2.length=z2.map vb:=by rw [List.drop_zero,List.take_of_length_le (by simp)]
   rw [e1] at hfz
   exact (WkE.kp).trans (hfz.trans (WkE.round (by simp only [go_sem,↓reduceIte,reduceEqDiff];try rfl) rfl (objsU_inn _ _ _) rfl))
  have k1:(k:Int)<(n:Int):=by omega
  have k0:(0:Int)<=(k:Int):=by omega
  have wk:=wrap_s k (by omega)
  have hgt:=bt_get (s:=t) (k:=k) (by omega)
  have hgz:=bt_get (s:=zx) (k:=k) (by omega)
  have hos:=orB_succ zx t k
  have hol:=orB_len zx t k
  obtain ⟨O1,hO1⟩:∃ O1,orB zx t (k+1)=O1:=⟨_,rfl⟩
  obtain ⟨O0,hO0⟩:∃ O0,orB zx t k=O0:=⟨_,rfl⟩
  rw [hO1,hO0] at hos
  rw [hO0] at hol ⊢
  have hO1l:O1.length=O0.length+1:=by rw [hos];simp
  have qo:(O0.length+1)*1<=140737488355328:=by omega
  have fin:∀ st,WkE 119 st ⟨[(13,.own 2 O1.length 0 O1.length),(1,.ref 0 1 0 0),(5,vbools zx),(6,.own 1 Lx.length 0 Lx.length),(7,vi i),(8,vi x),(9,vbools t),(14,vi (k+1:Nat))],objsU a Lx++[.arr O1.length 1 4 (O1.map vb)]⟩->∃ m s',m<n-k/\WkE 119 st s'/\∃ k:Nat,m=n-k/\k<=n/\s'=⟨[(13,.own 2 (orB zx t k).length 0 (orB zx t k).length),(1,.ref 0 1 0 0),(5,vbools zx),(6,.own 1 Lx.length 0 Lx.length),(7,vi i),(8,vi x),(9,vbools t),(14,vi k)],objsU a Lx++[.arr (orB zx t k).length 1 4 ((orB zx t k).map vb)]⟩ :=
   fun st hst=>⟨n-(k+1),_,by omega,hst,k+1,rfl,by omega,by rw [hO1]⟩
  rw [objsU_eq] at fin ⊢
  cases hbz:bt zx k with
  | true =>
   rw [hbz] at hgz
   rw [hbz,Bool.true_or] at hos
   have hm:O0.map vb++[vb true]=O1.map vb:=by rw [hos,List.map_append];rfl
   simp only [go_sem,Nat.reducePow,Nat.reduceLeDiff,↓reduceIte,reduceLT,reduceEqDiff,reduceAdd,Nat.reduceMul,k1,k0,wk,hgz,qo,hm,List.length_map,htn,Int.toNat_natCast]
   refine fin _ ?_
   rw [hO1l]
   exact WkE.kp
  | false =>
   rw [hbz] at hgz
   rw [hbz,Bool.false_or] at hos
   have hm:O0.map vb++[vb (bt t k)]=O1.map vb:=by rw [hos,List.map_append];rfl
   simp only [go_sem,Nat.reducePow,Nat.reduceLeDiff,↓reduceIte,reduceLT,reduceEqDiff,reduceAdd,Nat.reduceMul,k1,k0,wk,hgz,hgt,qo,hm,List.length_map,htn,Int.toNat_natCast]
   refine fin _ ?_
   rw [hO1l]
   exact WkE.kp
 rintro _ rfl
 refine CwpE.cut (st:=⟨[(1,.ref 0 1 0 0),(5,vbools z2),(6,.own 1 Lx.length 0 Lx.length),(7,vi i),(8,vi x),(9,vbools t)],objsU a Lx⟩) ?_ ?_
 ·simp only [go_sem,↓reduceIte,reduceLT]
  exact ⟨_,WkE.kp,rfl⟩
 refine CwpE.cut (st:=⟨[(15,.own 2 0 0 0),(1,.ref 0 1 0 0),(5,vbools z2),(6,.own 1 Lx.length 0 Lx.length),(7,vi i),(8,vi x),(9,vbools t)],objsU a Lx++[.arr 0 1 3 []]⟩) ?_ ?_
 ·simp only [go_sem,↓reduceIte,reduceLT]
  exact ⟨_,(WkE.nil 15 1 3 (by omega) rfl).trans (WkE.kp),rfl⟩
 refine CwpE.vc ?_
 have qw:w.length*8<=140737488355328:=by omega
 have qw1:(w.length+1)*8<=140737488355328:=by omega
 have qW:(Lx.length+1)*48<=140737488355328:=by omega
 rw [objsU_eq a Lx]
 simp only [go_sem,Nat.reducePow,Nat.reduceLeDiff,↓reduceIte,reduceLT,reduceEqDiff,reduceAdd,Nat.reduceMul,gi,g0,hLxi,qw,qw1,qW,List.length_map,Nat.zero_add,Nat.add_zero,Int.toNat_natCast]
 refine ⟨_,?_,rfl⟩
 have hfr:=freezeLast (n:=119) (env:=[(1,.ref 0 1 0 0),(5,vbools z2),(6,.own 1 (Lx.length+1) 0 (Lx.length+1)),(7,vi i),(8,vi x)]) [oB a] [] [.arr 1 2 94 [.agg [vbools t,.own 2 (w.length+1) 0 (w.length+1)]]] 1 rfl (Lx.length+1) 2 94 (Lx.map vrr) (.agg [vbools t,.own 2 (w.length+1) 0 (w.length+1)]) 1 2 (w.map vi++[vi x]) (w.length+1) (by simp) rfl rfl (by rw [List.all_append,Bool.and_eq_true];exact ⟨isT_map (fun _=>rfl) _,rfl⟩)
 have he2 : [oB a,AObj.arr (Lx.length+1) 2 94 (Lx.map vrr++[.agg [vbools t,.list 1 (w.map vi++[vi x])]])]=objsU a L2:=by
  rw [objsU_eq,hsu]
  simp only [List.map_append,List.map_cons,List.map_nil,List.length_append,List.length_singleton,vrr,vints]
 have hl2:L2.length=Lx.length+1:=by rw [hsu];simp
 have hin:((objsU a L2).all fun o=>o.innO 2)=true:=objsU_inn _ _ _
 rw [hl2]
 rw [<-he2] at hin ⊢
 refine (WkE.keep ?_).trans (hfr.trans (WkE.round ?_ rfl hin rfl))
 ·simp only [go_sem,↓reduceIte,reduceEqDiff];try rfl
 ·simp only [go_sem,↓reduceIte,reduceEqDiff];try rfl
end Go.Proofs.Ytjilachpkjlhdaa
namespace Go.Proofs.Ytjilachpkjlhdaa
open Go.RowKit Dak P5
open Nat (reduceEqDiff reduceLT reduceAdd)
set_option maxHeartbeats 4000000 in
theorem AutomatonValid_s (l:List Int) (symbols at' how by':Int) (word:List Int) (hl:∀ x ∈ l,I64 x) (hs:I64 symbols) (ha:I64 at') (hh:I64 how) (hb:I64 by') (hw:∀ x ∈ word,I64 x) :
 Ctr Try.prog 3 [vints l,vi symbols,vi at',vi how,vi by',vints word] (vb true):=by
 refine specC f3 (by simp) fun F0 w0=>?_
 have hp:=pair2_s l [] symbols hl (fun x hx=>by simp at hx) hs
 obtain ⟨m1,m2⟩:=made_sz l (symN symbols)
 have hbe:=Bent_s (madeM l (symN symbols)) (by omega) (by omega) at' how by' ha hh hb
 have hz0:SzA (madeM l (symN symbols)):=⟨by omega,by omega⟩
 have hbl:=bent_len (madeM l (symN symbols)) at' how by'
 have h9:IntKind.i64.wrap (how.tdiv 9)=how.tdiv 9:=by
  obtain ⟨h1,h2⟩:=hh
  have h3 : -9223372036854775808<=how.tdiv 9/\how.tdiv 9<=9223372036854775807:=by
   rcases Int.le_total 0 how with h | h
   ·rw [Int.tdiv_eq_ediv_of_nonneg h];omega
   ·have e:how = -(-how):=by omega
    rw [e,Int.neg_tdiv,Int.tdiv_eq_ediv_of_nonneg (by omega)];omega
  exact wrap_id h3.1 h3.2
 have hh9:I64 (how.tdiv 9):=by
  rcases Int.le_total 0 how with h | h
  ·refine ⟨?_,?_⟩ <;> rw [Int.tdiv_eq_ediv_of_nonneg h] <;> have:=hh.2 <;> omega
  ·have e:how = -(-how):=by omega
   refine ⟨?_,?_⟩ <;> rw [e,Int.neg_tdiv,Int.tdiv_eq_ediv_of_nonneg (by omega)] <;> have:=hh.1 <;> omega
 have hbe2:=Bent_s (bentM (madeM l (symN symbols)) at' how by') (by omega) (by omega) by' (how.tdiv 9) at' hb hh9 ha
 have hz1:=bent_sz (a:=madeM l (symN symbols)) (by omega) (by omega) at' how by'
 have hz2:=bent_sz (a:=bentM (madeM l (symN symbols)) at' how by') (by omega) (by omega) by' (how.tdiv 9) at'
 have htk:=Take_s word 12 (by omega)
 generalize madeM l (symN symbols)=A at hp hbe hz0 hz1 hz2 hbe2
 generalize bentM A at' how by'=B at hbe hz1 hbe2 hz2
 generalize bentM B by' (how.tdiv 9) at'=C at hbe2 hz2
 generalize madeM [] (symN symbols)=D at hp
 have hlv:=lives_s
 have hfl:(word.take 12).length<=100000:=by rw [List.length_take];omega
 obtain ⟨few,hfew⟩:∃ few,word.take 12=few:=⟨_,rfl⟩
 rw [hfew] at htk hfl
 replace htk:Ctr Try.prog 12 [vints word,vi 12] (vints few):=htk
 unfold c3
 refine CwpE.cut (st:=⟨[(0,vints l),(1,vi symbols),(2,vi at'),(3,vi how),(4,vi by'),(5,vints word)],[]⟩) ?_ ?_
 ·simp only [go_sem,↓reduceIte,reduceLT,reduceAdd]
  exact ⟨_,WkE.kq,rfl⟩
 refine CwpE.cut (st:=⟨[(2,vi at'),(3,vi how),(4,vi by'),(5,vints word),(13,.ref 0 1 0 0)],[oB A,oB D]⟩) ?_ ?_
 ·simp only [go_sem,↓reduceIte,reduceCtorEq,reduceLT,reduceEqDiff]
  refine callN hp (.cons (.tree _ rfl) (.cons (.nil 1) (.cons (.tree _ rfl) .nil))) ?_
  simp only [go_sem,↓reduceIte,reduceLT,reduceEqDiff,reduceAdd]
  exact ⟨_,WkE.kq,rfl⟩
 refine CwpE.cut (st:=⟨[(2,vi at'),(3,vi how),(4,vi by'),(5,vints word),(13,.ref 0 1 0 0),(15,.ref 2 1 0 0)],[oB A,oB D,oB B]⟩) ?_ ?_
 ·simp only [go_sem,↓reduceIte,reduceLT,reduceEqDiff,reduceAdd]
  refine callT hbe rfl ?_
  simp only [go_sem,↓reduceIte,reduceLT,reduceEqDiff,reduceAdd]
  exact ⟨_,WkE.kp,rfl⟩
 refine CwpE.cut (st:=⟨[(5,vints word),(16,.list 3 [vau A,vau B,vau C,nil3])],[oB A,oB D,oB B]⟩) ?_ ?_
 ·simp only [go_sem,↓reduceIte,reduceLT,reduceEqDiff,reduceAdd,Int.reduceEq,h9]
  refine callT hbe2 rfl ?_
  simp only [go_sem,Nat.reducePow,Nat.reduceLeDiff,↓reduceIte,reduceCtorEq,reduceLT,reduceEqDiff,reduceAdd,Nat.reduceMul]
  exact ⟨_,WkE.kp,rfl⟩
 refine CwpE.cut (st:=⟨[(16,.list 3 [vau A,vau B,vau C,nil3]),(17,vints few)],[oB A,oB D,oB B]⟩) ?_ ?_
 ·simp only [go_sem,↓reduceIte,reduceLT]
  refine callT htk rfl ?_
  simp only [go_sem,↓reduceIte,reduceLT]
  exact ⟨_,WkE.kp,rfl⟩
 refine CwpE.step (fun z=>∃ env objs,z=⟨env,objs⟩) ?_ ?_
 rotate_left
 ·rintro _ ⟨env,objs,rfl⟩
  refine CwpE.wk (s':=⟨[],objs⟩) (WkE.keep (by simp only [go_sem])) ?_
  refine CwpE.vc ?_
  simp only [go_sem]
  refine callT hlv rfl ?_
  simp only [go_sem,↓reduceIte,reduceLT]
  exact .tree _ rfl
 have hall:∀ i:Nat,i<4->∃ (X:Au) (c0 c1 c2:AV),SzA X/\([vau A,vau B,vau C,nil3]:List AV)[i]? = some (.agg [c0,c1,c2])/\Snap [] (.agg [c0,c1,c2]) (vau X):=fun i hi=>by
  match i,hi with
  | 0,_=>exact ⟨A,_,_,_,hz0,rfl,.tree _ rfl⟩
  | 1,_=>exact ⟨B,_,_,_,hz1,rfl,.tree _ rfl⟩
  | 2,_=>exact ⟨C,_,_,_,hz2,rfl,.tree _ rfl⟩
  | 3,_=>exact ⟨nilA,_,_,_,⟨by simp,by simp⟩,rfl,nil_snap⟩
 have hlen:([vau A,vau B,vau C,nil3]:List AV).length=4:=rfl
 obtain ⟨LL,hLL⟩:∃ LL:List AV,[vau A,vau B,vau C,nil3]=LL:=⟨_,rfl⟩
 rw [hLL] at hall hlen ⊢
 simp only [go_sem,↓reduceIte,reduceLT]
 refine loopX 0 (fun m z=>∃ i:Nat,m=4-i/\i<=4/\z=⟨[(16,.list 3 LL),(17,vints few),(18,vi i)],[oB A,oB D,oB B]⟩)
  (fun z=>∃ env objs,z=⟨env,objs⟩) 4 ⟨[(16,.list 3 LL),(17,vints few),(18,vi (0:Nat))],[oB A,oB D,oB B]⟩ (WkE.kp) ⟨0,by omega,by omega,rfl⟩ ?_ ?_
 rotate_left
 ·rintro z h
  simp only [go_sem,↓reduceIte]
  exact ⟨z,.refl _ _,h⟩
 rintro m z ⟨i,rfl,hi,rfl⟩
 by_cases hlt:i<4
 rotate_left
 ·have g:¬ (i:Int)<(LL.length:Int):=by omega
  simp only [go_sem,↓reduceIte,reduceLT,reduceEqDiff,g]
  exact ⟨_,.refl _ _,_,_,rfl⟩
 have g1:(i:Int)<(LL.length:Int):=by omega
 have g0:(0:Int)<=(i:Int):=by omega
 have wi:=wrap_s i (by omega)
 obtain ⟨X,c0,c1,c2,hX,hget,hsn⟩:=hall i hlt
 have h1:=ownA_s X hX
 have h2:=Valid_s X hX
 have h3:=rValid_s X hX
 have h4:=Accepts_s X hX few hfl
 have h5:=rAccepts_s X hX few hfl
 have h6:=Shortest_s X hX
 have h7:=rShortest_s X hX
 replace h6:Ctr Try.prog 18 [vau X] (.tup [vints ((shortestM X).getD []),vb (shortestM X).isSome]):=h6
 replace h7:Ctr Try.prog 19 [vau X] (.tup [vints ((shortestM X).getD []),vb (shortestM X).isSome]):=h7
 have hsl:((shortestM X).getD []).length<=9223372036854775806:=by
  cases h:shortestM X with
  | none=>simp
  | some w=>have:=short_len w h;simp only [Option.getD_some];omega
 have h8:=SameInts_s ((shortestM X).getD []) ((shortestM X).getD []) hsl
 rw [decide_eq_true rfl] at h8
 generalize validM X=e at h2 h3
 generalize acceptsM X few=ac at h4 h5
 generalize (shortestM X).getD []=sw at h6 h7 h8
 generalize (shortestM X).isSome=sb at h6 h7
 have hbb:(ac == ac)=true:=beq_self_eq_true _
 have hsb:(sb == sb)=true:=beq_self_eq_true _
 have inn:([oB A,oB D,oB B].all fun o=>o.innO 3)=true:=rfl
 simp only [go_sem,↓reduceIte,reduceLT,reduceEqDiff,reduceAdd,g1,g0,hget,Int.toNat_natCast]
 refine callN h1 (.cons hsn .nil) ?_
 simp only [go_sem,↓reduceIte,reduceLT,reduceEqDiff,reduceAdd]
 refine callT h2 rfl ?_
 simp only [go_sem,↓reduceIte,reduceLT,reduceEqDiff,reduceAdd,g0,hget,Int.toNat_natCast]
 refine callN h3 (.cons hsn .nil) ?_
 simp only [go_sem,↓reduceIte,reduceLT,reduceEqDiff,reduceAdd]
 refine callT h4 rfl ?_
 simp only [go_sem,↓reduceIte,reduceLT,reduceEqDiff,reduceAdd,g0,hget,Int.toNat_natCast]
 refine callN h5 (.cons hsn (.cons (.tree _ rfl) .nil)) ?_
 simp only [go_sem,↓reduceIte,reduceLT,reduceEqDiff,reduceAdd,hbb,Bool.not_true]
 refine callT h6 rfl ?_
 simp only [go_sem,↓reduceIte,reduceLT,reduceEqDiff,reduceAdd,g0,hget,Int.toNat_natCast]
 refine callN h7 (.cons hsn .nil) ?_
 simp only [go_sem,↓reduceIte,reduceLT,reduceEqDiff,hsb,Bool.not_true]
 refine callT h8 rfl ?_
 simp only [go_sem,↓reduceIte,reduceLT,reduceEqDiff,wi]
 exact ⟨4-(i+1),⟨[(16,.list 3 LL),(17,vints few),(18,vi (i+1:Nat))],[oB A,oB D,oB B]⟩,by omega,WkE.round (by simp only [go_sem,↓reduceIte,reduceEqDiff];try rfl) rfl inn rfl,i+1,rfl,by omega,rfl⟩
end Go.Proofs.Ytjilachpkjlhdaa
