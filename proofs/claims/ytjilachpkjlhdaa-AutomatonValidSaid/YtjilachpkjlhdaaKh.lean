/- Lemmas used by Combines, Fixed, Valid. -/
import Derived.Test.YtjilachpkjlhdaaKa
import Derived.Test.YtjilachpkjlhdaaKb
import Derived.Test.YtjilachpkjlhdaaKc
import Derived.Test.YtjilachpkjlhdaaKd
import Derived.Test.YtjilachpkjlhdaaKe
import Derived.Test.YtjilachpkjlhdaaKf
import Derived.Test.YtjilachpkjlhdaaKg
import Derived.Test.YtjilachpkjlhdaaProg
import Derived.WalkKit
import Derived.WalkSpells
import Derived.WalkLawsBesides
import Derived.Orders
import Derived.Laws.MakeOwn
import Derived.Deep.AppendSrc
import Derived.Lib.AppendZerosOnto
import Derived.Defers
import Derived.Laws.BytesString
import Derived.Laws.StructEq
import Derived.Scope
import Derived.Deep.LoopGhost
import Derived.OrdersIn
import Derived.ControlIn
import Derived.Sort.LoopGhostIn
import Derived.RangeFuncLeaves
import Derived.RangeFuncRecord
import Derived.RangeFuncFrom
import Derived.RangeFuncNested
set_option linter.unusedSimpArgs false
set_option linter.unusedVariables false
set_option linter.unusedSectionVars false
set_option maxRecDepth 100000
namespace Go.Proofs.Ytjilachpkjlhdaa
open Dak
def c11:CCode :=
 (.seq (.region [oo 4 (.box 26 (T 0)),oo 8 (.alloc 26 (.agg [(.val (.int .i64 0)),(.val (.slice none 0 0)),(.val (.slice none 0 0))]))])
 (.seq (.region [oo 12 (.fieldAddr 0 (T 4)),oo 13 (.load false 1 (T 12)),oo 14 (.build [(.val (.int .i64 0)),(.val (.slice none 0 0)),(.val (.slice none 0 0))] [(0,(1,(T 13)))]),oo 9 (.alloc 26 (.agg [(.val (.int .i64 0)),(.val (.slice none 0 0)),(.val (.slice none 0 0))])),nn (.store 3 (T 9) (T 14))])
 (.seq (.region [oo 15 (.fieldAddr 1 (T 9)),oo 16 (.load false 1 (T 15)),oo 17 (.fieldAddr 1 (T 4)),oo 18 (.load false 1 (T 17)),oo 19 (.append 4 1 1 (T 16) (T 18)),oo 20 (.fieldAddr 1 (T 9)),nn (.store 1 (T 20) (T 19))])
 (.seq (.region [oo 21 (.fieldAddr 2 (T 9)),oo 22 (.load false 1 (T 21)),oo 23 (.fieldAddr 2 (T 4)),oo 24 (.load false 1 (T 23)),oo 25 (.append 71 3 24 (T 22) (T 24)),oo 26 (.fieldAddr 2 (T 9)),nn (.store 1 (T 26) (T 25))])
 (.seq (.region [vv 27 1,oo 28 (.fieldAddr 2 (T 9)),oo 29 (.load false 1 (T 28)),oo 30 (.len (T 29)),oo 31 (.imax (T 30) (kk 1)),oo 32 (.call (.func 33) [(T 27),(T 31)]),vv 10 32])
 (.seq (.seq (.region [vv 33 2,oo 34 (.call (.func 33) [(T 33),(kk 9)])])
 (.block 0 (.seq (.region [oo 42 (.ibin .eql (T 34) (kk 0)),vv 41 42])
 (.cond (T 41)
 (.region [oo 43 (.bslice 3 1 [(kk 0),(kk (-1)),(kk 65),(kk 64),(kk 2)]),vv 44 3,oo 45 (.call (.func 33) [(T 44),(kk 5)]),oo 46 (.idxS 1 (T 43) (T 45)),oo 47 (.load false 1 (T 46)),oo 48 (.fieldAddr 0 (T 9)),nn (.store 1 (T 48) (T 47))])
 (.seq (.region [oo 50 (.ibin .eql (T 34) (kk 1)),vv 49 50])
 (.cond (T 49)
 (.region [oo 51 (.fieldAddr 1 (T 9)),nn (.store 1 (T 51) (.const (.slice none 0 0)))])
 (.seq (.region [oo 53 (.ibin .eql (T 34) (kk 2)),vv 52 53])
 (.cond (T 52)
 (.seq (.region [oo 54 (.fieldAddr 2 (T 9)),oo 55 (.load false 1 (T 54)),oo 56 (.len (T 55)),oo 57 (.ibin .gtr (T 56) (kk 0))])
 (.cond (T 57)
 (.drawn [oo 58 (.fieldAddr 2 (T 9)),oo 59 (.load false 1 (T 58)),vv 60 10,vv 61 3] [(oo 62 (.call (.func 33) [(T 61),(kk 9)]),[oo 58 (.fieldAddr 2 (T 9)),oo 59 (.load false 1 (T 58)),vv 60 10]),(oo 63 (.ibin .sub (T 62) (kk 1)),[oo 58 (.fieldAddr 2 (T 9)),oo 59 (.load false 1 (T 58)),vv 60 10]),(oo 64 (.idxS 3 (T 59) (T 60)),[]),(oo 65 (.fieldAddr 0 (T 64)),[]),(nn (.store 1 (T 65) (T 63)),[])])
 .skip))
 (.seq (.region [oo 67 (.ibin .eql (T 34) (kk 3)),vv 66 67])
 (.cond (T 66)
 (.seq (.region [oo 68 (.fieldAddr 2 (T 9)),oo 69 (.load false 1 (T 68)),oo 70 (.len (T 69)),oo 71 (.ibin .gtr (T 70) (kk 0))])
 (.cond (T 71)
 (.drawn [oo 72 (.fieldAddr 2 (T 9)),oo 73 (.load false 1 (T 72)),vv 74 10,vv 75 3] [(oo 76 (.call (.func 33) [(T 75),(kk 9)]),[oo 72 (.fieldAddr 2 (T 9)),oo 73 (.load false 1 (T 72)),vv 74 10]),(oo 77 (.ibin .sub (T 76) (kk 1)),[oo 72 (.fieldAddr 2 (T 9)),oo 73 (.load false 1 (T 72)),vv 74 10]),(oo 78 (.idxS 3 (T 73) (T 74)),[]),(oo 79 (.fieldAddr 2 (T 78)),[]),(nn (.store 1 (T 79) (T 77)),[])])
 .skip))
 (.seq (.region [oo 81 (.ibin .eql (T 34) (kk 4)),vv 80 81])
 (.cond (T 80)
 (.seq (.region [oo 82 (.fieldAddr 2 (T 9)),oo 83 (.load false 1 (T 82)),oo 84 (.len (T 83)),oo 85 (.ibin .gtr (T 84) (kk 0))])
 (.cond (T 85)
 (.drawn [oo 86 (.fieldAddr 2 (T 9)),oo 87 (.load false 1 (T 86)),vv 88 10,vv 89 3] [(oo 90 (.call (.func 33) [(T 89),(kk 7)]),[oo 86 (.fieldAddr 2 (T 9)),oo 87 (.load false 1 (T 86)),vv 88 10]),(oo 91 (.ibin .sub (T 90) (kk 2)),[oo 86 (.fieldAddr 2 (T 9)),oo 87 (.load false 1 (T 86)),vv 88 10]),(oo 92 (.idxS 3 (T 87) (T 88)),[]),(oo 93 (.fieldAddr 1 (T 92)),[]),(nn (.store 1 (T 93) (T 91)),[])])
 .skip))
 (.seq (.region [oo 95 (.ibin .eql (T 34) (kk 5)),vv 94 95])
 (.cond (T 94)
 (.drawn [oo 96 (.fieldAddr 1 (T 9)),oo 97 (.load false 1 (T 96)),oo 98 (.bslice 3 1 [(kk 1),(kk 249),(kk 250),(kk 256)]),vv 99 3] [(oo 100 (.call (.func 33) [(T 99),(kk 4)]),[oo 96 (.fieldAddr 1 (T 9)),oo 97 (.load false 1 (T 96)),oo 98 (.bslice 3 1 [(kk 1),(kk 249),(kk 250),(kk 256)])]),(oo 101 (.idxS 1 (T 98) (T 100)),[oo 96 (.fieldAddr 1 (T 9)),oo 97 (.load false 1 (T 96))]),(oo 102 (.load false 1 (T 101)),[oo 96 (.fieldAddr 1 (T 9)),oo 97 (.load false 1 (T 96))]),(oo 103 (.appendZ 4 1 1 (.val (.bool false)) (T 97) (T 102)),[]),(oo 104 (.fieldAddr 1 (T 9)),[]),(nn (.store 1 (T 104) (T 103)),[])])
 (.seq (.region [oo 106 (.ibin .eql (T 34) (kk 6)),vv 105 106])
 (.cond (T 105)
 (.block 1 (.loop
 (.seq (.seq (.region [oo 107 (.fieldAddr 2 (T 9)),oo 108 (.load false 1 (T 107)),oo 109 (.len (T 108)),oo 110 (.ibin .gtr (T 109) (kk 0)),vv 111 110,gt 112 111 (.fieldAddr 2 (T 9)),gt 113 111 (.load false 1 (T 112)),gt 114 111 (.len (T 113)),gt 115 111 (.ibin .lss (T 114) (kk 4096)),oo 116 (.pick (T 111) (T 115) (.const (.bool false)))])
 (.cond (T 116)
 .skip
 (.exit 1)))
 (.block 2 (.region [oo 117 (.fieldAddr 2 (T 9)),oo 118 (.load false 1 (T 117)),oo 119 (.fieldAddr 2 (T 9)),oo 120 (.load false 1 (T 119)),oo 121 (.append 71 3 24 (T 118) (T 120)),oo 122 (.fieldAddr 2 (T 9)),nn (.store 1 (T 122) (T 121))])))))
 (.seq (.region [oo 124 (.ibin .eql (T 34) (kk 7)),vv 123 124])
 (.cond (T 123)
 (.seq (.region [oo 125 (.fieldAddr 1 (T 9)),oo 126 (.load false 1 (T 125)),oo 127 (.len (T 126)),oo 128 (.ibin .gtr (T 127) (kk 0))])
 (.cond (T 128)
 (.seq (.region [vv 129 3,oo 130 (.fieldAddr 1 (T 9)),oo 131 (.load false 1 (T 130)),oo 132 (.len (T 131)),oo 133 (.call (.func 33) [(T 129),(T 132)]),vv 11 133])
 (.drawn [oo 134 (.fieldAddr 1 (T 9)),oo 135 (.load false 1 (T 134)),vv 136 11,oo 137 (.fieldAddr 1 (T 9)),oo 138 (.load false 1 (T 137)),vv 139 11,oo 140 (.idxS 1 (T 138) (T 139)),oo 141 (.load false 1 (T 140)),oo 142 (.lnot (T 141)),oo 143 (.idxS 1 (T 135) (T 136))] [(nn (.store 1 (T 143) (T 142)),[])]))
 .skip))
 (.region [oo 35 (.fieldAddr 2 (T 9)),oo 36 (.load false 1 (T 35)),oo 37 (.build [(.val (.int .i64 0)),(.val (.int .i64 0)),(.val (.int .i64 0))] [(0,(1,(kk 0))),(1,(1,(kk (-1)))),(2,(1,(kk 0)))]),oo 38 (.bslice 71 3 [(T 37)]),oo 39 (.append 71 3 24 (T 36) (T 38)),oo 40 (.fieldAddr 2 (T 9)),nn (.store 1 (T 40) (T 39))])))))))))))))))))))
 (.seq (.region [oo 144 (.load true 3 (T 9)),nn (.store 3 (T 8) (T 144))])
 .ret)))))))
theorem f11:fnC Try.prog 11=some (c11,145,[(.cell 8 true 3)]):=by kernel_rfl
end Go.Proofs.Ytjilachpkjlhdaa
namespace Go.Proofs.Ytjilachpkjlhdaa
open Go.RowKit Dak P5
open Nat (reduceEqDiff reduceLT reduceAdd)
def dblG:Nat->List Edg->List Edg
 | 0,E=>E
 | f+1,E=>if 0<E.length/\E.length<4096 then dblG f (E++E) else E
theorem dblG_stop {f:Nat} {E:List Edg} (h:¬ (0<E.length/\E.length<4096)):dblG f E=E:=by
 cases f with
 | zero=>rfl
 | succ f=>rw [dblG,if_neg h]
theorem dblG_fuel:∀ (f g:Nat) (E:List Edg),4096-E.length<f->4096-E.length<g->dblG f E=dblG g E
 | 0,_,_,h,_=>by omega
 | _+1,0,_,_,h=>by omega
 | f+1,g+1,E,hf,hg=>by
  rw [dblG,dblG]
  by_cases h:0<E.length/\E.length<4096
  ·rw [if_pos h,if_pos h]
   have hl:(E++E).length=E.length+E.length:=List.length_append
   exact dblG_fuel f g _ (by omega) (by omega)
  ·rw [if_neg h,if_neg h]
theorem dblG_len:∀ (f:Nat) (E:List Edg),(dblG f E).length<=max E.length 8190
 | 0,E=>by rw [dblG];omega
 | f+1,E=>by
  rw [dblG]
  split
  ·rename_i h
   have:=dblG_len f (E++E)
   rw [List.length_append] at this
   omega
  ·omega
def setE (E:List Edg) (k:Nat) (f:Edg->Edg):List Edg:=match E[k]? with
 | none=>E
 | some e=>E.set k (f e)
theorem setE_len (E:List Edg) (k:Nat) (f:Edg->Edg):(setE E k f).length=E.length:=by
 unfold setE
 split
 ·rfl
 ·rw [List.length_set]
def flipB (A:List Bool) (k:Nat):List Bool:=match A[k]? with
 | none=>A
 | some b=>A.set k (!b)
theorem flipB_len (A:List Bool) (k:Nat):(flipB A k).length=A.length:=by
 unfold flipB
 split
 ·rfl
 ·rw [List.length_set]
def bentM (a:Au) (at' how by':Int):Au :=
 match (aroundL how 9).toNat with
 | 0=>⟨[0,-1,65,64,2].getD (aroundL by' 5).toNat 0,a.acc,a.ed⟩
 | 1=>⟨a.sy,[],a.ed⟩
 | 2=>⟨a.sy,a.acc,setE a.ed (aroundL at' (max a.ed.length 1:Nat)).toNat fun e=>(aroundL by' 9-1,e.2)⟩
 | 3=>⟨a.sy,a.acc,setE a.ed (aroundL at' (max a.ed.length 1:Nat)).toNat fun e=>(e.1,e.2.1,aroundL by' 9-1)⟩
 | 4=>⟨a.sy,a.acc,setE a.ed (aroundL at' (max a.ed.length 1:Nat)).toNat fun e=>(e.1,aroundL by' 7-2,e.2.2)⟩
 | 5=>⟨a.sy,a.acc++List.replicate ([1,249,250,256].getD (aroundL by' 4).toNat 0) false,a.ed⟩
 | 6=>⟨a.sy,a.acc,dblG 4098 a.ed⟩
 | 7=>⟨a.sy,flipB a.acc (aroundL by' (a.acc.length:Nat)).toNat,a.ed⟩
 | _=>⟨a.sy,a.acc,a.ed++[(0,-1,0)]⟩
theorem four_le (i:Nat) : [1,249,250,256].getD i 0<=256:=by
 match i with
 | 0 | 1 | 2 | 3=>decide
 | n+4=>simp
theorem bent_len (a:Au) (at' how by':Int):(bentM a at' how by').acc.length<=a.acc.length+256/\(bentM a at' how by').ed.length<=max (a.ed.length+1) 8190:=by
 unfold bentM
 have h4:=four_le (aroundL by' 4).toNat
 have hd:=dblG_len 4098 a.ed
 split <;> simp only [setE_len,flipB_len,List.length_append,List.length_replicate,List.length_nil,List.length_singleton] <;> omega
def objsR (a:Au) (sy:Int) (A:List Bool) (E:List Edg):List AObj:=[oB a,.arr 1 3 26 [nil3],.arr 1 3 26 [.agg [vi sy,.own 3 A.length 0 A.length,.own 4 E.length 0 E.length]],.arr A.length 1 4 (A.map vb),.arr E.length 3 71 (E.map vedge)]
theorem objsR_eq (a:Au) (sy:Int) (A:List Bool) (E:List Edg):objsR a sy A E=[oB a,.arr 1 3 26 [nil3],.arr 1 3 26 [.agg [vi sy,.own 3 A.length 0 A.length,.own 4 E.length 0 E.length]],.arr A.length 1 4 (A.map vb),.arr E.length 3 71 (E.map vedge)]:=rfl
theorem objsR_snap (sy:Int) (A:List Bool) (E:List Edg) (o0 o1 o2:AObj):Snap [o0,o1,o2,.arr A.length 1 4 (A.map vb),.arr E.length 3 71 (E.map vedge)] (.agg [vi sy,.own 3 A.length 0 A.length,.own 4 E.length 0 E.length]) (vau ⟨sy,A,E⟩):=by
 refine .agg _ _ rfl fun i h1 h2=>?_
 match i,h1,h2 with
 | 0,_,_=>exact .tree _ rfl
 | 1,_,_ =>
  refine .own 3 A.length 0 A.length 1 4 _ _ rfl (by simp) (by simp) fun q hq=>?_
  simp only [Nat.zero_add]
  exact .tree _ (List.all_eq_true.1 (isT_map (fun _=>rfl) _) _ (List.getElem_mem _))
 | 2,_,_ =>
  refine .own 4 E.length 0 E.length 3 71 _ _ rfl (by simp) (by simp) fun q hq=>?_
  simp only [Nat.zero_add]
  exact .tree _ (List.all_eq_true.1 (isT_map (fun _=>rfl) _) _ (List.getElem_mem _))
theorem I64_of {n:Int} (h1 : -1000000<=n) (h2:n<=1000000):I64 n:=⟨by omega,by omega⟩
set_option maxHeartbeats 8000000 in
theorem Bent_s (a:Au) (hz1:a.acc.length<=50000) (hz2:a.ed.length<=50000) (at' how by':Int) (hat:I64 at') (hhow:I64 how) (hby:I64 by'):Ctr Try.prog 11 [vau a,vi at',vi how,vi by'] (vau (bentM a at' how by')):=by
 refine specC f11 (by simp) fun F0 w0=>?_
 have hA33:=fun (n:Int) (h1 : -1000000<=n) (h2:n<=1000000)=>Around_s by' n hby (I64_of h1 h2)
 obtain ⟨Y,hY⟩:∃ Y,bentM a at' how by'=Y:=⟨_,rfl⟩
 rw [hY]
 unfold bentM at hY
 have hk:=Around_s at' (max a.ed.length 1:Nat) hat ⟨by omega,by omega⟩
 have hkb:=aroundL_bd at' (max a.ed.length 1:Nat) (by omega)
 have hc:=Around_s how 9 hhow ⟨by omega,by omega⟩
 have hcb:=aroundL_bd how 9 (by omega)
 have hmax:(if (a.ed.length:Int)<1 then 1 else (a.ed.length:Int))=((max a.ed.length 1:Nat):Int):=by split <;> omega
 obtain ⟨mx,hmx⟩:∃ mx,max a.ed.length 1=mx:=⟨_,rfl⟩
 rw [hmx] at hk hkb hmax hY
 obtain ⟨k,hke⟩:∃ k:Nat,aroundL at' mx=(k:Int):=⟨(aroundL at' mx).toNat,by omega⟩
 rw [hke] at hk hkb hY
 obtain ⟨c,hce⟩:∃ c:Nat,aroundL how 9=(c:Int):=⟨(aroundL how 9).toNat,by omega⟩
 rw [hce] at hc hcb hY
 rw [Int.toNat_natCast] at hY
 simp only [Int.toNat_natCast] at hY
 unfold c11
 refine CwpE.cut (st:=⟨[(1,vi at'),(2,vi how),(3,vi by'),(4,.ref 0 1 0 0),(8,.ref 1 1 0 0)],[oB a,.arr 1 3 26 [nil3]]⟩) ?_ ?_
 ·simp only [go_sem,↓reduceIte,reduceLT,reduceAdd]
  exact ⟨_,WkE.kq,rfl⟩
 refine CwpE.cut (st:=⟨[(1,vi at'),(2,vi how),(3,vi by'),(4,.ref 0 1 0 0),(8,.ref 1 1 0 0),(9,.ref 2 1 0 0)],objsR a a.sy [] []⟩) ?_ ?_
 ·simp only [go_sem,Nat.reduceLeDiff,↓reduceIte,reduceLT,reduceEqDiff,reduceAdd]
  refine ⟨_,(WkE.nilCell 2 1 3 0 1 1 4 26 _ (.agg [vi a.sy,.val (.slice none 0 0),.val (.slice none 0 0)]) rfl rfl rfl).trans ((WkE.nilCell 2 1 3 0 2 3 71 26 _ (.agg [vi a.sy,.own 3 0 0 0,.val (.slice none 0 0)]) rfl rfl rfl).trans (WkE.kp)),rfl⟩
 refine CwpE.cut (st:=⟨[(1,vi at'),(2,vi how),(3,vi by'),(4,.ref 0 1 0 0),(8,.ref 1 1 0 0),(9,.ref 2 1 0 0)],objsR a a.sy a.acc []⟩) ?_ ?_
 ·have q1:a.acc.length*1<=140737488355328:=by omega
  rw [objsR_eq a a.sy [] []]
  simp only [go_sem,Nat.reduceLeDiff,↓reduceIte,reduceLT,reduceEqDiff,reduceAdd,List.length_map,q1,Nat.zero_add,List.length_nil]
  exact ⟨_,WkE.kp,rfl⟩
 refine CwpE.cut (st:=⟨[(1,vi at'),(2,vi how),(3,vi by'),(4,.ref 0 1 0 0),(8,.ref 1 1 0 0),(9,.ref 2 1 0 0)],objsR a a.sy a.acc a.ed⟩) ?_ ?_
 ·have q1:a.ed.length*24<=140737488355328:=by omega
  rw [objsR_eq a a.sy a.acc []]
  simp only [go_sem,↓reduceIte,reduceLT,reduceEqDiff,reduceAdd,List.length_map,q1,Nat.zero_add,List.length_nil]
  exact ⟨_,WkE.kp,rfl⟩
 refine CwpE.cut (st:=⟨[(2,vi how),(3,vi by'),(8,.ref 1 1 0 0),(9,.ref 2 1 0 0),(10,vi k)],objsR a a.sy a.acc a.ed⟩) ?_ ?_
 ·rw [objsR_eq]
  simp only [go_sem,↓reduceIte,reduceLT,reduceEqDiff,hmax]
  refine callT hk rfl ?_
  simp only [go_sem,↓reduceIte,reduceLT]
  exact ⟨_,WkE.kp,rfl⟩
 refine CwpE.seqJ (fun z=>∃ (c0 c1 c2:AV) (rest:List AObj),(∀ o1,Snap ([oB a,o1,.arr 1 3 26 [.agg [c0,c1,c2]]]++rest) (.agg [c0,c1,c2]) (vau Y))/\z=⟨[(8,.ref 1 1 0 0),(9,.ref 2 1 0 0)],[oB a,.arr 1 3 26 [nil3],.arr 1 3 26 [.agg [c0,c1,c2]]]++rest⟩) ?_ ?_
 rotate_left
 ·rintro _ ⟨c0,c1,c2,rest,h,rfl⟩
  refine CwpE.vc ?_
  simp only [go_sem,↓reduceIte,reduceLT,reduceEqDiff,reduceAdd]
  exact h _
 refine CwpE.cut (st:=⟨[(3,vi by'),(8,.ref 1 1 0 0),(9,.ref 2 1 0 0),(10,vi k),(34,vi c)],objsR a a.sy a.acc a.ed⟩) ?_ ?_
 ·simp only [go_sem,↓reduceIte,reduceLT]
  refine callT hc rfl ?_
  simp only [go_sem]
  exact ⟨_,WkE.kp,rfl⟩
 refine CwpE.block ?_
 have fin:∀ (env:List (Nat × AV)) (sy:Int) (A:List Bool) (E:List Edg),(⟨sy,A,E⟩:Au)=Y->(∀ X,WkE 145 ⟨env,X⟩ ⟨[(8,.ref 1 1 0 0),(9,.ref 2 1 0 0)],X⟩) ->
  ∃ s',WkE 145 ⟨env,objsR a sy A E⟩ s'/\∃ (c0 c1 c2:AV) (rest:List AObj),(∀ o1,Snap ([oB a,o1,.arr 1 3 26 [.agg [c0,c1,c2]]]++rest) (.agg [c0,c1,c2]) (vau Y))/\s'=⟨[(8,.ref 1 1 0 0),(9,.ref 2 1 0 0)],[oB a,.arr 1 3 26 [nil3],.arr 1 3 26 [.agg [c0,c1,c2]]]++rest⟩:=by
  rintro env sy A E rfl h
  exact ⟨_,h _,vi sy,_,_,_,fun o1=>objsR_snap sy A E _ o1 _,rfl⟩
 have z0:((0:Nat):Int)=0:=rfl
 have z1:((1:Nat):Int)=1:=rfl
 have z2:((2:Nat):Int)=2:=rfl
 have z3:((3:Nat):Int)=3:=rfl
 have z4:((4:Nat):Int)=4:=rfl
 have z5:((5:Nat):Int)=5:=rfl
 have z6:((6:Nat):Int)=6:=rfl
 have z7:((7:Nat):Int)=7:=rfl
 have z8:((8:Nat):Int)=8:=rfl
 have hc9:c=0 \/ c=1 \/ c=2 \/ c=3 \/ c=4 \/ c=5 \/ c=6 \/ c=7 \/ c=8:=by omega
 rcases hc9 with rfl | rfl | rfl | rfl | rfl | rfl | rfl | rfl | rfl
 ·
  have h5:=hA33 5 (by omega) (by omega)
  have h5b:=aroundL_bd by' 5 (by omega)
  simp only at hY
  generalize aroundL by' 5=j at h5 h5b hY
  have hj:j=0 \/ j=1 \/ j=2 \/ j=3 \/ j=4:=by omega
  refine CwpE.vc ?_
  rw [objsR_eq]
  simp only [go_sem,Nat.reducePow,Nat.reduceLeDiff,↓reduceIte,reduceCtorEq,reduceLT,reduceEqDiff,reduceAdd,Nat.reduceMul,Int.reduceNeg,z0]
  refine callT h5 rfl ?_
  rcases hj with rfl | rfl | rfl | rfl | rfl <;> simp only [go_sem,Nat.reduceLeDiff,↓reduceIte,reduceLT,reduceEqDiff,reduceAdd,Int.reduceToNat,Int.reduceLE,Int.reduceNeg,Int.reduceToNat,Int.le_refl] <;> refine fin _ _ a.acc a.ed hY fun X=>WkE.keep ?_ <;> simp only [go_sem,↓reduceIte,reduceEqDiff] <;> try rfl
 ·
  simp only at hY
  subst hY
  refine CwpE.vc ?_
  rw [objsR_eq]
  simp only [go_sem,Nat.reduceLeDiff,↓reduceIte,reduceLT,reduceEqDiff,reduceAdd,Int.reduceEq,Int.reduceNeg,z1]
  refine ⟨_,WkE.kp,vi a.sy,_,_,_,fun o1=>?_,rfl⟩
  refine .agg _ _ rfl fun i h1 h2=>?_
  match i,h1,h2 with
  | 0,_,_=>exact .tree _ rfl
  | 1,_,_=>exact .nil 1
  | 2,_,_ =>
   refine .own 4 a.ed.length 0 a.ed.length 3 71 _ _ rfl (by simp) (by simp) fun q hq=>?_
   simp only [Nat.zero_add]
   exact .tree _ (List.all_eq_true.1 (isT_map (fun _=>rfl) _) _ (List.getElem_mem _))
 ·
  have h5:=hA33 9 (by omega) (by omega)
  have h5b:=aroundL_bd by' 9 (by omega)
  simp only at hY
  generalize aroundL by' 9=j at h5 h5b hY
  have wj:IntKind.i64.wrap (j-1)=j-1:=wrap_id (by omega) (by omega)
  by_cases hl:0<a.ed.length
  rotate_left
  ·have gl:¬ (0:Int)<(a.ed.length:Int):=by omega
   have hnil:a.ed=[]:=List.eq_nil_of_length_eq_zero (by omega)
   have hY2:(⟨a.sy,a.acc,a.ed⟩:Au)=Y:=by rw [<-hY,hnil];rfl
   refine CwpE.vc ?_
   rw [objsR_eq]
   simp only [go_sem,↓reduceIte,reduceLT,reduceEqDiff,Int.reduceEq,Int.reduceNeg,z2,gl]
   refine fin _ _ a.acc a.ed hY2 fun X=>WkE.keep ?_
   simp only [go_sem,↓reduceIte,reduceEqDiff];try rfl
  have gl:(0:Int)<(a.ed.length:Int):=by omega
  have hkl:k<a.ed.length:=by omega
  have g1:(k:Int)<(a.ed.length:Int):=by omega
  have g0:(0:Int)<=(k:Int):=by omega
  have heg:=edge_get hkl
  obtain ⟨e,he⟩:∃ e,a.ed[k]=e:=⟨_,rfl⟩
  have hE:setE a.ed k (fun e=>(j-1,e.2))=a.ed.set k (j-1,e.2):=by rw [setE,List.getElem?_eq_getElem hkl,he]
  rw [he] at heg
  rw [hE] at hY
  have hset:(a.ed.map vedge).set k (.agg [vi (j-1),vi e.2.1,vi e.2.2])=(a.ed.set k (j-1,e.2)).map vedge:=by rw [List.map_set]
  have hlen:(a.ed.set k (j-1,e.2)).length=a.ed.length:=List.length_set
  obtain ⟨E1,hE1⟩:∃ E1,a.ed.set k (j-1,e.2)=E1:=⟨_,rfl⟩
  rw [hE1] at hset hlen hY
  refine CwpE.vc ?_
  rw [objsR_eq]
  simp only [go_sem,↓reduceIte,reduceLT,reduceEqDiff,Int.reduceEq,Int.reduceNeg,z2,gl]
  refine callT h5 rfl ?_
  simp only [go_sem,Nat.reduceLeDiff,↓reduceIte,reduceLT,reduceEqDiff,reduceAdd,g1,g0,heg,wj,hset,Int.toNat_natCast]
  rw [<-hlen]
  refine fin _ _ a.acc E1 hY fun X=>WkE.keep ?_
  simp only [go_sem,↓reduceIte,reduceEqDiff];try rfl
 ·
  have h5:=hA33 9 (by omega) (by omega)
  have h5b:=aroundL_bd by' 9 (by omega)
  simp only at hY
  generalize aroundL by' 9=j at h5 h5b hY
  have wj:IntKind.i64.wrap (j-1)=j-1:=wrap_id (by omega) (by omega)
  by_cases hl:0<a.ed.length
  rotate_left
  ·have gl:¬ (0:Int)<(a.ed.length:Int):=by omega
   have hnil:a.ed=[]:=List.eq_nil_of_length_eq_zero (by omega)
   have hY2:(⟨a.sy,a.acc,a.ed⟩:Au)=Y:=by rw [<-hY,hnil];rfl
   refine CwpE.vc ?_
   rw [objsR_eq]
   simp only [go_sem,↓reduceIte,reduceLT,reduceEqDiff,Int.reduceEq,Int.reduceNeg,z3,gl]
   refine fin _ _ a.acc a.ed hY2 fun X=>WkE.keep ?_
   simp only [go_sem,↓reduceIte,reduceEqDiff];try rfl
  have gl:(0:Int)<(a.ed.length:Int):=by omega
  have hkl:k<a.ed.length:=by omega
  have g1:(k:Int)<(a.ed.length:Int):=by omega
  have g0:(0:Int)<=(k:Int):=by omega
  have heg:=edge_get hkl
  obtain ⟨e,he⟩:∃ e,a.ed[k]=e:=⟨_,rfl⟩
  have hE:setE a.ed k (fun e=>(e.1,e.2.1,j-1))=a.ed.set k (e.1,e.2.1,j-1):=by rw [setE,List.getElem?_eq_getElem hkl,he]
  rw [he] at heg
  rw [hE] at hY
  have hset:(a.ed.map vedge).set k (.agg [vi e.1,vi e.2.1,vi (j-1)])=(a.ed.set k (e.1,e.2.1,j-1)).map vedge:=by rw [List.map_set]
  have hlen:(a.ed.set k (e.1,e.2.1,j-1)).length=a.ed.length:=List.length_set
  obtain ⟨E1,hE1⟩:∃ E1,a.ed.set k (e.1,e.2.1,j-1)=E1:=⟨_,rfl⟩
  rw [hE1] at hset hlen hY
  refine CwpE.vc ?_
  rw [objsR_eq]
  simp only [go_sem,↓reduceIte,reduceLT,reduceEqDiff,Int.reduceEq,Int.reduceNeg,z3,gl]
  refine callT h5 rfl ?_
  simp only [go_sem,↓reduceIte,reduceLT,reduceEqDiff,reduceAdd,g1,g0,heg,wj,hset,Int.toNat_natCast]
  rw [<-hlen]
  refine fin _ _ a.acc E1 hY fun X=>WkE.keep ?_
  simp only [go_sem,↓reduceIte,reduceEqDiff];try rfl
 ·
  have h5:=hA33 7 (by omega) (by omega)
  have h5b:=aroundL_bd by' 7 (by omega)
  simp only at hY
  generalize aroundL by' 7=j at h5 h5b hY
  have wj:IntKind.i64.wrap (j-2)=j-2:=wrap_id (by omega) (by omega)
  by_cases hl:0<a.ed.length
  rotate_left
  ·have gl:¬ (0:Int)<(a.ed.length:Int):=by omega
   have hnil:a.ed=[]:=List.eq_nil_of_length_eq_zero (by omega)
   have hY2:(⟨a.sy,a.acc,a.ed⟩:Au)=Y:=by rw [<-hY,hnil];rfl
   refine CwpE.vc ?_
   rw [objsR_eq]
   simp only [go_sem,↓reduceIte,reduceLT,reduceEqDiff,Int.reduceEq,Int.reduceNeg,z4,gl]
   refine fin _ _ a.acc a.ed hY2 fun X=>WkE.keep ?_
   simp only [go_sem,↓reduceIte,reduceEqDiff];try rfl
  have gl:(0:Int)<(a.ed.length:Int):=by omega
  have hkl:k<a.ed.length:=by omega
  have g1:(k:Int)<(a.ed.length:Int):=by omega
  have g0:(0:Int)<=(k:Int):=by omega
  have heg:=edge_get hkl
  obtain ⟨e,he⟩:∃ e,a.ed[k]=e:=⟨_,rfl⟩
  have hE:setE a.ed k (fun e=>(e.1,j-2,e.2.2))=a.ed.set k (e.1,j-2,e.2.2):=by rw [setE,List.getElem?_eq_getElem hkl,he]
  rw [he] at heg
  rw [hE] at hY
  have hset:(a.ed.map vedge).set k (.agg [vi e.1,vi (j-2),vi e.2.2])=(a.ed.set k (e.1,j-2,e.2.2)).map vedge:=by rw [List.map_set]
  have hlen:(a.ed.set k (e.1,j-2,e.2.2)).length=a.ed.length:=List.length_set
  obtain ⟨E1,hE1⟩:∃ E1,a.ed.set k (e.1,j-2,e.2.2)=E1:=⟨_,rfl⟩
  rw [hE1] at hset hlen hY
  refine CwpE.vc ?_
  rw [objsR_eq]
  simp only [go_sem,↓reduceIte,reduceLT,reduceEqDiff,Int.reduceEq,Int.reduceNeg,z4,gl]
  refine callT h5 rfl ?_
  simp only [go_sem,Nat.reduceLeDiff,↓reduceIte,reduceLT,reduceEqDiff,reduceAdd,g1,g0,heg,wj,hset,Int.toNat_natCast]
  rw [<-hlen]
  refine fin _ _ a.acc E1 hY fun X=>WkE.keep ?_
  simp only [go_sem,↓reduceIte,reduceEqDiff];try rfl
 ·
  have h5:=hA33 4 (by omega) (by omega)
  have h5b:=aroundL_bd by' 4 (by omega)
  simp only at hY
  generalize aroundL by' 4=j at h5 h5b hY
  have hj:j=0 \/ j=1 \/ j=2 \/ j=3:=by omega
  have app:∀ m:Nat,a.acc.map vb++List.replicate m (vb false)=(a.acc++List.replicate m false).map vb:=fun m=>by rw [List.map_append,List.map_replicate]
  have apl:∀ m:Nat,(a.acc++List.replicate m false).length=a.acc.length+m:=fun m=>by rw [List.length_append,List.length_replicate]
  refine CwpE.vc ?_
  rw [objsR_eq]
  simp only [go_sem,Nat.reducePow,Nat.reduceLeDiff,↓reduceIte,reduceCtorEq,reduceLT,reduceEqDiff,reduceAdd,Nat.reduceMul,Int.reduceEq,Int.reduceNeg,z5]
  refine callT h5 rfl ?_
  rcases hj with rfl | rfl | rfl | rfl
  ·have q:(a.acc.length+1)*1<=140737488355328:=by omega
   have hm:=app 1
   have hl:=apl 1
   have hY2:(⟨a.sy,a.acc++List.replicate 1 false,a.ed⟩:Au)=Y:=hY
   obtain ⟨A1,hA1⟩:∃ A1,a.acc++List.replicate 1 false=A1:=⟨_,rfl⟩
   rw [hA1] at hm hl hY2
   simp only [go_sem,Nat.reducePow,Nat.reduceLeDiff,↓reduceIte,reduceCtorEq,reduceLT,reduceEqDiff,reduceAdd,Nat.reduceMul,Int.reduceToNat,Int.reduceLE,Int.reduceToNat,Int.le_refl,List.length_replicate,q,hm]
   rw [<-hl]
   refine fin _ _ A1 a.ed hY2 fun X=>WkE.keep ?_
   simp only [go_sem,↓reduceIte,reduceEqDiff];try rfl
  ·have q:(a.acc.length+249)*1<=140737488355328:=by omega
   have hm:=app 249
   have hl:=apl 249
   have hY2:(⟨a.sy,a.acc++List.replicate 249 false,a.ed⟩:Au)=Y:=hY
   obtain ⟨A1,hA1⟩:∃ A1,a.acc++List.replicate 249 false=A1:=⟨_,rfl⟩
   rw [hA1] at hm hl hY2
   simp only [go_sem,Nat.reducePow,Nat.reduceLeDiff,↓reduceIte,reduceCtorEq,reduceLT,reduceEqDiff,reduceAdd,Nat.reduceMul,Int.reduceToNat,Int.reduceLE,Int.reduceToNat,List.length_replicate,q,hm]
   rw [<-hl]
   refine fin _ _ A1 a.ed hY2 fun X=>WkE.keep ?_
   simp only [go_sem,↓reduceIte,reduceEqDiff];try rfl
  ·have q:(a.acc.length+250)*1<=140737488355328:=by omega
   have hm:=app 250
   have hl:=apl 250
   have hY2:(⟨a.sy,a.acc++List.replicate 250 false,a.ed⟩:Au)=Y:=hY
   obtain ⟨A1,hA1⟩:∃ A1,a.acc++List.replicate 250 false=A1:=⟨_,rfl⟩
   rw [hA1] at hm hl hY2
   simp only [go_sem,Nat.reducePow,Nat.reduceLeDiff,↓reduceIte,reduceCtorEq,reduceLT,reduceEqDiff,reduceAdd,Nat.reduceMul,Int.reduceToNat,Int.reduceLE,Int.reduceToNat,List.length_replicate,q,hm]
   rw [<-hl]
   refine fin _ _ A1 a.ed hY2 fun X=>WkE.keep ?_
   simp only [go_sem,↓reduceIte,reduceEqDiff];try rfl
  ·have q:(a.acc.length+256)*1<=140737488355328:=by omega
   have hm:=app 256
   have hl:=apl 256
   have hY2:(⟨a.sy,a.acc++List.replicate 256 false,a.ed⟩:Au)=Y:=hY
   obtain ⟨A1,hA1⟩:∃ A1,a.acc++List.replicate 256 false=A1:=⟨_,rfl⟩
   rw [hA1] at hm hl hY2
   simp only [go_sem,Nat.reducePow,Nat.reduceLeDiff,↓reduceIte,reduceCtorEq,reduceLT,reduceEqDiff,reduceAdd,Nat.reduceMul,Int.reduceToNat,Int.reduceLE,Int.reduceToNat,List.length_replicate,q,hm]
   rw [<-hl]
   refine fin _ _ A1 a.ed hY2 fun X=>WkE.keep ?_
   simp only [go_sem,↓reduceIte,reduceEqDiff];try rfl
 ·
  simp only at hY
  refine CwpE.vc ?_
  rw [objsR_eq]
  simp only [go_sem,↓reduceIte,reduceLT,reduceEqDiff,Int.reduceEq,Int.reduceNeg,z6]
  refine loopX 1 (fun m z=>∃ E:List Edg,m=4096-E.length/\E.length<=100000/\(⟨a.sy,a.acc,dblG 4098 E⟩:Au)=Y/\z=⟨[(8,.ref 1 1 0 0),(9,.ref 2 1 0 0)],objsR a a.sy a.acc E⟩)
   (fun z=>∃ E:List Edg,(⟨a.sy,a.acc,E⟩:Au)=Y/\z=⟨[(8,.ref 1 1 0 0),(9,.ref 2 1 0 0)],objsR a a.sy a.acc E⟩) (4096-a.ed.length)
   ⟨[(8,.ref 1 1 0 0),(9,.ref 2 1 0 0)],objsR a a.sy a.acc a.ed⟩ (WkE.kp) ⟨a.ed,rfl,by omega,hY,rfl⟩ ?_ ?_
  rotate_left
  ·rintro z ⟨E,hE,rfl⟩
   simp only [go_sem,↓reduceIte]
   exact fin _ a.sy a.acc E hE fun X=>WkE.refl _ _
  rintro m z ⟨E,rfl,hEb,hE,rfl⟩
  by_cases h0:0<E.length
  ·have g0:(0:Int)<(E.length:Int):=by omega
   by_cases h1:E.length<4096
   ·have g1:(E.length:Int)<4096:=by omega
    have qe:(E.length+E.length)*24<=140737488355328:=by omega
    have hl:(E++E).length=E.length+E.length:=List.length_append
    have hd:dblG 4098 E=dblG 4098 (E++E):=by
     rw [dblG_fuel 4098 4099 E (by omega) (by omega),dblG,if_pos ⟨h0,h1⟩]
    rw [hd] at hE
    rw [objsR_eq]
    have hm:E.map vedge++E.map vedge=(E++E).map vedge:=List.map_append.symm
    obtain ⟨E1,hE1⟩:∃ E1,E++E=E1:=⟨_,rfl⟩
    rw [hE1] at hm hl hE
    simp only [go_sem,↓reduceIte,reduceLT,reduceEqDiff,reduceAdd,g0,g1,qe,hm,List.length_map]
    rw [<-hl]
    exact ⟨4096-E1.length,⟨[(8,.ref 1 1 0 0),(9,.ref 2 1 0 0)],objsR a a.sy a.acc E1⟩,by omega,WkE.kp,E1,rfl,by omega,hE,rfl⟩
   ·have g1:¬ (E.length:Int)<4096:=by omega
    rw [dblG_stop (by omega)] at hE
    rw [objsR_eq]
    simp only [go_sem,↓reduceIte,reduceLT,reduceEqDiff,g0,g1]
    exact ⟨_,WkE.kp,E,hE,rfl⟩
  ·have g0:¬ (0:Int)<(E.length:Int):=by omega
   rw [dblG_stop (by omega)] at hE
   rw [objsR_eq]
   simp only [go_sem,↓reduceIte,reduceLT,reduceEqDiff,g0]
   exact ⟨_,WkE.kp,E,hE,rfl⟩
 ·
  simp only at hY
  by_cases hl:0<a.acc.length
  rotate_left
  ·have gl:¬ (0:Int)<(a.acc.length:Int):=by omega
   have hnil:a.acc=[]:=List.eq_nil_of_length_eq_zero (by omega)
   have hY2:(⟨a.sy,a.acc,a.ed⟩:Au)=Y:=by rw [<-hY,hnil];rfl
   refine CwpE.vc ?_
   rw [objsR_eq]
   simp only [go_sem,↓reduceIte,reduceLT,reduceEqDiff,Int.reduceEq,Int.reduceNeg,z7,gl]
   refine fin _ _ a.acc a.ed hY2 fun X=>WkE.keep ?_
   simp only [go_sem,↓reduceIte,reduceEqDiff];try rfl
  have gl:(0:Int)<(a.acc.length:Int):=by omega
  have h5:=hA33 (a.acc.length:Nat) (by omega) (by omega)
  have h5b:=aroundL_bd by' (a.acc.length:Nat) (by omega)
  obtain ⟨j,hj⟩:∃ j:Nat,aroundL by' (a.acc.length:Nat)=(j:Int):=⟨(aroundL by' (a.acc.length:Nat)).toNat,by omega⟩
  rw [hj] at h5 h5b hY
  have g1:(j:Int)<(a.acc.length:Int):=by omega
  have g0:(0:Int)<=(j:Int):=by omega
  have hjl:j<a.acc.length:=by omega
  have hag:(a.acc.map vb)[j]? = some (vb a.acc[j]):=by rw [List.getElem?_map,List.getElem?_eq_getElem hjl];rfl
  have hF:flipB a.acc j=a.acc.set j (!a.acc[j]):=by rw [flipB,List.getElem?_eq_getElem hjl]
  rw [Int.toNat_natCast,hF] at hY
  generalize a.acc[j]=b at hag hY
  have hset:(a.acc.map vb).set j (vb (!b))=(a.acc.set j (!b)).map vb:=by rw [List.map_set]
  have hlen:(a.acc.set j (!b)).length=a.acc.length:=List.length_set
  obtain ⟨A1,hA1⟩:∃ A1,a.acc.set j (!b)=A1:=⟨_,rfl⟩
  rw [hA1] at hset hlen hY
  refine CwpE.vc ?_
  rw [objsR_eq]
  simp only [go_sem,↓reduceIte,reduceLT,reduceEqDiff,Int.reduceEq,Int.reduceNeg,z7,gl]
  refine callT h5 rfl ?_
  simp only [go_sem,↓reduceIte,reduceLT,reduceEqDiff,g1,g0,hag,hset,Int.toNat_natCast]
  rw [<-hlen]
  refine fin _ _ A1 a.ed hY fun X=>WkE.keep ?_
  simp only [go_sem,↓reduceIte,reduceEqDiff];try rfl
 ·
  simp only at hY
  have qe:(a.ed.length+1)*24<=140737488355328:=by omega
  have hm:a.ed.map vedge++[vedge (0,-1,0)]=(a.ed++[((0:Int),(-1:Int),(0:Int))]).map vedge:=by rw [List.map_append];rfl
  have hl:(a.ed++[((0:Int),(-1:Int),(0:Int))]).length=a.ed.length+1:=by simp
  obtain ⟨E1,hE1⟩:∃ E1,a.ed++[((0:Int),(-1:Int),(0:Int))]=E1:=⟨_,rfl⟩
  rw [hE1] at hm hl hY
  refine CwpE.vc ?_
  rw [objsR_eq]
  simp only [go_sem,Nat.reducePow,Nat.reduceLeDiff,↓reduceIte,reduceLT,reduceEqDiff,reduceAdd,Nat.reduceMul,Int.reduceEq,Int.reduceNeg,z8,qe,List.length_map,hm]
  rw [<-hl]
  refine fin _ _ a.acc E1 hY fun X=>WkE.keep ?_
  simp only [go_sem,↓reduceIte,reduceEqDiff];try rfl
end Go.Proofs.Ytjilachpkjlhdaa
namespace Go.Proofs.Ytjilachpkjlhdaa
open Go.RowKit Dak P5
open Nat (reduceEqDiff reduceLT reduceAdd)
theorem bent_sz {a:Au} (h1:a.acc.length<=40000) (h2:a.ed.length<=40000) (at' how by':Int):SzA (bentM a at' how by'):=by
 have:=bent_len a at' how by'
 exact ⟨by omega,by omega⟩
end Go.Proofs.Ytjilachpkjlhdaa
