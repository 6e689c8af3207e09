/- Lemmas used by Next, Order, Slips. -/
import Derived.Test.YtdadmhahbeehhaaJa
import Derived.Test.YtdadmhahbeehhaaJb
import Derived.Test.YtdadmhahbeehhaaJc
import Derived.Test.YtdadmhahbeehhaaJd
import Derived.Test.YtdadmhahbeehhaaJe
import Derived.Test.YtdadmhahbeehhaaJf
set_option linter.unusedSimpArgs false
set_option linter.unusedVariables false
set_option linter.unusedSectionVars false
set_option maxRecDepth 100000
namespace Go.Proofs.Ytdadmhahbeehhaa
open Dak
def c10:CCode :=
 (sR [oo 4 (.mov (.const (.slice none 0 0)))]
 (sR [oo 5 (.mov (.const (.slice none 0 0)))]
 (.seq (sR [oo 6 (.mov (kk 0))]
 (.block 0 (.loop
 (.seq (sR [vv 7 6,vv 8 1,oo 9 (iB .lss 7 8)]
 (.cond (T 9)
 .skip
 (.exit 0)))
 (.seq (.block 1 (rR [vv 12 5,vv 13 0,vv 14 6,oo 15 (cL 22 [T 13,T 14,kk 2]),oo 16 (.bslice 3 1 [T 15]),oo 17 (.append 3 1 8 (T 12) (T 16)),vv 5 17]))
 (rR [vv 10 6,oo 11 (iK .add 10 1),vv 6 11]))))))
 (sR [vv 18 5,vv 4 18]
 .ret))))
theorem f10:fnC Try.lprog 10=some (c10,19,[(.tmp 4)]):=by kernel_rfl
end Go.Proofs.Ytdadmhahbeehhaa
namespace A42
def rightsK (l:List Int) (k:Nat):List Int:=(List.range k).map fun i:Nat=>atL l (i:Int) 2
theorem rightsK_step (l:List Int) (k:Nat):rightsK l (k+1)=rightsK l k++[atL l (k:Int) 2]:=by simp [rightsK,List.range_succ]
theorem rights_len (l:List Int) (k:Nat):(rightsK l k).length=k:=by simp [rightsK]
end A42
namespace Go.Proofs.Ytdadmhahbeehhaa
open Go.RowKit Dak A42
abbrev tail10:CCode:=.seq (.region [vv 18 5,vv 4 18]) .ret
set_option maxHeartbeats 4000000 in
theorem rights_c {F0:FD} {w0:Go.World} {Q:Exit->Est->Prop} (l:List Int) (N:Nat) (hl:∀ x ∈ l,I64 x) (hN:N<=1000)
 (h:CwpE Try.lprog F0 w0 19 tail10 Q ⟨[(5,.own 0 N 0 N)],[.arr N 1 3 ((rightsK l N).map vi)]⟩) :
 CwpE Try.lprog F0 w0 19 c10 Q ⟨envOf 0 [vints l,vi N],[]⟩:=by
 unfold c10
 refine CwpE.cut (st:=⟨[(0,vints l),(1,vi N)],[]⟩) ?_ ?_
 ·simp only [go_sem]
  exact ⟨_,WkE.kp,rfl⟩
 refine CwpE.cut (st:=⟨[(0,vints l),(1,vi N),(5,.own 0 0 0 0)],[.arr 0 1 3 []]⟩) ?_ ?_
 ·simp only [go_sem]
  exact ⟨_,(WkE.nil 5 1 3 (by omega) rfl).trans (WkE.kp),rfl⟩
 refine CwpE.cut (st:=⟨[(5,.own 0 N 0 N)],[.arr N 1 3 ((rightsK l N).map vi)]⟩) ?_ h
 simp only [go_sem]
 refine loopX 0 (fun m s=>∃ k:Nat,m=N-k/\k<=N/\s=⟨[(0,vints l),(1,vi N),(5,.own 0 k 0 k),(6,vi k)],[.arr k 1 3 ((rightsK l k).map vi)]⟩)
  (fun s=>s=⟨[(5,.own 0 N 0 N)],[.arr N 1 3 ((rightsK l N).map vi)]⟩) N
  ⟨[(0,vints l),(1,vi N),(5,.own 0 0 0 0),(6,vi (0:Nat))],[.arr 0 1 3 []]⟩ (WkE.kp) ⟨0,rfl,by omega,rfl⟩ ?_ ?_
 rotate_left
 ·rintro s rfl
  simp only [go_sem]
  exact ⟨_,.refl _ _,rfl⟩
 rintro m s ⟨k,rfl,hk,rfl⟩
 have hlk:((rightsK l k).map vi).length=k:=by rw [List.length_map,rights_len]
 by_cases hlt:k<N
 rotate_left
 ·obtain rfl:k=N:=by omega
  simp only [go_sem,Int.lt_irrefl]
  exact ⟨_,WkE.keep (env':=[(5,.own 0 k 0 k)]) (by simp only [go_sem];try trivial),rfl⟩
 have g1:(k:Int)<(N:Int):=by omega
 have w1:=wrap_s k (by omega)
 have qa:(k+1)*8<=140737488355328:=by omega
 have hat2:=At_s l (k:Int) 2 hl ⟨by omega,by omega⟩
 have hs:=rightsK_step l k
 have hap:(rightsK l k).map vi++[vi (atL l (k:Int) 2)]=(rightsK l (k+1)).map vi:=by rw [hs];simp
 simp only [go_sem,g1]
 refine callF hat2 (.cons (.tree _ rfl) (.cons (.tree _ rfl) (.cons (.tree _ rfl) .nil))) rfl ?_
 simp only [go_sem,hlk,qa,w1]
 rw [hap]
 exact ⟨N-(k+1),_,by omega,WkE.kp,k+1,rfl,by omega,rfl⟩
end Go.Proofs.Ytdadmhahbeehhaa
