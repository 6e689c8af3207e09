/- Lemmas used by Runs, True. -/
import Derived.Test.YtdadmhahbeehhaaJa
import Derived.Test.YtdadmhahbeehhaaJb
import Derived.Test.YtdadmhahbeehhaaJc
import Derived.Test.YtdadmhahbeehhaaJd
import Derived.Test.YtdadmhahbeehhaaJe
import Derived.Test.YtdadmhahbeehhaaJf
import Derived.Test.YtdadmhahbeehhaaJg
import Derived.Test.YtdadmhahbeehhaaJj
import Derived.Test.YtdadmhahbeehhaaJk
set_option linter.unusedSimpArgs false
set_option linter.unusedVariables false
set_option linter.unusedSectionVars false
set_option maxRecDepth 100000
namespace Go.Proofs.Ytdadmhahbeehhaa
open Dak
def c21:CCode :=
 (sR [oo 6 (.mov (.const (.slice none 0 0)))]
 (sR [oo 7 (.mov (.const (.slice none 0 0)))]
 (.seq (sR [oo 8 (.mov (kk 0))]
 (.block 0 (.loop
 (.seq (sR [vv 9 8,vv 10 2,oo 11 (lN 10),oo 12 (iB .lss 9 11)]
 (.cond (T 12)
 .skip
 (.exit 0)))
 (.seq (.block 1 (sR [vv 15 0,vv 16 2,vv 17 8,oo 18 (iS 1 16 17),oo 19 (ld1 18),oo 20 (iS 1 15 19),oo 21 (ld1 20),vv 22 1,oo 23 (iB .leq 21 22)]
 (.cond (T 23)
 (rR [vv 24 7,oo 25 (.bslice 3 1 [kk 1]),oo 26 (.append 3 1 8 (T 24) (T 25)),vv 7 26])
 (rR [vv 27 7,oo 28 (.bslice 3 1 [kk 0]),oo 29 (.append 3 1 8 (T 27) (T 28)),vv 7 29]))))
 (rR [vv 13 8,oo 14 (iK .add 13 1),vv 8 14]))))))
 (sR [vv 30 7,vv 6 30]
 .ret))))
theorem f21:fnC Try.lprog 21=some (c21,31,[(.tmp 6)]):=by kernel_rfl
end Go.Proofs.Ytdadmhahbeehhaa
namespace A42
theorem runGo_I {L:List Int} (lev:Int):∀ (k:Nat) {out:List Int},RunI L out->out.length+k<=L.length->RunI L (runGo L lev k out)
 | 0,out,h,_=>h
 | k+1,out,h,hl=>by
  obtain ⟨x,h1,_,_,_,h5⟩:=h.step lev (by omega)
  rw [runGo,h1]
  exact runGo_I lev k h5 (by simp;omega)
theorem around_self {L:List Int} {x:Int} (h0:0<=x) (h1:x<L.length):aroundL x L.length=x:=by
 unfold aroundL
 rw [if_neg (by omega),if_neg (by omega)]
 exact Int.emod_eq_of_lt h0 h1
theorem some_self {L:List Int}:∀ {m out:List Int},(out++m).Nodup->(∀ x ∈ m,0<=x/\x<L.length)->m.foldl (someS L) out=out++m
 | [],out,_,_=>by simp
 | a::r,out,hn,hr=>by
  have ha:=hr a (by simp)
  have hna:a ∉ out:=fun h=>by
   rw [List.nodup_append] at hn
   exact hn.2.2 a h a (by simp) rfl
  rw [List.foldl_cons,someS,around_self ha.1 ha.2,if_neg (by simpa using hna)]
  have:=some_self (L:=L) (m:=r) (out:=out++[a]) (by simpa using hn) fun x hx=>hr x (by simp [hx])
  rw [this];simp
theorem some_eq {L m:List Int} (hn:m.Nodup) (hr:∀ x ∈ m,0<=x/\x<L.length):someM L m=m:=by
 unfold someM
 split
 ·rename_i h
  cases m with
  | nil=>rfl
  | cons a r=>have:=hr a (by simp);omega
 ·have:=some_self (L:=L) (m:=m) (out:=[]) (by simpa using hn) hr
  simpa using this
def givenL (L:List Int) (lev:Int) (out:List Int):List Int:=out.map fun k=>if lv L k<=lev then 1 else 0
theorem given_zip (L:List Int) (lev:Int) (out:List Int):out.zip (givenL L lev out)=truth L lev out:=by
 unfold givenL truth
 induction out with
 | nil=>rfl
 | cons a r ih=>simp only [List.map_cons,List.zip_cons_cons,ih]
theorem given_len (L:List Int) (lev:Int) (out:List Int):(givenL L lev out).length=out.length:=by simp [givenL]
end A42
namespace Go.Proofs.Ytdadmhahbeehhaa
open Go.RowKit Dak A42
abbrev tail21:CCode:=.seq (.region [vv 30 7,vv 6 30]) .ret
set_option maxHeartbeats 4000000 in
theorem given_c {F0:FD} {w0:Go.World} {Q:Exit->Est->Prop} (L:List Int) (lev:Int) (out:List Int) (hr:∀ x ∈ out,0<=x/\x<L.length) (hl:out.length<=1000000)
 (h:CwpE Try.lprog F0 w0 31 tail21 Q ⟨[(7,.own 0 out.length 0 out.length)],[.arr out.length 1 3 ((givenL L lev out).map vi)]⟩) :
 CwpE Try.lprog F0 w0 31 c21 Q ⟨envOf 0 [vints L,vi lev,vints out],[]⟩:=by
 unfold c21
 refine CwpE.cut (st:=⟨[(0,vints L),(1,vi lev),(2,vints out)],[]⟩) ?_ ?_
 ·simp only [go_sem]
  exact ⟨_,WkE.kp,rfl⟩
 refine CwpE.cut (st:=⟨[(0,vints L),(1,vi lev),(2,vints out),(7,.own 0 0 0 0)],[.arr 0 1 3 []]⟩) ?_ ?_
 ·simp only [go_sem]
  exact ⟨_,(WkE.nil 7 1 3 (by omega) rfl).trans (WkE.kp),rfl⟩
 refine CwpE.cut (st:=⟨[(7,.own 0 out.length 0 out.length)],[.arr out.length 1 3 ((givenL L lev out).map vi)]⟩) ?_ h
 simp only [go_sem]
 refine loopX 0 (fun m s=>∃ k:Nat,m=out.length-k/\k<=out.length/\s=⟨[(0,vints L),(1,vi lev),(2,vints out),(7,.own 0 k 0 k),(8,vi k)],[.arr k 1 3 ((givenL L lev (out.take k)).map vi)]⟩)
  (fun s=>s=⟨[(7,.own 0 out.length 0 out.length)],[.arr out.length 1 3 ((givenL L lev out).map vi)]⟩) out.length
  ⟨[(0,vints L),(1,vi lev),(2,vints out),(7,.own 0 0 0 0),(8,vi (0:Nat))],[.arr 0 1 3 []]⟩ (WkE.kp) ⟨0,rfl,by omega,rfl⟩ ?_ ?_
 rotate_left
 ·rintro s rfl
  simp only [go_sem]
  exact ⟨_,.refl _ _,rfl⟩
 rintro m s ⟨k,rfl,hk,rfl⟩
 by_cases hlt:k<out.length
 rotate_left
 ·obtain rfl:k=out.length:=by omega
  rw [List.take_length]
  simp only [go_sem,List.length_map,Int.lt_irrefl]
  exact ⟨_,WkE.keep (env':=[(7,.own 0 out.length 0 out.length)]) (by simp only [go_sem];try trivial),rfl⟩
 have g1:(k:Int)<(out.length:Int):=by omega
 have g0:(0:Int)<=(k:Int):=by omega
 have w1:=wrap_s k (by omega)
 have qa:(k+1)*8<=140737488355328:=by omega
 obtain ⟨x0,x1⟩:=hr _ (List.getElem_mem hlt)
 have hsn:givenL L lev (out.take (k+1))=givenL L lev (out.take k)++[if lv L out[k]<=lev then 1 else 0]:=by
  rw [List.take_succ_eq_append_getElem hlt];simp only [givenL,List.map_append,List.map_cons,List.map_nil]
 have hln:((givenL L lev (out.take k)).map vi).length=k:=by rw [List.length_map,given_len,List.length_take];omega
 obtain ⟨x,hx⟩:∃ x,out[k]=x:=⟨_,rfl⟩
 rw [hx] at x0 x1 hsn
 have hi:(L.map vi)[x.toNat]? = some (vi (lv L x)):=by rw [List.getElem?_map,lv_idx x0 x1];rfl
 have fin:(⟨[(0,vints L),(1,vi lev),(2,vints out),(7,.own 0 (k+1) 0 (k+1)),(8,vi ((k+1:Nat):Int))],[.arr (k+1) 1 3 ((givenL L lev (out.take (k+1))).map vi)]⟩:Est) =
  ⟨[(0,vints L),(1,vi lev),(2,vints out),(7,.own 0 (k+1) 0 (k+1)),(8,vi ((k+1:Nat):Int))],[.arr (k+1) 1 3 ((givenL L lev (out.take k)).map vi++[vi (if lv L x<=lev then 1 else 0)])]⟩:=by rw [hsn];simp
 have hko:(out.map vi)[k]? = some (vi x):=by rw [List.getElem?_map,List.getElem?_eq_getElem hlt,hx];rfl
 generalize (givenL L lev (out.take k)).map vi=G at hln fin
 subst hln
 by_cases hc:lv L x<=lev
 ·rw [if_pos hc] at fin
  simp only [go_sem,g1,g0,List.length_map,hko,x0,hi,hc,w1,qa]
  exact ⟨out.length-(G.length+1),_,by omega,WkE.kp,G.length+1,rfl,by omega,fin.symm⟩
 ·rw [if_neg hc] at fin
  simp only [go_sem,g1,g0,List.length_map,hko,x0,hi,hc,w1,qa]
  exact ⟨out.length-(G.length+1),_,by omega,WkE.kp,G.length+1,rfl,by omega,fin.symm⟩
theorem run_ok {L:List Int} {c:Int} (hv:validB L=true) (c1 : -1<=c) (c9:c<=9) {N:Nat} (hN:N<=L.length):RunM L c N=(runGo L c N [],0)/\RunI L (runGo L c N [])/\(runGo L c N []).length=N:=by
 have hI:RunI L []:=⟨hv,by simp,by simp⟩
 refine ⟨?_,runGo_I c N hI (by simpa using hN),by rw [runGo_len];simp⟩
 unfold RunM
 rw [if_neg (by rw [hv];simp;omega),if_neg (by omega),Int.toNat_natCast]
end Go.Proofs.Ytdadmhahbeehhaa
