/- Lemmas used by all laws. -/
import Derived.Test.YtdadmhahbeehhaaJa
import Derived.Test.YtdadmhahbeehhaaJb
import Derived.Test.YtdadmhahbeehhaaJc
import Derived.Test.YtdadmhahbeehhaaJd
import Derived.Test.YtdadmhahbeehhaaJe
import Derived.Conc.TokenWords
import Derived.DataReads
set_option linter.unusedSimpArgs false
set_option linter.unusedVariables false
set_option linter.unusedSectionVars false
set_option maxRecDepth 100000
namespace Go.Proofs.Ytdadmhahbeehhaa
open Dak
def c7:CCode :=
 (sR [oo 8 (.mov bF)]
 (sR [vv 21 0,oo 22 (cL 8 [T 21]),vv 9 22]
 (sR [vv 23 9,vv 24 1,oo 25 (cL 9 [T 23,T 24]),vv 10 25]
 (sR [vv 26 2,vv 27 10,oo 28 (lN 27),oo 29 (cL 10 [T 26,T 28]),vv 11 29]
 (sR [vv 30 9,oo 31 (.build [nS] [(0,(1,(T 30)))]),oo 12 (.alloc 30 (.agg [nS])),sS 1 12 31]
 (sR [oo 33 (.load true 1 (T 12)),vv 34 10,vv 35 11,oo 36 (cL 14 [T 33,T 34,T 35]),vv 32 36,oo 37 (eX 32 0),oo 38 (eX 32 1),oo 39 (eX 32 2),vv 13 37,vv 14 38,vv 15 39]
 (.seq (sR [vv 40 15,oo 41 (iK .neq 40 0),vv 42 41,vf 43 42 13,gf 44 42 (.ibin .lss (T 43) (kk (-1))),oo 45 (.pick (T 42) bT (T 44)),vv 46 45,vf 47 46 13,gf 48 46 (iK .gtr 47 9),oo 49 (.pick (T 46) bT (T 48)),vv 50 49,vf 51 50 14,gf 52 50 (iK .lss 51 0),oo 53 (.pick (T 50) bT (T 52)),vv 54 53,vf 55 54 14,gf 56 54 (iK .gtr 55 11),oo 57 (.pick (T 54) bT (T 56))]
 (.cond (T 57)
 (sR [oo 8 (.mov bF)]
 .ret)
 .skip))
 (sR [vv 58 10,oo 59 (lN 58),vv 16 59]
 (.seq (sR [oo 17 (.mov (kk (-1)))]
 (.block 0 (.loop
 (.seq (sR [vv 60 17,oo 61 (iK .lss 60 10)]
 (.cond (T 61)
 .skip
 (.exit 0)))
 (.seq (.block 1 (rR [vv 64 16,vv 65 9,vv 66 10,vv 67 11,vv 68 17,oo 69 (cL 23 [T 65,T 66,T 67,T 68]),oo 70 (.imin (T 64) (T 69)),vv 16 70]))
 (rR [vv 62 17,oo 63 (iK .add 62 1),vv 17 63]))))))
 (.seq (sR [vv 71 9,vv 72 10,vv 73 11,vv 74 13,vv 75 14,oo 76 (iB .sub 74 75),oo 77 (.imax (T 76) (kk (-1))),oo 78 (cL 23 [T 71,T 72,T 73,T 77]),vv 79 16,oo 80 (iB .neq 78 79),vv 81 80,vt 82 81 9,vt 83 81 10,vt 84 81 11,vt 85 81 13,vt 86 81 14,gt 87 81 (iB .add 85 86),gt 88 81 (.imin (T 87) (kk 9)),gt 89 81 (cL 23 [T 82,T 83,T 84,T 88]),vt 90 81 16,gt 91 81 (iB .neq 89 90),oo 92 (.pick (T 81) (T 91) bF)]
 (.cond (T 92)
 (sR [oo 8 (.mov bF)]
 .ret)
 .skip))
 (.seq (sR [vv 93 10,oo 94 (lN 93),oo 95 (iK .eql 94 0)]
 (.cond (T 95)
 (sR [vv 96 16,oo 97 (iK .eql 96 0),vv 98 97,gt 99 98 (cL 16 []),oo 100 (.pick (T 98) (T 99) bF),vv 8 100]
 .ret)
 .skip))
 (sR [vv 101 3,vv 102 11,oo 103 (lN 102),oo 104 (cL 17 [T 101,T 103]),vv 18 104]
 (sR [vv 105 11,vv 106 18,vv 107 11,vv 108 18,oo 109 (iS 1 107 108),oo 110 (ld1 109),oo 111 (.ibin .sub (kk 1) (T 110)),oo 112 (iS 1 105 106),sS 1 112 111]
 (sR [oo 114 (.load true 1 (T 12)),vv 115 10,vv 116 11,oo 117 (cL 14 [T 114,T 115,T 116]),vv 113 117,oo 118 (eX 113 0),oo 119 (eX 113 1),oo 120 (eX 113 2),vv 13 118,vv 14 119,vv 15 120]
 (.seq (sR [vv 121 15,oo 122 (iK .neq 121 0)]
 (.cond (T 122)
 (sR [oo 8 (.mov bF)]
 .ret)
 .skip))
 (sR [vv 123 9,vv 124 10,vv 125 11,vv 126 13,vv 127 14,oo 128 (iB .sub 126 127),oo 129 (.imax (T 128) (kk (-1))),oo 130 (cL 23 [T 123,T 124,T 125,T 129]),vv 19 130]
 (sR [vv 131 9,vv 132 10,vv 133 11,vv 134 13,vv 135 14,oo 136 (iB .add 134 135),oo 137 (.imin (T 136) (kk 9)),oo 138 (cL 23 [T 131,T 132,T 133,T 137]),vv 20 138]
 (sR [vv 139 19,vv 140 20,oo 141 (.imin (T 139) (T 140)),vv 142 16,oo 143 (iK .add 142 1),oo 144 (iB .leq 141 143),vv 145 144,gt 146 145 (cL 16 []),oo 147 (.pick (T 145) (T 146) bF),vv 8 147]
 .ret))))))))))))))))))
theorem f7:fnC Try.lprog 7=some (c7,148,[(.tmp 8)]):=by kernel_rfl
end Go.Proofs.Ytdadmhahbeehhaa
namespace Go.Proofs.Ytdadmhahbeehhaa
open Go.RowKit Dak A42
theorem mset (l:List Int) (p:Nat) (x:Int):(l.map vi).set p (vi x)=(l.set p x).map vi:=(List.map_set).symm
theorem mget {l:List Int} {p:Nat} (h:p<l.length):(l.map vi)[p]? = some (vi l[p]):=by rw [List.getElem?_map,List.getElem?_eq_getElem h];rfl
def hid (p:Prop):Prop:=p
end Go.Proofs.Ytdadmhahbeehhaa
namespace Go.Proofs.Ytdadmhahbeehhaa
open Go Go.Conc Cv
noncomputable def tail18 (b:Code):Code:=cr (cr b)
noncomputable def rest18 (b:Code):Code:=cr (cr (tail18 b))
noncomputable def lb18 (b:Code):Code:=cb (cb (cr (cl (cr (cr (rest18 b))))))
noncomputable def c2 (b:Code):Code:=cr (cb (cl (cr (cr (lb18 b)))))
noncomputable def c3 (b:Code):Code:=cr (cr (cr (rest18 b)))
def Spre (fn:FuncId):Pairs:={ op:=fun _ _ _=>False,mid:=fun _ _=>False,code:=fun cL c=>fn=18/\((cL=b18L/\c=b18) \/ (cL=cr b18L/\c=cr b18) \/ (cL=tail18 b18L/\c=tail18 b18)),plain:=True,dst:=fun _=>True }
def okDst (d:Option Tmp):Bool:=d != some 1 && d != some 8 && d != some 9
def Sact:Pairs:={ op:=fun _ _ _=>False,mid:=fun cL c=>cL=c2 b18L/\c=c2 b18,code:=fun cL c=>(cL=rest18 b18L/\c=rest18 b18) \/ (cL=cr (rest18 b18L)/\c=cr (rest18 b18)) \/ (cL=cr (cr (rest18 b18L))/\c=cr (cr (rest18 b18))) \/ (cL=c3 b18L/\c=c3 b18),plain:=False,dst:=fun d=>okDst d=true }
theorem cr_same {P:Program} {S:Pairs} (hp:S.plain) (hd:∀ d,S.dst d):∀ c,codeOK P c=true->CR P S c c
 | .skip,_=>.skip
 | .ret,_=>.ret hp
 | .exit id,_=>.exit id
 | .refuse s,_=>.dead s _
 | .region id ops d,h=>.region id ops ops d rfl (fun _=>rfl) fun i=>.same rfl fun o ho=>⟨by
  obtain ⟨hl,he⟩:=Array.getElem?_eq_some_iff.1 ho
  rw [<-he];exact Array.all_eq_true.1 h i hl,.inr rfl,hd _⟩
 | .seq a b,h=>by
  simp only [codeOK,Bool.and_eq_true] at h
  exact .seq (cr_same hp hd a h.1) (cr_same hp hd b h.2)
 | .cond c a b,h=>by
  simp only [codeOK,Bool.and_eq_true] at h
  exact .cond c (cr_same hp hd a h.1) (cr_same hp hd b h.2)
 | .block id a,h=>.block id (cr_same hp hd a h)
 | .loop a,h=>.loop (cr_same hp hd a h)
 | .rangeFunc ..,h=>by cases h
 | .scope ..,h=>by cases h
 | .label ..,h=>by cases h
 | .goto ..,h=>by cases h
def codeChk (P:Program):Code->Bool
 | .skip | .exit _=>true
 | .region _ ops _=>ops.all fun o=>opOK P o.op && okDst o.dst
 | .seq a b | .cond _ a b=>codeChk P a && codeChk P b
 | .block _ a | .loop a=>codeChk P a
 | _=>false
theorem cr_chk {P:Program} {S:Pairs} (hd:∀ d,okDst d=true->S.dst d):∀ c,codeChk P c=true->CR P S c c
 | .skip,_=>.skip
 | .exit id,_=>.exit id
 | .region id ops d,h=>.region id ops ops d rfl (fun _=>rfl) fun i=>.same rfl fun o ho=>by
  obtain ⟨hl,he⟩:=Array.getElem?_eq_some_iff.1 ho
  have:=Array.all_eq_true.1 h i hl
  rw [he] at this
  simp only [Bool.and_eq_true] at this
  exact ⟨this.1,.inr rfl,hd _ this.2⟩
 | .seq a b,h=>by
  simp only [codeChk,Bool.and_eq_true] at h
  exact .seq (cr_chk hd a h.1) (cr_chk hd b h.2)
 | .cond c a b,h=>by
  simp only [codeChk,Bool.and_eq_true] at h
  exact .cond c (cr_chk hd a h.1) (cr_chk hd b h.2)
 | .block id a,h=>.block id (cr_chk hd a h)
 | .loop a,h=>.loop (cr_chk hd a h)
 | .ret,h=>by cases h
 | .refuse _,h=>by cases h
 | .rangeFunc ..,h=>by cases h
 | .scope ..,h=>by cases h
 | .label ..,h=>by cases h
 | .goto ..,h=>by cases h
noncomputable def h18 (b:Code):Code:=cl (cr b)
theorem pre_ok:(codeOK Try.prog (cl b18) && codeOK Try.prog (h18 b18))=true:=by kernel_rfl
theorem cr18 {f:FuncId}:CR Try.prog (Spre f) (cl b18) (cl b18)/\CR Try.prog (Spre f) (h18 b18) (h18 b18):=by
 have h:=pre_ok
 simp only [Bool.and_eq_true] at h
 exact ⟨cr_same trivial (fun _=>trivial) _ h.1,cr_same trivial (fun _=>trivial) _ h.2⟩
noncomputable def r7:Code:=cl (rest18 b18)
noncomputable def r8:Code:=cl (cr (rest18 b18))
noncomputable def r9:Code:=cl (cl (cr (cr (rest18 b18))))
noncomputable def r10:Code:=cl (lb18 b18)
noncomputable def r10c:Code:=cl (cr (lb18 b18))
noncomputable def r11:Code:=cl (cb (cl (cr (cr (lb18 b18)))))
noncomputable def r15:Code:=cr (cr (cr (lb18 b18)))
theorem act_ok:(codeChk Try.prog r7 && codeChk Try.prog r8 && codeChk Try.prog r9 && codeChk Try.prog r10 && codeChk Try.prog r10c && codeChk Try.prog r11 && codeChk Try.prog r15)=true:=by kernel_rfl
noncomputable def r9b (x:Code):Code:=.seq r9 (.block 1 (.loop (.seq r10 (.seq r10c (.seq (.block 2 (.seq r11 x)) r15)))))
theorem crRest:CR Try.prog Sact r7 r7/\CR Try.prog Sact r8 r8/\CR Try.prog Sact (r9b (c2 b18L)) (r9b (c2 b18)):=by
 have h:=act_ok
 simp only [Bool.and_eq_true] at h
 obtain ⟨⟨⟨⟨⟨⟨h7,h8⟩,h9⟩,h10⟩,h10c⟩,h11⟩,h15⟩:=h
 have hd:∀ d,okDst d=true->Sact.dst d:=fun _ h=>h
 exact ⟨cr_chk hd _ h7,cr_chk hd _ h8,.seq (cr_chk hd _ h9) (.block 1 (.loop (.seq (cr_chk hd _ h10) (.seq (cr_chk hd _ h10c) (.seq (.block 2 (.seq (cr_chk hd _ h11) (.marked ⟨rfl,rfl⟩))) (cr_chk hd _ h15))))))⟩
theorem f18_get:Try.prog.funcs[18]? = some Try.f18:=Try.func18
theorem lfun_ntmps (f:Nat) (fn:Func):(lfun f fn).ntmps=fn.ntmps/\(lfun f fn).results=fn.results:=by
 unfold lfun
 split
 ·exact ⟨rfl,rfl⟩
 ·split
  ·exact ⟨rfl,rfl⟩
  ·split <;> exact ⟨rfl,rfl⟩
theorem enter_rel (f:FuncId) (args:Array Value):∃ tm cL c,Frame.enter (alt Try.prog lfuncs) f args .normal=fr0 f tm [.code cL] .run/\Frame.enter Try.prog f args .normal=fr0 f tm [.code c] .run/\Cv.TR Try.prog (Spre f) [.code cL] [.code c]:=by
 have e1:(alt Try.prog lfuncs).funcs[f]? = (Try.prog.funcs[f]?).map (lfun f):=lfuncs_get f
 refine ⟨_, _, ((Try.prog.funcs[f]?).bind (·.body)).getD (.refuse "unsupported: a function without a Go body is entered"), rfl, ?_, ?_⟩
 ·unfold Frame.enter
  rw [e1]
  cases h:Try.prog.funcs[f]? with
  | none=>rfl
  | some fn=>simp only [Option.map_some,Option.getD_some,(lfun_ntmps f fn).1];rfl
 ·rw [e1]
  cases h:Try.prog.funcs[f]? with
  | none=>exact .cons (.code (.dead _ _)) (.nil trivial)
  | some fn =>
   simp only [Option.map_some,Option.bind_some]
   by_cases hk:keep.contains f=true
   ·have e:lfun f fn=fn:=by unfold lfun;rw [if_pos hk]
    rw [e]
    cases hb:fn.body with
    | none=>exact .cons (.code (.dead _ _)) (.nil trivial)
    | some c=>exact .cons (.code (cr_same trivial (fun _=>trivial) _ (lone_ok.codes f fn c (by rw [lfuncs_get,h];simp [e]) hb))) (.nil trivial)
   ·by_cases h18:f=18
    ·subst h18
     have e:lfun 18 fn={ fn with body:=some b18L }:=by unfold lfun;rw [if_neg hk,if_pos rfl]
     rw [e]
     obtain rfl:fn=Try.f18:=by rw [f18_get] at h;exact (Option.some.inj h).symm
     exact .last ⟨rfl,.inl ⟨rfl,rfl⟩⟩
    ·by_cases hb:fn.body.isSome=true
     ·have e : lfun f fn = { fn with body := some (.refuse "") } := by unfold lfun; rw [if_neg hk, if_neg h18, if_pos hb]
      rw [e];exact .cons (.code (.dead _ _)) (.nil trivial)
     ·have e:lfun f fn=lnone fn:=by unfold lfun;rw [if_neg hk,if_neg h18,if_neg hb]
      rw [e];exact .cons (.code (.dead _ _)) (.nil trivial)
end Go.Proofs.Ytdadmhahbeehhaa
namespace Go.Proofs.Ytdadmhahbeehhaa
open Go Go.Conc Go.RowKit Cv
open Go.ConcN (upd upd_same upd_ne)
noncomputable def bot:Frame:={ (default:Frame) with fn:=Try.prog.funcs.size,defers:=[],mode:=.panicking [goexitEntry] }
noncomputable def b31:Code:=Try.f31.body.getD .skip
def fb31:Frame:=baseD 31
def call31 (lv:Int) (c1 c2:Nat):Deferred:={ target:=.fn (.func 31) #[],args:=#[.int .i64 lv,.chan (some c1),.chan (some c2)] }
theorem loud31:(Try.prog.funcs[fb31.fn]?).any (·.norace)=false:=by kernel_rfl
theorem born_step (lv:Int) (c1 c2:Nat) (w:World):stepG Try.prog false (born Try.prog (call31 lv c1 c2)) w =
 .go (G (fb31.at ⟨#[.int .i64 lv,.chan (some c1),.chan (some c2),undef,undef,undef,undef,undef,undef,undef,undef,undef,undef,undef,undef,undef,undef],[]⟩ [.code b31]) [bot]) w #[]:=by
 simp [born,call31,stepG,unwind,callDeferred,invoke,callFunc,Try.func31,Try.f31,seen,GStep.after,G,Frame.enter,Frame.at,fb31,baseD,bot,b31]
noncomputable def lw:Code:=cb (cb (cr (cl b31)))
noncomputable def opsRecv:Array Oper:=(regOps 1 b31).getD #[]
noncomputable def todoW:List Item:=[.inRegion opsRecv [0,1],.code (cr lw),.inLoop lw,.inBlock 0,.code (cr b31)]
noncomputable def RW (lv:Int) (c1 c2:Nat) (j3 j4 j5 j6 j8 j9 j10 j11 j12 j13 j14 j15 j16:Value):Goroutine :=
 G (fb31.at ⟨#[.int .i64 lv,.chan (some c1),.chan (some c2),j3,j4,j5,j6,.chan (some c1),j8,j9,j10,j11,j12,j13,j14,j15,j16],[]⟩ todoW) [bot]
noncomputable def seatW (lv:Int) (c1 c2:Nat):Seat:=Seat.one c1 (.int .i64 0) true fun g=>∃ j3 j4 j5 j6 j8 j9 j10 j11 j12 j13 j14 j15 j16,g=RW lv c1 c2 j3 j4 j5 j6 j8 j9 j10 j11 j12 j13 j14 j15 j16
theorem w_at (B:Nat) (lv:Int) (c1 c2:Nat) (j3 j4 j5 j6 j8 j9 j10 j11 j12 j13 j14 j15 j16:Value) :
 AtIn Try.prog false K0 S0 B (seatW lv c1 c2) (RW lv c1 c2 j3 j4 j5 j6 j8 j9 j10 j11 j12 j13 j14 j15 j16) (RW lv c1 c2 j3 j4 j5 j6 j8 j9 j10 j11 j12 j13 j14 j15 j16):=by
 exact atIn_of (s := seatW lv c1 c2) (o := { dst := some 8, op := .recv 71 (.tmp 7) true, type := 0, pos := "adaptive.go:102", after := #[], guard := none }) (by kernel_rfl) rfl (by decide) (fun w => by simp [go_sem, execOp, rcase, Act.eval, seatW, Seat.one]) (fun w => by simp [go_sem, execOp, Act.eval]) ⟨_, _, _, _, _, _, _, _, _, _, _, _, _, rfl⟩
theorem w_birth (B:Nat) (lv:Int) (c1 c2:Nat):Sits Try.prog false K0 S0 B (seatW lv c1 c2) 12 (born Try.prog (call31 lv c1 c2)):=by
 refine .inl ⟨11,default,rfl,Goes.step rfl fun w₁ h₁=>?_⟩
 rw [born_step]
 refine ⟨ds_none _,?_⟩
 simp only [b31,Try.f31,Option.getD_some]
 k_c stepG_seq
 k_c stepG_seq
 k_reg
 k_in;refine goes_oper_k rfl rfl (by decide) (fun K hK=>?_);go_simp;refine hK _ _ ⟨⟨rfl,fun e he=>by (have hm:=mem_listed he;simp [go_sem] at hm)⟩,?_⟩;clear hK K
 k_c stepG_region_end
 k_c stepG_block
 k_c stepG_loop
 k_c stepG_seq
 k_reg
 exact Goes.stop fun _ _=>⟨_,w_at B lv c1 c2 _ _ _ _ _ _ _ _ _ _ _ _ _⟩
def ans (lv n:Int):Int:=if n<=lv then 1 else 0
set_option maxHeartbeats 1000000 in
theorem w_serve (B:Nat) (lv:Int) (c1 c2:Nat) (j3 j4 j5 j6 j8 j9 j10 j11 j12 j13 j14 j15 j16:Value) (n:Int) (w:World) :
 Goes Try.prog false AtRel (DQ S0 B) (AtGive Try.prog false S0 B c2 (.int .i64 (ans lv n)) fun g=>Sits Try.prog false K0 S0 B (seatW lv c1 c2) 10 g) 30
  (Go.Conc.served (RW lv c1 c2 j3 j4 j5 j6 j8 j9 j10 j11 j12 j13 j14 j15 j16) (recvd true (.int .i64 n) true)) w:=by
 have hK:K0 w:=trivial
 unfold RW todoW lw opsRecv
 rw [served_fr,Frame.finish_at]
 simp only [recvd,if_true,b31,Try.f31,Option.getD_some,cl,cr,cb,regOps]
 walk_nrm
 q_op
 q_c stepG_region_end
 q_c stepG_seq
 q_cond true
 q_c stepG_skip
 q_c stepG_block
 q_c stepG_seq
 q_reg
 q_op
 q_op
 q_c stepG_region_end
 q_c stepG_seq
 q_reg
 q_op
 q_op
 q_op
 q_c stepG_region_end
 by_cases hn:n<=lv
 ·q_in;rw [stepG_cond (t:=true) (by simp [Act.eval,hn])];simp only [goes_go,↓reduceIte];refine ⟨dq_none _,?_⟩
  q_reg
  q_op
  refine Goes.stop fun w₁ h₁=>?_
  obtain ⟨d₁,rfl⟩:=h₁
  refine atGive_of (z':=.tuple #[]) rfl rfl (by decide) (fun w=>by simp [execOp,scase,Act.eval,ans,hn]) (fun w=>by simp [go_sem,execOp,Act.eval]) ?_ _
  refine .inl ⟨9,w,rfl,?_⟩
  rw [served_fr,Frame.finish_at]
  walk_nrm
  k_c stepG_region_end
  k_c stepG_inBlock
  k_c stepG_inLoop
  k_c stepG_seq
  k_reg
  exact Goes.stop fun _ _=>⟨_,w_at B lv c1 c2 _ _ _ _ _ _ _ _ _ _ _ _ _⟩
 ·q_in;rw [stepG_cond (t:=false) (by simp [Act.eval,hn])];simp only [goes_go,Bool.false_eq_true,↓reduceIte];refine ⟨dq_none _,?_⟩
  q_reg
  q_op
  refine Goes.stop fun w₁ h₁=>?_
  obtain ⟨d₁,rfl⟩:=h₁
  refine atGive_of (z':=.tuple #[]) rfl rfl (by decide) (fun w=>by simp [execOp,scase,Act.eval,ans,hn]) (fun w=>by simp [go_sem,execOp,Act.eval]) ?_ _
  refine .inl ⟨9,w,rfl,?_⟩
  rw [served_fr,Frame.finish_at]
  walk_nrm
  k_c stepG_region_end
  k_c stepG_inBlock
  k_c stepG_inLoop
  k_c stepG_seq
  k_reg
  exact Goes.stop fun _ _=>⟨_,w_at B lv c1 c2 _ _ _ _ _ _ _ _ _ _ _ _ _⟩
theorem quitsTail (T:Array Value):QuitsD Try.prog 2 0 (G { fb31.at ⟨T,[]⟩ [] with mode:=.returning } [bot]):=by
 refine QuitsD.ctl (g':=G bot []) rfl (fun w=>?_) ?_
 ·simp [G,stepG,unwind,doReturn,results,Frame.at,fb31,baseD,bot,Try.func31,Try.f31,seen,GStep.after,goexitEntry]
 refine QuitsD.ctl (g':={ G bot [] with status:=.finished }) rfl (fun w=>?_) ⟨rfl,rfl⟩
 simp [G,stepG,unwind,bot,goexitEntry,Frame.catches]
 rfl
set_option maxHeartbeats 1000000 in
theorem w_shut (B:Nat) (lv:Int) (c1 c2:Nat) (j3 j4 j5 j6 j8 j9 j10 j11 j12 j13 j14 j15 j16:Value) (w:World) :
 Goes Try.prog false AtRel (DQ S0 B) (AtShut Try.prog false c2 fun g=>QuitsD Try.prog 4 0 g) 20
  (Go.Conc.served (RW lv c1 c2 j3 j4 j5 j6 j8 j9 j10 j11 j12 j13 j14 j15 j16) (recvd true (.int .i64 0) false)) w:=by
 have hK:K0 w:=trivial
 unfold RW todoW lw opsRecv
 rw [served_fr,Frame.finish_at]
 simp only [recvd,if_true,b31,Try.f31,Option.getD_some,cl,cr,cb,regOps]
 walk_nrm
 q_op
 q_c stepG_region_end
 q_c stepG_seq
 q_cond false
 q_exit
 q_reg
 q_op
 refine Goes.stop fun w₁ h₁=>?_
 refine atShut_of rfl rfl (by decide) rfl rfl loud31 rfl ?_ _
 walk_nrm
 refine QuitsD.ctl rfl (fun w=>stepG_region_end) ?_
 refine QuitsD.ctl rfl (fun w=>stepG_end) ?_
 exact quitsTail _
end Go.Proofs.Ytdadmhahbeehhaa
namespace Go.Proofs.Ytdadmhahbeehhaa
open Go Go.Conc Cv
open Go.ConcN (upd upd_same upd_ne)
noncomputable abbrev PL:Program:=alt Try.prog lfuncs
structure Act where
 j:Nat
 c1:Nat
 c2:Nat
 lv:Int
structure Sl (a:Act) (tmps:Array Value):Prop where
 size:70<=tmps.size
 lv:tmps[1]? = some (.int .i64 a.lv)
 c1:tmps[8]? = some (.chan (some a.c1))
 c2:tmps[9]? = some (.chan (some a.c2))
noncomputable def o12 (b:Code):Array Oper:=(regOps 12 b).getD #[]
noncomputable def r13 (b:Code):Code:=cr (c2 b)
def Sb:Pairs:={ op:=fun oL o i=>oL=o12 b18L/\o=o12 b18/\i=6,mid:=fun cL c=>(cL=r13 b18L/\c=r13 b18) \/ Sact.mid cL c,code:=Sact.code,plain:=False,dst:=fun d=>okDst d=true }
inductive FR:Option Act->FuncId->Array Value->List Item->List Item->Prop
 | plain {fn:FuncId} {tmps:Array Value} {todoL todo:List Item}:(fn=18->70<=tmps.size)->Cv.TR Try.prog (Spre fn) todoL todo->FR none fn tmps todoL todo
 | act {a:Act} {tmps:Array Value} {todoL todo:List Item}:Sl a tmps->Cv.TR Try.prog Sact todoL todo->FR (some a) 18 tmps todoL todo
 | actB {a:Act} {tmps:Array Value} {kL k:List Item} (i:Nat):Sl a tmps->1<=i->i<=6->tmps[51]? = some (.chan (some a.c1))->Cv.TR Try.prog Sact kL k ->
  FR (some a) 18 tmps (.inRegion (o12 b18L) (List.range' i (7-i))::.code (r13 b18L)::kL) (.inRegion (o12 b18) (List.range' i (7-i))::.code (r13 b18)::k)
def Waits (todoL todo:List Item):Prop:=∃ opsL ops i t kL k,todoL = .inRegion opsL (i::t)::kL/\todo = .inRegion ops (i::t)::k/\opsL[i]? = ops[i]?/\∃ o c,ops[i]? = some o/\o.op = .call c
inductive SRel:List Act->List Frame->List Frame->Prop
 | base:SRel [] [c0 Try.prog lfuncs] []
 | cons {o:Option Act} {A:List Act} {fn:FuncId} {tmps:Array Value} {todoL todo:List Item} {XL X:List Frame}:FR o fn tmps todoL todo->Waits todoL todo->SRel A XL X->SRel (o.toList++A) (fr0 fn tmps todoL .run::XL) (fr0 fn tmps todo .run::X)
theorem putT_get {tmps:Array Value} {d:Option Tmp} {v:Value} {k:Nat} (h:d ≠ some k):(putT tmps d v)[k]? = tmps[k]?:=by
 cases d with
 | none=>rfl
 | some d=>simp only [putT];rw [Array.getElem?_setIfInBounds_ne (fun e=>h (by rw [e]))]
theorem putT_size {tmps:Array Value} {d:Option Tmp} {v:Value}:(putT tmps d v).size=tmps.size:=by cases d <;> simp [putT]
theorem okDst_ne {d:Option Tmp} (h:okDst d=true):d ≠ some 1/\d ≠ some 8/\d ≠ some 9:=by
 simp only [okDst,Bool.and_eq_true,bne_iff_ne,ne_eq] at h
 exact ⟨h.1.1,h.1.2,h.2⟩
theorem Sl.put {a:Act} {tmps:Array Value} (h:Sl a tmps) {d:Option Tmp} (hd:okDst d=true) (v:Value):Sl a (putT tmps d v):=by
 obtain ⟨h1,h8,h9⟩:=okDst_ne hd
 exact ⟨by rw [putT_size];exact h.size,(putT_get h1).trans h.lv,(putT_get h8).trans h.c1,(putT_get h9).trans h.c2⟩
theorem Sl.keeps {a:Act} {tmps tmps':Array Value} {S:Pairs} (h:Sl a tmps) (hS:∀ d,S.dst d->okDst d=true) (hk:Keeps S tmps tmps'):Sl a tmps':=by
 rcases hk with rfl | ⟨d,v,hd,rfl⟩
 ·exact h
 ·exact h.put (hS d hd) v
theorem fin_fr0 {fn:FuncId} {tmps:Array Value} {ops:Array Oper} {i:Nat} {t:List Nat} {k:List Item} {o:Oper} (ho:ops[i]? = some o) (v:Value) :
 (fr0 fn tmps (.inRegion ops (i::t)::k) .run).finish v=fr0 fn (putT tmps o.dst v) (.inRegion ops t::k) .run:=by
 simp only [fr0,Frame.finish,ho,Option.bind_some,putT]
 cases o.dst <;> rfl
theorem tr_region {S:Pairs} {opsL ops:Array Oper} {i:Nat} {t:List Nat} {kL k:List Item} (h:Cv.TR Try.prog S (.inRegion opsL (i::t)::kL) (.inRegion ops (i::t)::k)) :
 RegAt Try.prog S opsL ops i/\Cv.TR Try.prog S (.inRegion opsL t::kL) (.inRegion ops t::k):=by
 cases h with
 | cons hx hk =>
  cases hx with
  | inRegion _ hr=>exact ⟨hr i (by simp),.cons (.inRegion t fun j hj=>hr j (by simp [hj])) hk⟩
theorem o12_nocall:(o12 b18).all (fun o=>match o.op with | .call _=>false | _=>true)=true:=by kernel_rfl
theorem finish_rel {o:Option Act} {fn:FuncId} {tmps:Array Value} {todoL todo:List Item} (h:FR o fn tmps todoL todo) (hw:Waits todoL todo) (v:Value) :
 ∃ tmps' todoL' todo',(fr0 fn tmps todoL .run).finish v=fr0 fn tmps' todoL' .run/\(fr0 fn tmps todo .run).finish v=fr0 fn tmps' todo' .run/\FR o fn tmps' todoL' todo':=by
 obtain ⟨opsL,ops,i,t,kL,k,e1,e2,e,op,c,ho,hc⟩:=hw
 have hoL:=e.trans ho
 cases h with
 | plain hz h =>
  subst e1 e2
  exact ⟨_,_,_,fin_fr0 hoL v,fin_fr0 ho v,.plain (fun e=>by rw [putT_size];exact hz e) (tr_region h).2⟩
 | act hs h =>
  subst e1 e2
  refine ⟨_,_,_,fin_fr0 hoL v,fin_fr0 ho v,?_⟩
  obtain ⟨h1,h2⟩:=tr_region h
  rcases h1 with ⟨_,h3⟩ | h3
  ·exact .act (hs.put (h3 op ho).2.2 v) h2
  ·exact h3.elim
 | actB j hs h1 h6 h51 hk =>
  exfalso
  simp only [List.cons.injEq,Item.inRegion.injEq] at e2
  obtain ⟨⟨rfl,_⟩,_⟩:=e2
  obtain ⟨hl,he⟩:=Array.getElem?_eq_some_iff.1 ho
  have:=Array.all_eq_true.1 o12_nocall i hl
  rw [he,hc] at this
  cases this
inductive Nxt (S:Pairs) (fn:FuncId) (tmps:Array Value) (todoL todo:List Item) (XL X:List Frame):Frame->List Frame->Frame->List Frame->Prop
 | run (tmps':Array Value) (todoL' todo':List Item):Keeps S tmps tmps'->TailT tmps tmps' todoL todoL'->Tail todo todo'->Cv.TR Try.prog S todoL' todo'->Nxt S fn tmps todoL todo XL X (fr0 fn tmps' todoL' .run) XL (fr0 fn tmps' todo' .run) X
 | ret (todoL' todo':List Item):S.plain->Nxt S fn tmps todoL todo XL X (fr0 fn tmps todoL' .returning) XL (fr0 fn tmps todo' .returning) X
 | enter (f:FuncId) (args:Array Value):Waits todoL todo->Nxt S fn tmps todoL todo XL X (Frame.enter PL f args .normal) (fr0 fn tmps todoL .run::XL) (Frame.enter Try.prog f args .normal) (fr0 fn tmps todo .run::X)
theorem lst_mode {fr:Frame} {X:List Frame} (h:LSt Try.prog lfuncs fr X) {ch:List PanicEntry}:fr.mode ≠ .panicking ch:=by
 cases h with
 | mk hm _ _=>rcases hm with rfl | rfl <;> simp [fr0]
theorem WR.tp {wL w:World} (h:WR wL w) (d:Nat):WR (tp wL w.tape d) (w.at d):=⟨h.size,h.os,h.out,h.heap,h.noloop⟩
theorem sim1 {S:Pairs} {fn:FuncId} {tmps:Array Value} {todoL todo:List Item} {XL X:List Frame} {wL w:World} (hT:Cv.TR Try.prog S todoL todo) (hw:WR wL w)
 (hsp:∀ opsL ops i t kL k,todoL = .inRegion opsL (i::t)::kL->todo = .inRegion ops (i::t)::k->¬ S.op opsL ops i)
 (hsc:∀ cL c kL k,todoL = .code cL::kL->todo = .code c::k->¬ S.mid cL c) (hsl:∀ cL c,todoL=[.code cL]->todo=[.code c]->¬ S.code cL c)
 (htree:∀ t d,∃ fr' X' w' es,stepG PL true (G0 (fr0 fn tmps todoL .run) XL) (tp wL t d) = .go (G0 fr' X') w' es/\LSt Try.prog lfuncs fr' X') (d:Nat) :
 ∃ frL' XL' wL' es fr' X' w' es',stepG PL true (G0 (fr0 fn tmps todoL .run) XL) (tp wL w.tape d) = .go (G0 frL' XL') wL' es /\
  stepG Try.prog true (G0 (fr0 fn tmps todo .run) X) (w.at d) = .go (G0 fr' X') w' es'/\Nxt S fn tmps todoL todo XL X frL' XL' fr' X'/\WR wL' w'/\w'.tape=w.tape/\KeepC w w'/\∀ e ∈ es',EvOk e:=by
 have hm:=micro (fn:=fn) (tmps:=tmps) (XL:=XL) (X:=X) lone_ok.fns lone_ok.ahead lone_ok.noStep hT (WR.tp hw d) hsp hsc hsl
 obtain ⟨frL',XL',wL',es,e,hL⟩:=htree w.tape d
 rw [e] at hm
 generalize hg:GStep.go (G0 frL' XL') wL' es=st at hm
 cases hm with
 | ended o w' es'=>cases hg
 | panics tmps' todo' ch w' es' =>
  simp only [GStep.go.injEq,Goroutine.mk.injEq] at hg
  obtain ⟨⟨rfl,rfl,_⟩,_⟩:=hg
  exact absurd rfl (lst_mode hL)
 | run tmps' todoL' wL1 es1 hk ht hP =>
  simp only [GStep.go.injEq,Goroutine.mk.injEq] at hg
  obtain ⟨⟨rfl,rfl,_⟩,rfl,rfl⟩:=hg
  obtain ⟨c,h1,h2,h3⟩:=hP
  obtain ⟨fr',X',w',es',h4,⟨rfl,todo',rfl,h5,h6⟩,h7,h8,h9,h10,h11⟩:=h3 fun _ _=>rfl
  exact ⟨_,_,_,_,_,_,_,_,e,h4,.run _ _ _ hk ht h6 h5,h7,h8,h10,h11⟩
 | returns todoL' es1 hpl hP =>
  simp only [GStep.go.injEq,Goroutine.mk.injEq] at hg
  obtain ⟨⟨rfl,rfl,_⟩,rfl,rfl⟩:=hg
  obtain ⟨c,h1,h2,h3⟩:=hP
  obtain ⟨fr',X',w',es',h4,⟨rfl,todo',rfl⟩,h7,h8,h9,h10,h11⟩:=h3 fun _ _=>rfl
  exact ⟨_,_,_,_,_,_,_,_,e,h4,.ret _ _ hpl,h7,h8,h10,h11⟩
 | enter f args wL1 es1 opsL ops i t kL k hL1 hP1 he hc hP =>
  simp only [GStep.go.injEq,Goroutine.mk.injEq] at hg
  obtain ⟨⟨rfl,rfl,_⟩,rfl,rfl⟩:=hg
  obtain ⟨c,h1,h2,h3⟩:=hP
  obtain ⟨fr',X',w',es',h4,⟨rfl,rfl⟩,h7,h8,h9,h10,h11⟩:=h3 fun _ _=>rfl
  exact ⟨_,_,_,_,_,_,_,_,e,h4,.enter f args ⟨_,_,_,_,_,_,hL1,hP1,he,hc⟩,h7,h8,h10,h11⟩
variable {Good : Frame -> World -> Prop} {Post : Value -> World -> Prop}
theorem runs_tree {fr:Frame} {X:List Frame} {w:World} (h:Cv.Runs Try.prog lfuncs Good fr X w) (hf:¬ Cv.Fin Try.prog lfuncs fr X) (t:Nat->Question->Nat) (d:Nat) :
 ∃ fr' X' w' es,stepG PL true (G0 fr X) (tp w t d) = .go (G0 fr' X') w' es/\LSt Try.prog lfuncs fr' X':=by
 cases h with
 | fin h=>exact absurd h hf
 | step nx h1 h2 h3 h4 h5 h6=>exact ⟨_,_,_,_,h4 t d,h5 t d⟩
end Go.Proofs.Ytdadmhahbeehhaa
namespace Go.Proofs.Ytdadmhahbeehhaa
open Go Go.Conc Cv
open Go.ConcN (upd upd_same upd_ne)
section steps
variable {p : Program} {fn : FuncId} {tmps : Array Value} {X : List Frame} {k : List Item} {ops : Array Oper} {i : Nat} {t : List Nat}
theorem st_seq (a b:Code) (w:World):stepG p true (G0 (fr0 fn tmps (.code (.seq a b)::k) .run) X) w = .go (G0 (fr0 fn tmps (.code a::.code b::k) .run) X) w #[]:=by simp [stepG,stepG.exec,fr0]
theorem st_reg (id:Nat) (ops:Array Oper) (w:World):stepG p true (G0 (fr0 fn tmps (.code (.region id ops false)::k) .run) X) w = .go (G0 (fr0 fn tmps (.inRegion ops (List.range ops.size)::k) .run) X) w #[]:=by simp [stepG,stepG.exec,fr0]
theorem st_end (ops:Array Oper) (w:World):stepG p true (G0 (fr0 fn tmps (.inRegion ops []::k) .run) X) w = .go (G0 (fr0 fn tmps k .run) X) w #[]:=by simp [stepG,stepG.exec,fr0]
theorem seen_nil:seen p fn #[]=#[]:=by simp [seen]
theorem st_move {o:Oper} {x:Operand} (ho:ops[i]? = some o) (hg:o.guard=none) (hop:o.op = .move x \/ o.op = .assign x) (w:World) :
 stepG p true (G0 (fr0 fn tmps (.inRegion ops (i::t)::k) .run) X) w = .go (G0 (fr0 fn (putT tmps o.dst (evF fn tmps x)) (.inRegion ops t::k) .run) X) w #[]:=by
 rw [op_step ho (by simp [Region.wanted,hg])]
 have hr:(execOp (evF fn tmps) o).runT p w #[]=(.ok (.value (evF fn tmps x)) w,#[]):=by
  unfold execOp
  rcases hop with h | h <;> rw [h] <;> rfl
 rw [apply_value ho hr,seen_nil]
theorem st_pick {o:Oper} {x a b:Operand} {tt:Bool} (ho:ops[i]? = some o) (hg:o.guard=none) (hop:o.op = .pick x a b) (hx:evF fn tmps x = .bool tt) (w:World) :
 stepG p true (G0 (fr0 fn tmps (.inRegion ops (i::t)::k) .run) X) w = .go (G0 (fr0 fn (putT tmps o.dst (if tt then evF fn tmps a else evF fn tmps b)) (.inRegion ops t::k) .run) X) w #[]:=by
 rw [op_step ho (by simp [Region.wanted,hg])]
 have hr:(execOp (evF fn tmps) o).runT p w #[]=(.ok (.value (if tt then evF fn tmps a else evF fn tmps b)) w,#[]):=by
  unfold execOp
  rw [hop]
  simp only [hx,asBool]
  rfl
 rw [apply_value ho hr,seen_nil]
theorem st_leq {o:Oper} {x y:Operand} {t1 t2:TypeId} {a b:Int} (ho:ops[i]? = some o) (hg:o.guard=none) (hop:o.op = .binOp .leq t1 x y t2) (hx:evF fn tmps x = .int .i64 a) (hy:evF fn tmps y = .int .i64 b) (w:World) :
 stepG p true (G0 (fr0 fn tmps (.inRegion ops (i::t)::k) .run) X) w = .go (G0 (fr0 fn (putT tmps o.dst (.bool (decide (a<=b)))) (.inRegion ops t::k) .run) X) w #[]:=by
 rw [op_step ho (by simp [Region.wanted,hg])]
 have hr:(execOp (evF fn tmps) o).runT p w #[]=(.ok (.value (.bool (decide (a<=b)))) w,#[]):=by
  unfold execOp
  rw [hop]
  simp only [hx,hy]
  rfl
 rw [apply_value ho hr,seen_nil]
theorem st_leq_int {o:Oper} {x y:Operand} {t1 t2:TypeId} {b:Int} (ho:ops[i]? = some o) (hg:o.guard=none) (hop:o.op = .binOp .leq t1 x y t2) (hy:evF fn tmps y = .int .i64 b) {w:World} {g:Goroutine} {w':World} {es:Array Event}
 (hnp:∀ ch,g.frame.mode ≠ .panicking ch) (h:stepG p true (G0 (fr0 fn tmps (.inRegion ops (i::t)::k) .run) X) w = .go g w' es):∃ a,evF fn tmps x = .int .i64 a:=by
 rw [op_step ho (by simp [Region.wanted,hg])] at h
 generalize hv:evF fn tmps x=v
 cases v with
 | int kk a =>
  by_cases hk:kk = .i64
  ·exact ⟨a,by rw [hk]⟩
  ·exfalso
   have hr : (execOp (evF fn tmps) o).run p w = .halt (.stuck "BinOp: operands of different kinds") w := by
    unfold execOp
    rw [hop]
    simp only [hv,hy]
    simp [eqGuard,binOp,hk,go_sem]
   simp [stepG.apply,hr,fr0,GStep.after] at h
 | _ =>
  exfalso
  have hr:(∃ m,(execOp (evF fn tmps) o).run p w = .halt (.stuck m) w) \/ (execOp (evF fn tmps) o).run p w = .halt (.unsupported .addressObserved) w:=by
   unfold execOp
   rw [hop]
   simp only [hv,hy]
   simp [eqGuard,binOp,go_sem]
  rcases hr with ⟨m,hr⟩ | hr <;> simp [stepG.apply,hr,fr0,GStep.after] at h
theorem apply_comm {s:Sem Next} {w w':World} {es:Array Event} {cases_:Array CommCase} {bl:Bool} {sh:CommShape} (hr:s.runT p w #[]=(.ok (.comm cases_ bl sh) w',es)) :
 stepG.apply p true (fr0 fn tmps (.inRegion ops (i::t)::k) .run) X none s w = .comm (G0 (fr0 fn tmps (.inRegion ops (i::t)::k) .run) X) cases_ bl sh w' (seen p fn es):=by
 have hr1:s.run p w=_:=(Sem.runT_fst p s w #[]).symm.trans (congrArg Prod.fst hr)
 have hr2:s.events p w #[]=es:=congrArg Prod.snd hr
 simp only at hr1
 simp [stepG.apply,hr1,hr2,fr0,GStep.after]
theorem st_send {o:Oper} {x y:Operand} (ho:ops[i]? = some o) (hg:o.guard=none) (hop:o.op = .send x y) {c:Nat} {v:Value} (hx:evF fn tmps x = .chan (some c)) (hy:evF fn tmps y=v) (w:World) :
 stepG p true (G0 (fr0 fn tmps (.inRegion ops (i::t)::k) .run) X) w = .comm (G0 (fr0 fn tmps (.inRegion ops (i::t)::k) .run) X) #[scase c v (.tuple #[])] true .send w #[]:=by
 rw [op_step ho (by simp [Region.wanted,hg])]
 have hr:(execOp (evF fn tmps) o).runT p w #[]=(.ok (.comm #[scase c v (.tuple #[])] true .send) w,#[]):=by
  unfold execOp
  rw [hop]
  simp only [hx,hy]
  rfl
 rw [apply_comm hr,seen_nil]
theorem st_recv {o:Oper} {x:Operand} {dst:Option Tmp} {ty:TypeId} {pos:String} {af:Array Edge} (ho:ops[i]? = some o) (hO:o=⟨dst,.recv 62 x false,ty,pos,af,none⟩) {c:Nat} (hx:evF fn tmps x = .chan (some c)) (w:World) :
 stepG Try.prog true (G0 (fr0 fn tmps (.inRegion ops (i::t)::k) .run) X) w = .comm (G0 (fr0 fn tmps (.inRegion ops (i::t)::k) .run) X) #[rcase c (.int .i64 0)] true (.recv false) w #[]:=by
 subst hO
 rw [op_step ho (by simp [Region.wanted])]
 have h1:(execOp (evF fn tmps) ⟨dst,.recv 62 x false,ty,pos,af,none⟩).run Try.prog w = .ok (.comm #[rcase c (.int .i64 0)] true (.recv false)) w:=by
  simp [go_sem,execOp,rcase,hx]
 have h2:(execOp (evF fn tmps) ⟨dst,.recv 62 x false,ty,pos,af,none⟩).events Try.prog w #[]=#[]:=by
  simp [go_sem,execOp,hx]
 have hr:(execOp (evF fn tmps) ⟨dst,.recv 62 x false,ty,pos,af,none⟩).runT Try.prog w #[]=(.ok (.comm #[rcase c (.int .i64 0)] true (.recv false)) w,#[]):=Prod.ext ((Sem.runT_fst _ _ _ _).trans h1) h2
 rw [apply_comm hr,seen_nil]
end steps
end Go.Proofs.Ytdadmhahbeehhaa
namespace Go.Proofs.Ytdadmhahbeehhaa
open Go Go.Conc Cv
open Go.ConcN (upd upd_same upd_ne)
theorem opAt {ops:Array Oper} {i:Nat} {d:Option Tmp} {op:Op} (h1:(ops[i]?).isSome=true) (h2:((ops[i]?).getD default).op=op) (h3:((ops[i]?).getD default).dst=d) (h4:((ops[i]?).getD default).guard.isNone=true) :
 ∃ o,ops[i]? = some o/\o.op=op/\o.dst=d/\o.guard=none:=by
 cases e:ops[i]? with
 | none=>rw [e] at h1;cases h1
 | some o =>
  rw [e] at h2 h3 h4
  exact ⟨o,rfl,h2,h3,by simpa using h4⟩
noncomputable def o13 (b:Code):Array Oper:=(regOps 13 b).getD #[]
theorem r13_eq:r13 b18 = .seq (.region 13 (o13 b18) false) (cr (r13 b18)):=by kernel_rfl
theorem o13_size:(o13 b18).size=5:=by kernel_rfl
theorem o13_0:∃ o,(o13 b18)[0]? = some o/\o.op = .move (.tmp 10)/\o.dst=some 57/\o.guard=none:=opAt (by kernel_rfl) (by kernel_rfl) (by kernel_rfl) (by kernel_rfl)
theorem o13_1:∃ o,(o13 b18)[1]? = some o/\o.op = .move (.tmp 12)/\o.dst=some 58/\o.guard=none:=opAt (by kernel_rfl) (by kernel_rfl) (by kernel_rfl) (by kernel_rfl)
theorem o13_2:∃ o,(o13 b18)[2]? = some o/\o.op = .move (.tmp 9)/\o.dst=some 59/\o.guard=none:=opAt (by kernel_rfl) (by kernel_rfl) (by kernel_rfl) (by kernel_rfl)
theorem o13_3:∃ o,(o13 b18)[3]? = some o/\o.op = .recv 62 (.tmp 59) false/\o.dst=some 60/\o.guard=none:=opAt (by kernel_rfl) (by kernel_rfl) (by kernel_rfl) (by kernel_rfl)
theorem o12_6:∃ o,(o12 b18)[6]? = some o/\o.op = .send (.tmp 51) (.tmp 56)/\o.dst=none/\o.guard=none:=opAt (by kernel_rfl) (by kernel_rfl) (by kernel_rfl) (by kernel_rfl)
structure AOk (N0:Nat) (A:List Act) (w:World) (Inb:Nat->Option Seat):Prop where
 zero:Inb 0=none
 seat:∀ a ∈ A,a.j ≠ 0/\Inb a.j=some (seatW a.lv a.c1 a.c2)
 only:∀ i s,i ≠ 0->Inb i=some s->∃ a ∈ A,a.j=i
 two:∀ a ∈ A,N0<=a.c1/\N0<=a.c2/\a.c1 ≠ a.c2/\∃ k,w.heap[a.c2]? = some (.chan 0 #[] false k k false)
 apart:A.Pairwise fun a b=>a.j ≠ b.j/\a.c1 ≠ b.c1/\a.c1 ≠ b.c2/\a.c2 ≠ b.c1/\a.c2 ≠ b.c2
structure WC (a:Act) (w w':World):Prop where
 tape:w'.tape=w.tape
 os:w'.os=w.os
 out:w'.output=w.output
 size:w'.heap.size=w.heap.size
 heap:∀ b:Nat,w'.heap[b]? = w.heap[b]? \/ ((b=a.c1 \/ b=a.c2)/\∃ o o':Obj,w.heap[b]? = some o/\o.isChan=true/\w'.heap[b]? = some o'/\o'.isChan=true)
theorem WC.refl (a:Act) (w:World):WC a w w:=⟨rfl,rfl,rfl,rfl,fun _=>.inl rfl⟩
theorem WC.at {a:Act} {w w':World} (h:WC a w w') (d:Nat):WC a w (w'.at d):=⟨h.tape,h.os,h.out,h.size,h.heap⟩
theorem WC.trans {a:Act} {w w' w'':World} (h:WC a w w') (g:WC a w' w''):WC a w w'':=by
 refine ⟨g.tape.trans h.tape,g.os.trans h.os,g.out.trans h.out,g.size.trans h.size,fun b=>?_⟩
 rcases g.heap b with e | ⟨hb,o,o',e1,e2,e3,e4⟩
 ·rcases h.heap b with f | ⟨hb,o,o',f1,f2,f3,f4⟩
  ·exact .inl (e.trans f)
  ·exact .inr ⟨hb,o,o',f1,f2,e.trans f3,f4⟩
 ·rcases h.heap b with f | ⟨hb',p,p',f1,f2,f3,f4⟩
  ·exact .inr ⟨hb,o,o',f ▸ e1,e2,e3,e4⟩
  ·exact .inr ⟨hb,p,o',f1,f2,e3,e4⟩
theorem WC.chan {a:Act} {w:World} {c:Nat} (hc:c=a.c1 \/ c=a.c2) {o:Obj} (ho:w.heap[c]? = some o) (hch:o.isChan=true) (cap:Nat) (buf:Array Value) (cl:Bool) (s r:Nat) (tm:Bool):WC a w (w.setChan c cap buf cl s r tm):=by
 refine ⟨rfl,rfl,rfl,by simp [World.setChan],fun b=>?_⟩
 by_cases e:b=c
 ·subst e
  exact .inr ⟨hc,o,_,ho,hch,heap_setChan_self w ho _ _ _ _ _ _,rfl⟩
 ·exact .inl (heap_setChan_ne w _ _ _ _ _ _ (fun z=>e z.symm))
theorem WC.wr {a:Act} {wL w w':World} (h:WC a w w') (hw:WR wL w):WR wL w':=by
 refine ⟨hw.size.trans h.size.symm,hw.os.trans h.os.symm,hw.out.trans h.out.symm,fun b=>?_,hw.noloop⟩
 rcases h.heap b with e | ⟨_,o,o',e1,e2,e3,e4⟩
 ·rw [e];exact hw.heap b
 ·rcases hw.heap b with f | ⟨x,y,f1,f2,f3,f4⟩
  ·exact .inr ⟨o,o',f.trans e1,e3,e2,isOp_of e4⟩
  ·exact .inr ⟨x,o',f1,e3,f3,isOp_of e4⟩
theorem AOk.only' {N0:Nat} {A:List Act} {w:World} {Inb:Nat->Option Seat} (H:AOk N0 A w Inb) {i:Nat} {s:Seat} (hi:i ≠ 0) (e:Inb i=some s):∃ a ∈ A,a.j=i/\s=seatW a.lv a.c1 a.c2:=by
 obtain ⟨a,ha,rfl⟩:=H.only i s hi e
 exact ⟨a,ha,rfl,Option.some.inj (e.symm.trans (H.seat a ha).2)⟩
theorem AOk.head_ne {N0:Nat} {a:Act} {A:List Act} {w:World} {Inb:Nat->Option Seat} (H:AOk N0 (a::A) w Inb) {b:Act} (hb:b ∈ a::A):b.c1 ≠ a.c2:=by
 rcases List.mem_cons.1 hb with rfl | hb
 ·exact (H.two b (by simp)).2.2.1
 ·exact fun e=>((List.pairwise_cons.1 H.apart).1 b hb).2.2.2.1 e.symm
theorem seatW_has {lv:Int} {c1 c2 c:Nat}:(seatW lv c1 c2).has c ↔ c=c1:=Seat.one_has
theorem goesK {B:Nat} {Stop:Goroutine->World->Prop} {n:Nat} {fr fr':Frame} {X X':List Frame} {w:World} (h:∀ w,stepG Try.prog true (G0 fr X) w = .go (G0 fr' X') w #[]) (hn:∀ w,Goes Try.prog true (RK K0) (DS S0 B) Stop n (G0 fr' X') w) :
 Goes Try.prog true (RK K0) (DS S0 B) Stop (n+1) (G0 fr X) w:=Goes.step rfl fun w₁ _=>by rw [h];exact ⟨ds_none _,hn _⟩
theorem served_fr0 {fn:FuncId} {tmps:Array Value} {ops:Array Oper} {i:Nat} {t:List Nat} {k:List Item} {X:List Frame} {o:Oper} (ho:ops[i]? = some o) (v:Value) :
 Go.Conc.served (G0 (fr0 fn tmps (.inRegion ops (i::t)::k) .run) X) v=G0 (fr0 fn (putT tmps o.dst v) (.inRegion ops t::k) .run) X:=by
 have:=fin_fr0 (fn:=fn) (tmps:=tmps) (t:=t) (k:=k) ho v
 show ({ frame:=_,callers:=_,status:=_,dying:=_,offers:=_ }:Goroutine)=_
 simp only [G0,this]
def tRecv (tmps:Array Value) (c2:Nat):Array Value:=putT (putT (putT tmps (some 57) (tmps.getD 10 undef)) (some 58) (tmps.getD 12 undef)) (some 59) (.chan (some c2))
noncomputable def gRecv (tmps:Array Value) (c2:Nat) (k:List Item) (X:List Frame):Goroutine:=G0 (fr0 18 (tRecv tmps c2) (.inRegion (o13 b18) [3,4]::.code (cr (r13 b18))::k) .run) X
noncomputable def seat0 (tmps:Array Value) (c2:Nat) (k:List Item) (X:List Frame):Seat:=Seat.one c2 (.int .i64 0) false fun g=>g=gRecv tmps c2 k X
theorem getD_of {tmps:Array Value} {i:Nat} {v:Value} (h:tmps[i]? = some v):tmps.getD i undef=v:=by rw [Array.getD_eq_getD_getElem?,h];rfl
theorem evF_tmp (fn:FuncId) (tmps:Array Value) (i:Nat):evF fn tmps (.tmp i)=tmps.getD i undef:=rfl
theorem to_seat0 {B:Nat} {a:Act} {tmps:Array Value} {k:List Item} {X:List Frame} (hs:Sl a tmps) (w:World):Sits Try.prog true K0 S0 B (seat0 tmps a.c2 k X) 8 (G0 (fr0 18 tmps (.inRegion (o12 b18) []::.code (r13 b18)::k) .run) X):=by
 refine .inl ⟨7,w,rfl,?_⟩
 refine goesK (st_end _) fun w=>?_
 rw [r13_eq]
 refine goesK (st_seq _ _) fun w=>goesK (st_reg _ _) fun w=>?_
 rw [o13_size,show List.range 5=[0,1,2,3,4] from rfl]
 obtain ⟨o0,h0,p0,d0,g0⟩:=o13_0
 obtain ⟨o1,h1,p1,d1,g1⟩:=o13_1
 obtain ⟨o2,h2,p2,d2,g2⟩:=o13_2
 obtain ⟨o3,h3,p3,d3,g3⟩:=o13_3
 refine goesK (st_move h0 g0 (.inl p0)) fun w=>goesK (st_move h1 g1 (.inl p1)) fun w=>goesK (st_move h2 g2 (.inl p2)) fun w=>?_
 rw [d0,d1,d2,evF_tmp,evF_tmp,evF_tmp]
 have e1:(putT tmps (some 57) (tmps.getD 10 undef)).getD 12 undef=tmps.getD 12 undef:=by
  rw [Array.getD_eq_getD_getElem?,putT_get (by simp),<-Array.getD_eq_getD_getElem?]
 have e2:(putT (putT tmps (some 57) (tmps.getD 10 undef)) (some 58) (tmps.getD 12 undef)).getD 9 undef = .chan (some a.c2):=by
  rw [Array.getD_eq_getD_getElem?,putT_get (by simp),putT_get (by simp),hs.c2];rfl
 rw [e1,e2]
 have hx:evF 18 (tRecv tmps a.c2) (.tmp 59) = .chan (some a.c2):=by
  rw [evF_tmp,Array.getD_eq_getD_getElem?]
  have hsz:70<=(putT (putT tmps (some 57) (tmps.getD 10 undef)) (some 58) (tmps.getD 12 undef)).size:=by rw [putT_size,putT_size];exact hs.size
  simp only [tRecv,putT]
  rw [Array.getElem?_setIfInBounds_self_of_lt (by have:=hs.size;simp;omega)];rfl
 obtain ⟨ds,op,ty,pos,af,gd⟩:=o3
 simp only at p3 d3 g3
 subst p3 d3 g3
 refine Goes.stop fun w₁ _=>⟨gRecv tmps a.c2 k X,rfl,rfl,rfl,rfl,rfl,#[],by simp,fun w _=>?_⟩
 exact st_recv h3 rfl hx w
theorem unseat {B:Nat} {Mem:Nat->Prop} {Inb:Nat->Option Seat} {T:Trace} {gs:Array Goroutine} {w:World} {q:Nat->Nat} (C:RingC Try.prog B Mem Inb 0 T gs w q):RingC Try.prog B Mem (upd Inb 0 none) 0 T gs w q:=by
 have hne:∀ i s,upd Inb 0 none i=some s->i ≠ 0/\Inb i=some s:=fun i s e=>by
  by_cases h:i=0
  ·subst h;rw [upd_same] at e;cases e
  ·rw [upd_ne _ _ h] at e;exact ⟨h,e⟩
 refine ⟨fun i g hi hg=>?_,fun i s c hd e hc=>C.chans i s c hd (hne i s e).2 hc,fun i s e=>C.wf i s (hne i s e).2,C.live,fun i i' s s' c e e'=>C.inj i i' s s' c (hne i s e).2 (hne i' s' e').2,C.above,fun i s e=>C.mem i s (hne i s e).2,fun i hM=>?_,fun i s hi e=>?_,?_,C.keep⟩
 ·have hi':i ≠ 0:=hi
  rw [upd_ne _ _ hi'];exact C.idle i g hi hg
 ·by_cases h:i=0
  ·exact .inr h
  ·rw [upd_ne _ _ h];exact C.nomem i hM
 ·exact ⟨hi,by rw [e];rfl⟩
 ·exact PastG.loosen C.past fun g ⟨h1,h2⟩=>⟨h1,by rw [upd_ne _ _ h1];exact h2⟩
theorem upd_upd0 {Inb:Nat->Option Seat} {s:Option Seat} (h:Inb 0=none):upd (upd Inb 0 s) 0 none=Inb:=by
 funext i
 by_cases e:i=0
 ·subst e;rw [upd_same,h]
 ·rw [upd_ne _ _ e,upd_ne _ _ e]
set_option maxHeartbeats 1000000 in
theorem serve {N0:Nat} {a:Act} {A:List Act} {w:World} {Inb:Nat->Option Seat} {B:Nat} {Mem:Nat->Prop} {T:Trace} {gs:Array Goroutine} {q:Nat->Nat} {sl:Option (Nat × Nat)} {tmps:Array Value} {k:List Item} {X:List Frame} {n:Int}
 (H:AOk N0 (a::A) w Inb) (C:RingC Try.prog B Mem Inb 0 T gs w q) (hM:Mem 0) (hgs:gs[0]? = some (G0 (fr0 18 tmps (.inRegion (o12 b18) [6]::.code (r13 b18)::k) .run) X))
 (hlt:a.j<gs.size) (hs:Sl a tmps) (h51:tmps[51]? = some (.chan (some a.c1))) (h56:tmps[56]? = some (.int .i64 n)) :
 ∃ N gs' w' sl' T' q' B' Mem',runNT Try.prog N (crowd gs w sl) T=(.next (crowd gs' w' sl'),T')/\gs'.size=gs.size /\
  gs'[0]? = some (G0 (fr0 18 (putT (tRecv tmps a.c2) (some 60) (.int .i64 (ans a.lv n))) (.inRegion (o13 b18) [4]::.code (cr (r13 b18))::k) .run) X) /\
  RingC Try.prog B' Mem' Inb 0 T' gs' w' q'/\Mem' 0/\AOk N0 (a::A) w' Inb/\WC a w w':=by
 obtain ⟨hj,hseat⟩:=H.seat a (by simp)
 obtain ⟨hN1,hN2,h12,kc,hc2⟩:=H.two a (by simp)
 have hb:(a.j == 0)=false:=by simp [hj]
 let s0:=seat0 tmps a.c2 k X
 have hs0:∀ c,s0.has c ↔ c=a.c2:=fun c=>Seat.one_has
 have C1:RingC Try.prog (max B (a.c2+1)) Mem (upd Inb 0 (some s0)) 0 T gs w q:=(Ring.monoB (B':=max B (a.c2+1)) C (by omega)).reseat hM s0 (Seat.one_wf _ _ _ _)
  (fun i s' c hi e hc=>by
   obtain ⟨b,hb',rfl,rfl⟩:=H.only' hi e
   rw [seatW_has] at hc
   rw [hs0]
   subst hc
   exact H.head_ne hb')
  (fun c hc=>by rw [hs0] at hc;subst hc;exact ⟨_,_,hc2⟩) (fun c hc=>by rw [hs0] at hc;omega)
 obtain ⟨o6,h6,p6,d6,g6⟩:=o12_6
 have hsend:∀ d,stepG Try.prog (0 == 0) (G0 (fr0 18 tmps (.inRegion (o12 b18) [6]::.code (r13 b18)::k) .run) X) (w.at d) = .comm (G0 (fr0 18 tmps (.inRegion (o12 b18) [6]::.code (r13 b18)::k) .run) X) #[scase a.c1 (.int .i64 n) (.tuple #[])] true .send (w.at d) #[]:=fun d =>
  st_send h6 g6 p6 (getD_of h51) (getD_of h56) _
 have hafter:∀ T',Deaf T' 0=0->Idle Try.prog K0 S0 (max B (a.c2+1)) T' 0 8 (Go.Conc.served (G0 (fr0 18 tmps (.inRegion (o12 b18) [6]::.code (r13 b18)::k) .run) X) undef) (upd Inb 0 (some s0) 0):=fun T' _=>by
  rw [upd_same,served_fr0 h6,d6]
  exact to_seat0 hs w
 obtain ⟨N1,m1,T1,r1,gs1,g1,d1,k1,cap1,sl1,q1,rfl,z1,hg1,hhome1,hch1,C2⟩:=give (sl:=sl) (j:=a.j) (s:=seatW a.lv a.c1 a.c2) (c:=a.c1) (kk:=0) (z:=.int .i64 0) (K:=K0) (fun _ _ _=>trivial) (fun _ _ _ _ _ _ _ _ _ _ _ _ _=>trivial) hj hlt (by rw [upd_ne _ _ hj];exact hseat) rfl hM hgs rfl hsend (by simp) C1
  (Inb':=upd Inb 0 (some s0)) (fun _ _=>rfl) (.inl rfl) (nh:=8) hafter
 obtain ⟨j3,j4,j5,j6,j8,j9,j10,j11,j12,j13,j14,j15,j16,rfl⟩:=hhome1
 have hWC1:WC a w ((w.at d1).setChan a.c1 cap1 #[] false (k1+1) (k1+1) false):=((WC.refl a w).at d1).trans (WC.chan (.inl rfl) (w:=w.at d1) hch1 rfl _ _ _ _ _ _)
 have hwalk:=goes_quiet' (w_serve (max B (a.c2+1)) a.lv a.c1 a.c2 j3 j4 j5 j6 j8 j9 j10 j11 j12 j13 j14 j15 j16 n ((w.at d1).setChan a.c1 cap1 #[] false (k1+1) (k1+1) false))
 obtain ⟨N2,gs2,a2,w2,sl2,T2,q2,r2,z2,hg2,⟨⟨d2,rfl⟩,hrun2,g2,z2',es2,hes2,hsend2,hS2⟩,C3⟩:=hold_walk (sl:=sl1) (h:=a.j) (fun _ _ _=>trivial) (dq_dh (K:=K0) _) hg1 C2 (by rw [hb];exact hwalk)
 obtain ⟨N3,m3,T3,r3,gs3,g3,d3,k3,cap3,sl3,q3,rfl,z3,hg3,hhome3,hch3,C4⟩:=give (sl:=sl2) (h:=a.j) (j:=0) (s:=s0) (c:=a.c2) (kk:=0) (z:=.int .i64 0) (K:=K0) (fun _ _ _=>trivial) (fun _ _ _ _ _ _ _ _ _ _ _ _ _=>trivial) (fun e=>hj e.symm) (by omega) (upd_same _ _ _) rfl
  ⟨(C1.mem a.j _ (by rw [upd_ne _ _ hj];exact hseat)).1,.inr rfl⟩ hg2 hrun2 (by rw [hb];exact hsend2) hes2 C3
  (Inb':=upd Inb 0 (some s0)) (fun _ _=>rfl) (.inl rfl) (nh:=10) (fun T' _=>by
   rw [upd_ne _ _ hj,hseat]
   show Sits Try.prog (a.j == 0) K0 S0 _ _ 10 _
   rw [hb];exact hS2)
 obtain rfl:g3=gRecv tmps a.c2 k X:=hhome3
 obtain ⟨o3,h3,p3,dd3,gg3⟩:=o13_3
 refine ⟨N1+N2+N3,gs3,_,sl3,T3,q3,_,_,runNT_then (runNT_then r1 r2) r3,by omega,?_,(upd_upd0 (s:=some s0) H.zero) ▸ unseat C4,⟨⟨hM,.inl (by rw [upd_same];simp)⟩,.inr rfl⟩,?_,?_⟩
 ·rw [hg3]
  have e:=served_fr0 (fn:=18) (tmps:=tRecv tmps a.c2) (t:=[4]) (k:=.code (cr (r13 b18))::k) (X:=X) h3 (.int .i64 (ans a.lv n))
  rw [dd3] at e
  exact congrArg some e
 ·have hw3:∀ b:Nat,b ≠ a.c1->b ≠ a.c2->(((((w.at d1).setChan a.c1 cap1 #[] false (k1+1) (k1+1) false).at d2).at d3).setChan a.c2 cap3 #[] false (k3+1) (k3+1) false).heap[b]? = w.heap[b]?:=fun b h1 h2=>by
   rw [heap_setChan_ne _ _ _ _ _ _ _ (fun z=>h2 z.symm)]
   exact heap_setChan_ne (w.at d1) _ _ _ _ _ _ (fun z=>h1 z.symm)
  refine ⟨H.zero,H.seat,H.only,fun b hb'=>?_,H.apart⟩
  ·obtain ⟨x1,x2,x3,kb,x4⟩:=H.two b hb'
   refine ⟨x1,x2,x3,?_⟩
   rcases List.mem_cons.1 hb' with rfl | hbA
   ·refine ⟨k3+1,?_⟩
    have hcap:cap3=0:=by
     have e1:((w.at d1).setChan b.c1 cap1 #[] false (k1+1) (k1+1) false).heap[b.c2]? = w.heap[b.c2]?:=heap_setChan_ne (w.at d1) _ _ _ _ _ _ h12
     have e2:((w.at d1).setChan b.c1 cap1 #[] false (k1+1) (k1+1) false).heap[b.c2]? = some (.chan cap3 #[] false k3 k3 false):=hch3
     rw [e1,x4] at e2
     simp only [Option.some.injEq,Obj.chan.injEq] at e2
     exact e2.1.symm
    subst hcap
    exact heap_setChan_self _ hch3 _ _ _ _ _ _
   ·obtain ⟨_,_,y2,_,y4⟩:=(List.pairwise_cons.1 H.apart).1 b hbA
    exact ⟨kb,by rw [hw3 b.c2 (fun z=>y2 z.symm) (fun z=>y4 z.symm)];exact x4⟩
 ·exact ((hWC1.at d2).at d3).trans (WC.chan (.inr rfl) (w:=(((w.at d1).setChan a.c1 cap1 #[] false (k1+1) (k1+1) false).at d2).at d3) hch3 rfl _ _ _ _ _ _)
noncomputable def o16 (b:Code):Array Oper:=(regOps 16 b).getD #[]
noncomputable def o17 (b:Code):Array Oper:=(regOps 17 b).getD #[]
noncomputable def r17 (b:Code):Code:=cr (c3 b)
noncomputable def r18 (b:Code):Code:=cr (r17 b)
theorem c3_eq:c3 b18 = .seq (.region 16 (o16 b18) false) (r17 b18):=by kernel_rfl
theorem r17_eq:r17 b18 = .seq (.region 17 (o17 b18) false) (r18 b18):=by kernel_rfl
theorem o16_size:(o16 b18).size=2:=by kernel_rfl
theorem o17_size:(o17 b18).size=2:=by kernel_rfl
theorem o16_0:∃ o,(o16 b18)[0]? = some o/\o.op = .move (.tmp 8)/\o.dst=some 66/\o.guard=none:=opAt (by kernel_rfl) (by kernel_rfl) (by kernel_rfl) (by kernel_rfl)
theorem o16_1:∃ o,(o16 b18)[1]? = some o/\o.op = .call { callee:=.builtin .close,args:=#[.tmp 66],argTypes:=#[62] }/\o.dst=none/\o.guard=none:=opAt (by kernel_rfl) (by kernel_rfl) (by kernel_rfl) (by kernel_rfl)
theorem o17_0:∃ o,(o17 b18)[0]? = some o/\o.op = .move (.tmp 9)/\o.dst=some 67/\o.guard=none:=opAt (by kernel_rfl) (by kernel_rfl) (by kernel_rfl) (by kernel_rfl)
theorem o17_1:∃ o,(o17 b18)[1]? = some o/\o.op = .recv 62 (.tmp 67) false/\o.dst=some 68/\o.guard=none:=opAt (by kernel_rfl) (by kernel_rfl) (by kernel_rfl) (by kernel_rfl)
theorem loud18:(Try.prog.funcs[(base 18).fn]?).any (·.norace)=false:=by kernel_rfl
theorem goesQ {B:Nat} {Stop:Goroutine->World->Prop} {n:Nat} {fr fr':Frame} {X X':List Frame} {w:World} (h:∀ w,stepG Try.prog true (G0 fr X) w = .go (G0 fr' X') w #[]) (hn:∀ w,Goes Try.prog true AtRel (DQ S0 B) Stop n (G0 fr' X') w) :
 Goes Try.prog true AtRel (DQ S0 B) Stop (n+1) (G0 fr X) w:=Goes.step rfl fun w₁ _=>by rw [h];exact ⟨dq_none _,hn _⟩
def t66 (tmps:Array Value) (a:Act):Array Value:=putT tmps (some 66) (.chan (some a.c1))
def t67 (tmps:Array Value) (a:Act):Array Value:=putT (t66 tmps a) (some 67) (.chan (some a.c2))
noncomputable def gLast (tmps:Array Value) (a:Act) (k:List Item) (X:List Frame):Goroutine:=G0 (fr0 18 (t67 tmps a) (.inRegion (o17 b18) [1]::.code (r18 b18)::k) .run) X
noncomputable def seat3 (tmps:Array Value) (a:Act) (k:List Item) (X:List Frame):Seat:=Seat.one a.c2 (.int .i64 0) false fun g=>g=gLast tmps a k X
theorem to_seat3 {B:Nat} {a:Act} {tmps:Array Value} {k:List Item} {X:List Frame} (hs:Sl a tmps) (w:World):Sits Try.prog true K0 S0 B (seat3 tmps a k X) 8 (G0 (fr0 18 (t66 tmps a) (.inRegion (o16 b18) []::.code (r17 b18)::k) .run) X):=by
 refine .inl ⟨7,w,rfl,?_⟩
 refine goesK (st_end _) fun w=>?_
 rw [r17_eq]
 refine goesK (st_seq _ _) fun w=>goesK (st_reg _ _) fun w=>?_
 rw [o17_size,show List.range 2=[0,1] from rfl]
 obtain ⟨o0,h0,p0,d0,g0⟩:=o17_0
 obtain ⟨o3,h3,p3,d3,g3⟩:=o17_1
 refine goesK (st_move h0 g0 (.inl p0)) fun w=>?_
 have e2:evF 18 (t66 tmps a) (.tmp 9) = .chan (some a.c2):=by
  rw [evF_tmp];exact getD_of ((putT_get (by simp)).trans hs.c2)
 rw [d0,e2]
 have hx:evF 18 (t67 tmps a) (.tmp 67) = .chan (some a.c2):=by
  rw [evF_tmp,Array.getD_eq_getD_getElem?]
  have hsz:70<=(t66 tmps a).size:=by rw [t66,putT_size];exact hs.size
  simp only [t67,putT]
  rw [Array.getElem?_setIfInBounds_self_of_lt (by omega)];rfl
 obtain ⟨ds,op,ty,pos,af,gd⟩:=o3
 simp only at p3 d3 g3
 subst p3 d3 g3
 exact Goes.stop fun w₁ _=>⟨gLast tmps a k X,rfl,rfl,rfl,rfl,rfl,#[],by simp,fun w _=>st_recv h3 rfl hx w⟩
theorem at_shut {B:Nat} {a:Act} {tmps:Array Value} {k:List Item} {X:List Frame} (hs:Sl a tmps) (w:World) :
 Goes Try.prog true AtRel (DQ S0 B) (AtShut Try.prog true a.c1 fun g=>g=G0 (fr0 18 (t66 tmps a) (.inRegion (o16 b18) []::.code (r17 b18)::k) .run) X) 3 (G0 (fr0 18 tmps (.code (c3 b18)::k) .run) X) w:=by
 rw [c3_eq]
 refine goesQ (st_seq _ _) fun w=>goesQ (st_reg _ _) fun w=>?_
 rw [o16_size,show List.range 2=[0,1] from rfl]
 obtain ⟨o0,h0,p0,d0,g0⟩:=o16_0
 obtain ⟨o1,h1,p1,d1,g1⟩:=o16_1
 refine goesQ (st_move h0 g0 (.inl p0)) fun w=>?_
 have e2:evF 18 tmps (.tmp 8) = .chan (some a.c1):=getD_of hs.c1
 rw [d0,e2]
 refine Goes.stop fun w₁ h₁=>?_
 have hx:(⟨t66 tmps a,[]⟩:Go.Act).eval (.tmp 66) = .chan (some a.c1):=by
  show (t66 tmps a).getD 66 undef=_
  rw [Array.getD_eq_getD_getElem?]
  simp only [t66,putT]
  rw [Array.getElem?_setIfInBounds_self_of_lt (by have:=hs.size;omega)];rfl
 have:=atShut_of (P:=Try.prog) (main:=true) (b:=base 18) (a:=⟨t66 tmps a,[]⟩) (kk:=.code (r17 b18)::k) (cs:=X) (ops:=o16 b18) (i:=1) (rest:=[]) (o:=o1) (After:=fun g=>g=G0 (fr0 18 (t66 tmps a) (.inRegion (o16 b18) []::.code (r17 b18)::k) .run) X)
  h1 (by simp [Region.wanted,g1]) (by decide) p1 hx loud18 (by
   show mayWake Try.prog (G0 (fr0 18 (t66 tmps a) (.inRegion (o16 b18) [1]::.code (r17 b18)::k) .run) X)=true
   simp [mayWake,fr0,h1,p1]) (by rw [d1];rfl) w₁
 exact this
set_option maxHeartbeats 1000000 in
theorem leave {N0:Nat} {a:Act} {A:List Act} {w:World} {Inb:Nat->Option Seat} {B:Nat} {Mem:Nat->Prop} {T:Trace} {gs:Array Goroutine} {q:Nat->Nat} {sl:Option (Nat × Nat)} {tmps:Array Value} {k:List Item} {X:List Frame}
 (H:AOk N0 (a::A) w Inb) (C:RingC Try.prog B Mem Inb 0 T gs w q) (hM:Mem 0) (hgs:gs[0]? = some (G0 (fr0 18 tmps (.code (c3 b18)::k) .run) X)) (hlt:a.j<gs.size) (hs:Sl a tmps) :
 ∃ N gs' w' sl' T' q' B' Mem',runNT Try.prog N (crowd gs w sl) T=(.next (crowd gs' w' sl'),T')/\gs'.size=gs.size /\
  gs'[0]? = some (G0 (fr0 18 (putT (t67 tmps a) (some 68) (.int .i64 0)) (.inRegion (o17 b18) []::.code (r18 b18)::k) .run) X) /\
  RingC Try.prog B' Mem' (upd Inb a.j none) 0 T' gs' w' q'/\Mem' 0/\AOk N0 A w' (upd Inb a.j none)/\WC a w w':=by
 obtain ⟨hj,hseat⟩:=H.seat a (by simp)
 obtain ⟨hN1,hN2,h12,kc,hc2⟩:=H.two a (by simp)
 have hb:(a.j == 0)=false:=by simp [hj]
 let s3:=seat3 tmps a k X
 have hs3:∀ c,s3.has c ↔ c=a.c2:=fun c=>Seat.one_has
 have C1:RingC Try.prog (max B (a.c2+1)) Mem (upd Inb 0 (some s3)) 0 T gs w q:=(Ring.monoB (B':=max B (a.c2+1)) C (by omega)).reseat hM s3 (Seat.one_wf _ _ _ _)
  (fun i s' c hi e hc=>by
   obtain ⟨b,hb',rfl,rfl⟩:=H.only' hi e
   rw [seatW_has] at hc
   rw [hs3]
   subst hc
   exact H.head_ne hb')
  (fun c hc=>by rw [hs3] at hc;subst hc;exact ⟨_,_,hc2⟩) (fun c hc=>by rw [hs3] at hc;omega)
 obtain ⟨N1,gs1,a1,w1,sl1,T1,q1,r1,z1,hg1,⟨⟨d1,rfl⟩,hrun1,hwake1,a1',ha1',hclose1,rfl⟩,C2⟩:=hold_walk (sl:=sl) (h:=0) (fun _ _ _=>trivial) (dq_dh (K:=K0) _) hgs C1 (goes_quiet' (at_shut (B:=max B (a.c2+1)) (k:=k) (X:=X) hs w))
 have hseat1:upd Inb 0 (some s3) a.j=some (seatW a.lv a.c1 a.c2):=by rw [upd_ne _ _ hj];exact hseat
 obtain ⟨cap1,k1,hk1⟩:=C2.chans a.j (seatW a.lv a.c1 a.c2) a.c1 (fun z=>z) hseat1 (seatW_has.2 rfl)
 let Inb1:=upd (upd Inb 0 (some s3)) a.j none
 obtain ⟨N2,gs2,g2,d2,sl2,T2,q2,r2,z2,hg2,hhome2,C3⟩:=give_close (sl:=sl1) (j:=a.j) (s:=seatW a.lv a.c1 a.c2) (c:=a.c1) (kk:=0) (z:=.int .i64 0) (K:=K0) (fun _ _ _=>trivial) (fun _ _ _ _ _ _ _ _ _ _ _ _ _=>trivial) hj (by omega) hseat1 rfl hM hg1 hrun1 hwake1 ha1' hk1 (hclose1 cap1 k1 hk1) C2
  (Inb':=Inb1) (fun x h0 hj'=>upd_ne _ _ hj') (.inl (upd_ne _ _ (fun e=>hj e.symm))) (upd_same _ _ _) (nh:=8) (fun T' _=>by
   have e:Inb1 0=some s3:=(upd_ne _ _ (fun e=>hj e.symm)).trans (upd_same _ _ _)
   rw [e]
   exact to_seat3 hs w)
 obtain ⟨j3,j4,j5,j6,j8,j9,j10,j11,j12,j13,j14,j15,j16,rfl⟩:=hhome2
 have hWC1:WC a w ((((w.at d1)).at d2).setChan a.c1 cap1 #[] true k1 k1 false):=(((WC.refl a w).at d1).at d2).trans (WC.chan (.inl rfl) (w:=(w.at d1).at d2) hk1 rfl _ _ _ _ _ _)
 have hwalk:=goes_quiet' (w_shut (max B (a.c2+1)) a.lv a.c1 a.c2 j3 j4 j5 j6 j8 j9 j10 j11 j12 j13 j14 j15 j16 (((w.at d1).at d2).setChan a.c1 cap1 #[] true k1 k1 false))
 obtain ⟨N3,gs3,a3,w3,sl3,T3,q3,r3,z3,hg3,⟨⟨d3,rfl⟩,hrun3,hwake3,a3',ha3',hclose3,hQ3⟩,C4⟩:=hold_walk (sl:=sl2) (h:=a.j) (fun _ _ _=>trivial) (dq_dh (K:=K0) _) hg2 C3 (by rw [hb];exact hwalk)
 have hI0:Inb1 0=some s3:=(upd_ne _ _ (fun e=>hj e.symm)).trans (upd_same _ _ _)
 obtain ⟨cap3,k3,hk3⟩:=C4.chans 0 s3 a.c2 (fun z=>z) hI0 ((hs3 _).2 rfl)
 obtain ⟨N4,gs4,g4,d4,sl4,T4,q4,r4,z4,hg4,hhome4,C5⟩:=give_close (sl:=sl3) (h:=a.j) (j:=0) (s:=s3) (c:=a.c2) (kk:=0) (z:=.int .i64 0) (K:=K0) (fun _ _ _=>trivial) (fun _ _ _ _ _ _ _ _ _ _ _ _ _=>trivial) (fun e=>hj e.symm) (by omega) hI0 rfl
  ⟨(C1.mem a.j _ hseat1).1,.inr rfl⟩ hg3 hrun3 hwake3 ha3' hk3 (by rw [hb];exact hclose3 cap3 k3 hk3) C4
  (Inb':=upd Inb1 0 none) (fun x h0 hj'=>upd_ne _ _ hj') (.inl (upd_ne _ _ hj)) (upd_same _ _ _) (nh:=4) (fun T' hd=>by
   have e:upd Inb1 0 none a.j=none:=(upd_ne _ _ hj).trans (upd_same _ _ _)
   rw [e]
   exact ⟨by omega,hd ▸ hQ3⟩)
 obtain rfl:g4=gLast tmps a k X:=hhome4
 obtain ⟨o3,h3,p3,dd3,gg3⟩:=o17_1
 have hI:∀ i,i ≠ 0->i ≠ a.j->upd Inb1 0 none i=Inb i:=fun i h0 hja=>by rw [upd_ne _ _ h0];exact (upd_ne _ _ hja).trans (upd_ne _ _ h0)
 have hne:∀ b ∈ A,b.j ≠ a.j:=fun b hb' e=>((List.pairwise_cons.1 H.apart).1 b hb').1 e.symm
 have hII:upd Inb1 0 none=upd Inb a.j none:=by
  funext i
  by_cases h0:i=0
  ·subst h0;rw [upd_same,upd_ne _ _ (fun e=>hj e.symm)];exact H.zero.symm
  ·by_cases hja:i=a.j
   ·subst hja;rw [upd_same,upd_ne _ _ h0];exact upd_same _ _ _
   ·rw [hI i h0 hja,upd_ne _ _ hja]
 refine ⟨N1+N2+N3+N4,gs4,_,sl4,T4,q4,_,_,runNT_then (runNT_then (runNT_then r1 r2) r3) r4,by omega,?_,hII ▸ C5,⟨⟨hM,.inl (by rw [hI0];simp)⟩,.inr rfl⟩,?_,?_⟩
 ·rw [hg4]
  have e:=served_fr0 (fn:=18) (tmps:=t67 tmps a) (t:=[]) (k:=.code (r18 b18)::k) (X:=X) h3 (.int .i64 0)
  rw [dd3] at e
  exact congrArg some e
 ·rw [<-hII]
  refine ⟨upd_same _ _ _,fun b hb'=>?_,fun i s hi e=>?_,fun b hb'=>?_,(List.pairwise_cons.1 H.apart).2⟩
  ·obtain ⟨x,y⟩:=H.seat b (by simp [hb'])
   exact ⟨x,by rw [hI _ x (hne b hb')];exact y⟩
  ·by_cases hij:i=a.j
   ·subst hij
    rw [(upd_ne _ _ hi).trans (upd_same _ _ _)] at e;cases e
   ·rw [hI i hi hij] at e
    obtain ⟨b,hb',rfl⟩:=H.only i s hi e
    rcases List.mem_cons.1 hb' with rfl | hbA
    ·exact absurd rfl hij
    ·exact ⟨b,hbA,rfl⟩
  ·obtain ⟨x1,x2,x3,kb,x4⟩:=H.two b (by simp [hb'])
   refine ⟨x1,x2,x3,kb,?_⟩
   obtain ⟨_,_,y2,_,y4⟩:=(List.pairwise_cons.1 H.apart).1 b hb'
   rw [heap_setChan_ne _ _ _ _ _ _ _ y4]
   have e1:=heap_setChan_ne ((w.at d1).at d2) (c:=a.c1) (c':=b.c2) cap1 #[] true k1 k1 false y2
   exact e1.trans x4
 ·exact ((hWC1.at d3).at d4).trans (WC.chan (.inr rfl) (w:=((((w.at d1).at d2).setChan a.c1 cap1 #[] true k1 k1 false).at d3).at d4) hk3 rfl _ _ _ _ _ _)
noncomputable def o5:Array Oper:=(regOps 5 b18).getD #[]
noncomputable def o6 (b:Code):Array Oper:=(regOps 6 b).getD #[]
theorem tail_eq:tail18 b18 = .seq (.region 5 o5 true) (.seq (.region 6 (o6 b18) false) (rest18 b18)):=by kernel_rfl
theorem tailL_eq:tail18 b18L = .seq (.region 5 o5 true) (.seq (.region 6 (o6 b18L) false) (rest18 b18L)):=by kernel_rfl
theorem o6_size:(o6 b18).size=4:=by kernel_rfl
theorem o6L_size:(o6 b18L).size=4:=by kernel_rfl
theorem o5_0:∃ o,o5[0]? = some o/\o.op = .makeChan 62 (kk 0)/\o.dst=some 36/\o.guard=none:=opAt (by kernel_rfl) (by kernel_rfl) (by kernel_rfl) (by kernel_rfl)
theorem o5_1:∃ o,o5[1]? = some o/\o.op = .makeChan 62 (kk 0)/\o.dst=some 37/\o.guard=none:=opAt (by kernel_rfl) (by kernel_rfl) (by kernel_rfl) (by kernel_rfl)
theorem o5_2:∃ o,o5[2]? = some o/\o.op = .assign (.tmp 36)/\o.dst=some 8/\o.guard=none:=opAt (by kernel_rfl) (by kernel_rfl) (by kernel_rfl) (by kernel_rfl)
theorem o5_3:∃ o,o5[3]? = some o/\o.op = .assign (.tmp 37)/\o.dst=some 9/\o.guard=none:=opAt (by kernel_rfl) (by kernel_rfl) (by kernel_rfl) (by kernel_rfl)
theorem o6_0:∃ o,(o6 b18)[0]? = some o/\o.op = .move (.tmp 1)/\o.dst=some 38/\o.guard=none:=opAt (by kernel_rfl) (by kernel_rfl) (by kernel_rfl) (by kernel_rfl)
theorem o6_1:∃ o,(o6 b18)[1]? = some o/\o.op = .move (.tmp 8)/\o.dst=some 39/\o.guard=none:=opAt (by kernel_rfl) (by kernel_rfl) (by kernel_rfl) (by kernel_rfl)
theorem o6_2:∃ o,(o6 b18)[2]? = some o/\o.op = .move (.tmp 9)/\o.dst=some 40/\o.guard=none:=opAt (by kernel_rfl) (by kernel_rfl) (by kernel_rfl) (by kernel_rfl)
theorem o6_3:∃ o,(o6 b18)[3]? = some o/\o.op = .go { callee:=.value (.func 31),args:=#[.tmp 38,.tmp 39,.tmp 40],argTypes:=#[3,71,72] }/\o.dst=none/\o.guard=none:=opAt (by kernel_rfl) (by kernel_rfl) (by kernel_rfl) (by kernel_rfl)
theorem o6L_0:∃ o,(o6 b18L)[0]? = some o/\o.op = .move (.tmp 1)/\o.dst=some 38/\o.guard=none:=opAt (by kernel_rfl) (by kernel_rfl) (by kernel_rfl) (by kernel_rfl)
theorem o6L_1:∃ o,(o6 b18L)[1]? = some o/\o.op = .move (.tmp 8)/\o.dst=some 39/\o.guard=none:=opAt (by kernel_rfl) (by kernel_rfl) (by kernel_rfl) (by kernel_rfl)
theorem o6L_2:∃ o,(o6 b18L)[2]? = some o/\o.op = .move (.tmp 9)/\o.dst=some 40/\o.guard=none:=opAt (by kernel_rfl) (by kernel_rfl) (by kernel_rfl) (by kernel_rfl)
theorem o6L_3:∃ o,(o6 b18L)[3]? = some o/\o.op = .binOp .leq 3 (.tmp 38) (kk 0) 3/\o.dst=none/\o.guard=none:=opAt (by kernel_rfl) (by kernel_rfl) (by kernel_rfl) (by kernel_rfl)
noncomputable def rs5 (l:Array Bool):List Nat:=(List.range o5.size).filter fun i=>!l.getD i true && ((o5[i]?).map (·.after.all fun e=>!Region.binds .any e || l.getD e.on false)).getD false
theorem go5 (n t:Nat) (l:Array Bool) (acc:List Nat):Region.linearise.go .any o5 (n+1) t l acc=(match (rs5 l)[t % (rs5 l).length]? with
 | some i=>Region.linearise.go .any o5 n (t / (rs5 l).length) (l.setIfInBounds i true) (i::acc)
 | none=>acc.reverse):=rfl
theorem rs_0:rs5 #[false,false,false,false]=[0,1]:=by kernel_rfl
theorem rs_a:rs5 #[true,false,false,false]=[1,2]:=by kernel_rfl
theorem rs_b:rs5 #[false,true,false,false]=[0]:=by kernel_rfl
theorem rs_ab:rs5 #[true,true,false,false]=[2]:=by kernel_rfl
theorem rs_ac:rs5 #[true,false,true,false]=[1]:=by kernel_rfl
theorem rs_abc:rs5 #[true,true,true,false]=[3]:=by kernel_rfl
theorem go5_end (t:Nat) (l:Array Bool) (acc:List Nat):Region.linearise.go .any o5 0 t l acc=acc.reverse:=rfl
theorem sched5 (t:Nat):Region.schedule true o5 t=[0,1,2,3] \/ Region.schedule true o5 t=[0,2,1,3] \/ Region.schedule true o5 t=[1,0,2,3]:=by
 have e0:Region.schedule true o5 t=Region.linearise.go .any o5 4 t #[false,false,false,false] []:=by
  have h1:Region.schedule true o5 t=Region.linearise .any o5 t:=by simp [Region.schedule]
  have h2:o5.size=4:=by kernel_rfl
  rw [h1]
  unfold Region.linearise
  rw [h2]
  rfl
 rw [e0,go5,rs_0]
 rcases Nat.mod_two_eq_zero_or_one t with h | h
 ·have h':t % [0,1].length=0:=h
  rw [h']
  simp only [List.getElem?_cons_zero]
  rw [show (#[false,false,false,false]:Array Bool).setIfInBounds 0 true=#[true,false,false,false] from rfl,go5,rs_a]
  rcases Nat.mod_two_eq_zero_or_one (t / [0,1].length) with g | g
  ·have g':t / [0,1].length % [1,2].length=0:=g
   rw [g']
   simp only [List.getElem?_cons_zero]
   rw [show (#[true,false,false,false]:Array Bool).setIfInBounds 1 true=#[true,true,false,false] from rfl,go5,rs_ab]
   simp only [List.length_cons,List.length_nil,Nat.zero_add,Nat.mod_one,List.getElem?_cons_zero]
   rw [show (#[true,true,false,false]:Array Bool).setIfInBounds 2 true=#[true,true,true,false] from rfl,go5,rs_abc]
   simp only [List.length_cons,List.length_nil,Nat.zero_add,Nat.mod_one,List.getElem?_cons_zero,go5_end]
   exact .inl rfl
  ·have g':t / [0,1].length % [1,2].length=1:=g
   rw [g']
   simp only [List.getElem?_cons_succ,List.getElem?_cons_zero]
   rw [show (#[true,false,false,false]:Array Bool).setIfInBounds 2 true=#[true,false,true,false] from rfl,go5,rs_ac]
   simp only [List.length_cons,List.length_nil,Nat.zero_add,Nat.mod_one,List.getElem?_cons_zero]
   rw [show (#[true,false,true,false]:Array Bool).setIfInBounds 1 true=#[true,true,true,false] from rfl,go5,rs_abc]
   simp only [List.length_cons,List.length_nil,Nat.zero_add,Nat.mod_one,List.getElem?_cons_zero,go5_end]
   exact .inr (.inl rfl)
 ·have h':t % [0,1].length=1:=h
  rw [h']
  simp only [List.getElem?_cons_succ,List.getElem?_cons_zero]
  rw [show (#[false,false,false,false]:Array Bool).setIfInBounds 1 true=#[false,true,false,false] from rfl,go5,rs_b]
  simp only [List.length_cons,List.length_nil,Nat.zero_add,Nat.mod_one,List.getElem?_cons_zero]
  rw [show (#[false,true,false,false]:Array Bool).setIfInBounds 0 true=#[true,true,false,false] from rfl,go5,rs_ab]
  simp only [List.length_cons,List.length_nil,Nat.zero_add,Nat.mod_one,List.getElem?_cons_zero]
  rw [show (#[true,true,false,false]:Array Bool).setIfInBounds 2 true=#[true,true,true,false] from rfl,go5,rs_abc]
  simp only [List.length_cons,List.length_nil,Nat.zero_add,Nat.mod_one,List.getElem?_cons_zero,go5_end]
  exact .inr (.inr rfl)
theorem mixed:Try.prog.follows .mixedOrders=true:=by kernel_rfl
set_option maxHeartbeats 1000000 in
theorem hireW {N0:Nat} {A:List Act} {w:World} {Inb:Nat->Option Seat} {B:Nat} {Mem:Nat->Prop} {T:Trace} {gs:Array Goroutine} {q:Nat->Nat} {sl:Option (Nat × Nat)} {tmps:Array Value} {k:List Item} {X:List Frame} {lv:Int} {c1 c2:Nat}
 (H:AOk N0 A w Inb) (C:RingC Try.prog B Mem Inb 0 T gs w q) (hM:Mem 0) (hgs:gs[0]? = some (G0 (fr0 18 tmps (.inRegion (o6 b18) [3]::.code (rest18 b18)::k) .run) X)) (hlt:∀ b ∈ A,b.j<gs.size)
 (h38:tmps[38]? = some (.int .i64 lv)) (h39:tmps[39]? = some (.chan (some c1))) (h40:tmps[40]? = some (.chan (some c2))) (hc1:w.heap[c1]? = some ch0) (hc2:w.heap[c2]? = some ch0) (hne:c1 ≠ c2) (hN1:N0<=c1) (hN2:N0<=c2)
 (hfresh:∀ b ∈ A,b.c1 ≠ c1/\b.c1 ≠ c2/\b.c2 ≠ c1/\b.c2 ≠ c2) :
 ∃ N gs' d sl' T' q' B' Mem',runNT Try.prog N (crowd gs w sl) T=(.next (crowd gs' (w.at d) sl'),T')/\gs'.size=gs.size+1 /\
  gs'[0]? = some (G0 (fr0 18 tmps (.inRegion (o6 b18) []::.code (rest18 b18)::k) .run) X) /\
  RingC Try.prog B' Mem' (upd Inb gs.size (some (seatW lv c1 c2))) 0 T' gs' (w.at d) q'/\Mem' 0/\AOk N0 (⟨gs.size,c1,c2,lv⟩::A) (w.at d) (upd Inb gs.size (some (seatW lv c1 c2))):=by
 have hpos:0<gs.size:=(Array.getElem?_eq_some_iff.1 hgs).1
 obtain ⟨o,ho,hop,hd,hg⟩:=o6_3
 have hgo:∀ d,stepG Try.prog (0 == 0) (G0 (fr0 18 tmps (.inRegion (o6 b18) [3]::.code (rest18 b18)::k) .run) X) (w.at d) = .spawn (G0 (fr0 18 tmps (.inRegion (o6 b18) []::.code (rest18 b18)::k) .run) X) (born Try.prog (call31 lv c1 c2)) (w.at d) #[]:=fun d=>by
  have e38:tmps.getD 38 undef = .int .i64 lv:=getD_of h38
  have e39:tmps.getD 39 undef = .chan (some c1):=getD_of h39
  have e40:tmps.getD 40 undef = .chan (some c2):=getD_of h40
  have hr:(execOp (⟨tmps,[]⟩:Go.Act).eval o).runT Try.prog (w.at d) #[]=(.ok (.spawn (call31 lv c1 c2)) (w.at d),#[]):=by
   have:execOp (⟨tmps,[]⟩:Go.Act).eval o=Pure.pure (Next.spawn (call31 lv c1 c2)):=by
    unfold execOp
    rw [hop]
    have e:(#[Operand.tmp 38,.tmp 39,.tmp 40].map (⟨tmps,[]⟩:Go.Act).eval)=#[.int .i64 lv,.chan (some c1),.chan (some c2)]:=by
     simp [Go.Act.eval,e38,e39,e40]
    simp only [resolve,e]
    simp [Go.Act.eval,Deferred.ofValue,call31]
   rw [this];rfl
  have hr1:(execOp (⟨tmps,[]⟩:Go.Act).eval o).run Try.prog (w.at d) = .ok (.spawn (call31 lv c1 c2)) (w.at d):=(Sem.runT_fst _ _ _ _).symm.trans (congrArg Prod.fst hr)
  have:=stepG_spawn (P:=Try.prog) (main:=true) (b:=base 18) (a:=⟨tmps,[]⟩) (ops:=o6 b18) (i:=3) (rest:=[]) (k:=.code (rest18 b18)::k) (cs:=X) ho (by simp [Region.wanted,hg]) (by decide) hr1 (f:=.func 31) (c:=#[]) rfl
  rw [hd] at this
  have hl:listed Try.prog (base 18).fn ⟨tmps,[]⟩ o (w.at d)=#[]:=by
   unfold listed
   have:(execOp (⟨tmps,[]⟩:Go.Act).eval o).events Try.prog (w.at d) #[]=#[]:=congrArg Prod.snd hr
   rw [this,seen_nil]
  rw [hl] at this
  exact this
 obtain ⟨N,gs',d,sl',T',q',r,z,hg',C'⟩:=hire (sl:=sl) (K:=K0) (fun _ _ _=>trivial) hM hgs rfl hgo (by simp) (Ring.monoB (B':=max B (max c1 c2+1)) C (by omega)) (seatW lv c1 c2) (Seat.one_wf _ _ _ _)
  (fun i s c e hc hn=>by
   rw [seatW_has] at hn
   subst hn
   by_cases hi:i=0
   ·subst hi;rw [H.zero] at e;cases e
   ·obtain ⟨b,hb,rfl,rfl⟩:=H.only' hi e
    rw [seatW_has] at hc
    exact (hfresh b hb).1 hc.symm)
  (fun c hc=>by rw [seatW_has] at hc;subst hc;exact ⟨0,0,hc1⟩) (fun c hc=>by rw [seatW_has] at hc;omega) (w_birth _ lv c1 c2)
 refine ⟨N,gs',d,sl',T',q',_,_,r,z,hg',C',.inl hM,⟨(upd_ne _ _ (by omega)).trans H.zero,fun b hb=>?_,fun i s hi e=>?_,fun b hb=>?_,List.pairwise_cons.2 ⟨fun b hb=>?_,H.apart⟩⟩⟩
 ·rcases List.mem_cons.1 hb with rfl | hb
  ·exact ⟨by show gs.size ≠ 0;omega,upd_same _ _ _⟩
  ·obtain ⟨x,y⟩:=H.seat b hb
   exact ⟨x,by rw [upd_ne _ _ (by have:=hlt b hb;omega)];exact y⟩
 ·by_cases hs:i=gs.size
  ·exact ⟨⟨gs.size,c1,c2,lv⟩,by simp,hs.symm⟩
  ·rw [upd_ne _ _ hs] at e
   obtain ⟨b,hb,rfl⟩:=H.only i s hi e
   exact ⟨b,by simp [hb],rfl⟩
 ·rcases List.mem_cons.1 hb with rfl | hb
  ·exact ⟨hN1,hN2,hne,0,hc2⟩
  ·exact H.two b hb
 ·obtain ⟨f1,f2,f3,f4⟩:=hfresh b hb
  exact ⟨by have:=hlt b hb;show gs.size ≠ b.j;omega,fun e=>f1 e.symm,fun e=>f3 e.symm,fun e=>f2 e.symm,fun e=>f4 e.symm⟩
theorem u62:Try.prog.underlying 62=some (.chan .both 3):=by kernel_rfl
theorem bytes3:∃ i,Try.prog.info? 3=some i/\i.bytes=8:=by
 have h:(Try.prog.info? 3).map (·.bytes)=some 8:=by kernel_rfl
 obtain ⟨i,hi,hb⟩:=Option.map_eq_some_iff.1 h
 exact ⟨i,hi,hb⟩
section steps
variable {p : Program} {fn : FuncId} {tmps : Array Value} {X : List Frame} {k : List Item} {ops : Array Oper} {i : Nat} {t : List Nat}
theorem st_mk {o:Oper} (ho:ops[i]? = some o) (hg:o.guard=none) (hop:o.op = .makeChan 62 (kk 0)) (hu:p.underlying 62=some (.chan .both 3)) (hi:∃ i,p.info? 3=some i/\i.bytes=8) (w:World) :
 stepG p true (G0 (fr0 fn tmps (.inRegion ops (i::t)::k) .run) X) w = .go (G0 (fr0 fn (putT tmps o.dst (.chan (some w.heap.size))) (.inRegion ops t::k) .run) X) (w.alloc ch0) #[]:=by
 rw [op_step ho (by simp [Region.wanted,hg])]
 obtain ⟨ty,hi,hb⟩:=hi
 have h1:=run_makeChan (P:=p) (w:=w) hu hi .i64 0 (by omega) (by rw [hb];omega)
 have h2:=events_makeChan (P:=p) (w:=w) hu hi .i64 0 (by omega) (by rw [hb];omega) #[]
 have hr:(execOp (evF fn tmps) o).runT p w #[]=(.ok (.value (.chan (some w.heap.size))) (w.alloc ch0),#[]):=by
  have e:execOp (evF fn tmps) o=(do Pure.pure (Next.value (<-Instr.makeChan 62 (.int .i64 0)))):=by
   unfold execOp
   rw [hop]
   rfl
  rw [e]
  refine Prod.ext ((Sem.runT_fst _ _ _ _).trans ?_) ?_
  ·rw [Sem.run_bind]
   have h1':(Instr.makeChan 62 (.int .i64 0)).run p w=_:=h1
   rw [h1'];rfl
  ·show Sem.events _ _ _ _=_
   have h1':(Instr.makeChan 62 (.int .i64 0)).run p w=_:=h1
   have h2':(Instr.makeChan 62 (.int .i64 0)).events p w #[]=_:=h2
   rw [Sem.events_bind,h1',h2'];rfl
 rw [apply_value ho hr,seen_nil]
end steps
variable {Good : Frame -> World -> Prop} {Post : Value -> World -> Prop}
structure At (w0:World) (A:List Act) (fr:Frame) (X:List Frame) (wL w:World) (m:Machine) (T:Trace):Prop where
 ex:∃ gs sl q B Mem Inb,m=crowd gs w sl/\gs[0]? = some (G0 fr X)/\RingC Try.prog B Mem Inb 0 T gs w q/\Mem 0/\AOk 0 A w Inb/\∀ a ∈ A,a.j<gs.size
 wr:WR wL w
 tape:w.tape=w0.tape
 old:∀ (b:Nat) (o:Obj),w0.heap[b]? = some o->isOp o=true->w.heap[b]? = some o
 new:∀ a ∈ A,∀ o:Obj,isOp o=true->w0.heap[a.c1]? ≠ some o/\w0.heap[a.c2]? ≠ some o
structure Pos (Good:Frame->World->Prop) (w0:World) (s0:LS) (m0:Machine) (T0:Trace) (q:Bool) (A:List Act) (frL:Frame) (XL:List Frame) (fr:Frame) (X:List Frame) (wL w:World):Prop where
 ex:∃ N m T,runNT Try.prog N m0 T0=(.next m,T)/\At w0 A fr X wL w m T
 runs:Cv.Runs Try.prog lfuncs Good frL XL wL
 desc:(q=false/\s0=⟨frL,XL,wL⟩) \/ Cv.Desc Try.prog lfuncs s0 ⟨frL,XL,wL⟩
section
variable {w0 : World} {s0 : LS} {m0 : Machine} {T0 : Trace} {q : Bool} {A : List Act} {frL frL' fr fr' : Frame} {XL XL' X X' : List Frame} {wL wL' w w' : World}
theorem not_fin (h:frL.mode = .run):¬ Cv.Fin Try.prog lfuncs frL XL:=fun ⟨e,_⟩=>by rw [h] at e;cases e
theorem desc_step (hd:(q=false/\s0=⟨frL,XL,wL⟩) \/ Cv.Desc Try.prog lfuncs s0 ⟨frL,XL,wL⟩) (h:Cv.Desc Try.prog lfuncs ⟨frL,XL,wL⟩ ⟨frL',XL',wL'⟩):Cv.Desc Try.prog lfuncs s0 ⟨frL',XL',wL'⟩:=by
 rcases hd with ⟨_,rfl⟩ | hd
 ·exact h
 ·exact .more hd h
theorem At.hold {m:Machine} {T:Trace} (h:At w0 A fr X wL w m T)
 (hP:∀ d,∃ fr' X' w' es,stepG Try.prog true (G0 fr X) (w.at d) = .go (G0 fr' X') w' es/\(∀ e ∈ es,EvOk e)/\KeepC w w'/\w'.tape=w.tape) :
 ∃ N d fr' X' w' es m' T',stepG Try.prog true (G0 fr X) (w.at d) = .go (G0 fr' X') w' es/\runNT Try.prog N m T=(.next m',T')/\∀ wL',WR wL' w'->At w0 A fr' X' wL' w' m' T':=by
 obtain ⟨gs,sl,q,B,Mem,Inb,rfl,hg,C,hM,hA,hlt⟩:=h.ex
 obtain ⟨N,d,fr',X',w',es,gs',sl',T',q',B',e1,e2,ez,e3,e4⟩:=hold1 (sl:=sl) C hg fun d=>by
  obtain ⟨fr',X',w',es,h1,h2,h3,h4⟩:=hP d
  exact ⟨fr',X',w',es,h1,h2,h3⟩
 obtain ⟨fr2,X2,w2,es2,h1,h2,h3,h4⟩:=hP d
 rw [e1] at h1
 simp only [GStep.go.injEq,Goroutine.mk.injEq] at h1
 obtain ⟨⟨rfl,rfl,_⟩,rfl,rfl⟩:=h1
 refine ⟨N,d,_,_,_,_,_,_,e1,e2,fun wL' hw=>⟨⟨gs',sl',q',B',Mem,Inb,rfl,e3,e4,hM,⟨hA.zero,hA.seat,hA.only,fun a ha=>?_,hA.apart⟩,fun a ha=>by rw [ez];exact hlt a ha⟩,hw,h4.trans h.tape,fun b o h1 h2=>h3 b o (h.old b o h1 h2) h2,h.new⟩⟩
 obtain ⟨x1,x2,x3,kk,x4⟩:=hA.two a ha
 exact ⟨x1,x2,x3,kk,h3 _ _ x4 rfl⟩
theorem WR.at' (h:WR wL w) (d:Nat):WR wL (w.at d):=⟨h.size,h.os,h.out,h.heap,h.noloop⟩
theorem Pos.wr (h:Pos Good w0 s0 m0 T0 q A frL XL fr X wL w):WR wL w:=by obtain ⟨_,_,_,_,hA⟩:=h.ex;exact hA.wr
theorem Pos.both (h:Pos Good w0 s0 m0 T0 q A frL XL fr X wL w) (hf:frL.mode = .run)
 (hL:∀ t d,stepG PL true (G0 frL XL) (tp wL t d) = .go (G0 frL' XL') (tp wL' t d) #[])
 (hP:∀ d,stepG Try.prog true (G0 fr X) (w.at d) = .go (G0 fr' X') (w'.at d) #[]) (hk:KeepC w w') (hw:WR wL' w') (ht:w'.tape=w.tape) :
 ∃ d,Pos Good w0 s0 m0 T0 true A frL' XL' fr' X' wL' (w'.at d):=by
 obtain ⟨N,m,T,hr,hA⟩:=h.ex
 obtain ⟨N',d,fr2,X2,w2,es,m',T',e1,e2,e3⟩:=hA.hold fun d=>⟨fr',X',w'.at d,#[],hP d,by simp,hk,ht⟩
 rw [hP d] at e1
 simp only [GStep.go.injEq,Goroutine.mk.injEq] at e1
 obtain ⟨⟨rfl,rfl,_⟩,rfl,_⟩:=e1
 obtain ⟨p1,p2⟩:=h.runs.peel (not_fin hf) (hL wL'.tape wL'.drawn)
 rw [tp_self] at p1 p2
 exact ⟨d,⟨N+N',m',T',runNT_then hr e2,e3 _ (WR.at' hw d)⟩,p1,.inr (desc_step h.desc p2)⟩
theorem Pos.sil (h:Pos Good w0 s0 m0 T0 q A frL XL fr X wL w) (hf:frL.mode = .run) (hL:∀ w,stepG PL true (G0 frL XL) w = .go (G0 frL' XL') w #[]) (hP:∀ w,stepG Try.prog true (G0 fr X) w = .go (G0 fr' X') w #[]) :
 ∃ d,Pos Good w0 s0 m0 T0 true A frL' XL' fr' X' wL (w.at d) :=
 h.both hf (fun t d=>hL _) (fun d=>hP _) (KeepC.refl w) h.wr rfl
theorem Pos.lone (h:Pos Good w0 s0 m0 T0 q A frL XL fr X wL w) (hf:frL.mode = .run) (hL:∀ wL,stepG PL true (G0 frL XL) wL = .go (G0 frL' XL') wL #[]):Pos Good w0 s0 m0 T0 true A frL' XL' fr X wL w:=by
 obtain ⟨p1,p2⟩:=h.runs.peel (not_fin hf) (t:=wL.tape) (d:=wL.drawn) (hL _)
 rw [tp_self] at p1 p2
 exact ⟨h.ex,p1,.inr (desc_step h.desc p2)⟩
end
section
variable {w0 : World} {s0 : LS} {m0 : Machine} {T0 : Trace} {q : Bool} {A : List Act} {XL X : List Frame} {wL w : World} {fn : FuncId} {tmps : Array Value} {opsL ops : Array Oper} {i : Nat} {t : List Nat} {kL k : List Item} {fr : Frame}
theorem Pos.seq {aL bL a b:Code} (h:Pos Good w0 s0 m0 T0 q A (fr0 fn tmps (.code (.seq aL bL)::kL) .run) XL (fr0 fn tmps (.code (.seq a b)::k) .run) X wL w) :
 ∃ d,Pos Good w0 s0 m0 T0 true A (fr0 fn tmps (.code aL::.code bL::kL) .run) XL (fr0 fn tmps (.code a::.code b::k) .run) X wL (w.at d):=h.sil rfl (st_seq _ _) (st_seq _ _)
theorem Pos.reg {id:Nat} (hs:opsL.size=ops.size) (h:Pos Good w0 s0 m0 T0 q A (fr0 fn tmps (.code (.region id opsL false)::kL) .run) XL (fr0 fn tmps (.code (.region id ops false)::k) .run) X wL w) :
 ∃ d,Pos Good w0 s0 m0 T0 true A (fr0 fn tmps (.inRegion opsL (List.range ops.size)::kL) .run) XL (fr0 fn tmps (.inRegion ops (List.range ops.size)::k) .run) X wL (w.at d):=by
 rw [<-hs]
 have:=h.sil rfl (st_reg id opsL) (st_reg id ops)
 rw [<-hs] at this
 exact this
theorem Pos.done (h:Pos Good w0 s0 m0 T0 q A (fr0 fn tmps (.inRegion opsL []::kL) .run) XL (fr0 fn tmps (.inRegion ops []::k) .run) X wL w) :
 ∃ d,Pos Good w0 s0 m0 T0 true A (fr0 fn tmps kL .run) XL (fr0 fn tmps k .run) X wL (w.at d):=h.sil rfl (st_end opsL) (st_end ops)
theorem Pos.mv {x:Operand} {ds:Option Tmp} (h:Pos Good w0 s0 m0 T0 q A (fr0 fn tmps (.inRegion opsL (i::t)::kL) .run) XL (fr0 fn tmps (.inRegion ops (i::t)::k) .run) X wL w)
 (hoL:∃ o,opsL[i]? = some o/\(o.op = .move x \/ o.op = .assign x)/\o.dst=ds/\o.guard=none) (ho:∃ o,ops[i]? = some o/\(o.op = .move x \/ o.op = .assign x)/\o.dst=ds/\o.guard=none) :
 ∃ d,Pos Good w0 s0 m0 T0 true A (fr0 fn (putT tmps ds (evF fn tmps x)) (.inRegion opsL t::kL) .run) XL (fr0 fn (putT tmps ds (evF fn tmps x)) (.inRegion ops t::k) .run) X wL (w.at d):=by
 obtain ⟨oL,h1,h2,rfl,h4⟩:=hoL
 obtain ⟨o,g1,g2,g3,g4⟩:=ho
 exact h.sil rfl (st_move h1 h4 h2) (fun w=>by rw [<-g3];exact st_move g1 g4 g2 w)
theorem Pos.mkch (h:Pos Good w0 s0 m0 T0 q A (fr0 fn tmps (.inRegion ops (i::t)::kL) .run) XL (fr0 fn tmps (.inRegion ops (i::t)::k) .run) X wL w) {ds:Option Tmp}
 (ho:∃ o,ops[i]? = some o/\o.op = .makeChan 62 (kk 0)/\o.dst=ds/\o.guard=none) :
 ∃ d,Pos Good w0 s0 m0 T0 true A (fr0 fn (putT tmps ds (.chan (some w.heap.size))) (.inRegion ops t::kL) .run) XL (fr0 fn (putT tmps ds (.chan (some w.heap.size))) (.inRegion ops t::k) .run) X (wL.alloc ch0) ((w.alloc ch0).at d):=by
 obtain ⟨o,h1,h2,rfl,h4⟩:=ho
 refine h.both rfl (fun t' d=>?_) (fun d=>st_mk h1 h4 h2 u62 bytes3 _) (KeepC.push ch0) (h.wr.push ch0 (by intro l e;cases e)) rfl
 have:=st_mk (p:=PL) (fn:=fn) (tmps:=tmps) (X:=XL) (k:=kL) (t:=t) h1 h4 h2 u62 bytes3 (tp wL t' d)
 have e:(tp wL t' d).heap.size=w.heap.size:=h.wr.size
 rw [e] at this
 exact this
theorem Pos.draw {id:Nat} (h:Pos Good w0 s0 m0 T0 q A (fr0 fn tmps (.code (.region id ops true)::kL) .run) XL (fr0 fn tmps (.code (.region id ops true)::k) .run) X wL w) :
 ∃ n t' d' d,Pos Good w0 s0 m0 T0 true A (fr0 fn tmps (.inRegion ops (Region.schedule true ops n)::kL) .run) XL (fr0 fn tmps (.inRegion ops (Region.schedule true ops n)::k) .run) X (tp wL t' d') (w.at d):=by
 obtain ⟨N,m,T,hr,hA⟩:=h.ex
 have e:∀ (p:Program),p.follows .mixedOrders=true->∀ (X k:List _) (w:World),stepG p true (G0 (fr0 fn tmps (.code (.region id ops true)::k) .run) X) w = .go (G0 (fr0 fn tmps (.inRegion ops (Region.schedule true ops (w.tape w.drawn (.order fn id)))::k) .run) X) { w with drawn:=w.drawn+1 } #[]:=fun p hp X k w=>by
  simp [stepG,stepG.exec,fr0,choose,Sem.run,Question.forced,Question.cut,hp]
 obtain ⟨N',d,fr2,X2,w2,es,m',T',e1,e2,e3⟩:=hA.hold fun d=>⟨_,_,_,#[],e Try.prog mixed X k (w.at d),by simp,KeepC.refl w,rfl⟩
 rw [e Try.prog mixed X k (w.at d)] at e1
 simp only [GStep.go.injEq,Goroutine.mk.injEq] at e1
 obtain ⟨⟨rfl,rfl,_⟩,rfl,_⟩:=e1
 obtain ⟨p1,p2⟩:=h.runs.peel (not_fin rfl) (t:=w.tape) (d:=d) (e PL mixed XL kL (tp wL w.tape d))
 exact ⟨w.tape d (.order fn id),w.tape,d+1,d+1,⟨N+N',m',T',runNT_then hr e2,e3 _ ⟨h.wr.size,h.wr.os,h.wr.out,h.wr.heap,h.wr.noloop⟩⟩,p1,.inr (desc_step h.desc p2)⟩
theorem Pos.int {o:Oper} {x y:Operand} {t1 t2:TypeId} {b:Int} (h:Pos Good w0 s0 m0 T0 q A (fr0 fn tmps (.inRegion opsL (i::t)::kL) .run) XL fr X wL w)
 (ho:opsL[i]? = some o) (hg:o.guard=none) (hop:o.op = .binOp .leq t1 x y t2) (hy:evF fn tmps y = .int .i64 b) :
 ∃ a,evF fn tmps x = .int .i64 a/\Pos Good w0 s0 m0 T0 true A (fr0 fn (putT tmps o.dst (.bool (decide (a<=b)))) (.inRegion opsL t::kL) .run) XL fr X wL w:=by
 obtain ⟨fr',X',w',es,e,hL⟩:=runs_tree h.runs (not_fin rfl) wL.tape wL.drawn
 obtain ⟨a,ha⟩:=st_leq_int ho hg hop hy (fun ch=>lst_mode hL) e
 exact ⟨a,ha,h.lone rfl (st_leq ho hg hop ha hy)⟩
def Two (w w':World) (tmps tmps':Array Value) (c1 c2:Nat):Prop :=
 70<=tmps'.size/\tmps'.getD 1 undef=tmps.getD 1 undef/\tmps'[8]? = some (.chan (some c1))/\tmps'[9]? = some (.chan (some c2))/\c1 ≠ c2/\w'.heap[c1]? = some ch0/\w'.heap[c2]? = some ch0/\w.heap.size<=c1/\w.heap.size<=c2/\w.heap.size<=w'.heap.size
theorem putT_self {tmps:Array Value} {i:Nat} {v:Value} (h:i<tmps.size):(putT tmps (some i) v)[i]? = some v:=by
 simp only [putT];exact Array.getElem?_setIfInBounds_self_of_lt h
theorem getD_put {tmps:Array Value} {d:Option Tmp} {v:Value} {i:Nat} (h:d ≠ some i):(putT tmps d v).getD i undef=tmps.getD i undef:=by
 rw [Array.getD_eq_getD_getElem?,putT_get h,<-Array.getD_eq_getD_getElem?]
theorem getD_self {tmps:Array Value} {i:Nat} {v:Value} (h:i<tmps.size):(putT tmps (some i) v).getD i undef=v:=getD_of (putT_self h)
theorem heap_alloc2 (w:World):((w.alloc ch0).alloc ch0).heap[w.heap.size]? = some ch0/\((w.alloc ch0).alloc ch0).heap[w.heap.size+1]? = some ch0:=by
 constructor
 ·show ((w.heap.push ch0).push ch0)[w.heap.size]? = _
  rw [Array.getElem?_push,if_neg (by simp),Array.getElem?_push,if_pos rfl]
 ·show ((w.heap.push ch0).push ch0)[w.heap.size+1]? = _
  rw [Array.getElem?_push,if_pos (by simp)]
theorem five (h:Pos Good w0 s0 m0 T0 q A (fr0 18 tmps (.code (.region 5 o5 true)::kL) .run) XL (fr0 18 tmps (.code (.region 5 o5 true)::k) .run) X wL w) (hz:70<=tmps.size) :
 ∃ tmps' c1 c2 wL' w',Two w w' tmps tmps' c1 c2/\Pos Good w0 s0 m0 T0 true A (fr0 18 tmps' (.inRegion o5 []::kL) .run) XL (fr0 18 tmps' (.inRegion o5 []::k) .run) X wL' w':=by
 have as2:∃ o,o5[2]? = some o/\(o.op = .move (.tmp 36) \/ o.op = .assign (.tmp 36))/\o.dst=some 8/\o.guard=none:=by obtain ⟨o,a,b,c⟩:=o5_2;exact ⟨o,a,.inr b,c⟩
 have as3:∃ o,o5[3]? = some o/\(o.op = .move (.tmp 37) \/ o.op = .assign (.tmp 37))/\o.dst=some 9/\o.guard=none:=by obtain ⟨o,a,b,c⟩:=o5_3;exact ⟨o,a,.inr b,c⟩
 obtain ⟨n,t',d',d,h⟩:=h.draw
 have hh:=heap_alloc2 w
 have hsz:(w.alloc ch0).heap.size=w.heap.size+1:=by show (w.heap.push ch0).size=_;simp
 have hsz2:((w.alloc ch0).alloc ch0).heap.size=w.heap.size+2:=by show ((w.heap.push ch0).push ch0).size=_;simp
 rcases sched5 n with e | e | e
 ·rw [e] at h
  obtain ⟨d1,h⟩:=h.mkch o5_0
  obtain ⟨d2,h⟩:=h.mkch o5_1
  obtain ⟨d3,h⟩:=h.mv as2 as2
  obtain ⟨d4,h⟩:=h.mv as3 as3
  refine ⟨_,w.heap.size,w.heap.size+1,_,_,?_,h⟩
  refine ⟨?_,?_,?_,?_,by omega,hh.1,hh.2,by omega,by omega,?_⟩
  ·simp only [putT_size];exact hz
  ·rw [getD_put (by decide),getD_put (by decide),getD_put (by decide),getD_put (by decide)]
  ·rw [putT_get (by decide),putT_self (by simp only [putT_size];omega),evF_tmp,getD_put (by decide),getD_self (by omega)];rfl
  ·rw [putT_self (by simp only [putT_size];omega),evF_tmp,getD_put (by decide),getD_self (by simp only [putT_size];omega)]
   show some (Value.chan (some (w.alloc ch0).heap.size))=_
   rw [hsz]
  ·show w.heap.size<=((w.alloc ch0).alloc ch0).heap.size;omega
 ·rw [e] at h
  obtain ⟨d1,h⟩:=h.mkch o5_0
  obtain ⟨d3,h⟩:=h.mv as2 as2
  obtain ⟨d2,h⟩:=h.mkch o5_1
  obtain ⟨d4,h⟩:=h.mv as3 as3
  refine ⟨_,w.heap.size,w.heap.size+1,_,_,?_,h⟩
  refine ⟨?_,?_,?_,?_,by omega,hh.1,hh.2,by omega,by omega,?_⟩
  ·simp only [putT_size];exact hz
  ·rw [getD_put (by decide),getD_put (by decide),getD_put (by decide),getD_put (by decide)]
  ·rw [putT_get (by decide),putT_get (by decide),putT_self (by simp only [putT_size];omega),evF_tmp,getD_self (by omega)];rfl
  ·rw [putT_self (by simp only [putT_size];omega),evF_tmp,getD_self (by simp only [putT_size];omega)]
   show some (Value.chan (some (w.alloc ch0).heap.size))=_
   rw [hsz]
  ·show w.heap.size<=((w.alloc ch0).alloc ch0).heap.size;omega
 ·rw [e] at h
  obtain ⟨d1,h⟩:=h.mkch o5_1
  obtain ⟨d2,h⟩:=h.mkch o5_0
  obtain ⟨d3,h⟩:=h.mv as2 as2
  obtain ⟨d4,h⟩:=h.mv as3 as3
  refine ⟨_,w.heap.size+1,w.heap.size,_,_,?_,h⟩
  refine ⟨?_,?_,?_,?_,by omega,hh.2,hh.1,by omega,by omega,?_⟩
  ·simp only [putT_size];exact hz
  ·rw [getD_put (by decide),getD_put (by decide),getD_put (by decide),getD_put (by decide)]
  ·rw [putT_get (by decide),putT_self (by simp only [putT_size];omega),evF_tmp,getD_self (by simp only [putT_size];omega)]
   show some (Value.chan (some (w.alloc ch0).heap.size))=_
   rw [hsz]
  ·rw [putT_self (by simp only [putT_size];omega),evF_tmp,getD_put (by decide),getD_put (by decide),getD_self (by omega)];rfl
  ·show w.heap.size<=((w.alloc ch0).alloc ch0).heap.size;omega
end
end Go.Proofs.Ytdadmhahbeehhaa
namespace Go.Proofs.Ytdadmhahbeehhaa
open Go Go.Conc Cv
open Go.ConcN (upd upd_same upd_ne)
variable {Good : Frame -> World -> Prop} {Post : Value -> World -> Prop}
section
variable {w0 : World} {s0 : LS} {m0 : Machine} {T0 : Trace} {q : Bool} {A : List Act} {XL X : List Frame} {wL w : World} {fn : FuncId} {tmps : Array Value} {opsL ops : Array Oper} {i : Nat} {t : List Nat} {kL k : List Item} {fr frL : Frame}
theorem get_getD {tmps:Array Value} {i:Nat} (h:i<tmps.size):tmps[i]? = some (tmps.getD i undef):=by
 rw [Array.getD_eq_getD_getElem?,Array.getElem?_eq_getElem h];rfl
theorem At.lt {m:Machine} {T:Trace} (h:At w0 A fr X wL w m T):∀ a ∈ A,a.c1<w.heap.size/\a.c2<w.heap.size:=by
 intro a ha
 obtain ⟨gs,sl,q,B,Mem,Inb,rfl,hg,C,hM,hA,hlt⟩:=h.ex
 obtain ⟨_,hs⟩:=hA.seat a ha
 obtain ⟨c,kk,hk⟩:=C.chans a.j _ a.c1 (fun z=>z) hs (seatW_has.2 rfl)
 obtain ⟨_,_,_,kk2,hk2⟩:=hA.two a ha
 exact ⟨(Array.getElem?_eq_some_iff.1 hk).1,(Array.getElem?_eq_some_iff.1 hk2).1⟩
theorem Pos.lt (h:Pos Good w0 s0 m0 T0 q A frL XL fr X wL w):∀ a ∈ A,a.c1<w.heap.size/\a.c2<w.heap.size:=by
 obtain ⟨_,_,_,_,hA⟩:=h.ex;exact hA.lt
theorem Pos.newAt (h:Pos Good w0 s0 m0 T0 q A frL XL fr X wL w) {c:Nat} (hc:w.heap.size<=c) (o:Obj) (ho:isOp o=true):w0.heap[c]? ≠ some o:=by
 obtain ⟨_,_,_,_,hA⟩:=h.ex
 intro e
 have:=(Array.getElem?_eq_some_iff.1 (hA.old c o e ho)).1
 omega
theorem Pos.hire {lv:Int} {c1 c2:Nat} (h:Pos Good w0 s0 m0 T0 q A frL XL (fr0 18 tmps (.inRegion (o6 b18) [3]::.code (rest18 b18)::k) .run) X wL w)
 (h38:tmps[38]? = some (.int .i64 lv)) (h39:tmps[39]? = some (.chan (some c1))) (h40:tmps[40]? = some (.chan (some c2))) (hc1:w.heap[c1]? = some ch0) (hc2:w.heap[c2]? = some ch0) (hne:c1 ≠ c2)
 (hfresh:∀ b ∈ A,b.c1 ≠ c1/\b.c1 ≠ c2/\b.c2 ≠ c1/\b.c2 ≠ c2) (hnew:∀ o:Obj,isOp o=true->w0.heap[c1]? ≠ some o/\w0.heap[c2]? ≠ some o) :
 ∃ j d,Pos Good w0 s0 m0 T0 q (⟨j,c1,c2,lv⟩::A) frL XL (fr0 18 tmps (.inRegion (o6 b18) []::.code (rest18 b18)::k) .run) X wL (w.at d):=by
 obtain ⟨N,m,T,hr,hA⟩:=h.ex
 obtain ⟨gs,sl,qq,B,Mem,Inb,rfl,hg,C,hM,hO,hlt⟩:=hA.ex
 obtain ⟨N',gs',d,sl',T',q',B',Mem',e1,e2,e3,e4,e5,e6⟩:=hireW (sl:=sl) hO C hM hg hlt h38 h39 h40 hc1 hc2 hne (Nat.zero_le _) (Nat.zero_le _) hfresh
 refine ⟨gs.size,d,⟨N+N',_,T',runNT_then hr e1,⟨gs',sl',q',B',Mem',_,rfl,e3,e4,e5,e6,fun a ha=>?_⟩,WR.at' hA.wr d,hA.tape,hA.old,fun a ha=>?_⟩,h.runs,h.desc⟩
 ·rcases List.mem_cons.1 ha with rfl | ha
  ·show gs.size<gs'.size;omega
  ·have:=hlt a ha;omega
 ·rcases List.mem_cons.1 ha with rfl | ha
  ·exact hnew
  ·exact hA.new a ha
theorem mvL {ops:Array Oper} {i:Nat} {x:Operand} {ds:Option Tmp} (h:∃ o,ops[i]? = some o/\o.op = .move x/\o.dst=ds/\o.guard=none):∃ o,ops[i]? = some o/\(o.op = .move x \/ o.op = .assign x)/\o.dst=ds/\o.guard=none:=by
 obtain ⟨o,a,b,c⟩:=h;exact ⟨o,a,.inl b,c⟩
theorem Pos.start (h:Pos Good w0 s0 m0 T0 q A (fr0 18 tmps [.code (tail18 b18L)] .run) XL (fr0 18 tmps [.code (tail18 b18)] .run) X wL w) (hz:70<=tmps.size) :
 ∃ a tmps' wL' w',Sl a tmps'/\Pos Good w0 s0 m0 T0 true (a::A) (fr0 18 tmps' [.inRegion (o6 b18L) [],.code (rest18 b18L)] .run) XL (fr0 18 tmps' [.inRegion (o6 b18) [],.code (rest18 b18)] .run) X wL' w':=by
 rw [tail_eq,tailL_eq] at h
 have hlt:=h.lt
 have hnew:=fun c hc=>h.newAt (c:=c) hc
 obtain ⟨d1,h⟩:=h.seq
 obtain ⟨tm,c1,c2,wL',w',⟨t1,t2,t3,t4,t5,t6,t7,t8,t9,t10⟩,h⟩:=five h hz
 obtain ⟨d2,h⟩:=h.done
 obtain ⟨d3,h⟩:=h.seq
 obtain ⟨d4,h⟩:=h.reg (by rw [o6_size,o6L_size])
 rw [o6_size,show List.range 4=[0,1,2,3] from rfl] at h
 obtain ⟨d5,h⟩:=h.mv (mvL o6L_0) (mvL o6_0)
 obtain ⟨d6,h⟩:=h.mv (mvL o6L_1) (mvL o6_1)
 obtain ⟨d7,h⟩:=h.mv (mvL o6L_2) (mvL o6_2)
 obtain ⟨o,e1,e2,e3,e4⟩:=o6L_3
 obtain ⟨lv,hlv,h⟩:=h.int e1 e4 e2 rfl
 rw [e3] at h
 rw [evF_tmp,getD_put (by decide),getD_put (by decide),getD_self (by omega),evF_tmp] at hlv
 have h8:(putT tm (some 38) (evF 18 tm (.tmp 1))).getD 8 undef = .chan (some c1):=by rw [getD_put (by decide)];exact getD_of t3
 have h9:(putT (putT tm (some 38) (evF 18 tm (.tmp 1))) (some 39) (evF 18 (putT tm (some 38) (evF 18 tm (.tmp 1))) (.tmp 8))).getD 9 undef = .chan (some c2):=by rw [getD_put (by decide),getD_put (by decide)];exact getD_of t4
 obtain ⟨j,d8,h⟩:=Pos.hire (lv:=lv) (c1:=c1) (c2:=c2) h (by rw [putT_get (by decide),putT_get (by decide),putT_self (by omega),evF_tmp,hlv]) (by rw [putT_get (by decide),putT_self (by rw [putT_size];omega),evF_tmp,h8])
  (by rw [putT_self (by rw [putT_size,putT_size];omega),evF_tmp,h9]) t6 t7 t5 (fun b hb=>by
   have hb':b.c1<w.heap.size/\b.c2<w.heap.size:=hlt b hb
   have t8':w.heap.size<=c1:=t8
   have t9':w.heap.size<=c2:=t9
   omega) (fun o ho=>⟨hnew c1 t8 o ho,hnew c2 t9 o ho⟩)
 refine ⟨_,_,_,_,⟨by simp only [putT_size];exact t1,?_,?_,?_⟩,h⟩
 ·rw [putT_get (by decide),putT_get (by decide),putT_get (by decide),putT_get (by decide),get_getD (by omega),hlv]
 ·rw [putT_get (by decide),putT_get (by decide),putT_get (by decide),putT_get (by decide),t3]
 ·rw [putT_get (by decide),putT_get (by decide),putT_get (by decide),putT_get (by decide),t4]
theorem r13L_eq:r13 b18L = .seq (.region 13 (o13 b18L) false) (cr (r13 b18)):=by kernel_rfl
theorem o13L_size:(o13 b18L).size=5:=by kernel_rfl
theorem o13L_0:∃ o,(o13 b18L)[0]? = some o/\o.op = .move (.tmp 10)/\o.dst=some 57/\o.guard=none:=opAt (by kernel_rfl) (by kernel_rfl) (by kernel_rfl) (by kernel_rfl)
theorem o13L_1:∃ o,(o13 b18L)[1]? = some o/\o.op = .move (.tmp 12)/\o.dst=some 58/\o.guard=none:=opAt (by kernel_rfl) (by kernel_rfl) (by kernel_rfl) (by kernel_rfl)
theorem o13L_2:∃ o,(o13 b18L)[2]? = some o/\o.op = .move (.tmp 9)/\o.dst=some 59/\o.guard=none:=opAt (by kernel_rfl) (by kernel_rfl) (by kernel_rfl) (by kernel_rfl)
theorem o13L_3:∃ o,(o13 b18L)[3]? = some o/\o.op = .pick (.tmp 60) (kk 1) (kk 0)/\o.dst=some 60/\o.guard=none:=opAt (by kernel_rfl) (by kernel_rfl) (by kernel_rfl) (by kernel_rfl)
theorem o12L_6:∃ o,(o12 b18L)[6]? = some o/\o.op = .binOp .leq 3 (.tmp 56) (.tmp 1) 3/\o.dst=some 60/\o.guard=none:=opAt (by kernel_rfl) (by kernel_rfl) (by kernel_rfl) (by kernel_rfl)
theorem Pos.serve {a:Act} {n:Int} (h:Pos Good w0 s0 m0 T0 q (a::A) frL XL (fr0 18 tmps (.inRegion (o12 b18) [6]::.code (r13 b18)::k) .run) X wL w) (hs:Sl a tmps) (h51:tmps[51]? = some (.chan (some a.c1))) (h56:tmps[56]? = some (.int .i64 n)) :
 ∃ w',Pos Good w0 s0 m0 T0 q (a::A) frL XL (fr0 18 (putT (tRecv tmps a.c2) (some 60) (.int .i64 (ans a.lv n))) (.inRegion (o13 b18) [4]::.code (cr (r13 b18))::k) .run) X wL w':=by
 obtain ⟨N,m,T,hr,hA⟩:=h.ex
 obtain ⟨gs,sl,qq,B,Mem,Inb,rfl,hg,C,hM,hO,hlt⟩:=hA.ex
 obtain ⟨N',gs',w',sl',T',q',B',Mem',e1,e2,e3,e4,e5,e6,e7⟩:=Go.Proofs.Ytdadmhahbeehhaa.serve (sl:=sl) hO C hM hg (hlt a (by simp)) hs h51 h56
 refine ⟨w',⟨N+N',_,T',runNT_then hr e1,⟨gs',sl',q',B',Mem',Inb,rfl,e3,e4,e5,e6,fun b hb=>by rw [e2];exact hlt b hb⟩,e7.wr hA.wr,e7.tape.trans hA.tape,fun b o ho hop=>?_,hA.new⟩,h.runs,h.desc⟩
 rcases e7.heap b with e | ⟨hb,_⟩
 ·rw [e];exact hA.old b o ho hop
 ·rcases hb with rfl | rfl
  ·exact absurd ho (hA.new a (by simp) o hop).1
  ·exact absurd ho (hA.new a (by simp) o hop).2
theorem Pos.ask {a:Act} (h:Pos Good w0 s0 m0 T0 q (a::A) (fr0 18 tmps (.inRegion (o12 b18L) [6]::.code (r13 b18L)::kL) .run) XL (fr0 18 tmps (.inRegion (o12 b18) [6]::.code (r13 b18)::k) .run) X wL w) (hs:Sl a tmps) (h51:tmps[51]? = some (.chan (some a.c1))) :
 ∃ tmps' w',Sl a tmps'/\Pos Good w0 s0 m0 T0 true (a::A) (fr0 18 tmps' (.inRegion (o13 b18L) [4]::.code (cr (r13 b18))::kL) .run) XL (fr0 18 tmps' (.inRegion (o13 b18) [4]::.code (cr (r13 b18))::k) .run) X wL w':=by
 obtain ⟨o,e1,e2,e3,e4⟩:=o12L_6
 have hz:=hs.size
 obtain ⟨n,hn,h⟩:=h.int e1 e4 e2 (getD_of hs.lv)
 rw [e3] at h
 rw [evF_tmp] at hn
 obtain ⟨w',h⟩:=h.serve hs h51 (n:=n) (by rw [get_getD (by omega),hn])
 have hb:∀ i,i ≠ 60->(putT tmps (some 60) (.bool (decide (n<=a.lv)))).getD i undef=tmps.getD i undef:=fun i hi=>getD_put (fun e=>hi (Option.some.inj e).symm)
 generalize hB:Value.bool (decide (n<=a.lv))=bv at h hb
 have h:=h.lone rfl (st_end (o12 b18L))
 rw [r13L_eq] at h
 have h:=h.lone rfl (st_seq _ _)
 have h:=h.lone rfl (st_reg _ _)
 rw [o13L_size,show List.range 5=[0,1,2,3,4] from rfl] at h
 obtain ⟨p0,a0,b0,c0,g0⟩:=o13L_0
 obtain ⟨p1,a1,b1,c1,g1⟩:=o13L_1
 obtain ⟨p2,a2,b2,c2,g2⟩:=o13L_2
 obtain ⟨p3,a3,b3,c3,g3⟩:=o13L_3
 have h:=h.lone rfl (st_move a0 g0 (.inl b0))
 have h:=h.lone rfl (st_move a1 g1 (.inl b1))
 have h:=h.lone rfl (st_move a2 g2 (.inl b2))
 rw [c0,c1,c2,evF_tmp,evF_tmp,evF_tmp] at h
 have h:=h.lone rfl (st_pick (tt:=decide (n<=a.lv)) a3 g3 b3 (by
  rw [evF_tmp,getD_put (by decide),getD_put (by decide),getD_put (by decide),getD_self (by omega),hB]))
 rw [c3] at h
 refine ⟨putT (tRecv tmps a.c2) (some 60) (.int .i64 (ans a.lv n)),w',?_,?_⟩
 rotate_left
 ·have e:putT (putT (putT (putT (putT tmps (some 60) bv) (some 57) ((putT tmps (some 60) bv).getD 10 undef)) (some 58) ((putT (putT tmps (some 60) bv) (some 57) ((putT tmps (some 60) bv).getD 10 undef)).getD 12 undef)) (some 59)
   ((putT (putT (putT tmps (some 60) bv) (some 57) ((putT tmps (some 60) bv).getD 10 undef)) (some 58) ((putT (putT tmps (some 60) bv) (some 57) ((putT tmps (some 60) bv).getD 10 undef)).getD 12 undef)).getD 9 undef)) (some 60)
   (if decide (n<=a.lv)=true then .int .i64 1 else .int .i64 0)=putT (tRecv tmps a.c2) (some 60) (.int .i64 (ans a.lv n)):=by
   have e9:tmps.getD 9 undef = .chan (some a.c2):=getD_of hs.c2
   have ea:(if decide (n<=a.lv)=true then Value.int .i64 1 else .int .i64 0) = .int .i64 (ans a.lv n):=by
    unfold ans;by_cases hl:n<=a.lv <;> simp [hl]
   rw [getD_put (i:=9) (by decide),getD_put (i:=12) (by decide),getD_put (i:=9) (by decide),hb 9 (by omega),hb 12 (by omega),hb 10 (by omega),e9,ea]
   unfold tRecv
   apply Array.ext_getElem?
   intro i
   simp only [putT,Array.getElem?_setIfInBounds,Array.size_setIfInBounds]
   repeat' split
   all_goals first | rfl | omega
  have h':=h
  change Pos Good w0 s0 m0 T0 true (a::A) (fr0 18 (putT (putT (putT (putT (putT tmps (some 60) bv) (some 57) ((putT tmps (some 60) bv).getD 10 undef)) (some 58) ((putT (putT tmps (some 60) bv) (some 57) ((putT tmps (some 60) bv).getD 10 undef)).getD 12 undef)) (some 59)
   ((putT (putT (putT tmps (some 60) bv) (some 57) ((putT tmps (some 60) bv).getD 10 undef)) (some 58) ((putT (putT tmps (some 60) bv) (some 57) ((putT tmps (some 60) bv).getD 10 undef)).getD 12 undef)).getD 9 undef)) (some 60)
   (if decide (n<=a.lv)=true then .int .i64 1 else .int .i64 0)) _ _) _ _ _ _ _ at h'
  rw [e] at h'
  exact h'
 ·unfold tRecv
  exact (((hs.put (d:=some 57) (by decide) _).put (d:=some 58) (by decide) _).put (d:=some 59) (by decide) _).put (d:=some 60) (by decide) _
theorem c3L_eq:c3 b18L = .seq (.region 16 (o16 b18L) false) (r17 b18L):=by kernel_rfl
theorem r17L_eq:r17 b18L = .seq (.region 17 (o17 b18L) false) (r18 b18):=by kernel_rfl
theorem o16L_size:(o16 b18L).size=2:=by kernel_rfl
theorem o17L_size:(o17 b18L).size=2:=by kernel_rfl
theorem o16L_0:∃ o,(o16 b18L)[0]? = some o/\o.op = .move (.tmp 8)/\o.dst=some 66/\o.guard=none:=opAt (by kernel_rfl) (by kernel_rfl) (by kernel_rfl) (by kernel_rfl)
theorem o16L_1:∃ o,(o16 b18L)[1]? = some o/\o.op = .move (.tmp 66)/\o.dst=none/\o.guard=none:=opAt (by kernel_rfl) (by kernel_rfl) (by kernel_rfl) (by kernel_rfl)
theorem o17L_0:∃ o,(o17 b18L)[0]? = some o/\o.op = .move (.tmp 9)/\o.dst=some 67/\o.guard=none:=opAt (by kernel_rfl) (by kernel_rfl) (by kernel_rfl) (by kernel_rfl)
theorem o17L_1:∃ o,(o17 b18L)[1]? = some o/\o.op = .move (kk 0)/\o.dst=some 68/\o.guard=none:=opAt (by kernel_rfl) (by kernel_rfl) (by kernel_rfl) (by kernel_rfl)
theorem Pos.leave {a:Act} (h:Pos Good w0 s0 m0 T0 q (a::A) frL XL (fr0 18 tmps (.code (c3 b18)::k) .run) X wL w) (hs:Sl a tmps) :
 ∃ w',Pos Good w0 s0 m0 T0 q A frL XL (fr0 18 (putT (t67 tmps a) (some 68) (.int .i64 0)) (.inRegion (o17 b18) []::.code (r18 b18)::k) .run) X wL w':=by
 obtain ⟨N,m,T,hr,hA⟩:=h.ex
 obtain ⟨gs,sl,qq,B,Mem,Inb,rfl,hg,C,hM,hO,hlt⟩:=hA.ex
 obtain ⟨N',gs',w',sl',T',q',B',Mem',e1,e2,e3,e4,e5,e6,e7⟩:=Go.Proofs.Ytdadmhahbeehhaa.leave (sl:=sl) hO C hM hg (hlt a (by simp)) hs
 refine ⟨w',⟨N+N',_,T',runNT_then hr e1,⟨gs',sl',q',B',Mem',_,rfl,e3,e4,e5,e6,fun b hb=>by rw [e2];exact hlt b (by simp [hb])⟩,e7.wr hA.wr,e7.tape.trans hA.tape,fun b o ho hop=>?_,fun b hb=>hA.new b (by simp [hb])⟩,h.runs,h.desc⟩
 rcases e7.heap b with e | ⟨hb,_⟩
 ·rw [e];exact hA.old b o ho hop
 ·rcases hb with rfl | rfl
  ·exact absurd ho (hA.new a (by simp) o hop).1
  ·exact absurd ho (hA.new a (by simp) o hop).2
theorem Pos.quit {a:Act} (h:Pos Good w0 s0 m0 T0 q (a::A) (fr0 18 tmps [.code (c3 b18L)] .run) XL (fr0 18 tmps [.code (c3 b18)] .run) X wL w) (hs:Sl a tmps) :
 ∃ tmps' w',70<=tmps'.size/\Pos Good w0 s0 m0 T0 true A (fr0 18 tmps' [.inRegion (o17 b18L) [],.code (r18 b18)] .run) XL (fr0 18 tmps' [.inRegion (o17 b18) [],.code (r18 b18)] .run) X wL w':=by
 obtain ⟨w',h⟩:=h.leave hs
 rw [c3L_eq] at h
 have h:=h.lone rfl (st_seq _ _)
 have h:=h.lone rfl (st_reg _ _)
 rw [o16L_size,show List.range 2=[0,1] from rfl] at h
 obtain ⟨p0,a0,b0,c0,g0⟩:=o16L_0
 obtain ⟨p1,a1,b1,c1,g1⟩:=o16L_1
 obtain ⟨p2,a2,b2,c2,g2⟩:=o17L_0
 obtain ⟨p3,a3,b3,c3,g3⟩:=o17L_1
 have h:=h.lone rfl (st_move a0 g0 (.inl b0))
 have h:=h.lone rfl (st_move a1 g1 (.inl b1))
 have h:=h.lone rfl (st_end _)
 rw [r17L_eq] at h
 have h:=h.lone rfl (st_seq _ _)
 have h:=h.lone rfl (st_reg _ _)
 rw [o17L_size,show List.range 2=[0,1] from rfl] at h
 have h:=h.lone rfl (st_move a2 g2 (.inl b2))
 have h:=h.lone rfl (st_move a3 g3 (.inl b3))
 rw [c0,c1,c2,c3] at h
 refine ⟨putT (t67 tmps a) (some 68) (.int .i64 0),w',by rw [putT_size,t67,putT_size,t66,putT_size];exact hs.size,?_⟩
 have e:putT (putT (putT tmps (some 66) (evF 18 tmps (.tmp 8))) none (evF 18 (putT tmps (some 66) (evF 18 tmps (.tmp 8))) (.tmp 66))) (some 67)
  (evF 18 (putT (putT tmps (some 66) (evF 18 tmps (.tmp 8))) none (evF 18 (putT tmps (some 66) (evF 18 tmps (.tmp 8))) (.tmp 66))) (.tmp 9))=t67 tmps a:=by
  have e1:putT (putT tmps (some 66) (evF 18 tmps (.tmp 8))) none (evF 18 (putT tmps (some 66) (evF 18 tmps (.tmp 8))) (.tmp 66))=t66 tmps a:=by
   show putT tmps (some 66) (evF 18 tmps (.tmp 8))=_
   rw [evF_tmp,getD_of hs.c1];rfl
  rw [e1,evF_tmp]
  have:(t66 tmps a).getD 9 undef = .chan (some a.c2):=by rw [t66,getD_put (by decide)];exact getD_of hs.c2
  rw [this];rfl
 have h':=h
 rw [e] at h'
 exact h'
end
end Go.Proofs.Ytdadmhahbeehhaa
namespace Go.Proofs.Ytdadmhahbeehhaa
open Go Go.Conc Cv
open Go.ConcN (upd upd_same upd_ne)
variable {Good : Frame -> World -> Prop} {Post : Value -> World -> Prop}
inductive Top:List Act->Frame->List Frame->Frame->List Frame->Prop
 | run {o:Option Act} {A:List Act} {fn:FuncId} {tmps:Array Value} {todoL todo:List Item} {XL X:List Frame}:FR o fn tmps todoL todo->SRel A XL X->Top (o.toList++A) (fr0 fn tmps todoL .run) XL (fr0 fn tmps todo .run) X
 | ret {A:List Act} {fn:FuncId} {tmps:Array Value} {todoL todo:List Item} {XL X:List Frame}:SRel A XL X->Top A (fr0 fn tmps todoL .returning) XL (fr0 fn tmps todo .returning) X
section
variable {w0 : World} {s0 : LS} {m0 : Machine} {T0 : Trace} {q : Bool} {A : List Act} {XL X : List Frame} {wL w : World} {fn : FuncId} {tmps : Array Value} {opsL ops : Array Oper} {i : Nat} {t : List Nat} {kL k : List Item} {fr frL : Frame}
theorem Pos.adv (h:Pos Good w0 s0 m0 T0 q A frL XL fr X wL w) (hf:¬ Cv.Fin Try.prog lfuncs frL XL) {Rl:Frame->List Frame->Frame->List Frame->Prop}
 (hsim:∀ d,∃ frL' XL' wL' es fr' X' w' es',stepG PL true (G0 frL XL) (tp wL w.tape d) = .go (G0 frL' XL') wL' es/\stepG Try.prog true (G0 fr X) (w.at d) = .go (G0 fr' X') w' es'/\Rl frL' XL' fr' X'/\WR wL' w'/\w'.tape=w.tape/\KeepC w w'/\∀ e ∈ es',EvOk e) :
 ∃ frL' XL' wL' fr' X' w',Rl frL' XL' fr' X'/\Pos Good w0 s0 m0 T0 true A frL' XL' fr' X' wL' w':=by
 obtain ⟨N,m,T,hr,hA⟩:=h.ex
 obtain ⟨N',d,fr',X',w',es,m',T',e1,e2,e3⟩:=hA.hold fun d=>by
  obtain ⟨_,_,_,_,fr',X',w',es',_,h2,_,_,h3,h4,h5⟩:=hsim d
  exact ⟨fr',X',w',es',h2,h5,h4,h3⟩
 obtain ⟨frL',XL',wL',esL,fr2,X2,w2,es2,f1,f2,f3,f4,f5,f6,f7⟩:=hsim d
 rw [e1] at f2
 simp only [GStep.go.injEq,Goroutine.mk.injEq] at f2
 obtain ⟨⟨rfl,rfl,_⟩,rfl,_⟩:=f2
 obtain ⟨p1,p2⟩:=h.runs.peel hf f1
 exact ⟨_,_,_,_,_,_,f3,⟨N+N',m',T',runNT_then hr e2,e3 _ f4⟩,p1,.inr (desc_step h.desc p2)⟩
theorem ret_pair {fn fn':FuncId} {tmps tmps':Array Value} {todoL todo kL k:List Item} {XL X:List Frame} {wL w:World} (hw:WR wL w)
 (htree:∀ t d,∃ fr' X' w' es,stepG PL true (G0 (fr0 fn tmps todoL .returning) (fr0 fn' tmps' kL .run::XL)) (tp wL t d) = .go (G0 fr' X') w' es/\LSt Try.prog lfuncs fr' X') (d:Nat) :
 ∃ v wL' es w' es',stepG PL true (G0 (fr0 fn tmps todoL .returning) (fr0 fn' tmps' kL .run::XL)) (tp wL w.tape d) = .go (G0 ((fr0 fn' tmps' kL .run).finish v) XL) wL' es /\
  stepG Try.prog true (G0 (fr0 fn tmps todo .returning) (fr0 fn' tmps' k .run::X)) (w.at d) = .go (G0 ((fr0 fn' tmps' k .run).finish v) X) w' es'/\WR wL' w'/\w'.tape=w.tape/\KeepC w w'/\∀ e ∈ es',EvOk e:=by
 have hPL:PL.funcs[fn]? = (Try.prog.funcs[fn]?).map (lfun fn):=lfuncs_get fn
 have hw':=WR.tp hw d
 cases hf:Try.prog.funcs[fn]? with
 | none =>
  rw [hf] at hPL
  have e:∀ (p:Program) (_:p.funcs[fn]? = none) (todo k X:List _) (w:World),stepG p true (G0 (fr0 fn tmps todo .returning) (fr0 fn' tmps' k .run::X)) w = .go (G0 ((fr0 fn' tmps' k .run).finish (tmps.getD 0 undef)) X) w:=fun p hp todo k X w=>by
   simp [stepG,unwind,fr0,hp,doReturn]
  exact ⟨_,_,_,_,_,e PL hPL todoL kL XL _,e Try.prog hf todo k X _,hw',rfl,KeepC.refl w,by simp⟩
 | some f =>
  rw [hf] at hPL
  have hres:(lfun fn f).results=f.results:=(lfun_ntmps fn f).2
  have hreq:∀ tm,results (lfun fn f) tm=results f tm:=fun tm=>by unfold results;rw [hres]
  have e1:∀ (p:Program) (g:Func) (_:p.funcs[fn]? = some g) (todo:List Item) (k:List Item) (X:List Frame) (w w':World) (v:Value) (es:Array Event),(results g tmps).runT p w #[]=(.ok v w',es)->stepG p true (G0 (fr0 fn tmps todo .returning) (fr0 fn' tmps' k .run::X)) w = .go (G0 ((fr0 fn' tmps' k .run).finish v) X) w' (seen p fn es):=fun p g hp todo k X w w' v es hr=>by
   have hr1:(results g tmps).run p w=_:=(Sem.runT_fst p (results g tmps) w #[]).symm.trans (congrArg Prod.fst hr)
   have hr2:(results g tmps).events p w #[]=es:=congrArg Prod.snd hr
   simp only at hr1
   simp [stepG,unwind,fr0,hp,doReturn,hr1,hr2,GStep.after]
  have hal:=par (TT_results (P:=Try.prog) (F:=lfuncs) (lfun fn f) tmps fun _=>False) _ _ hw' fun _ h=>h.elim
  have hfst:=Sem.runT_fst PL (results (lfun fn f) tmps) (tp wL w.tape d) #[]
  generalize hR:(results (lfun fn f) tmps).runT PL (tp wL w.tape d) #[]=R at hfst
  obtain ⟨r,es⟩:=R
  simp only at hfst
  rw [<-hfst] at hal
  cases r with
  | ok v wL' =>
   obtain ⟨_,c,h1,h2,h3⟩:=hal
   obtain ⟨w',g1,g2,g3,g4,g5⟩:=h3 fun _ _=>rfl
   obtain ⟨es',g6,g7⟩:=g5 #[]
   rw [hreq] at g6
   exact ⟨v,wL',_,w',_,e1 PL _ hPL _ _ _ _ _ _ _ hR,e1 Try.prog f hf _ _ _ _ _ _ _ g6,g1,g2,g4,fun e he=>(g7 e (Go.Conc.mem_seen he)).resolve_left (by simp)⟩
  | halt h w' =>
   exfalso
   obtain ⟨fr',X',w2,es2,e,hL⟩:=htree w.tape d
   have hr1:(results (lfun fn f) tmps).run PL (tp wL w.tape d)=_:=(Sem.runT_fst PL (results (lfun fn f) tmps) (tp wL w.tape d) #[]).symm.trans (congrArg Prod.fst hR)
   have hr2:(results (lfun fn f) tmps).events PL (tp wL w.tape d) #[]=es:=congrArg Prod.snd hR
   simp only at hr1
   have hPL':(alt Try.prog lfuncs).funcs[fn]? = some (lfun fn f):=hPL
   cases h <;> simp [stepG,unwind,fr0,hPL',hr1,hr2,GStep.after] at e
def PostF (w0:World) (r:Value):Value->World->Prop:=fun v w=>v=r/\Go.RowKit.Below w0.heap.size w0 w
def noLoop:Obj->Obj
 | .loop _=>ch0
 | o=>o
def start0 (w:World):World:={ w with heap:=w.heap.map noLoop }
theorem start0_get (w:World) (b:Nat):(start0 w).heap[b]? = (w.heap[b]?).map noLoop:=by simp [start0]
theorem start0_nl (w:World):NL (start0 w):=by
 intro b l h
 rw [start0_get] at h
 cases hb:w.heap[b]? with
 | none=>rw [hb] at h;cases h
 | some o=>rw [hb] at h;cases o <;> simp [noLoop,ch0] at h
theorem start0_wr (w:World):WR (start0 w) w:=by
 refine ⟨by simp [start0],rfl,rfl,fun b=>?_,start0_nl w⟩
 rw [start0_get]
 cases hb:w.heap[b]? with
 | none=>exact .inl rfl
 | some o=>cases o <;> first | exact .inl rfl | exact .inr ⟨_,_,rfl,rfl,rfl,rfl⟩
theorem start0_same {w:World} {b:Nat} {o:Obj} (h:w.heap[b]? = some o) (hop:isOp o=false):(start0 w).heap[b]? = some o:=by
 rw [start0_get,h]
 cases o <;> first | rfl | cases hop
def LoneR (w0:World) (r:Value):Ending->World->Prop:=fun e w=>e = .returned r/\Go.RowKit.Below (start0 w0).heap.size { start0 w0 with tape:=w.tape } w
abbrev GoodF (w0:World) (f:FuncId) (r:Value):Frame->World->Prop:=fun fr w=>∃ t d e,LoneR w0 r e (tp w t d)/\fr.leaving PL (tp w t d) e/\fr.fn=f
theorem finish {f:FuncId} {fn0:Func} {kk:Tmp} {r:Value} (hf:Try.prog.funcs[f]? = some fn0) (hres:fn0.results=#[.tmp kk]) (hini:Try.prog.inits.idxOf? f=none)
 {fn:FuncId} {tmps:Array Value} {todoL todo:List Item} {m:Machine} {T:Trace} (hG:GoodF w0 f r (fr0 fn tmps todoL .returning) wL) (hA:At w0 [] (fr0 fn tmps todo .returning) [] wL w m T):Cv.Ends Try.prog (PostF w0 r) m T:=by
 obtain ⟨tt,dd,e,⟨rfl,hB⟩,⟨_,_,_,g,hg,hrun⟩,rfl⟩:=hG
 obtain ⟨gs,sl,qq,B,Mem,Inb,rfl,hgs,C,hM,hO,hlt⟩:=hA.ex
 have hI:∀ i,i ≠ 0->Inb i=none:=fun i hi=>by
  cases e:Inb i with
  | none=>rfl
  | some s=>obtain ⟨a,ha,_⟩:=hO.only i s hi e;cases ha
 obtain ⟨hL,hP⟩:=ring_end C hM hI
 have hf':Try.prog.funcs[fn]? = some fn0:=hf
 have hini':Try.prog.inits.idxOf? fn=none:=hini
 have hini2:=hini'
 simp at hini2
 have hR:∀ g:Func,g.results=fn0.results->results g tmps=Pure.pure (tmps.getD kk undef):=fun g hg=>by
  unfold results
  rw [hg,hres]
  simp
 have hv:tmps.getD kk undef=r:=by
  have hPL:PL.funcs[fn]? = some (lfun fn fn0):=by
   show lfuncs[fn]? = _
   rw [lfuncs_get,hf'];rfl
  have hg':PL.funcs[fn]? = some g:=hg
  rw [hPL] at hg'
  obtain rfl:=Option.some.inj hg'
  have h2:results (lfun fn fn0) tmps=Pure.pure (tmps.getD kk undef):=hR _ (lfun_ntmps fn fn0).2
  have hrun':(results (lfun fn fn0) tmps).run PL (tp wL tt dd) = .ok r (tp wL tt dd):=hrun
  rw [h2] at hrun'
  simp only [Sem.run_pure,Result.ok.injEq] at hrun'
  exact hrun'.1
 have hstep:∀ w,stepG Try.prog true (G0 (fr0 fn tmps todo .returning) []) w = .ended (.done r) w #[]:=fun w=>by
  have h2:=hR fn0 rfl
  rw [hv] at h2
  simp [stepG,unwind,fr0,hf',doReturn,h2,hini2,seen,GStep.after]
 have hpost:∀ w₁,AtRel w w₁->PostF w0 r r w₁:=by
  rintro _ ⟨d,rfl⟩
  refine ⟨rfl,⟨?_,hA.tape,?_,?_,fun b hb=>?_⟩⟩
  ·exact hA.wr.os.symm.trans hB.os
  ·exact hA.wr.out.symm.trans hB.output
  ·have h1:=hB.size
   have h2:(start0 w0).heap.size=w0.heap.size:=by simp [start0]
   have h3:=hA.wr.size
   show w0.heap.size<=w.heap.size
   have h1':(start0 w0).heap.size<=wL.heap.size:=h1
   omega
  ·have h2:(start0 w0).heap.size=w0.heap.size:=by simp [start0]
   show w.heap[b]? = w0.heap[b]?
   obtain ⟨o,ho⟩:∃ o,w0.heap[b]? = some o:=⟨_,Array.getElem?_eq_getElem hb⟩
   by_cases hop:isOp o=true
   ·rw [ho];exact hA.old b o ho hop
   ·have hop':isOp o=false:=by simpa using hop
    have h4:wL.heap[b]? = (start0 w0).heap[b]?:=hB.block b (by omega)
    rw [start0_same ho hop'] at h4
    rw [ho]
    exact hA.wr.nochan h4 hop'
 obtain ⟨N,last,o,w',t',r1,r2,r3,r4⟩:=beside_ends (P:=Try.prog) (Shun:=fun _=>False) (B:=B) (D:=fun _ _ _=>False) (Post:=PostF w0 r) (n:=0) (fun _ _ _ h=>h.elim) (sl:=sl) hgs hL hP
  (fun w₁ h₁=>⟨rfl,r,#[],hstep w₁,by simp,hpost w₁ h₁⟩)
 exact ⟨N,last,o,w',t',r1,r2,r3,r4⟩
end
end Go.Proofs.Ytdadmhahbeehhaa
namespace Go.Proofs.Ytdadmhahbeehhaa
open Go Go.Conc Cv
open Go.ConcN (upd upd_same upd_ne)
variable {Good : Frame -> World -> Prop} {Post : Value -> World -> Prop}
section
variable {w0 : World} {s0 : LS} {m0 : Machine} {T0 : Trace} {q : Bool} {A : List Act} {XL X : List Frame} {wL w : World} {fn : FuncId} {tmps : Array Value} {opsL ops : Array Oper} {i : Nat} {t : List Nat} {kL k : List Item} {fr frL : Frame}
theorem b18_s:b18 = .seq (cl b18) (cr b18):=by kernel_rfl
theorem b18L_s:b18L = .seq (cl b18) (cr b18L):=by kernel_rfl
theorem crb_s:cr b18 = .seq (h18 b18) (tail18 b18):=by kernel_rfl
theorem crbL_s:cr b18L = .seq (h18 b18) (tail18 b18L):=by kernel_rfl
theorem rest_s:rest18 b18 = .seq r7 (cr (rest18 b18)):=by kernel_rfl
theorem restL_s:rest18 b18L = .seq r7 (cr (rest18 b18L)):=by kernel_rfl
theorem rest2_s:cr (rest18 b18) = .seq r8 (cr (cr (rest18 b18))):=by kernel_rfl
theorem rest2L_s:cr (rest18 b18L) = .seq r8 (cr (cr (rest18 b18L))):=by kernel_rfl
theorem rest3_s:cr (cr (rest18 b18)) = .seq (r9b (c2 b18)) (c3 b18):=by kernel_rfl
theorem rest3L_s:cr (cr (rest18 b18L)) = .seq (r9b (c2 b18L)) (c3 b18L):=by kernel_rfl
theorem c2_s:c2 b18 = .seq (.region 12 (o12 b18) false) (r13 b18):=by kernel_rfl
theorem c2L_s:c2 b18L = .seq (.region 12 (o12 b18L) false) (r13 b18L):=by kernel_rfl
theorem o12_size:(o12 b18).size=7:=by kernel_rfl
theorem o12L_size:(o12 b18L).size=7:=by kernel_rfl
theorem o12_0:∃ o,(o12 b18)[0]? = some o/\o.op = .move (.tmp 8)/\o.dst=some 51/\o.guard=none:=opAt (by kernel_rfl) (by kernel_rfl) (by kernel_rfl) (by kernel_rfl)
theorem o12L_0:∃ o,(o12 b18L)[0]? = some o/\o.op = .move (.tmp 8)/\o.dst=some 51/\o.guard=none:=opAt (by kernel_rfl) (by kernel_rfl) (by kernel_rfl) (by kernel_rfl)
def opPlain (P:Program) (o:Oper):Bool:=opOK P o.op && okDst o.dst && o.dst != some 51 && o.guard.isNone
theorem o12_mid:(List.range' 1 5).all (fun i=>match (o12 b18)[i]? with | some o=>opPlain Try.prog o | none=>false)=true:=by kernel_rfl
theorem o12_tail:∀ i,i ∈ List.range' 1 5->(o12 b18L)[i]? = (o12 b18)[i]?:=by
 intro i hi
 have h1:(o12 b18L)=(o12 b18).modify 6 fun o=>{ o with dst:=some 60,op:=.binOp .leq 3 (.tmp 56) (.tmp 1) 3,type:=4 }:=by kernel_rfl
 simp only [List.mem_range'_1] at hi
 rw [h1,Array.getElem?_modify,if_neg (by omega)]
theorem o12_plain {i:Nat} (h1:1<=i) (h6:i<6):∃ o,(o12 b18)[i]? = some o/\(o12 b18L)[i]? = some o/\opOK Try.prog o.op=true/\okDst o.dst=true/\o.dst ≠ some 51/\o.guard=none:=by
 have hi:i ∈ List.range' 1 5:=by simp only [List.mem_range'_1];omega
 have:=List.all_eq_true.1 o12_mid i hi
 have ht:=o12_tail i hi
 cases e:(o12 b18)[i]? with
 | none=>rw [e] at this;cases this
 | some o =>
  rw [e] at this ht
  simp only [opPlain,Bool.and_eq_true,bne_iff_ne,ne_eq,Option.isNone_iff_eq_none] at this
  exact ⟨o,rfl,ht,this.1.1.1,this.1.1.2,this.1.2,this.2⟩
theorem o13_4:(o13 b18L)[4]? = (o13 b18)[4]?:=by kernel_rfl
theorem o13_4p:(match (o13 b18)[4]? with | some o=>opPlain Try.prog o | none=>false)=true:=by kernel_rfl
theorem cr13_ok:codeChk Try.prog (cr (r13 b18))=true:=by kernel_rfl
theorem r18_ok:codeOK Try.prog (r18 b18)=true:=by kernel_rfl
theorem Pos.sim {S:Pairs} {todoL todo:List Item} (h:Pos Good w0 s0 m0 T0 q A (fr0 fn tmps todoL .run) XL (fr0 fn tmps todo .run) X wL w) (hT:Cv.TR Try.prog S todoL todo)
 (hsp:∀ opsL ops i t kL k,todoL = .inRegion opsL (i::t)::kL->todo = .inRegion ops (i::t)::k->¬ S.op opsL ops i)
 (hsc:∀ cL c kL k,todoL = .code cL::kL->todo = .code c::k->¬ S.mid cL c) (hsl:∀ cL c,todoL=[.code cL]->todo=[.code c]->¬ S.code cL c) :
 ∃ frL' XL' wL' fr' X' w',Nxt S fn tmps todoL todo XL X frL' XL' fr' X'/\Pos Good w0 s0 m0 T0 true A frL' XL' fr' X' wL' w' :=
 h.adv (not_fin rfl) fun d=>sim1 hT h.wr hsp hsc hsl (fun t d=>runs_tree h.runs (not_fin rfl) t d) d
theorem top_enter {f:FuncId} {args:Array Value} {A:List Act} {XL X:List Frame} (hS:SRel A XL X):Top A (Frame.enter PL f args .normal) XL (Frame.enter Try.prog f args .normal) X:=by
 obtain ⟨tm,cL,c,e1,e2,hT⟩:=enter_rel f args
 rw [e1,e2]
 refine Top.run (o:=none) (.plain (fun h=>?_) hT) hS
 subst h
 have e3:tm=(Frame.enter Try.prog 18 args .normal).tmps:=by rw [e2];rfl
 rw [e3]
 simp [Frame.enter,Try.func18,Try.f18]
 omega
theorem sact_sb {l m:List Item} (h:Cv.TR Try.prog Sact l m):Cv.TR Try.prog Sb l m:=Cv.TR.mono (S:=Sact) (S':=Sb) (fun _ _ _ h=>h.elim) (fun _ _ h=>.inr h) (fun h=>h.elim) (fun _ h=>h) (fun _ _ h=>h) h
theorem range_cons {i:Nat} (h:i<=6):List.range' i (7-i)=i::List.range' (i+1) (7-(i+1)):=by
 rw [show 7-i=(6-i)+1 by omega,show 7-(i+1)=6-i by omega,List.range'_succ]
theorem follow {f:FuncId} {fn0:Func} {kk:Tmp} {r:Value} (hf:Try.prog.funcs[f]? = some fn0) (hres:fn0.results=#[.tmp kk]) (hini:Try.prog.inits.idxOf? f=none) {w0:World} :
 ∀ s:LS,Cv.Runs Try.prog lfuncs (GoodF w0 f r) s.fr s.X s.w->∀ A fr X w m T,Top A s.fr s.X fr X->At w0 A fr X s.w w m T->Cv.Ends Try.prog (PostF w0 r) m T:=by
 refine Cv.Runs.ind (C:=fun s=>∀ A fr X w m T,Top A s.fr s.X fr X->At w0 A fr X s.w w m T->Cv.Ends Try.prog (PostF w0 r) m T) ?_
 intro s hr IH A fr X w m T hTop hAt
 have p0:Pos (GoodF w0 f r) w0 s m T false A s.fr s.X fr X s.w w:=⟨⟨0,m,T,rfl,hAt⟩,hr,.inl ⟨rfl,rfl⟩⟩
 have close:∀ {A':List Act} {frL':Frame} {XL':List Frame} {fr':Frame} {X':List Frame} {wL' w':World},Pos (GoodF w0 f r) w0 s m T true A' frL' XL' fr' X' wL' w'->Top A' frL' XL' fr' X'->Cv.Ends Try.prog (PostF w0 r) m T:=by
  intro A' frL' XL' fr' X' wL' w' hp ht
  obtain ⟨N,m',T',e,hA'⟩:=hp.ex
  have hd:=hp.desc.resolve_left (by rintro ⟨e,_⟩;cases e)
  exact (IH _ hd hp.runs _ _ _ _ _ _ ht hA').after e
 obtain ⟨frS,XS,wS⟩:=s
 simp only at hTop hAt p0 hr
 clear IH
 cases hTop with
 | @ret _ fn tmps todoL todo _ _ hS =>
  cases hS with
  | base =>
   cases hr with
   | fin h1 h2 h3 h4=>exact finish hf hres hini h4 hAt
   | step nx h1=>exact absurd ⟨rfl,rfl⟩ h1
  | @cons oo A fn' tmps' kL k XL X hF hW hS' =>
   have hnf:¬ Cv.Fin Try.prog lfuncs (fr0 fn tmps todoL .returning) (fr0 fn' tmps' kL .run::XL):=fun ⟨_,e⟩=>by simp [fr0,c0] at e
   obtain ⟨frL',XL',wL',fr',X',w',⟨v,rfl,rfl,rfl,rfl⟩,h⟩:=p0.adv hnf (Rl:=fun a b c d=>∃ v,a=(fr0 fn' tmps' kL .run).finish v/\b=XL/\c=(fr0 fn' tmps' k .run).finish v/\d=X) fun d=>by
    obtain ⟨v,wL',es,w',es',h1,h2,h3,h4,h5,h6⟩:=ret_pair p0.wr (fun t d=>runs_tree p0.runs hnf t d) d
    exact ⟨_,_,_,_,_,_,_,_,h1,h2,⟨v,rfl,rfl,rfl,rfl⟩,h3,h4,h5,h6⟩
   obtain ⟨tm,kL',k',e1,e2,hF'⟩:=finish_rel hF hW v
   rw [e1,e2] at h
   exact close h (.run hF' hS')
 | @run oo A fn tmps todoL todo XL X hF hS =>
  cases hF with
  | plain hz hT =>
   by_cases hl:∃ cL c,todoL=[.code cL]/\todo=[.code c]/\(Spre fn).code cL c
   ·obtain ⟨cL,c,rfl,rfl,rfl,hc⟩:=hl
    rcases hc with ⟨rfl,rfl⟩ | ⟨rfl,rfl⟩ | ⟨rfl,rfl⟩
    ·rw [b18_s,b18L_s] at p0
     obtain ⟨d,h⟩:=p0.seq
     exact close h (.run (o:=none) (.plain hz (.cons (.code cr18.1) (.last ⟨rfl,.inr (.inl ⟨rfl,rfl⟩)⟩))) hS)
    ·rw [crb_s,crbL_s] at p0
     obtain ⟨d,h⟩:=p0.seq
     exact close h (.run (o:=none) (.plain hz (.cons (.code cr18.2) (.last ⟨rfl,.inr (.inr ⟨rfl,rfl⟩)⟩))) hS)
    ·obtain ⟨a,tm,wL',w',hs,h⟩:=p0.start (hz rfl)
     exact close h (.run (o:=some a) (.act hs (.cons (.inRegion [] (by simp)) (.last (.inl ⟨rfl,rfl⟩)))) hS)
   ·obtain ⟨frL',XL',wL',fr',X',w',hN,h⟩:=p0.sim hT (fun _ _ _ _ _ _ _ _=>id) (fun _ _ _ _ _ _=>id) (fun cL c e1 e2 hc=>hl ⟨cL,c,e1,e2,hc⟩)
    cases hN with
    | run tm l m' hk _ _ hT'=>exact close h (.run (o:=none) (.plain (fun e=>by
     rcases hk with rfl | ⟨d,v,_,rfl⟩
     ·exact hz e
     ·rw [putT_size];exact hz e) hT') hS)
    | ret=>exact close h (.ret hS)
    | enter g args hW=>exact close h (top_enter (.cons (o:=none) (.plain hz hT) hW hS))
  | @act a _ _ _ hs hT =>
   by_cases hl:∃ cL c,todoL=[.code cL]/\todo=[.code c]/\Sact.code cL c
   ·obtain ⟨cL,c,rfl,rfl,hc⟩:=hl
    rcases hc with ⟨rfl,rfl⟩ | ⟨rfl,rfl⟩ | ⟨rfl,rfl⟩ | ⟨rfl,rfl⟩
    ·rw [rest_s,restL_s] at p0
     obtain ⟨d,h⟩:=p0.seq
     exact close h (.run (o:=some a) (.act hs (.cons (.code crRest.1) (.last (.inr (.inl ⟨rfl,rfl⟩))))) hS)
    ·rw [rest2_s,rest2L_s] at p0
     obtain ⟨d,h⟩:=p0.seq
     exact close h (.run (o:=some a) (.act hs (.cons (.code crRest.2.1) (.last (.inr (.inr (.inl ⟨rfl,rfl⟩)))))) hS)
    ·rw [rest3_s,rest3L_s] at p0
     obtain ⟨d,h⟩:=p0.seq
     exact close h (.run (o:=some a) (.act hs (.cons (.code crRest.2.2) (.last (.inr (.inr (.inr ⟨rfl,rfl⟩)))))) hS)
    ·obtain ⟨tm,w',hz,h⟩:=p0.quit hs
     exact close h (.run (o:=none) (.plain (fun _=>hz) (.cons (.inRegion [] (by simp)) (.cons (.code (cr_same trivial (fun _=>trivial) _ r18_ok)) (.nil trivial)))) hS)
   ·by_cases hm:∃ cL c kL k,todoL = .code cL::kL/\todo = .code c::k/\Sact.mid cL c
    ·obtain ⟨cL,c,kL,k,rfl,rfl,rfl,rfl⟩:=hm
     have hk:Cv.TR Try.prog Sact kL k:=by
      cases hT with
      | last h=>exact absurd ⟨_,_,rfl,rfl,h⟩ hl
      | cons _ hk=>exact hk
     rw [c2_s,c2L_s] at p0
     obtain ⟨d1,h⟩:=p0.seq
     obtain ⟨d2,h⟩:=h.reg (by rw [o12_size,o12L_size])
     rw [o12_size,show List.range 7=[0,1,2,3,4,5,6] from rfl] at h
     obtain ⟨d3,h⟩:=h.mv (mvL o12L_0) (mvL o12_0)
     have hz:=hs.size
     exact close h (.run (o:=some a) (.actB 1 (hs.put (by decide) _) (by omega) (by omega) (by rw [putT_self (by omega),evF_tmp,getD_of hs.c1]) hk) hS)
    ·obtain ⟨frL',XL',wL',fr',X',w',hN,h⟩:=p0.sim hT (fun _ _ _ _ _ _ _ _=>id) (fun cL c kL k e1 e2 hc=>hm ⟨cL,c,kL,k,e1,e2,hc⟩) (fun cL c e1 e2 hc=>hl ⟨cL,c,e1,e2,hc⟩)
     cases hN with
     | run tm l m' hk _ _ hT'=>exact close h (.run (o:=some a) (.act (hs.keeps (fun _ h=>h) hk) hT') hS)
     | ret _ _ hp=>exact hp.elim
     | enter g args hW=>exact close h (top_enter (.cons (o:=some a) (.act hs hT) hW hS))
  | @actB a _ kL k i hs h1 h6 h51 hk =>
   rw [range_cons h6] at p0 close
   by_cases h:i=6
   ·subst h
    obtain ⟨tm,w',hs',h⟩:=p0.ask hs h51
    refine close h (.run (o:=some a) (.act hs' (.cons (.inRegion [4] fun j hj=>?_) (.cons (.code (cr_chk (fun _ h=>h) _ cr13_ok)) hk))) hS)
    obtain rfl:j=4:=by simpa using hj
    refine .same o13_4 fun o ho=>?_
    have:=o13_4p
    rw [ho] at this
    simp only [opPlain,Bool.and_eq_true,bne_iff_ne,ne_eq,Option.isNone_iff_eq_none] at this
    exact ⟨this.1.1.1,.inl this.2,this.1.1.2⟩
   ·obtain ⟨o,g1,g2,g3,g4,g5,g6⟩:=o12_plain h1 (by omega)
    have hreg:∀ j ∈ i::List.range' (i+1) (7-(i+1)),RegAt Try.prog Sb (o12 b18L) (o12 b18) j:=by
     intro j hj
     have hj':i<=j/\j<=6:=by
      rw [<-range_cons h6] at hj
      simp only [List.mem_range'_1] at hj
      omega
     by_cases e:j=6
     ·subst e;exact .sp ⟨rfl,rfl,rfl⟩
     ·obtain ⟨o,g1,g2,g3,g4,g5,g6⟩:=o12_plain (i:=j) (by omega) (by omega)
      exact .same (g2.trans g1.symm) fun o' ho'=>by
       obtain rfl:o=o':=Option.some.inj (g1.symm.trans ho')
       exact ⟨g3,.inl g6,g4⟩
    obtain ⟨frL',XL',wL',fr',X',w',hN,h⟩:=p0.sim (S:=Sb) (.cons (.inRegion _ hreg) (.cons (.code (.marked (.inl ⟨rfl,rfl⟩))) (sact_sb hk)))
     (fun _ _ _ _ _ _ e1 e2 hc=>by
      simp only [List.cons.injEq,Item.inRegion.injEq] at e1
      obtain ⟨⟨rfl,rfl,_⟩,_⟩:=e1
      exact ‹¬ i=6› hc.2.2) (fun _ _ _ _ e1=>by cases e1) (fun _ _ e1=>by cases e1)
    cases hN with
    | run tm l m' hkp ht1 ht2 hT' =>
     obtain ⟨rfl,v,rfl⟩:=ht1 _ _ _ _ rfl
     obtain rfl:=ht2 _ _ _ _ rfl
     have hd:((o12 b18L)[i]?).bind (·.dst)=o.dst:=by rw [g2];rfl
     rw [hd] at h
     exact close h (.run (o:=some a) (.actB (i+1) (hs.put g4 v) (by omega) (by omega) (by rw [putT_get g5];exact h51) hk) hS)
    | ret _ _ hp=>exact hp.elim
    | enter g args hW =>
     exfalso
     obtain ⟨opsL,ops,i',t,kL',k',e1,e2,e,op,c,ho,hc⟩:=hW
     simp only [List.cons.injEq,Item.inRegion.injEq] at e2
     obtain ⟨⟨rfl,rfl,_⟩,_⟩:=e2
     obtain ⟨hl,he⟩:=Array.getElem?_eq_some_iff.1 ho
     have:=Array.all_eq_true.1 o12_nocall i hl
     rw [he,hc] at this
     cases this
end
end Go.Proofs.Ytdadmhahbeehhaa
namespace Go.Proofs.Ytdadmhahbeehhaa
open Go Go.Conc Cv
open Go.ConcN (upd upd_same upd_ne)
theorem run_of_lone {f:FuncId} {fn0:Func} {kk:Tmp} {r:Value} (hf:Try.prog.funcs[f]? = some fn0) (hres:fn0.results=#[.tmp kk]) (hini:Try.prog.inits.idxOf? f=none) (args:Array Value) (W:World)
 (hc:∀ t,Calls Try.lprog f args (tp (start0 W) t 0) fun e w'=>e = .returned r/\Go.RowKit.Below (tp (start0 W) t 0).heap.size (tp (start0 W) t 0) w') :
 ∃ M last o w' t',runNT Try.prog (M+1) (solo (G (Frame.enter Try.prog f args .normal) []) W) #[]=(.ended o w',t')/\runN Try.prog M (solo (G (Frame.enter Try.prog f args .normal) []) W) = .next last /\
  step Try.prog last = .ended o w'/\Conc.Good Try.prog (PostF W r) last o w' t':=by
 have hR:Cv.Runs Try.prog lfuncs (GoodF W f r) (Frame.enter PL f args .normal) [c0 Try.prog lfuncs] (start0 W) :=
  runs_of_calls (R:=LoneR W r) lone_ok (start0_nl W) (fun e w h=>⟨r,h.1⟩) fun t=>(hc t).mono fun e w' ⟨h1,h2⟩=>⟨h1,⟨h2.os,rfl,h2.output,h2.size,h2.block⟩⟩
 have hRing:RingC Try.prog 0 (fun g=>g=0) (fun _=>none) 0 #[] #[G0 (Frame.enter Try.prog f args .normal) []] W (fun _=>0) :=
  ring_begin (fun _ z=>z.elim) (leavers_one _ _) past_nil trivial
 have hA:At W [] (Frame.enter Try.prog f args .normal) [] (start0 W) W (crowd #[G0 (Frame.enter Try.prog f args .normal) []] W none) #[] :=
  ⟨⟨_,none,_,_,_,_,rfl,rfl,hRing,rfl,⟨rfl,(fun _ h=>by cases h),(fun _ _ _ h=>by cases h),(fun _ h=>by cases h),List.Pairwise.nil⟩,(fun _ h=>by cases h)⟩,start0_wr W,rfl,(fun _ _ h _=>h),(fun _ h=>by cases h)⟩
 obtain ⟨N,last,o,w',t',h1,h2,h3,h4⟩:=follow hf hres hini ⟨_,_,_⟩ hR [] _ _ W _ _ (top_enter .base) hA
 exact ⟨N,last,o,w',t',h1,h2,h3,h4⟩
end Go.Proofs.Ytdadmhahbeehhaa
namespace Dak
open Go Go.RowKit
variable [Globs]
theorem tr_ofRow {k:IntKind} {w:World} {a:Option Addr} {len cap:Nat} {zs:List Int} (h:(a=none/\len=0/\cap=0/\zs=[]) \/
 ∃ x,a=some x/\len<=cap/\cap<=maxLen/\zs.length=cap/\(∀ i,i<zs.length->w.cell? (x.add i)=some (.int k (zs.getD i 0)))/\∀ n ∈ zs,(Lit.int k n).wf=true) :
 TR w (fun _=>True) (.list 1 ((zs.take len).map fun n=>.val (.int k n))) (.slice a len cap):=by
 rcases h with ⟨rfl,rfl,rfl,rfl⟩ | ⟨⟨b,o,sp⟩,rfl,hl,hm,hz,hc,_⟩
 ·exact .nolist _ _ _ (Nat.zero_le _)
 ·by_cases h0:len=0
  ·subst h0;exact .nolist _ _ _ hm
  ·have hsp:sp=none:=World.cell?_spot (hc 0 (by omega))
   subst hsp
   have hlen:((zs.take len).map fun n=>AV.val (.int k n)).length=len:=by simp;omega
   have:=TR.list (w:=w) (F:=fun _=>True) 1 ((zs.take len).map fun n=>AV.val (.int k n)) b o cap (fun i _=>.int k (zs.getD i 0)) trivial (isC.of_cell (hc 0 (by omega))) (by omega) hm
    (fun i hi=>by simp [AV.cells]) (fun i j hi hj=>by
     have:j=0:=by omega
     subst this
     have:=hc i (by omega)
     rw [Nat.mul_one,Nat.add_zero]
     by_cases hi0:i=0
     ·subst hi0;simpa [Addr.add] using this
     ·simpa [Addr.add,hi0] using this) (fun i j hi hj=>rfl) (fun i hi j hj=>by
     simp only [List.getElem_map,AV.cells,List.length_singleton] at hj ⊢
     have:j=0:=by omega
     subst this
     have h1:i<zs.length:=by omega
     simp only [List.getElem_cons_zero,List.getElem_take,List.getD_eq_getElem?_getD,List.getElem?_eq_getElem h1,Option.getD_some]
     exact .val _)
   rw [hlen] at this
   exact this
theorem wf_i64 {n:Int} (h:(Lit.int .i64 n).wf=true) : -9223372036854775808<=n/\n<=9223372036854775807:=by
 simp [Lit.wf] at h
 have:IntKind.i64.min = -9223372036854775808:=by decide
 omega
end Dak
namespace Go.Proofs.Ytdadmhahbeehhaa
open Go.RowKit Dak
theorem start_cell {w:Go.World} {a:Go.Addr} {v:Go.Value} (t:Nat->Go.Question->Nat) (h:w.cell? a=some v):(Cv.tp (start0 w) t 0).cell? a=some v:=by
 have e:(Cv.tp (start0 w) t 0).cell? a=(start0 w).cell? a:=rfl
 rw [e]
 unfold Go.World.cell? at h ⊢
 cases hb:w.heap[a.block]? with
 | none=>rw [hb] at h;cases h
 | some o =>
  rw [hb] at h
  cases o with
  | cells c t s =>
   rw [start0_same hb rfl]
   exact h
  | _=>cases h
theorem run_ctr {f:Go.FuncId} {fn0:Go.Func} {kk:Go.Tmp} (hf:Try.prog.funcs[f]? = some fn0) (hres:fn0.results=#[.tmp kk]) (hini:Try.prog.inits.idxOf? f=none) (args:Array Go.Value) (W:Go.World) {xs:List AV}
 (h:Ctr Try.lprog f xs (vb true)) (hs:args.size=xs.length) (ht:∀ w':Go.World,(∀ a v,W.cell? a=some v->w'.cell? a=some v)->∀ i (h1:i<xs.length) (h2:i<args.size),TR w' (fun _=>True) xs[i] args[i]) :
 ∃ M last o w' t',Go.runNT Try.prog (M+1) (Go.Conc.solo (Go.Conc.G (Go.Frame.enter Try.prog f args .normal) []) W) #[]=(.ended o w',t')/\Go.runN Try.prog M (Go.Conc.solo (Go.Conc.G (Go.Frame.enter Try.prog f args .normal) []) W) = .next last /\
  Go.step Try.prog last = .ended o w'/\Go.Conc.Good Try.prog (PostF W (.bool true)) last o w' t':=by
 refine run_of_lone hf hres hini args W fun t=>?_
 refine (h.2 (Cv.tp (start0 W) t 0) (fun _=>True) args (fun g hg=>(hg rfl).elim) hs (ht _ fun a v hc=>start_cell t hc)).mono ?_
 rintro e w' ⟨v,rfl,hx,ht⟩
 obtain rfl:=ht.val_inv
 exact ⟨rfl,hx⟩
end Go.Proofs.Ytdadmhahbeehhaa
