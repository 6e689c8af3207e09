/- Lemmas used by all laws. -/
import Derived.Test.YtdadmhahbeehhaaJa
import Derived.Test.YtdadmhahbeehhaaJb
import Derived.Test.YtdadmhahbeehhaaJc
import Derived.Test.YtdadmhahbeehhaaJd
import Derived.RangeFuncFrom
import Derived.RangeFuncNested
import Derived.Maps.RangeRun
set_option linter.unusedSimpArgs false
set_option linter.unusedVariables false
set_option linter.unusedSectionVars false
set_option maxRecDepth 100000
namespace Dak
open Go Go.RowKit
variable [Globs]
variable {P : Program} {F0 : FD} {w0 w : World} {L : Lay} {objs objs0 : List AObj} {nid : Nat}
def lk:List (Nat × AV)->Nat->AV
 | [],_=>.junk
 | (k,v)::r,t=>if k=t then v else lk r t
abbrev T (n:Nat):Operand:=.tmp n
structure Est where
 env:List (Nat × AV)
 objs:List AObj
def KeysOk (n:Nat) (env:List (Nat × AV)):Prop:=∀ t,n<=t->lk env t = .junk
def toT (n:Nat) (env:List (Nat × AV)):List AV:=(List.range n).map (lk env)
def Est.toSt (n:Nat) (s:Est):St:=⟨toT n s.env,s.objs⟩
def evE (env:List (Nat × AV)):Operand->AV
 | .tmp t=>lk env t
 | .const v=>ofV v
 | .func f=>.clo (.func f) []
 | .global g=>gAV g
def putE (env:List (Nat × AV)) (dst:Option Nat) (v:AV):List (Nat × AV) :=
 match dst with
 | some d=>(d,v)::env
 | none=>env
def okD (n:Nat):Option Nat->Prop
 | some d=>d<n
 | none=>True
theorem toT_getD {n:Nat} {env:List (Nat × AV)} (hk:KeysOk n env) (t:Nat):(toT n env).getD t .junk=lk env t:=by
 unfold toT
 by_cases h:t<n
 ·rw [List.getD_eq_getElem?_getD,List.getElem?_eq_getElem (by simpa using h)];simp
 ·rw [List.getD_eq_getElem?_getD,List.getElem?_eq_none (by simp;omega)]
  exact (hk t (by omega)).symm
theorem ev_toT {n:Nat} {env:List (Nat × AV)} (hk:KeysOk n env):St.ev (toT n env)=evE env:=by
 funext x
 cases x with
 | tmp t=>exact toT_getD hk t
 | _=>rfl
theorem put_toT {n:Nat} {env:List (Nat × AV)} {dst:Option Nat} (hd:okD n dst) (v:AV):St.put (toT n env) dst v=toT n (putE env dst v):=by
 cases dst with
 | none=>rfl
 | some d =>
  have hd:d<n:=hd
  refine getD_ext (by rw [put_len];simp [toT]) fun t ht=>?_
  rw [put_len] at ht
  have ht':t<n:=by simpa [toT] using ht
  rw [put_getD ht]
  have e:∀ env,(toT n env).getD t .junk=lk env t:=by
   intro env
   unfold toT
   rw [List.getD_eq_getElem?_getD,List.getElem?_eq_getElem (by simpa using ht')];simp
  rw [e,e]
  simp only [putE,lk,Option.some.injEq]
theorem keys_put {n:Nat} {env:List (Nat × AV)} (hk:KeysOk n env) {dst:Option Nat} (hd:okD n dst) (v:AV):KeysOk n (putE env dst v):=by
 cases dst with
 | none=>exact hk
 | some d =>
  have hd:d<n:=hd
  intro t ht
  simp only [putE,lk]
  rw [if_neg (fun e=>absurd hd (by rw [e];exact Nat.not_lt.2 ht))];exact hk t ht
def RstepE (P:Program) (n:Nat) (c:COper) (K:Est->Prop) (s:Est):Prop :=
 match c.op with
 | .call f args=>okD n c.dst/\∃ r objs',CallM P true s.objs (evE s.env f) (args.map (evE s.env)) r objs'/\K ⟨putE s.env c.dst r,objs'⟩
 | op=>match step1 s.objs (evE s.env) op with
  | some (r,objs)=>okD n c.dst/\K ⟨putE s.env c.dst r,objs⟩
  | none=>False
def RopsE (P:Program) (n:Nat):List COper->(Est->Prop)->Est->Prop
 | [],K,s=>K s
 | c::rest,K,s =>
  match c.guard with
  | none=>RstepE P n c (RopsE P n rest K) s
  | some (t,want)=>match gdB (lk s.env t) with
   | some b=>(b=some want->RstepE P n c (RopsE P n rest K) s)/\(b ≠ some want->okD n c.dst/\RopsE P n rest K ⟨putE s.env c.dst nov,s.objs⟩)
   | none=>False
def LiftE (n:Nat) (K:Est->Prop) (st:St):Prop:=∃ s,K s/\KeysOk n s.env/\st=s.toSt n
theorem ropsE_ok {n:Nat} {K:Est->Prop}:∀ (cs:List COper) (s:Est),KeysOk n s.env->RopsE P n cs K s->Rops P cs (LiftE n K) (s.toSt n)
 | [],s,hk,h=>⟨s,h,hk,rfl⟩
 | c::rest,s,hk,h=>by
  have step:RstepE P n c (RopsE P n rest K) s->Rstep P c (Rops P rest (LiftE n K)) (s.toSt n):=by
   intro h
   have plain:∀ op,op=c.op->(match step1 s.objs (evE s.env) op with | some (r,objs)=>okD n c.dst/\RopsE P n rest K ⟨putE s.env c.dst r,objs⟩ | none=>False) ->
    (match step1 s.objs (St.ev (toT n s.env)) op with | some (r,objs)=>Rops P rest (LiftE n K) ⟨St.put (toT n s.env) c.dst r,objs⟩ | none=>False):=by
    rintro op rfl h
    rw [ev_toT hk]
    split at h
    ·rename_i r objs' hq
     rw [put_toT h.1]
     exact ropsE_ok rest ⟨_,_⟩ (keys_put hk h.1 r) h.2
    ·exact h.elim
   unfold RstepE at h
   unfold Rstep
   split at h
   ·rename_i f args hop
    simp only [hop]
    obtain ⟨hd,r,objs',hc,hK⟩:=h
    refine ⟨r,objs',?_,?_⟩
    ·show CallM P true s.objs (St.ev (toT n s.env) f) (args.map (St.ev (toT n s.env))) r objs'
     rw [ev_toT hk];exact hc
    ·show Rops P rest (LiftE n K) ⟨St.put (toT n s.env) c.dst r,objs'⟩
     rw [put_toT hd]
     exact ropsE_ok rest ⟨_,_⟩ (keys_put hk hd r) hK
   ·rename_i op hne
    have:=plain _ rfl h
    split
    ·rename_i f args hop
     exact absurd hop (hne f args)
    ·exact this
  simp only [RopsE] at h
  simp only [Rops]
  cases hg:c.guard with
  | none=>rw [hg] at h;exact step h
  | some q =>
   obtain ⟨t,want⟩:=q
   rw [hg] at h
   simp only at h ⊢
   have e:(s.toSt n).tmps.getD t .junk=lk s.env t:=toT_getD hk t
   rw [e]
   split at h
   ·rename_i b hb
    rw [hb]
    refine ⟨fun hw=>step (h.1 hw),fun hw=>?_⟩
    obtain ⟨hd,h2⟩:=h.2 hw
    show Rops P rest (LiftE n K) ⟨St.put (toT n s.env) c.dst nov,s.objs⟩
    rw [put_toT hd]
    exact ropsE_ok rest ⟨_,_⟩ (keys_put hk hd _) h2
   ·exact h.elim
def LatesE (s:Est):List COper->Prop
 | []=>True
 | l::ls=>(match l.dst with
  | some t=>qstep s.objs (evE s.env) 0 l.op=some (lk s.env t,none)
  | none=>False)/\LatesE s ls
theorem latesE_ok {n:Nat} {s:Est} (hk:KeysOk n s.env):∀ {ls:List COper},LatesE s ls->LatesOk (s.toSt n) ls
 | [],_=>trivial
 | l::ls,h=>by
  refine ⟨?_,latesE_ok hk h.2⟩
  have h1:=h.1
  split at h1
  ·rename_i t hd
   refine ⟨t,hd,?_⟩
   show qstep s.objs (St.ev (toT n s.env)) 0 l.op=some ((toT n s.env).getD t .junk,none)
   rw [ev_toT hk,toT_getD hk];exact h1
  ·exact h1.elim
def RopsLE (P:Program) (n:Nat):List (COper × List COper)->(Est->Prop)->Est->Prop
 | [],K,s=>K s
 | (c,ls)::rest,K,s =>
  match c.guard with
  | none=>RstepE P n c (fun s=>LatesE s ls/\RopsLE P n rest K s) s
  | some (t,want)=>match gdB (lk s.env t) with
   | some b=>(b=some want->RstepE P n c (fun s=>LatesE s ls/\RopsLE P n rest K s) s) /\
    (b ≠ some want->okD n c.dst/\LatesE ⟨putE s.env c.dst nov,s.objs⟩ ls/\RopsLE P n rest K ⟨putE s.env c.dst nov,s.objs⟩)
   | none=>False
theorem rstepE_ok {n:Nat} {c:COper} {K:Est->Prop} {K':St->Prop} {s:Est} (hk:KeysOk n s.env) (hK:∀ s,KeysOk n s.env->K s->K' (s.toSt n)) (h:RstepE P n c K s):Rstep P c K' (s.toSt n):=by
 have plain:∀ op,op=c.op->(match step1 s.objs (evE s.env) op with | some (r,objs)=>okD n c.dst/\K ⟨putE s.env c.dst r,objs⟩ | none=>False) ->
  (match step1 s.objs (St.ev (toT n s.env)) op with | some (r,objs)=>K' ⟨St.put (toT n s.env) c.dst r,objs⟩ | none=>False):=by
  rintro op rfl h
  rw [ev_toT hk]
  split at h
  ·rename_i r objs' hq
   rw [put_toT h.1]
   exact hK ⟨_,_⟩ (keys_put hk h.1 r) h.2
  ·exact h.elim
 unfold RstepE at h
 unfold Rstep
 generalize c.op=op at *
 cases op with
 | call f args =>
  obtain ⟨hd,r,objs',hc,hKr⟩:=h
  refine ⟨r,objs',?_,?_⟩
  ·show CallM P true s.objs (St.ev (toT n s.env) f) (args.map (St.ev (toT n s.env))) r objs'
   rw [ev_toT hk];exact hc
  ·show K' ⟨St.put (toT n s.env) c.dst r,objs'⟩
   rw [put_toT hd]
   exact hK ⟨_,_⟩ (keys_put hk hd r) hKr
 | _=>exact plain _ rfl h
theorem ropsLE_ok {n:Nat} {K:Est->Prop}:∀ (cs:List (COper × List COper)) (s:Est),KeysOk n s.env->RopsLE P n cs K s->RopsL P cs (LiftE n K) (s.toSt n)
 | [],s,hk,h=>⟨s,h,hk,rfl⟩
 | (c,ls)::rest,s,hk,h=>by
  have next:∀ s:Est,KeysOk n s.env->LatesE s ls/\RopsLE P n rest K s->LatesOk (s.toSt n) ls/\RopsL P rest (LiftE n K) (s.toSt n):=fun s hk h=>⟨latesE_ok hk h.1,ropsLE_ok rest s hk h.2⟩
  simp only [RopsLE] at h
  simp only [RopsL]
  cases hg:c.guard with
  | none=>rw [hg] at h;exact rstepE_ok hk next h
  | some q =>
   obtain ⟨t,want⟩:=q
   rw [hg] at h
   simp only at h ⊢
   have e:(s.toSt n).tmps.getD t .junk=lk s.env t:=toT_getD hk t
   rw [e]
   split at h
   ·rename_i b hb
    rw [hb]
    refine ⟨fun hw=>rstepE_ok hk next (h.1 hw),fun hw=>?_⟩
    obtain ⟨hd,h2⟩:=h.2 hw
    show LatesOk ⟨St.put (toT n s.env) c.dst nov,s.objs⟩ ls/\RopsL P rest (LiftE n K) ⟨St.put (toT n s.env) c.dst nov,s.objs⟩
    rw [put_toT hd]
    exact next ⟨_,_⟩ (keys_put hk hd _) h2
   ·exact h.elim
def QopsE (P:Program) (n:Nat) (objs0:List AObj):List COper->(List (Nat × AV)->List AObj->Prop)->List (Nat × AV)->List AObj->Prop
 | [],K,env,cr=>K env cr
 | c::rest,K,env,cr =>
  let go:Prop:=match c.op with
   | .call f args=>okD n c.dst/\∃ r objs',CallM P false objs0 (evE env f) (args.map (evE env)) r objs'/\callX objs0 objs' cr (QopsE P n objs0 rest K (putE env c.dst r))
   | op=>match qstepK (objs0++cr) objs0 (evE env) (objs0.length+cr.length) op with
    | some (r,none)=>okD n c.dst/\QopsE P n objs0 rest K (putE env c.dst r) cr
    | some (r,some o)=>okD n c.dst/\QopsE P n objs0 rest K (putE env c.dst r) (cr++[o])
    | none=>False
  match c.guard with
  | none=>go
  | some (t,want)=>match gdB (lk env t) with
   | some b=>(b=some want->go)/\(b ≠ some want->okD n c.dst/\QopsE P n objs0 rest K (putE env c.dst nov) cr)
   | none=>False
theorem qopsE_ok {n:Nat} {K:List (Nat × AV)->List AObj->Prop}:∀ (cs:List COper) (env:List (Nat × AV)) (cr:List AObj),KeysOk n env->QopsE P n objs0 cs K env cr ->
 Qops P objs0 cs (fun tmps cr=>∃ env,KeysOk n env/\tmps=toT n env/\K env cr) (toT n env) cr
 | [],env,cr,hk,h=>⟨env,hk,rfl,h⟩
 | c::rest,env,cr,hk,h=>by
  have ih:=fun (env:List (Nat × AV)) (cr:List AObj) (hk:KeysOk n env) (h:QopsE P n objs0 rest K env cr)=>qopsE_ok (K:=K) rest env cr hk h
  have plain:∀ op,op=c.op->(match qstepK (objs0++cr) objs0 (evE env) (objs0.length+cr.length) op with
   | some (r,none)=>okD n c.dst/\QopsE P n objs0 rest K (putE env c.dst r) cr
   | some (r,some o)=>okD n c.dst/\QopsE P n objs0 rest K (putE env c.dst r) (cr++[o])
   | none=>False)->(match qstepK (objs0++cr) objs0 (St.ev (toT n env)) (objs0.length+cr.length) op with
   | some (r,none)=>Qops P objs0 rest (fun tmps cr=>∃ env,KeysOk n env/\tmps=toT n env/\K env cr) (St.put (toT n env) c.dst r) cr
   | some (r,some o)=>Qops P objs0 rest (fun tmps cr=>∃ env,KeysOk n env/\tmps=toT n env/\K env cr) (St.put (toT n env) c.dst r) (cr++[o])
   | none=>False):=by
   rintro op rfl h
   rw [ev_toT hk]
   split at h
   ·rename_i r hq
    rw [put_toT h.1];exact ih _ _ (keys_put hk h.1 r) h.2
   ·rename_i r o hq
    rw [put_toT h.1];exact ih _ _ (keys_put hk h.1 r) h.2
   ·exact h.elim
  have go:(match c.op with
   | .call f args=>okD n c.dst/\∃ r objs',CallM P false objs0 (evE env f) (args.map (evE env)) r objs'/\callX objs0 objs' cr (QopsE P n objs0 rest K (putE env c.dst r))
   | op=>match qstepK (objs0++cr) objs0 (evE env) (objs0.length+cr.length) op with
    | some (r,none)=>okD n c.dst/\QopsE P n objs0 rest K (putE env c.dst r) cr
    | some (r,some o)=>okD n c.dst/\QopsE P n objs0 rest K (putE env c.dst r) (cr++[o])
    | none=>False)->(match c.op with
   | .call f args=>∃ r no,CallQ P objs0 (objs0.length+cr.length) (St.ev (toT n env) f) (args.map (St.ev (toT n env))) r no/\Qops P objs0 rest (fun tmps cr=>∃ env,KeysOk n env/\tmps=toT n env/\K env cr) (St.put (toT n env) c.dst r) (cr++no)
   | op=>match qstepK (objs0++cr) objs0 (St.ev (toT n env)) (objs0.length+cr.length) op with
    | some (r,none)=>Qops P objs0 rest (fun tmps cr=>∃ env,KeysOk n env/\tmps=toT n env/\K env cr) (St.put (toT n env) c.dst r) cr
    | some (r,some o)=>Qops P objs0 rest (fun tmps cr=>∃ env,KeysOk n env/\tmps=toT n env/\K env cr) (St.put (toT n env) c.dst r) (cr++[o])
    | none=>False):=by
   intro h
   generalize c.op=op at *
   cases op with
   | call f args =>
    obtain ⟨hd,r,objs',hc,hX⟩:=h
    obtain ⟨no,hq,hK⟩:=hc.cq hX
    exact ⟨r,no,by rw [ev_toT hk];exact hq,by rw [put_toT hd];exact ih _ _ (keys_put hk hd r) hK⟩
   | _=>exact plain _ rfl h
  simp only [QopsE] at h
  simp only [Qops]
  cases hg:c.guard with
  | none=>rw [hg] at h;exact go h
  | some q =>
   obtain ⟨t,want⟩:=q
   rw [hg] at h
   simp only at h ⊢
   rw [toT_getD hk]
   split at h
   ·rename_i b hb
    rw [hb]
    refine ⟨fun hw=>go (h.1 hw),fun hw=>?_⟩
    obtain ⟨hd,h2⟩:=h.2 hw
    rw [put_toT hd];exact ih _ _ (keys_put hk hd _) h2
   ·exact h.elim
def LiftX (n:Nat) (Q:Exit->Est->Prop):Exit->St->Prop:=fun e st=>LiftE n (Q e) st
def CwpE (P:Program) (F0:FD) (w0:World) (n:Nat) (c:CCode) (Q:Exit->Est->Prop) (s:Est):Prop:=KeysOk n s.env->Cwp P F0 w0 c (LiftX n Q) (s.toSt n)
def thenE (K:Est->Prop) (Q:Exit->Est->Prop):Exit->Est->Prop
 | .normal,s=>K s
 | e,s=>Q e s
def inBlockE (id:Nat) (Q:Exit->Est->Prop):Exit->Est->Prop
 | .exit i,s=>if i=id then Q .normal s else Q (.exit i) s
 | e,s=>Q e s
def noGotoE (Q:Exit->Est->Prop):Exit->Est->Prop
 | .goto _,_=>False
 | e,s=>Q e s
def RGE (P:Program) (n:Nat) (c:COper) (K:Est->Prop) (s:Est):Prop :=
 match c.guard with
 | none=>RstepE P n c K s
 | some (t,want)=>match gdB (lk s.env t) with
  | some b=>(b=some want->RstepE P n c K s)/\(b ≠ some want->okD n c.dst/\K ⟨putE s.env c.dst nov,s.objs⟩)
  | none=>False
def RTE (P:Program) (n:Nat):PT->(Est->Prop)->Est->Prop
 | .done,K,s=>K s
 | .stop,_,_=>True
 | .alt c ls sub next,K,s=>RGE P n c (fun s=>LatesE s ls/\RTE P n sub K s) s/\RTE P n next K s
theorem rtE_ok {n:Nat} {K:Est->Prop}:∀ (t:PT) (s:Est),KeysOk n s.env->RTE P n t K s->RT P t (LiftE n K) (s.toSt n)
 | .done,s,hk,h=>⟨s,h,hk,rfl⟩
 | .stop,_,_,_=>trivial
 | .alt c ls sub next,s,hk,h=>by
  refine ⟨?_,rtE_ok next s hk h.2⟩
  have h:=h.1
  simp only [RGE] at h
  simp only [RG]
  cases hg:c.guard with
  | none=>rw [hg] at h;exact rstepE_ok hk (fun s hk h=>⟨latesE_ok hk h.1,rtE_ok sub s hk h.2⟩) h
  | some q =>
   obtain ⟨t,want⟩:=q
   rw [hg] at h
   simp only at h ⊢
   have e:(s.toSt n).tmps.getD t .junk=lk s.env t:=toT_getD hk t
   rw [e]
   split at h
   ·rename_i b hb
    rw [hb]
    refine ⟨fun hw=>rstepE_ok hk (fun s hk h=>⟨latesE_ok hk h.1,rtE_ok sub s hk h.2⟩) (h.1 hw),fun hw=>?_⟩
    obtain ⟨hd,h2⟩:=h.2 hw
    show LatesOk ⟨St.put (toT n s.env) c.dst nov,s.objs⟩ ls/\RT P sub (LiftE n K) ⟨St.put (toT n s.env) c.dst nov,s.objs⟩
    rw [put_toT hd]
    exact ⟨latesE_ok (s:=⟨_,_⟩) (keys_put hk hd _) h2.1,rtE_ok sub ⟨_,_⟩ (keys_put hk hd _) h2.2⟩
   ·exact h.elim
def vcE (P:Program) (F0:FD) (w0:World) (n:Nat):CCode->(Exit->Est->Prop)->Est->Prop
 | .skip,Q,s=>Q .normal s
 | .region cs,Q,s=>RopsE P n cs (Q .normal) s
 | .drawn pre post,Q,s=>QopsE P n s.objs pre (fun env cr=>RopsLE P n post (Q .normal) ⟨env,s.objs++cr⟩) s.env []
 | .cut pre post t,Q,s=>QopsE P n s.objs pre (fun env cr=>RopsLE P n post (RTE P n t (Q .normal)) ⟨env,s.objs++cr⟩) s.env []
 | .seq a b,Q,s=>vcE P F0 w0 n a (thenE (vcE P F0 w0 n b Q) Q) s
 | .cond c a b,Q,s=>match asB (evE s.env c) with
  | some t=>(t=true->vcE P F0 w0 n a Q s)/\(t=false->vcE P F0 w0 n b Q s)
  | none=>False
 | .block id b,Q,s=>vcE P F0 w0 n b (inBlockE id Q) s
 | .loop b,Q,s=>CwpE P F0 w0 n (.loop b) Q s
 | .rangeF g ps a b,Q,s=>CwpE P F0 w0 n (.rangeF g ps a b) Q s
 | .exit id,Q,s=>Q (.exit id) s
 | .scope b,Q,s=>vcE P F0 w0 n b (noGotoE Q) s
 | .ret,Q,s=>Q .ret s
theorem vcE_ok {n:Nat}:∀ (c:CCode) (Q:Exit->Est->Prop) (s:Est),KeysOk n s.env->vcE P F0 w0 n c Q s->vc P F0 w0 c (LiftX n Q) (s.toSt n):=by
 have rstep:∀ (c:COper) {K K':St->Prop} (st:St),(∀ s,K s->K' s)->Rstep P c K st->Rstep P c K' st:=by
  intro c K K' st h h2
  unfold Rstep at h2 ⊢
  split at h2
  ·obtain ⟨r,o3,h3,h4⟩:=h2;exact ⟨r,o3,h3,h _ h4⟩
  ·split at h2
   ·exact h _ h2
   ·exact h2
 have rlmono:∀ (cs:List (COper × List COper)) {K K':St->Prop} (st:St),(∀ s,K s->K' s)->RopsL P cs K st->RopsL P cs K' st:=by
  intro cs
  induction cs with
  | nil=>intro K K' st h hh;exact h _ hh
  | cons cl rest ih =>
   intro K K' st h hh
   obtain ⟨c,ls⟩:=cl
   simp only [RopsL] at hh ⊢
   split at hh
   ·exact rstep c st (fun s hs=>⟨hs.1,ih s h hs.2⟩) hh
   ·split at hh
    ·exact ⟨fun e=>rstep c st (fun s hs=>⟨hs.1,ih s h hs.2⟩) (hh.1 e),fun e=>⟨(hh.2 e).1,ih _ h (hh.2 e).2⟩⟩
    ·exact hh
 have qmono:∀ (s:Est) (cs:List COper) {K K':List AV->List AObj->Prop} (tmps:List AV) (cr:List AObj),(∀ t c,K t c->K' t c)->Qops P s.objs cs K tmps cr->Qops P s.objs cs K' tmps cr:=by
  intro s cs
  induction cs with
  | nil=>intro K K' tmps cr h hh;exact h _ _ hh
  | cons c rest ih =>
   intro K K' tmps cr h hh
   simp only [Qops] at hh ⊢
   split at hh
   ·split at hh
    ·obtain ⟨r,no,h3,h4⟩:=hh;exact ⟨r,no,h3,ih _ _ h h4⟩
    ·split at hh <;> first | exact ih _ _ h hh | exact hh
   ·split at hh
    ·refine ⟨fun e=>?_,fun e=>ih _ _ h (hh.2 e)⟩
     have hh1:=hh.1 e
     split at hh1
     ·obtain ⟨r,no,h3,h4⟩:=hh1;exact ⟨r,no,h3,ih _ _ h h4⟩
     ·split at hh1 <;> first | exact ih _ _ h hh1 | exact hh1
    ·exact hh
 intro c
 induction c with
 | skip=>intro Q s hk h;exact ⟨s,h,hk,rfl⟩
 | region cs=>intro Q s hk h;exact ropsE_ok cs s hk h
 | drawn pre post =>
  intro Q s hk h
  have h1:=qopsE_ok pre s.env [] hk h
  refine vc_mono (.drawn pre post) (Q:=LiftX n Q) _ (fun _ _ h=>h) ?_
  refine qmono s pre _ _ ?_ h1
  rintro _ cr ⟨env,hk',rfl,hR⟩
  exact ropsLE_ok post ⟨env,s.objs++cr⟩ hk' hR
 | cut pre post t =>
  intro Q s hk h
  have h1:=qopsE_ok pre s.env [] hk h
  refine vc_mono (.cut pre post t) (Q:=LiftX n Q) _ (fun _ _ h=>h) ?_
  refine qmono s pre _ _ ?_ h1
  rintro _ cr ⟨env,hk',rfl,hR⟩
  refine rlmono post _ ?_ (ropsLE_ok post ⟨env,s.objs++cr⟩ hk' hR)
  rintro st ⟨s',h',hk',rfl⟩
  exact rtE_ok t s' hk' h'
 | seq a b iha ihb =>
  intro Q s hk h
  refine vc_mono a (s.toSt n) ?_ (iha _ s hk h)
  rintro e st ⟨s',hq,hk',rfl⟩
  cases e with
  | normal=>exact ihb Q s' hk' hq
  | _=>exact ⟨s',hq,hk',rfl⟩
 | cond c a b iha ihb =>
  intro Q s hk h
  simp only [vcE] at h
  simp only [vc]
  show match asB (St.ev (toT n s.env) c) with | some t=>_ | none=>False
  rw [ev_toT hk]
  split at h
  ·exact ⟨fun e=>iha Q s hk (h.1 e),fun e=>ihb Q s hk (h.2 e)⟩
  ·exact h.elim
 | block id b ih =>
  intro Q s hk h
  refine vc_mono b (s.toSt n) ?_ (ih _ s hk h)
  rintro e st ⟨s',hq,hk',rfl⟩
  cases e with
  | exit i =>
   simp only [inBlockE] at hq
   simp only [inBlock]
   split
   ·rename_i e;rw [if_pos e] at hq;exact ⟨s',hq,hk',rfl⟩
   ·rename_i e;rw [if_neg e] at hq;exact ⟨s',hq,hk',rfl⟩
  | _=>exact ⟨s',hq,hk',rfl⟩
 | loop b=>intro Q s hk h;exact h hk
 | rangeF g ps a b ih=>intro Q s hk h;exact h hk
 | exit id=>intro Q s hk h;exact ⟨s,h,hk,rfl⟩
 | scope b ih =>
  intro Q s hk h
  refine vc_mono b (s.toSt n) ?_ (ih _ s hk h)
  rintro e st ⟨s',hq,hk',rfl⟩
  cases e with
  | goto l=>exact hq.elim
  | _=>exact ⟨s',hq,hk',rfl⟩
 | ret=>intro Q s hk h;exact ⟨s,h,hk,rfl⟩
def WkE (n:Nat) (s s':Est):Prop:=KeysOk n s.env->KeysOk n s'.env/\Wk (s.toSt n) (s'.toSt n)
theorem WkE.refl (n:Nat) (s:Est):WkE n s s:=fun h=>⟨h,.refl _⟩
theorem WkE.trans {n:Nat} {a b c:Est} (h:WkE n a b) (k:WkE n b c):WkE n a c:=fun hk=>⟨(k (h hk).1).1,(h hk).2.trans (k (h hk).1).2⟩
def RoundE (n:Nat) (I:Nat->Est->Prop) (k:Nat) (Q:Exit->Est->Prop):Exit->Est->Prop:=thenE (fun s=>∃ m s',m<k/\WkE n s s'/\I m s') Q
theorem loopE {n:Nat} {b:CCode} {Q:Exit->Est->Prop} {s:Est} (I:Nat->Est->Prop) (k:Nat) (s0:Est) (hw:WkE n s s0) (h0:I k s0) (round:∀ k s,I k s->vcE P F0 w0 n b (RoundE n I k Q) s):CwpE P F0 w0 n (.loop b) Q s:=by
 intro hk
 refine Cwp.loop (fun k st=>∃ s,I k s/\KeysOk n s.env/\st=s.toSt n) k (hw hk).2 ⟨s0,h0,(hw hk).1,rfl⟩ ?_
 rintro k st ⟨s,hI,hk,rfl⟩
 refine vc_mono b (s.toSt n) ?_ (vcE_ok b _ s hk (round k s hI))
 rintro e st ⟨s',hq,hk',rfl⟩
 cases e with
 | normal =>
  obtain ⟨m,s'',hm,hwk,hI'⟩:=hq
  exact ⟨m,_,hm,(hwk hk').2,s'',hI',(hwk hk').1,rfl⟩
 | _=>exact ⟨s',hq,hk',rfl⟩
def resE (s:Est):CRes->Option AV
 | .tmp t=>some (lk s.env t)
 | .cell a ag n=>do
  let cs <-cellsAt s.objs (lk s.env a)
  if ag then if n<=cs.length then some (AV.agg (cs.take n)) else none else cs[0]?
def resAllE (s:Est) (rs:List CRes):Option AV :=
 (rs.mapM (resE s)).map fun
  | [x]=>x
  | xs=>.tup xs
def retE (rs:List CRes) (r:AV):Exit->Est->Prop
 | .normal,s=>∃ y,resAllE s rs=some y/\Snap s.objs y r
 | .ret,s=>∃ y,resAllE s rs=some y/\Snap s.objs y r
 | _,_=>False
def envOf:Nat->List AV->List (Nat × AV)
 | _,[]=>[]
 | k,x::xs=>(k,x)::envOf (k+1) xs
theorem lk_envOf:∀ (xs:List AV) (k t:Nat),lk (envOf k xs) t=if k<=t then xs.getD (t-k) .junk else .junk
 | [],k,t=>by simp [envOf,lk]
 | x::xs,k,t=>by
  simp only [envOf,lk]
  rw [lk_envOf xs (k+1) t]
  by_cases h:k=t
  ·subst h;simp
  ·rw [if_neg h]
   by_cases h2:k<=t
   ·rw [if_pos (by omega),if_pos h2,show t-k=(t-(k+1))+1 from by omega];simp
   ·rw [if_neg (by omega),if_neg h2]
theorem specE {f:FuncId} {c:CCode} {n:Nat} {rs:List CRes} (hf:fnC P f=some (c,n,rs)) {xs:List AV} (hn:xs.length<=n) {r:AV} (h:∀ F0 w0,vcE P F0 w0 n c (retE rs r) ⟨envOf 0 xs,[]⟩):Ctr P f xs r:=by
 refine spec_of hf fun F0 w0=>?_
 have hk:KeysOk n (envOf 0 xs):=by
  intro t ht
  rw [lk_envOf,if_pos (Nat.zero_le _),List.getD_eq_getElem?_getD,List.getElem?_eq_none (by omega)];rfl
 have e:(⟨xs++List.replicate (n-xs.length) .junk,[]⟩:St)=(⟨envOf 0 xs,[]⟩:Est).toSt n:=by
  unfold Est.toSt
  congr 1
  refine getD_ext (by simp [toT];omega) fun t ht=>?_
  rw [toT_getD hk,lk_envOf,if_pos (Nat.zero_le _),Nat.sub_zero]
  rw [List.getD_eq_getElem?_getD,List.getD_eq_getElem?_getD,List.getElem?_append]
  split
  ·rfl
  ·rename_i h1
   rw [List.getElem?_replicate,List.getElem?_eq_none (by omega)]
   split <;> rfl
 rw [e]
 refine vc_mono c _ ?_ (vcE_ok c _ _ hk (h F0 w0))
 rintro e st ⟨s,hq,hk',rfl⟩
 have hr:∀ x,resA (s.toSt n) x=resE s x:=by
  intro x
  cases x with
  | tmp t=>simp only [resA,resE];rw [show (s.toSt n).tmps=toT n s.env from rfl,toT_getD hk']
  | cell a ag m=>simp only [resA,resE];rw [show (s.toSt n).tmps=toT n s.env from rfl,toT_getD hk'];rfl
 have hra:∀ rs,resAll (s.toSt n) rs=resAllE s rs:=by
  intro rs;unfold resAll resAllE;rw [show resA (s.toSt n)=resE s from funext hr]
  cases rs.mapM (resE s) with
  | none=>rfl
  | some ys=>cases ys with
   | nil=>rfl
   | cons y ys=>cases ys <;> rfl
 cases e with
 | normal=>simp only [retQ];rw [hra];exact hq
 | ret=>simp only [retQ];rw [hra];exact hq
 | _=>exact hq
end Dak
namespace Dak
open Go Go.RowKit
variable [Globs]
variable {P : Program} {F0 : FD} {w0 w : World} {L : Lay} {objs objs0 : List AObj} {nid : Nat}
def Agree (env:List (Nat × AV)):List (Nat × AV)->Prop
 | []=>True
 | (k,v)::r=>lk env k=v/\Agree env r
theorem agree_lk {env:List (Nat × AV)}:∀ (env':List (Nat × AV)),Agree env env'->∀ t,lk env' t = .junk \/ lk env' t=lk env t
 | [],_,t=>.inl rfl
 | (k,v)::r,h,t=>by
  simp only [lk]
  split
  ·rename_i e;subst e;exact .inr h.1.symm
  ·exact agree_lk r h.2 t
theorem sim_slots {n:Nat} {s:Est} {a:Act} (hk:KeysOk n s.env) (h:Sim F0 w0 (s.toSt n) a w) :
 a.defers=F0.ds/\∃ L,Good F0 w0 w L s.objs/\a.tmps.size=n/\∀ t,t<n->VR w L s.objs (lk s.env t) (a.tmps.getD t undef):=by
 obtain ⟨hd,L,g,hs,ht⟩:=h
 refine ⟨hd,L,g,by simpa [Est.toSt,toT] using hs,fun t h=>?_⟩
 have:=ht t (by simpa [Est.toSt,toT] using h)
 simpa [Est.toSt,toT] using this
theorem sim_mk {n:Nat} {s:Est} {a:Act} (hd:a.defers=F0.ds) (g:Good F0 w0 w L s.objs) (hs:a.tmps.size=n) (ht:∀ t,t<n->VR w L s.objs (lk s.env t) (a.tmps.getD t undef)):Sim F0 w0 (s.toSt n) a w :=
 ⟨hd,L,g,by simp [Est.toSt,toT,hs],fun t h=>by
  have h':t<n:=by simpa [Est.toSt,toT] using h
  simpa [Est.toSt,toT] using ht t h'⟩
theorem WkE.keep {n:Nat} {env env':List (Nat × AV)} {objs:List AObj} (h:Agree env env'):WkE n ⟨env,objs⟩ ⟨env',objs⟩:=by
 intro hk
 refine ⟨fun t ht=>?_,fun F0 w0 a w hs=>?_⟩
 ·rcases agree_lk env' h t with h1 | h1
  ·exact h1
  ·rw [h1];exact hk t ht
 ·obtain ⟨hd,L,g,hs,ht⟩:=sim_slots hk hs
  refine sim_mk (s:=⟨env',objs⟩) hd g hs fun t h'=>?_
  rcases agree_lk env' h t with h1 | h1
  ·show VR w L objs (lk env' t) _
   rw [h1];exact .junk _
  ·show VR w L objs (lk env' t) _
   rw [h1];exact ht t h'
theorem WkE.drop {n:Nat} {env:List (Nat × AV)} {objs:List AObj} (m:Nat) (he:∀ p ∈ env,p.2.inn m=true) (ho:∀ o ∈ objs.take m,o.innO m=true):WkE n ⟨env,objs⟩ ⟨env,objs.take m⟩:=by
 intro hk
 refine ⟨hk,fun F0 w0 a w hs=>?_⟩
 obtain ⟨hd,L,g,hs,ht⟩:=sim_slots hk hs
 have hle:∀ t,(lk env t).inn m=true:=by
  intro t
  have:∀ env:List (Nat × AV),(∀ p ∈ env,p.2.inn m=true)->(lk env t).inn m=true:=by
   intro env
   induction env with
   | nil=>intro _;rfl
   | cons p env ih =>
    intro h
    simp only [lk]
    split
    ·exact h p (by simp)
    ·exact ih fun q hq=>h q (by simp [hq])
  exact this env he
 exact sim_mk (s:=⟨env,objs.take m⟩) (L:=L.cut m) hd (good_drop g m ho) hs fun t h=>below_vr (L:=L) (L':=L.cut m) (fun _ h=>h) (fun id h=>if_pos h) (ht t h) (hle t)
theorem WkE.round {n:Nat} {env env':List (Nat × AV)} {objs objs':List AObj} (h:Agree env env') (he:(env'.all fun p=>p.2.inn objs'.length)=true) (ho:(objs'.all fun o=>o.innO objs'.length)=true) (hp:objs.take objs'.length=objs') :
 WkE n ⟨env,objs⟩ ⟨env',objs'⟩:=by
 refine (WkE.keep h).trans ?_
 have:=WkE.drop (n:=n) (env:=env') (objs:=objs) objs'.length (fun p hp=>List.all_eq_true.1 he p hp) (fun o ho'=>by rw [hp] at ho';exact List.all_eq_true.1 ho o ho')
 rwa [hp] at this
theorem WkE.nil {n:Nat} {env:List (Nat × AV)} {objs:List AObj} (k size:Nat) (elem:TypeId) (hkn:k<n) (h:lk env k = .val (.slice none 0 0)):WkE n ⟨env,objs⟩ ⟨(k,.own objs.length 0 0 0)::env,objs++[.arr 0 size elem []]⟩:=by
 intro hk
 refine ⟨fun t ht=>?_,fun F0 w0 a w hs=>?_⟩
 ·simp only [lk];rw [if_neg (by omega)];exact hk t ht
 ·obtain ⟨hd,L,g,hs,ht⟩:=sim_slots hk hs
  obtain ⟨gv,hlv⟩:=good_void g
  have hvd:(objs++[AObj.void])[objs.length]? = some .void:=by simp
  have hl2:Later w L (objs++[AObj.void]) w L ((objs++[AObj.void]).set objs.length (.arr 0 size elem [])):=by
   refine ⟨fun b hF hb=>⟨rfl,hF⟩,stale_set hvd,fun i g' s' hl=>.inr ⟨?_,rfl⟩⟩
   have hne:objs.length ≠ i:=by rintro rfl;obtain ⟨e',xs,h⟩:=hl;rw [hvd] at h;simp at h
   unfold live at hl ⊢
   rwa [List.getElem?_set_ne hne]
  have hl:=hlv.trans hl2
  rw [set_void] at hl
  have hg:Good F0 w0 w L (objs++[.arr 0 size elem []]):=by
   refine ⟨fun id o ho=>?_,fun id hid=>g.out id (by have hid':(objs++[AObj.arr 0 size elem []]).length<=id:=hid;rw [List.length_append] at hid';show objs.length<=id;omega),g.inj,g.own,g.old,g.ext,g.gl⟩
   by_cases hlt:id<objs.length
   ·rw [List.getElem?_append_left hlt] at ho
    have:=g.obj id o ho
    cases o with
    | void=>exact this
    | dead=>exact this
    | probe k st li bk ps=>exact this.probe_stay hl rfl
    | arr gen size elem xs =>
     unfold OR at this ⊢
     cases hbk:L.blk id with
     | none=>rw [hbk] at this;exact this
     | some q =>
      obtain ⟨b,o',n⟩:=q
      rw [hbk] at this
      obtain ⟨cur,hc,hn,hr⟩:=this
      exact ⟨cur,hc,hn,hr.stay hl⟩
   ·have hid:id=objs.length:=by
     have:=(List.getElem?_eq_some_iff.1 ho).1
     simp at this;omega
    subst hid
    simp at ho;subst ho
    unfold OR
    have hn:L.blk objs.length=none:=g.out objs.length (Nat.le_refl _)
    rw [hn]
  refine sim_mk (s:=⟨_,_⟩) hd hg hs fun t h'=>?_
  simp only [lk]
  split
  ·rename_i e;subst e
   have:=ht k h'
   simp only at this
   rw [h] at this
   rw [this.val_inv]
   exact .ownN _ _ _ _ size ⟨elem,[],by simp⟩
  ·exact (ht t h').stay hl
theorem WkE.freezeS {n:Nat} {env:List (Nat × AV)} {objs:List AObj} (k id g size:Nat) (elem:TypeId) (xs:List AV) (x y:AV) (hkn:k<n) (h:lk env k=x) (ho:objs[id]? = some (.arr g size elem xs))
 (hsn:Snap (List.replicate id .dead++[.arr g size elem xs]) x y):WkE n ⟨env,objs⟩ ⟨(k,y)::env,objs.set id .dead⟩:=by
 intro hk
 have hid:=(List.getElem?_eq_some_iff.1 ho).1
 refine ⟨fun t ht=>?_,fun F0 w0 a w hs=>?_⟩
 ·simp only [lk];rw [if_neg (by omega)];exact hk t ht
 ·obtain ⟨hd,L,gd,hs,ht⟩:=sim_slots hk hs
  let L':Lay:=⟨fun b=>L.F b \/ ∃ o n,L.blk id=some (b,o,n),fun i=>if i=id then none else L.blk i⟩
  have only:∀ (i g' s':Nat) (e':TypeId) (xs':List AV),(List.replicate id AObj.dead++[AObj.arr g size elem xs])[i]? = some (AObj.arr g' s' e' xs')->i=id/\AObj.arr g size elem xs=AObj.arr g' s' e' xs':=by
   intro i g' s' e' xs' hi
   by_cases hlt:i<id
   ·rw [List.getElem?_append_left (by simpa using hlt),List.getElem?_replicate,if_pos hlt] at hi;simp at hi
   ·have:i=id:=by have:=(List.getElem?_eq_some_iff.1 hi).1;simp at this;omega
    subst this
    rw [List.getElem?_append_right (by simp)] at hi
    simp only [List.length_replicate,Nat.sub_self,List.getElem?_cons_zero,Option.some.injEq] at hi
    exact ⟨rfl,hi⟩
  have hlater:Later w L objs w L' (objs.set id .dead):=by
   refine ⟨fun b hF hb=>⟨rfl,.inl hF⟩,fun i g' hst=>?_,fun i g' s' hl=>?_⟩
   ·by_cases e:id=i
    ·subst e;exact .inl (List.getElem?_set_self hid)
    ·unfold stale at hst ⊢;rwa [List.getElem?_set_ne e]
   ·by_cases e:id=i
    ·subst e;exact .inl (.inl (List.getElem?_set_self hid))
    ·refine .inr ⟨?_,if_neg (Ne.symm e)⟩
     unfold live at hl ⊢;rwa [List.getElem?_set_ne e]
  refine sim_mk (s:=⟨_,_⟩) (L:=L') hd ⟨fun i o ho'=>?_,fun i hi=>?_,fun i j b o n o' n' h1 h2=>?_,fun i b o n h=>?_,fun b hb=>?_,gd.ext,gd.gl.stay hlater.wk⟩ hs fun t h'=>?_
  ·by_cases e:i=id
   ·subst e
    rw [List.getElem?_set_self hid] at ho'
    simp only [Option.some.injEq] at ho';subst ho'
    exact if_pos rfl
   ·rw [List.getElem?_set_ne (Ne.symm e)] at ho'
    have:=gd.obj i o ho'
    have hbe:L'.blk i=L.blk i:=if_neg e
    cases o with
    | void=>unfold OR at this ⊢;rw [hbe];exact this
    | dead=>unfold OR at this ⊢;rw [hbe];exact this
    | probe k st li bk ps=>exact this.probe_stay hlater hbe
    | arr gen size elem xs =>
     unfold OR at this ⊢
     rw [hbe]
     cases hbk:L.blk i with
     | none=>rw [hbk] at this;exact this
     | some q =>
      obtain ⟨b,o',n⟩:=q
      rw [hbk] at this
      obtain ⟨cur,hc,hn,hr⟩:=this
      exact ⟨cur,hc,hn,hr.stay hlater⟩
  ·rw [List.length_set] at hi
   show (if i=id then none else L.blk i)=none
   split
   ·rfl
   ·exact gd.out i hi
  ·have h1':(if i=id then none else L.blk i)=some (b,o,n):=h1
   have h2':(if j=id then none else L.blk j)=some (b,o',n'):=h2
   split at h1' <;> split at h2' <;> first | exact gd.inj _ _ _ _ _ _ _ h1' h2' | cases h1' | cases h2'
  ·have h':(if i=id then none else L.blk i)=some (b,o,n):=h
   split at h'
   ·cases h'
   ·rename_i e
    have:=gd.own _ _ _ _ h'
    refine ⟨?_,this.2⟩
    rintro (hF | ⟨o2,n2,hF⟩)
    ·exact this.1 hF
    ·exact e (gd.inj _ _ _ _ _ _ _ h' hF)
  ·rcases hb with hb | ⟨o,n,hb⟩
   ·exact gd.old b hb
   ·have:=gd.own _ _ _ _ hb
    exact ⟨.inr this.2.1,this.2.2⟩
  ·simp only [lk]
   split
   ·rename_i e;subst e
    have:=ht k h'
    simp only at this
    rw [h] at this
    refine .tree (snap_ok gd ?_ (G:=L'.F) (fun b hb=>.inl hb) ?_ hsn _ this)
    ·intro i g' s' e' xs' hi
     obtain ⟨rfl,e⟩:=only i g' s' e' xs' hi
     rw [<-e];exact ho
    ·intro i g' s' e' xs' hi b o n hb
     obtain ⟨rfl,_⟩:=only i g' s' e' xs' hi
     exact .inr ⟨o,n,hb⟩
   ·exact (ht t h').stay hlater
end Dak
namespace Dak
open Go Go.RowKit
variable [Globs]
variable {P : Program} {F0 : FD} {w0 w : World} {L : Lay} {objs objs0 : List AObj} {nid : Nat}
end Dak
namespace Dak
open Go Go.RowKit
variable [Globs]
theorem snaps_self:∀ (args:List AV),(args.all AV.isT)=true->∀ objs,Snaps objs args args
 | [],_,_=>.nil
 | x::xs,h,objs=>by
  simp only [List.all_cons,Bool.and_eq_true] at h
  exact .cons (.tree _ h.1) (snaps_self xs h.2 objs)
theorem callT {P:Program} {m:Bool} {objs:List AObj} {f:FuncId} {args:List AV} {r:AV} {K:AV->List AObj->Prop} (h:Ctr P f args r) (hT:(args.all AV.isT)=true) (k:K r objs):∃ r objs',CallM P m objs (.clo (.func f) []) args r objs'/\K r objs' :=
 ⟨r,objs,.ok (.data f [] args (args++[]) r (by rw [List.append_nil];exact snaps_self args hT _) (by rw [List.append_nil];exact h)),k⟩
theorem callN {P:Program} {m:Bool} {objs:List AObj} {f:FuncId} {args xs:List AV} {r:AV} {K:AV->List AObj->Prop} (h:Ctr P f xs r) (hs:Snaps [] args xs) (k:K r objs):∃ r objs',CallM P m objs (.clo (.func f) []) args r objs'/\K r objs' :=
 ⟨r,objs,.ok (.data f [] args xs r (by rw [List.append_nil];exact hs) h),k⟩
theorem callF {P:Program} {m:Bool} {objs:List AObj} {f:FuncId} {args xs:List AV} {r:AV} {K:AV->List AObj->Prop} (h:Ctr P f xs r) (hs:Snaps objs args xs) (hf:r.flat=true) (k:K r objs):∃ r objs',CallM P m objs (.clo (.func f) []) args r objs'/\K r objs' :=
 ⟨r,objs,.ok (.flat f [] args xs r (by rw [List.append_nil];exact hs) h hf),k⟩
theorem callCN {P:Program} {m:Bool} {objs:List AObj} {f:FuncId} {cap args xs:List AV} {r:AV} {K:AV->List AObj->Prop} (h:Ctr P f xs r) (hs:Snaps [] (args++cap) xs) (k:K r objs):∃ r objs',CallM P m objs (.clo (.func f) cap) args r objs'/\K r objs' :=
 ⟨r,objs,.ok (.data f cap args xs r hs h),k⟩
theorem callNew {P:Program} {objs news:List AObj} {f:FuncId} {cap args xs:List AV} {r:AV} {K:AV->List AObj->Prop} (h:CtrN P f xs r news) (hs:Snaps [] (args++cap) xs) (k:K (r.shift objs.length) (objs++news.map (AObj.shiftO objs.length))) :
 ∃ r objs',CallM P true objs (.clo (.func f) cap) args r objs'/\K r objs':=⟨_,_,.new f cap args xs objs news r hs h,k⟩
theorem callM {P:Program} {objs:List AObj} {f:FuncId} {cap args:List AV} {r:AV} {K:AV->List AObj->Prop} (base tail base':List AObj) (h:CtrM P f (args++cap) base r base') (ho:objs=base++tail)
 (hb:(base.all fun o=>o.innO base.length)=true) (ha:((args++cap).all fun x=>x.inn base.length)=true) (k:K r (base'++tail)):∃ r objs',CallM P true objs (.clo (.func f) cap) args r objs'/\K r objs':=by
 subst ho
 exact ⟨r,_,.mod f cap args base tail r base' h hb ha,k⟩
end Dak
namespace Dak
open Go Go.RowKit
variable [Globs]
variable {P : Program} {F0 : FD} {w0 : World}
theorem CwpE.wk {n:Nat} {c:CCode} {Q:Exit->Est->Prop} {s s':Est} (h:WkE n s s') (k:CwpE P F0 w0 n c Q s'):CwpE P F0 w0 n c Q s:=fun hk=>Cwp.wk (h hk).2 (k (h hk).1)
theorem CwpE.post {n:Nat} {c:CCode} {Q Q':Exit->Est->Prop} {s:Est} (h:CwpE P F0 w0 n c Q s) (k:∀ e s,Q e s->∃ s',WkE n s s'/\Q' e s'):CwpE P F0 w0 n c Q' s:=by
 intro hk F1 w1 m r rn code hc hro a w hs
 refine wpIn_mono (h hk F1 w1 m r rn code hc hro a w hs) ?_
 rintro e a w ⟨F2,w2,hm,_,⟨s1,hq,hk1,rfl⟩,hs1⟩
 obtain ⟨s2,hwk,hq2⟩:=k e s1 hq
 exact ⟨F2,w2,hm,s2.toSt n,⟨s2,hq2,(hwk hk1).1,rfl⟩,(hwk hk1).2 _ _ _ _ hs1⟩
def RoundX (n:Nat) (I:Nat->Est->Prop) (k:Nat) (x:Nat) (J:Est->Prop) (Q:Exit->Est->Prop):Exit->Est->Prop
 | .normal,s=>∃ m s',m<k/\WkE n s s'/\I m s'
 | .exit i,s=>if i=x then ∃ s',WkE n s s'/\J s' else Q (.exit i) s
 | e,s=>Q e s
theorem loopX {n:Nat} {b:CCode} {Q:Exit->Est->Prop} {s:Est} (x:Nat) (I:Nat->Est->Prop) (J:Est->Prop) (k:Nat) (s0:Est) (hw:WkE n s s0) (h0:I k s0) (round:∀ k s,I k s->vcE P F0 w0 n b (RoundX n I k x J Q) s) (post:∀ s,J s->Q (.exit x) s):CwpE P F0 w0 n (.loop b) Q s:=by
 refine CwpE.post (Q:=fun e s=>match e with | .exit i=>if i=x then ∃ s',WkE n s s'/\J s' else Q (.exit i) s | e=>Q e s) ?_ ?_
 ·refine loopE I k s0 hw h0 fun k s hI=>?_
  have:=round k s hI
  have e:RoundX n I k x J Q=RoundE n I k (fun e s=>match e with | .exit i=>if i=x then ∃ s',WkE n s s'/\J s' else Q (.exit i) s | e=>Q e s):=by
   funext e s;cases e <;> rfl
  rw [e] at this;exact this
 ·intro e s hq
  cases e with
  | exit i =>
   simp only at hq
   split at hq
   ·rename_i hi;subst hi
    obtain ⟨s',h1,h2⟩:=hq
    exact ⟨s',h1,post s' h2⟩
   ·exact ⟨s,.refl _ _,hq⟩
  | _=>exact ⟨s,.refl _ _,hq⟩
end Dak
namespace Dak
open Go Go.RowKit
variable [Globs]
variable {P : Program} {F0 : FD} {w0 : World} {n : Nat} {Q : Exit -> Est -> Prop} {s : Est}
theorem nrfl.{u} {α : Sort u} {a b : α} (h:a=b):a=b:=h
def condE (o:Option Bool) (p q:Prop):Prop:=match o with
 | some t=>(t=true->p)/\(t=false->q)
 | none=>False
theorem condE_congr {o o':Option Bool} {p q:Prop} (h:o=o'):condE o p q=condE o' p q:=by rw [h]
theorem condE_t {p q:Prop}:condE (some true) p q=p:=by simp [condE]
theorem condE_f {p q:Prop}:condE (some false) p q=q:=by simp [condE]
theorem vc_skip:vcE P F0 w0 n .skip Q s=Q .normal s:=nrfl rfl
theorem vc_region {cs}:vcE P F0 w0 n (.region cs) Q s=RopsE P n cs (Q .normal) s:=nrfl rfl
theorem vc_seq {a b}:vcE P F0 w0 n (.seq a b) Q s=vcE P F0 w0 n a (thenE (vcE P F0 w0 n b Q) Q) s:=nrfl rfl
theorem vc_cond {c a b}:vcE P F0 w0 n (.cond c a b) Q s=condE (asB (evE s.env c)) (vcE P F0 w0 n a Q s) (vcE P F0 w0 n b Q s):=nrfl rfl
theorem vc_block {id b}:vcE P F0 w0 n (.block id b) Q s=vcE P F0 w0 n b (inBlockE id Q) s:=nrfl rfl
theorem vc_loop {b}:vcE P F0 w0 n (.loop b) Q s=CwpE P F0 w0 n (.loop b) Q s:=nrfl rfl
theorem vc_exit {id}:vcE P F0 w0 n (.exit id) Q s=Q (.exit id) s:=nrfl rfl
theorem vc_ret:vcE P F0 w0 n .ret Q s=Q .ret s:=nrfl rfl
def guardE (o:Option (Option Bool)) (want:Bool) (A B:Prop):Prop:=match o with
 | some b=>(b=some want->A)/\(b ≠ some want->B)
 | none=>False
theorem guardE_congr {o o':Option (Option Bool)} {w:Bool} {A B:Prop} (h:o=o'):guardE o w A B=guardE o' w A B:=by rw [h]
theorem guardE_tt {A B:Prop}:guardE (some (some true)) true A B=A:=by simp [guardE]
theorem guardE_ff {A B:Prop}:guardE (some (some false)) false A B=A:=by simp [guardE]
theorem guardE_tf {A B:Prop}:guardE (some (some true)) false A B=B:=by simp [guardE]
theorem guardE_ft {A B:Prop}:guardE (some (some false)) true A B=B:=by simp [guardE]
theorem guardE_n {w:Bool} {A B:Prop}:guardE (some none) w A B=B:=by simp [guardE]
theorem gdB_b {b:Bool}:gdB (.val (.bool b))=some (some b):=by cases b <;> rfl
theorem gdB_n:gdB nov=some none:=by unfold nov;simp [gdB,undef]
def optK (o:Option (AV × List AObj)) (n:Nat) (d:Option Nat) (env:List (Nat × AV)) (K:Est->Prop):Prop:=match o with
 | some (r,objs)=>okD n d/\K ⟨putE env d r,objs⟩
 | none=>False
theorem optK_some {r:AV} {objs:List AObj} {d:Option Nat} {env:List (Nat × AV)} {K:Est->Prop}:optK (some (r,objs)) n d env K=(okD n d/\K ⟨putE env d r,objs⟩):=nrfl rfl
def qK (o:Option (AV × Option AObj)) (n:Nat) (d:Option Nat) (env:List (Nat × AV)) (cr:List AObj) (K:List (Nat × AV)->List AObj->Prop):Prop:=match o with
 | some (r,none)=>okD n d/\K (putE env d r) cr
 | some (r,some o)=>okD n d/\K (putE env d r) (cr++[o])
 | none=>False
theorem qK_none {r:AV} {d:Option Nat} {env:List (Nat × AV)} {cr:List AObj} {K:List (Nat × AV)->List AObj->Prop}:qK (some (r,none)) n d env cr K=(okD n d/\K (putE env d r) cr):=nrfl rfl
theorem qK_some {r:AV} {o:AObj} {d:Option Nat} {env:List (Nat × AV)} {cr:List AObj} {K:List (Nat × AV)->List AObj->Prop}:qK (some (r,some o)) n d env cr K=(okD n d/\K (putE env d r) (cr++[o])):=nrfl rfl
def callK (P:Program) (objs:List AObj) (f:AV) (args:List AV) (d:Option Nat) (env:List (Nat × AV)) (K:Est->Prop):Prop:=∃ r objs',CallM P true objs f args r objs'/\K ⟨putE env d r,objs'⟩
def callQ (P:Program) (objs:List AObj) (f:AV) (args:List AV) (d:Option Nat) (env:List (Nat × AV)) (cr:List AObj) (K:List (Nat × AV)->List AObj->Prop):Prop:=∃ r objs',CallM P false objs f args r objs'/\callX objs objs' cr (K (putE env d r))
theorem callX_same {objs cr:List AObj} {K:List AObj->Prop}:callX objs objs cr K=K cr:=propext ⟨fun h=>h.elim (·.2) fun ⟨os,hv,he,_⟩=>by
 have:=congrArg List.length he
 cases os with
 | nil=>cases hv
 | cons o os=>simp at this,fun h=>.inl ⟨rfl,h⟩⟩
attribute [go_sem] callX_same
def lateK (P:Program) (n:Nat) (ls:List COper) (rest:List (COper × List COper)) (K:Est->Prop) (s:Est):Prop:=LatesE s ls/\RopsLE P n rest K s
def drawnK (P:Program) (n:Nat) (post:List (COper × List COper)) (K:Est->Prop) (objs:List AObj) (env:List (Nat × AV)) (cr:List AObj):Prop:=RopsLE P n post K ⟨env,objs++cr⟩
theorem vd_drawn {pre post}:vcE P F0 w0 n (.drawn pre post) Q s=QopsE P n s.objs pre (drawnK P n post (Q .normal) s.objs) s.env []:=nrfl rfl
attribute [congr] condE_congr guardE_congr
variable {K : Est -> Prop} {rest : List COper} {d : Option Nat} {g : Option (Nat × Bool)}
theorem R_nil:RopsE P n [] K s=K s:=nrfl rfl
theorem R_cons {op:COp}:RopsE P n (⟨d,none,op⟩::rest) K s=RstepE P n ⟨d,none,op⟩ (RopsE P n rest K) s:=nrfl rfl
theorem R_guard {op:COp} {t:Nat} {w:Bool}:RopsE P n (⟨d,some (t,w),op⟩::rest) K s=guardE (gdB (lk s.env t)) w (RstepE P n ⟨d,some (t,w),op⟩ (RopsE P n rest K) s) (okD n d/\RopsE P n rest K ⟨putE s.env d nov,s.objs⟩):=nrfl rfl
theorem R_call {f:Operand} {args:List Operand}:RstepE P n ⟨d,g,.call f args⟩ K s=(okD n d/\callK P s.objs (evE s.env f) (args.map (evE s.env)) d s.env K):=nrfl rfl
theorem RL_nil:RopsLE P n [] K s=K s:=nrfl rfl
theorem RL_cons {op:COp} {ls:List COper} {rest:List (COper × List COper)}:RopsLE P n ((⟨d,none,op⟩,ls)::rest) K s=RstepE P n ⟨d,none,op⟩ (lateK P n ls rest K) s:=nrfl rfl
variable {objs0 : List AObj} {KQ : List (Nat × AV) -> List AObj -> Prop} {env : List (Nat × AV)} {cr : List AObj}
theorem Q_nil:QopsE P n objs0 [] KQ env cr=KQ env cr:=nrfl rfl
theorem Q_call {f:Operand} {args:List Operand}:QopsE P n objs0 (⟨d,none,.call f args⟩::rest) KQ env cr=(okD n d/\callQ P objs0 (evE env f) (args.map (evE env)) d env cr (QopsE P n objs0 rest KQ)):=nrfl rfl
theorem R_mov {x:Operand}:RstepE P n ⟨d,g,.mov x⟩ K s=optK (step1 s.objs (evE s.env) (.mov x)) n d s.env K:=nrfl rfl
theorem Q_mov {x:Operand}:QopsE P n objs0 (⟨d,none,.mov x⟩::rest) KQ env cr=(qK (qstepK (objs0++cr) objs0 (evE env) (objs0.length+cr.length) (.mov x)) n d env cr (QopsE P n objs0 rest KQ)):=nrfl rfl
theorem R_pick {c a b:Operand}:RstepE P n ⟨d,g,.pick c a b⟩ K s=optK (step1 s.objs (evE s.env) (.pick c a b)) n d s.env K:=nrfl rfl
theorem R_alloc {elem:TypeId} {z:AV}:RstepE P n ⟨d,g,.alloc elem z⟩ K s=optK (step1 s.objs (evE s.env) (.alloc elem z)) n d s.env K:=nrfl rfl
theorem R_box {elem:TypeId} {x:Operand}:RstepE P n ⟨d,g,.box elem x⟩ K s=optK (step1 s.objs (evE s.env) (.box elem x)) n d s.env K:=nrfl rfl
theorem R_load {agg:Bool} {m:Nat} {x:Operand}:RstepE P n ⟨d,g,.load agg m x⟩ K s=optK (step1 s.objs (evE s.env) (.load agg m x)) n d s.env K:=nrfl rfl
theorem Q_load {agg:Bool} {m:Nat} {x:Operand}:QopsE P n objs0 (⟨d,none,.load agg m x⟩::rest) KQ env cr=(qK (qstepK (objs0++cr) objs0 (evE env) (objs0.length+cr.length) (.load agg m x)) n d env cr (QopsE P n objs0 rest KQ)):=nrfl rfl
theorem R_ibin {op:BinOp} {x y:Operand}:RstepE P n ⟨d,g,.ibin op x y⟩ K s=optK (step1 s.objs (evE s.env) (.ibin op x y)) n d s.env K:=nrfl rfl
theorem Q_ibin {op:BinOp} {x y:Operand}:QopsE P n objs0 (⟨d,none,.ibin op x y⟩::rest) KQ env cr=(qK (qstepK (objs0++cr) objs0 (evE env) (objs0.length+cr.length) (.ibin op x y)) n d env cr (QopsE P n objs0 rest KQ)):=nrfl rfl
theorem R_bbin {op:BinOp} {x y:Operand}:RstepE P n ⟨d,g,.bbin op x y⟩ K s=optK (step1 s.objs (evE s.env) (.bbin op x y)) n d s.env K:=nrfl rfl
theorem R_neg {x:Operand}:RstepE P n ⟨d,g,.neg x⟩ K s=optK (step1 s.objs (evE s.env) (.neg x)) n d s.env K:=nrfl rfl
theorem R_lnot {x:Operand}:RstepE P n ⟨d,g,.lnot x⟩ K s=optK (step1 s.objs (evE s.env) (.lnot x)) n d s.env K:=nrfl rfl
theorem R_fieldAddr {off:Nat} {x:Operand}:RstepE P n ⟨d,g,.fieldAddr off x⟩ K s=optK (step1 s.objs (evE s.env) (.fieldAddr off x)) n d s.env K:=nrfl rfl
theorem Q_fieldAddr {off:Nat} {x:Operand}:QopsE P n objs0 (⟨d,none,.fieldAddr off x⟩::rest) KQ env cr=(qK (qstepK (objs0++cr) objs0 (evE env) (objs0.length+cr.length) (.fieldAddr off x)) n d env cr (QopsE P n objs0 rest KQ)):=nrfl rfl
theorem R_idxS {size:Nat} {x i:Operand}:RstepE P n ⟨d,g,.idxS size x i⟩ K s=optK (step1 s.objs (evE s.env) (.idxS size x i)) n d s.env K:=nrfl rfl
theorem Q_idxS {size:Nat} {x i:Operand}:QopsE P n objs0 (⟨d,none,.idxS size x i⟩::rest) KQ env cr=(qK (qstepK (objs0++cr) objs0 (evE env) (objs0.length+cr.length) (.idxS size x i)) n d env cr (QopsE P n objs0 rest KQ)):=nrfl rfl
theorem R_extract {x:Operand} {i:Nat}:RstepE P n ⟨d,g,.extract x i⟩ K s=optK (step1 s.objs (evE s.env) (.extract x i)) n d s.env K:=nrfl rfl
theorem R_slice {size:Nat} {x:Operand} {lo hi:Option Operand}:RstepE P n ⟨d,g,.slice size x lo hi⟩ K s=optK (step1 s.objs (evE s.env) (.slice size x lo hi)) n d s.env K:=nrfl rfl
theorem R_mkslice {elem:TypeId} {size bytes:Nat} {z:AV} {len cap:Operand}:RstepE P n ⟨d,g,.mkslice elem size bytes z len cap⟩ K s=optK (step1 s.objs (evE s.env) (.mkslice elem size bytes z len cap)) n d s.env K:=nrfl rfl
theorem Q_mkslice {elem:TypeId} {size bytes:Nat} {z:AV} {len cap:Operand}:QopsE P n objs0 (⟨d,none,.mkslice elem size bytes z len cap⟩::rest) KQ env cr=(qK (qstepK (objs0++cr) objs0 (evE env) (objs0.length+cr.length) (.mkslice elem size bytes z len cap)) n d env cr (QopsE P n objs0 rest KQ)):=nrfl rfl
theorem R_build {z:List AV} {parts:List (Nat × Nat × Operand)}:RstepE P n ⟨d,g,.build z parts⟩ K s=optK (step1 s.objs (evE s.env) (.build z parts)) n d s.env K:=nrfl rfl
theorem Q_build {z:List AV} {parts:List (Nat × Nat × Operand)}:QopsE P n objs0 (⟨d,none,.build z parts⟩::rest) KQ env cr=(qK (qstepK (objs0++cr) objs0 (evE env) (objs0.length+cr.length) (.build z parts)) n d env cr (QopsE P n objs0 rest KQ)):=nrfl rfl
theorem R_bslice {elem:TypeId} {size:Nat} {parts:List Operand}:RstepE P n ⟨d,g,.bslice elem size parts⟩ K s=optK (step1 s.objs (evE s.env) (.bslice elem size parts)) n d s.env K:=nrfl rfl
theorem Q_bslice {elem:TypeId} {size:Nat} {parts:List Operand}:QopsE P n objs0 (⟨d,none,.bslice elem size parts⟩::rest) KQ env cr=(qK (qstepK (objs0++cr) objs0 (evE env) (objs0.length+cr.length) (.bslice elem size parts)) n d env cr (QopsE P n objs0 rest KQ)):=nrfl rfl
theorem R_len {x:Operand}:RstepE P n ⟨d,g,.len x⟩ K s=optK (step1 s.objs (evE s.env) (.len x)) n d s.env K:=nrfl rfl
theorem Q_len {x:Operand}:QopsE P n objs0 (⟨d,none,.len x⟩::rest) KQ env cr=(qK (qstepK (objs0++cr) objs0 (evE env) (objs0.length+cr.length) (.len x)) n d env cr (QopsE P n objs0 rest KQ)):=nrfl rfl
theorem R_imin {x y:Operand}:RstepE P n ⟨d,g,.imin x y⟩ K s=optK (step1 s.objs (evE s.env) (.imin x y)) n d s.env K:=nrfl rfl
theorem R_imax {x y:Operand}:RstepE P n ⟨d,g,.imax x y⟩ K s=optK (step1 s.objs (evE s.env) (.imax x y)) n d s.env K:=nrfl rfl
theorem R_mkfunc {fn:Fn} {cap:List Operand}:RstepE P n ⟨d,g,.mkfunc fn cap⟩ K s=optK (step1 s.objs (evE s.env) (.mkfunc fn cap)) n d s.env K:=nrfl rfl
theorem mkF_func (f:FuncId) (xs:List AV):mkF (.func f) xs=some (.clo (.func f) xs,none):=rfl
theorem mkF_via {t:TypeId} {p f b} (xs:List AV):mkF (.via t p f b) xs=(xs.mapM toV).map fun vs=>(.val (.func (.func f) vs.toArray #[]),none):=rfl
theorem toV_one (u:AV) : [u].mapM toV=(toV u).map fun v=>[v]:=by simp only [List.mapM_cons,List.mapM_nil];cases toV u <;> rfl
theorem toV_val (v:Value):toV (.val v)=some v:=rfl
attribute [go_sem] mkF_func mkF_via toV_one Option.map_some toV_val
theorem R_store {m:Nat} {x v:Operand}:RstepE P n ⟨d,g,.store m x v⟩ K s=optK (step1 s.objs (evE s.env) (.store m x v)) n d s.env K:=nrfl rfl
theorem R_append {elem:TypeId} {size bytes:Nat} {sl x:Operand}:RstepE P n ⟨d,g,.append elem size bytes sl x⟩ K s=optK (step1 s.objs (evE s.env) (.append elem size bytes sl x)) n d s.env K:=nrfl rfl
theorem evE_t {env:List (Nat × AV)} {t:Nat}:evE env (.tmp t)=lk env t:=nrfl rfl
theorem evE_c {env:List (Nat × AV)} {v:Value}:evE env (.const v)=ofV v:=nrfl rfl
theorem evE_f {env:List (Nat × AV)} {f:FuncId}:evE env (.func f) = .clo (.func f) []:=nrfl rfl
theorem asB_b {b:Bool}:asB (.val (.bool b))=some b:=by cases b <;> rfl
theorem thenE_n {A:Est->Prop}:thenE A Q .normal s=A s:=nrfl rfl
theorem thenE_x {A:Est->Prop} {i:Nat}:thenE A Q (.exit i) s=Q (.exit i) s:=nrfl rfl
theorem thenE_r {A:Est->Prop}:thenE A Q .ret s=Q .ret s:=nrfl rfl
theorem inBlockE_n {id:Nat}:inBlockE id Q .normal s=Q .normal s:=nrfl rfl
theorem inBlockE_x {id i:Nat}:inBlockE id Q (.exit i) s=if i=id then Q .normal s else Q (.exit i) s:=nrfl rfl
theorem inBlockE_r {id:Nat}:inBlockE id Q .ret s=Q .ret s:=nrfl rfl
theorem retE_r {rs:List CRes} {r:AV}:retE rs r .ret s = ∃ y,resAllE s rs=some y/\Snap s.objs y r:=nrfl rfl
theorem RoundX_n {I:Nat->Est->Prop} {k x:Nat} {J:Est->Prop}:RoundX n I k x J Q .normal s = ∃ m s',m<k/\WkE n s s'/\I m s':=nrfl rfl
theorem RoundX_x {I:Nat->Est->Prop} {k x i:Nat} {J:Est->Prop}:RoundX n I k x J Q (.exit i) s=if i=x then ∃ s',WkE n s s'/\J s' else Q (.exit i) s:=nrfl rfl
theorem RoundX_r {I:Nat->Est->Prop} {k x:Nat} {J:Est->Prop}:RoundX n I k x J Q .ret s=Q .ret s:=nrfl rfl
theorem RoundE_n {I:Nat->Est->Prop} {k:Nat}:RoundE n I k Q .normal s = ∃ m s',m<k/\WkE n s s'/\I m s':=nrfl rfl
theorem RoundE_x {I:Nat->Est->Prop} {k i:Nat}:RoundE n I k Q (.exit i) s=Q (.exit i) s:=nrfl rfl
theorem RoundE_r {I:Nat->Est->Prop} {k:Nat}:RoundE n I k Q .ret s=Q .ret s:=nrfl rfl
theorem lk_cons {k t:Nat} {v:AV} {r:List (Nat × AV)}:lk ((k,v)::r) t=if k=t then v else lk r t:=nrfl rfl
theorem lk_nil {t:Nat}:lk [] t = .junk:=nrfl rfl
theorem R_mnew {elem:TypeId}:RstepE P n ⟨d,g,.mnew elem⟩ K s=optK (step1 s.objs (evE s.env) (.mnew elem)) n d s.env K:=nrfl rfl
theorem R_mget {mc:Nat} {mok:Bool} {mz:Value} {x y:Operand}:RstepE P n ⟨d,g,.mget mc mok mz x y⟩ K s=optK (step1 s.objs (evE s.env) (.mget mc mok mz x y)) n d s.env K:=nrfl rfl
theorem R_mset {mc:Nat} {x y z:Operand}:RstepE P n ⟨d,g,.mset mc x y z⟩ K s=optK (step1 s.objs (evE s.env) (.mset mc x y z)) n d s.env K:=nrfl rfl
theorem Q_mkch {x:Operand}:QopsE P n objs0 (⟨d,none,.mkch x⟩::rest) KQ env cr=(qK (qstepK (objs0++cr) objs0 (evE env) (objs0.length+cr.length) (.mkch x)) n d env cr (QopsE P n objs0 rest KQ)):=nrfl rfl
theorem keyOf_i {m:Int}:keyOf 0 (.val (.int .i64 m))=some (.i m):=by simp [keyOf]
theorem keyOf_s {b:ByteArray}:keyOf 1 (.val (.string b))=some (.s b):=by simp [keyOf]
theorem keyOf_2 {a b:Int}:keyOf 6 (.agg [.val (.int .i64 a),.val (.int .i64 b)])=some (.a [a,b]):=by simp [keyOf,asI,keyK,List.replicate_succ]
theorem keyOf_u4 {a b c d:Int}:keyOf 11 (.agg [.val (.int .u64 a),.val (.int .u64 b),.val (.int .u64 c),.val (.int .u64 d)])=some (.a [a,b,c,d]):=by simp [keyOf,asI,keyK,List.replicate_succ]
attribute [go_sem] R_mnew R_mget R_mset Q_mkch keyOf_i keyOf_s keyOf_2 keyOf_u4 mapOwn mapOf msetA mapT unV_mapV
attribute [go_sem] and_true
attribute [go_sem] guardE_n gdB_b gdB_n condE_t condE_f vc_skip vc_region vd_drawn vc_seq vc_cond vc_block vc_loop vc_exit vc_ret guardE_tt guardE_ff guardE_tf guardE_ft optK_some qK_none qK_some lateK drawnK R_nil R_cons R_guard R_call RL_nil RL_cons Q_nil Q_call R_mov Q_mov R_pick R_alloc R_box R_load Q_load R_ibin Q_ibin R_bbin R_neg R_lnot R_fieldAddr Q_fieldAddr R_idxS Q_idxS R_extract R_slice R_mkslice Q_mkslice R_build Q_build R_bslice Q_bslice R_len Q_len R_imin R_imax R_mkfunc R_store R_append LatesE evE_t evE_c evE_f putE lk_cons lk_nil okD step1 qstep qstepK qop ofV COp.stores AV.kn AV.fits AV.one AV.isT AV.isT1 AV.cells asI asB_b ibinV bnd bnd1 cellsAt fillA Dak.upd storeA appendA appendY appendZA copyA srcOf recell resAllE resE envOf Nat.le_refl List.mapM_cons List.mapM_nil List.map_cons List.map_nil List.all_cons List.all_nil List.length_cons List.length_nil List.length_append List.append_nil List.nil_append List.cons_append Option.bind_some Option.bind_none Option.map_some Option.map_none Option.pure_def Option.some.injEq exists_eq_left' true_and and_true if_true if_false ite_true ite_false Bool.false_eq_true Bool.true_eq_false Bool.and_true Bool.true_and Bool.and_false Bool.false_and ne_eq not_true_eq_false not_false_eq_true forall_const false_implies true_implies implies_true Bool.not_eq_false Bool.not_eq_true List.getElem?_cons_zero List.getElem?_cons_succ List.set_cons_zero List.set_cons_succ Value.oneCell' beq_self_eq_true decide_true decide_false Nat.add_zero Nat.zero_add AV.val.injEq Value.int.injEq Value.bool.injEq Bool.not_true Bool.not_false bne_self_eq_false IntKind.bits Nat.lt_add_one Nat.zero_lt_succ Nat.one_ne_zero List.length_map List.drop_zero List.take_length List.take_succ_cons List.take_zero List.drop_succ_cons Agree List.head?_cons or_true true_or or_false false_or and_self Int.toNat_natCast List.set_nil List.replicate_zero List.drop_nil List.take_nil List.length_range List.take_of_length_le thenE_n thenE_x thenE_r inBlockE_n inBlockE_x inBlockE_r retE_r RoundX_n RoundX_x RoundX_r RoundE_n RoundE_x RoundE_r Option.bind_eq_bind
end Dak
namespace Dak
open Go Go.RowKit
variable [Globs]
variable {P : Program} {F0 : FD} {w0 : World} {n : Nat}
theorem CwpE.vc {c:CCode} {Q:Exit->Est->Prop} {s:Est} (h:vcE P F0 w0 n c Q s):CwpE P F0 w0 n c Q s:=fun hk=>vc_ok _ _ _ (vcE_ok c Q s hk h)
theorem CwpE.seq {a b:CCode} {Q:Exit->Est->Prop} {s:Est} (h:CwpE P F0 w0 n a (thenE (CwpE P F0 w0 n b Q) Q) s):CwpE P F0 w0 n (.seq a b) Q s:=by
 intro hk F1 w1 m r rn code hc hro a' w hs
 cases code with
 | seq x y =>
  simp only [compC,Option.bind_eq_some_iff,Option.map_eq_some_iff,CCode.seq.injEq] at hc
  obtain ⟨x',hx,y',hy,rfl,rfl⟩:=hc
  refine wpIn_seq (wpIn_mono (h hk F1 w1 m r rn _ hx (ro_l hro) _ w hs) ?_)
  rintro e a w ⟨F2,w2,hm,st,⟨s1,hq,hk1,rfl⟩,hs1⟩
  cases e with
  | normal=>exact wpIn_mono (hq hk1 F2 w2 (m.trans hm) r rn _ hy (ro_r hro) _ _ hs1) fun _ _ _=>LiftM.back hm
  | _=>exact ⟨F2,w2,hm,_,⟨s1,hq,hk1,rfl⟩,hs1⟩
 | region id ops d=>rcases compC_reg hc with ⟨_,_,h⟩ | ⟨_,_,h⟩ | ⟨_,_,_,h⟩ <;> cases h
 | _=>simp [compC,Option.bind_eq_some_iff] at hc
theorem CwpE.step {a b:CCode} {Q:Exit->Est->Prop} {s:Est} (J:Est->Prop) (h:vcE P F0 w0 n a (thenE (fun s=>∃ s',WkE n s s'/\J s') Q) s) (k:∀ s,J s->CwpE P F0 w0 n b Q s):CwpE P F0 w0 n (.seq a b) Q s:=by
 refine CwpE.seq ((CwpE.vc h).post ?_)
 rintro e s h
 cases e with
 | normal=>obtain ⟨s',h1,h2⟩:=h;exact ⟨s,.refl _ _,(k s' h2).wk h1⟩
 | _=>exact ⟨s,.refl _ _,h⟩
theorem specC {f:FuncId} {c:CCode} {n:Nat} {rs:List CRes} (hf:fnC P f=some (c,n,rs)) {xs:List AV} (hn:xs.length<=n) {r:AV} (h:∀ F0 w0,CwpE P F0 w0 n c (retE rs r) ⟨envOf 0 xs,[]⟩):Ctr P f xs r:=by
 refine spec_ofC hf fun F0 w0=>?_
 have hk:KeysOk n (envOf 0 xs):=by
  intro t ht
  rw [lk_envOf,if_pos (Nat.zero_le _),List.getD_eq_getElem?_getD,List.getElem?_eq_none (by omega)];rfl
 have e:(⟨xs++List.replicate (n-xs.length) .junk,[]⟩:St)=(⟨envOf 0 xs,[]⟩:Est).toSt n:=by
  unfold Est.toSt
  congr 1
  refine getD_ext (by simp [toT];omega) fun t ht=>?_
  rw [toT_getD hk,lk_envOf,if_pos (Nat.zero_le _),Nat.sub_zero]
  rw [List.getD_eq_getElem?_getD,List.getD_eq_getElem?_getD,List.getElem?_append]
  split
  ·rfl
  ·rename_i h1
   rw [List.getElem?_replicate,List.getElem?_eq_none (by omega)]
   split <;> rfl
 rw [e]
 refine (h F0 w0 hk).mono ?_
 rintro e st ⟨s,hq,hk',rfl⟩
 have hr:∀ x,resA (s.toSt n) x=resE s x:=by
  intro x
  cases x with
  | tmp t=>simp only [resA,resE];rw [show (s.toSt n).tmps=toT n s.env from rfl,toT_getD hk']
  | cell a ag m=>simp only [resA,resE];rw [show (s.toSt n).tmps=toT n s.env from rfl,toT_getD hk'];rfl
 have hra:∀ rs,resAll (s.toSt n) rs=resAllE s rs:=by
  intro rs;unfold resAll resAllE;rw [show resA (s.toSt n)=resE s from funext hr]
  cases rs.mapM (resE s) with
  | none=>rfl
  | some ys=>cases ys with
   | nil=>rfl
   | cons y ys=>cases ys <;> rfl
 cases e with
 | normal=>simp only [retQ];rw [hra];exact hq
 | ret=>simp only [retQ];rw [hra];exact hq
 | _=>exact hq
end Dak
namespace Dak
open Go Go.RowKit
variable [Globs]
variable {P : Program} {F0 : FD} {w0 : World} {n : Nat}
theorem CwpE.mono {c:CCode} {Q Q':Exit->Est->Prop} {s:Est} (h:CwpE P F0 w0 n c Q s) (k:∀ e s,Q e s->Q' e s):CwpE P F0 w0 n c Q' s:=h.post fun e s hq=>⟨s,.refl _ _,k e s hq⟩
theorem CwpE.block {id:Nat} {b:CCode} {Q:Exit->Est->Prop} {s:Est} (h:CwpE P F0 w0 n b (inBlockE id Q) s):CwpE P F0 w0 n (.block id b) Q s:=by
 intro hk F1 w1 m r rn code hc hro a w hs
 cases code with
 | block id' b' =>
  simp only [compC,Option.map_eq_some_iff,CCode.block.injEq] at hc
  obtain ⟨x',hx,rfl,rfl⟩:=hc
  refine wpIn_block (wpIn_mono (h hk F1 w1 m r rn _ hx hro a w hs) ?_)
  rintro e a1 w3 ⟨F2,w2,hm,st',⟨s1,hq,hk1,rfl⟩,hs'⟩
  cases e with
  | exit i =>
   simp only [Exit.inBlock,inBlockE] at hq ⊢
   split
   ·rename_i hi;rw [if_pos hi] at hq;exact ⟨F2,w2,hm,_,⟨s1,hq,hk1,rfl⟩,hs'⟩
   ·rename_i hi;rw [if_neg hi] at hq;exact ⟨F2,w2,hm,_,⟨s1,hq,hk1,rfl⟩,hs'⟩
  | _=>exact ⟨F2,w2,hm,_,⟨s1,hq,hk1,rfl⟩,hs'⟩
 | region id ops d=>rcases compC_reg hc with ⟨_,_,h⟩ | ⟨_,_,h⟩ | ⟨_,_,_,h⟩ <;> cases h
 | _=>simp [compC,Option.bind_eq_some_iff] at hc
theorem Cwp.loopC {b:CCode} {Q:Exit->St->Prop} {s s0:St} (I:Nat->St->Prop) (n:Nat) (hw:Wk s s0) (h0:I n s0) (round:∀ n s,I n s->Cwp P F0 w0 b (Round I n Q) s):Cwp P F0 w0 (.loop b) Q s:=by
 intro F1 w1 hm1 r rn code hc hro a w hs
 cases code with
 | loop b' =>
  simp only [compC,Option.map_eq_some_iff,CCode.loop.injEq] at hc
  obtain ⟨x',hx,rfl⟩:=hc
  refine wpIn_loop_ghost (fun n a w=>∃ F2 w2,Mk F1 w1 F2 w2/\∃ s,I n s/\Sim F2 w2 s a w) n ⟨F1,w1,Mk.refl hs.lt,s0,h0,hw _ _ _ _ hs⟩ ?_
  rintro n a w ⟨F2,w2,hm2,s,hI,hs⟩
  refine wpIn_mono (round n s hI F2 w2 (hm1.trans hm2) r rn _ hx hro a w hs) ?_
  rintro e a1 w3 ⟨F3,w3',hm3,st',hq,hs'⟩
  cases e with
  | normal =>
   obtain ⟨m,s'',hm,hwk,hI'⟩:=hq
   first
    | exact ⟨m,hm,F3,w3',hm2.trans hm3,s'',hI',hwk _ _ _ _ hs'⟩
    | exact ⟨⟨m,hm,F3,w3',hm2.trans hm3,s'',hI',hwk _ _ _ _ hs'⟩⟩
  | _=>exact ⟨F3,w3',hm2.trans hm3,st',hq,hs'⟩
 | region id ops d=>rcases compC_reg hc with ⟨_,_,h⟩ | ⟨_,_,h⟩ | ⟨_,_,_,h⟩ <;> cases h
 | _=>simp [compC,Option.bind_eq_some_iff] at hc
theorem loopEC {b:CCode} {Q:Exit->Est->Prop} {s:Est} (I:Nat->Est->Prop) (k:Nat) (s0:Est) (hw:WkE n s s0) (h0:I k s0) (round:∀ k s,I k s->CwpE P F0 w0 n b (RoundE n I k Q) s):CwpE P F0 w0 n (.loop b) Q s:=by
 intro hk
 refine Cwp.loopC (fun k st=>∃ s,I k s/\KeysOk n s.env/\st=s.toSt n) k (hw hk).2 ⟨s0,h0,(hw hk).1,rfl⟩ ?_
 rintro k st ⟨s,hI,hk,rfl⟩
 refine Cwp.mono (round k s hI hk) ?_
 rintro e st ⟨s',hq,hk',rfl⟩
 cases e with
 | normal =>
  obtain ⟨m,s'',hm,hwk,hI'⟩:=hq
  exact ⟨m,_,hm,(hwk hk').2,s'',hI',(hwk hk').1,rfl⟩
 | _=>exact ⟨s',hq,hk',rfl⟩
theorem loopXC {b:CCode} {Q:Exit->Est->Prop} {s:Est} (x:Nat) (I:Nat->Est->Prop) (J:Est->Prop) (k:Nat) (s0:Est) (hw:WkE n s s0) (h0:I k s0) (round:∀ k s,I k s->CwpE P F0 w0 n b (RoundX n I k x J Q) s) (post:∀ s,J s->Q (.exit x) s):CwpE P F0 w0 n (.loop b) Q s:=by
 refine CwpE.post (Q:=fun e s=>match e with | .exit i=>if i=x then ∃ s',WkE n s s'/\J s' else Q (.exit i) s | e=>Q e s) ?_ ?_
 ·refine loopEC I k s0 hw h0 fun k s hI=>?_
  have:=round k s hI
  have e:RoundX n I k x J Q=RoundE n I k (fun e s=>match e with | .exit i=>if i=x then ∃ s',WkE n s s'/\J s' else Q (.exit i) s | e=>Q e s):=by
   funext e s;cases e <;> rfl
  rw [e] at this;exact this
 ·intro e s hq
  cases e with
  | exit i =>
   simp only at hq
   split at hq
   ·rename_i hi;subst hi
    obtain ⟨s',h1,h2⟩:=hq
    exact ⟨s',h1,post s' h2⟩
   ·exact ⟨s,.refl _ _,hq⟩
  | _=>exact ⟨s,.refl _ _,hq⟩
theorem CwpE.cut {a b:CCode} {Q:Exit->Est->Prop} {s st:Est} (h:vcE P F0 w0 n a (thenE (fun s=>∃ s',WkE n s s'/\s'=st) Q) s) (k:CwpE P F0 w0 n b Q st):CwpE P F0 w0 n (.seq a b) Q s:=by
 refine CwpE.step (fun s=>s=st) h ?_
 rintro s rfl;exact k
theorem CwpE.seqJ {a b:CCode} {Q:Exit->Est->Prop} {s:Est} (J:Est->Prop) (h:CwpE P F0 w0 n a (thenE (fun s=>∃ s',WkE n s s'/\J s') Q) s) (k:∀ s,J s->CwpE P F0 w0 n b Q s):CwpE P F0 w0 n (.seq a b) Q s:=by
 refine CwpE.seq (h.post ?_)
 rintro e s h
 cases e with
 | normal=>obtain ⟨s',h1,h2⟩:=h;exact ⟨s,.refl _ _,(k s' h2).wk h1⟩
 | _=>exact ⟨s,.refl _ _,h⟩
end Dak
namespace Dak
open Go Go.RowKit
variable [Globs]
variable {P : Program} {F0 : FD} {w0 w : World} {L : Lay} {objs objs0 : List AObj} {nid : Nat}
theorem inn1_mono {m n:Nat} (h:m<=n) {x:AV} (hx:x.inn1 m=true):x.inn1 n=true:=by
 cases x <;> simp_all [AV.inn1] <;> omega
theorem innA_mono {m n:Nat} (h:m<=n) {x:AV} (hx:x.innA m=true):x.innA n=true:=by
 cases x with
 | agg cs=>exact List.all_eq_true.2 fun c hc=>inn1_mono h (List.all_eq_true.1 hx c hc)
 | _=>simp only [AV.innA] at hx ⊢;exact inn1_mono h hx
theorem inn_mono {m n:Nat} (h:m<=n) {x:AV} (hx:x.inn m=true):x.inn n=true:=by
 cases x with
 | agg cs=>exact List.all_eq_true.2 fun c hc=>inn1_mono h (List.all_eq_true.1 hx c hc)
 | tup cs=>exact List.all_eq_true.2 fun c hc=>innA_mono h (List.all_eq_true.1 hx c hc)
 | clo fn cs=>exact List.all_eq_true.2 fun c hc=>inn1_mono h (List.all_eq_true.1 hx c hc)
 | _=>simp only [AV.inn] at hx ⊢;exact inn1_mono h hx
theorem later_app (w:World) (L:Lay) (objs tail:List AObj):Later w L objs w L (objs++tail) :=
 ⟨fun b hF hb=>⟨rfl,hF⟩,fun _ _ h=>stale_app _ h,fun _ _ _ h=>.inr ⟨live_app _ h,rfl⟩⟩
abbrev probeOf (objs:List AObj) (L:Lay) (ps:List (AV × Value)):AObj:=.probe objs.length (stale objs) (live objs) L.blk ps
theorem good_probe (g:Good F0 w0 w L objs) (ps:List (AV × Value)) (hp:∀ p ∈ ps,VR w L objs p.1 p.2):Good F0 w0 w L (objs++[probeOf objs L ps]):=by
 have hl:=later_app w L objs [probeOf objs L ps]
 refine ⟨fun id o ho=>?_,fun id hid=>g.out id (by rw [List.length_append] at hid;omega),g.inj,g.own,g.old,g.ext,g.gl⟩
 by_cases hlt:id<objs.length
 ·rw [List.getElem?_append_left hlt] at ho
  have:=g.obj id o ho
  cases o with
  | void=>exact this
  | dead=>exact this
  | probe k st li bk ps=>exact this.probe_stay hl rfl
  | arr gen size elem xs =>
   unfold OR at this ⊢
   cases hbk:L.blk id with
   | none=>rw [hbk] at this;exact this
   | some q =>
    obtain ⟨b,o',n⟩:=q
    rw [hbk] at this
    obtain ⟨cur,hc,hn,hr⟩:=this
    exact ⟨cur,hc,hn,hr.stay hl⟩
 ·have hid:id=objs.length:=by
   have:=(List.getElem?_eq_some_iff.1 ho).1
   simp at this;omega
  subst hid
  simp at ho;subst ho
  exact ⟨g.out _ (Nat.le_refl _),fun i g' _ h=>stale_app _ h,fun i g' s _ h=>.inr ⟨live_app _ h,rfl⟩,fun p hp'=>(hp p hp').stay hl⟩
theorem probe_inn {ps:List (AV × Value)} (hp:∀ p ∈ ps,p.1.inn objs.length=true) (m:Nat) (hm:objs.length<=m):(probeOf objs L ps).innO m=true:=by
 simp only [AObj.innO,Bool.and_eq_true,decide_eq_true_eq]
 exact ⟨hm,List.all_eq_true.2 fun p hp'=>inn_mono hm (hp p hp')⟩
theorem fin_probe {w':World} {L3:Lay} {base base':List AObj} {r:AV} {v:Value} {ds:List Deferred} (g:Good { F0 with ds:=ds } w0 w' L3 (base'++[probeOf base L []])) (hlen:base'.length=base.length) (hb':(base'.all fun o=>o.innO base.length)=true)
 (hv:VR w' L3 (base'++[probeOf base L []]) r v) (hr:r.inn base.length=true):∃ L',Good F0 w0 w' L' base'/\Done base L base' L'/\VR w' L' base' r v:=by
 have e:(base'++[probeOf base L []]).take base.length=base':=by rw [<-hlen];exact List.take_left
 have gd:=good_drop g base.length (fun o ho=>by rw [e] at ho;exact List.all_eq_true.1 hb' o ho)
 rw [e] at gd
 have hpr:=g.obj base.length (probeOf base L []) (by rw [<-hlen];simp)
 obtain ⟨_,p1,p2,_⟩:=hpr
 refine ⟨L3.cut base.length,⟨gd.obj,gd.out,gd.inj,gd.own,gd.old,gd.ext,gd.gl⟩,⟨fun id gg h=>?_,fun id gg s h=>?_⟩,?_⟩
 ·have hlt:=stale_lt h
  have:=(take_stale hlt).2 (p1 id gg hlt h)
  rwa [e] at this
 ·have hlt:=live_lt h
  rcases p2 id gg s hlt h with h1 | ⟨h1,h2⟩
  ·have:=(take_stale hlt).2 h1
   rw [e] at this;exact .inl this
  ·have:=(take_live hlt).2 h1
   rw [e] at this
   exact .inr ⟨this,(if_pos hlt).trans h2⟩
 ·have:=below_vr (L:=L3) (L':=L3.cut base.length) (m:=base.length) (fun _ h=>h) (fun id h=>if_pos h) hv hr
  rwa [e] at this
def retM (rs:List CRes) (r:AV) (objs':List AObj):Exit->Est->Prop
 | .normal,s=>∃ y,resAllE s rs=some y/\WkE 1 ⟨[(0,y)],s.objs⟩ ⟨[(0,r)],objs'⟩
 | .ret,s=>∃ y,resAllE s rs=some y/\WkE 1 ⟨[(0,y)],s.objs⟩ ⟨[(0,r)],objs'⟩
 | _,_=>False
theorem keys_env {xs:List AV} {n:Nat} (hn:xs.length<=n):KeysOk n (envOf 0 xs):=by
 intro t ht
 rw [lk_envOf,if_pos (Nat.zero_le _),List.getD_eq_getElem?_getD,List.getElem?_eq_none (by omega)];rfl
theorem enter_slots {xs:List AV} {n:Nat} {vs:Array Value} (hl:vs.size=xs.length) (hn:xs.length<=n) (hv:∀ i (h:i<xs.length) (h2:i<vs.size),VR w L objs xs[i] vs[i]) :
 ∀ t,t<n->VR w L objs (lk (envOf 0 xs) t) ((vs++Array.replicate (n-vs.size) undef).getD t undef):=by
 intro t ht
 rw [lk_envOf,if_pos (Nat.zero_le _),Nat.sub_zero,List.getD_eq_getElem?_getD]
 by_cases hlt:t<xs.length
 ·rw [List.getElem?_eq_getElem hlt,Array.getD_eq_getD_getElem?,Array.getElem?_append_left (by omega),Array.getElem?_eq_getElem (by omega)]
  exact hv t hlt (by omega)
 ·rw [List.getElem?_eq_none (by omega)]
  exact .junk _
theorem resAllE_eq {s:Est} {n:Nat} (hk:KeysOk n s.env) (rs:List CRes):resAll (s.toSt n) rs=resAllE s rs:=by
 have hr:∀ x,resA (s.toSt n) x=resE s x:=by
  intro x
  cases x with
  | tmp t=>simp only [resA,resE];rw [show (s.toSt n).tmps=toT n s.env from rfl,toT_getD hk]
  | cell a ag m=>simp only [resA,resE];rw [show (s.toSt n).tmps=toT n s.env from rfl,toT_getD hk];rfl
 unfold resAll resAllE
 rw [show resA (s.toSt n)=resE s from funext hr]
 cases rs.mapM (resE s) with
 | none=>rfl
 | some ys=>cases ys with
  | nil=>rfl
  | cons y ys=>cases ys <;> rfl
theorem wk_one {y r:AV} {objs':List AObj} (h:WkE 1 ⟨[(0,y)],objs⟩ ⟨[(0,r)],objs'⟩) (g:Good F0 w0 w L objs) {v:Value} (hv:VR w L objs y v):∃ L',Good F0 w0 w L' objs'/\VR w L' objs' r v:=by
 have hk:KeysOk 1 [(0,y)]:=by
  intro t ht;simp only [lk];rw [if_neg (by omega)]
 obtain ⟨hk',hw⟩:=h hk
 have hs:=hw F0 w0 { tmps:=#[v],defers:=F0.ds } w (sim_mk (n:=1) (s:=⟨[(0,y)],objs⟩) rfl g rfl fun t ht=>by
  obtain rfl:t=0:=by omega
  exact hv)
 obtain ⟨_,L',g',_,ht⟩:=sim_slots hk' hs
 exact ⟨L',g',ht 0 (by omega)⟩
theorem Good.un {w':World} {L':Lay} {objs':List AObj} {k:Nat} (g:Good F0 w0 w L objs) (g':Good (inFD F0 L k) w w' L' objs'):Good F0 w0 w' L' objs':=by
 refine ⟨g'.obj,g'.out,g'.inj,fun id b o n hb=>?_,fun b hb=>⟨?_,(g'.old b hb).2⟩,?_,g'.gl⟩
 ·have h1:=g'.own _ _ _ _ hb
  exact ⟨h1.1,fun hk=>h1.2.1 (.inl hk),h1.2.2⟩
 ·rcases (g'.old b hb).1 with h1 | h1
  ·exact (g.old b h1).1
  ·exact .inr fun hk=>h1 (.inl hk)
 ·exact ⟨g'.ext.os.trans g.ext.os,g'.ext.tape.trans g.ext.tape,g'.ext.output.trans g.ext.output,Nat.le_trans g.ext.size g'.ext.size,fun b hb=>(g'.ext.block b (.inl hb)).trans (g.ext.block b hb),g.ext.lt⟩
theorem mod_all (g:Good F0 w0 w L objs):Good (inFD F0 L objs.length) w w L objs:=by
 refine ⟨g.obj,g.out,g.inj,fun id b o n hbk=>?_,fun b hF=>⟨.inl hF,(g.old b hF).2⟩,Kept.refl fun b hK=>?_,g.gl⟩
 ·have h1:=g.own id b o n hbk
  refine ⟨h1.1,?_,h1.2.2⟩
  rintro (hk | hk | ⟨id',o',n',hk,hbk'⟩)
  ·exact h1.2.1 hk
  ·exact h1.1 hk
  ·rw [g.out id' hk] at hbk';cases hbk'
 ·rcases hK with hk | hk | ⟨id',o',n',hk,hbk'⟩
  ·exact Nat.lt_of_lt_of_le (g.ext.lt b hk) g.ext.size
  ·exact (g.old b hk).2
  ·exact (g.own _ _ _ _ hbk').2.2
theorem bodyM {fn:Func} {code:Code} {c:CCode} {rs:List CRes} {xs:List AV} {base base':List AObj} {r:AV} (hc:compC P code=some c) (hrs:fn.results.toList.mapM (resC P)=some rs) (hn:xs.length<=fn.ntmps) (hlen:base'.length=base.length)
 (hb':(base'.all fun o=>o.innO base.length)=true) (hr:r.inn base.length=true)
 (h:∀ F0 w0 G,(∀ m,base.length<=m->G.innO m=true)->CwpE P F0 w0 fn.ntmps c (retM rs r (base'++[G])) ⟨envOf 0 xs,base++[G]⟩)
 {vs:Array Value} (g:Good F0 w0 w L base) (hl:vs.size=xs.length) (hv:∀ i (h:i<xs.length) (h2:i<vs.size),VR w L base xs[i] vs[i]) :
 code.wpIn (Wf none) 3 P (bodyPostM Fence.wide 3 P fn (OutM F0 w0 L base r base')) { tmps:=vs++Array.replicate (fn.ntmps-vs.size) undef,defers:=[] } w:=by
 have gp:=good_probe (mod_all g) [] (fun p h=>by cases h)
 have hsim:Sim (inFD F0 L base.length) w ((⟨envOf 0 xs,base++[probeOf base L []]⟩:Est).toSt fn.ntmps) { tmps:=vs++Array.replicate (fn.ntmps-vs.size) undef,defers:=[] } w :=
  sim_mk (s:=⟨envOf 0 xs,base++[probeOf base L []]⟩) rfl gp (by simp [hl];omega) (enter_slots hl hn fun i h1 h2=>(hv i h1 h2).stay (later_app w L base _))
 refine wpIn_mono (h (inFD F0 L base.length) w (probeOf base L []) (fun m hm=>probe_inn (fun p h=>by cases h) m hm) (keys_env hn) _ _ (Mk.refl hsim.lt) none 0 code hc (.inl rfl) _ w hsim) ?_
 rintro e a' w' ⟨F1,w1,hm,st,⟨s,hq,hk,rfl⟩,hs⟩
 have fin:(∃ y,resAllE s rs=some y/\WkE 1 ⟨[(0,y)],s.objs⟩ ⟨[(0,r)],base'++[probeOf base L []]⟩)->LeavesInM Fence.wide 3 P fn a'.tmps (OutM F0 w0 L base r base') a'.defers .returning w':=by
  rintro ⟨y,hy,hwk⟩
  refine leavesM (F0:=inFD F0 L base.length) (w0:=w) (fun b hb=>(g.old b hb).2) hm hs fun W hsW=>?_
  obtain ⟨hd,L',g',hs1,ht⟩:=hsW
  obtain ⟨v,hv,hvr⟩:=results_ok (P:=P) hrs g' hs1 ht (by rw [resAllE_eq hk];exact hy)
  obtain ⟨L3,g3,hv3⟩:=wk_one hwk g' hvr
  obtain ⟨L4,g4,hd4,hv4⟩:=fin_probe (ds:=[]) (F0:=inFD F0 L base.length) g3 hlen hb' hv3 hr
  exact ⟨v,hv,v,L4,rfl,g.un g4,hd4,hv4⟩
 cases e with
 | normal=>exact fin hq
 | ret=>exact fin hq
 | _=>exact hq.elim
theorem fnC_inv {f:FuncId} {c:CCode} {n:Nat} {rs:List CRes} (hf:fnC P f=some (c,n,rs)):∃ fn code,P.funcs[f]? = some fn/\fn.body=some code/\Enters P f=true/\compC P code=some c/\fn.results.toList.mapM (resC P)=some rs/\fn.ntmps=n:=by
 unfold fnC at hf
 split at hf
 rotate_left
 ·cases hf
 rename_i fn hfn
 split at hf
 ·cases hf
 rename_i hname
 split at hf
 rotate_left
 ·cases hf
 rename_i code hbody
 simp only [Option.bind_eq_some_iff,Option.map_eq_some_iff,Prod.mk.injEq] at hf
 obtain ⟨c',hc,rs',hrs,rfl,rfl,rfl⟩:=hf
 exact ⟨fn,code,hfn,hbody,by unfold Enters;rw [hfn];simp only [hbody,Option.isSome_some,Bool.and_true];simpa using hname,hc,hrs,rfl⟩
theorem specM {f:FuncId} {c:CCode} {n:Nat} {rs:List CRes} (hf:fnC P f=some (c,n,rs)) {xs:List AV} {base base':List AObj} {r:AV} (hn:xs.length<=n) (hlen:base'.length=base.length) (hb':(base'.all fun o=>o.innO base.length)=true)
 (hr:r.inn base.length=true) (h:∀ F0 w0 G,(∀ m,base.length<=m->G.innO m=true)->CwpE P F0 w0 n c (retM rs r (base'++[G])) ⟨envOf 0 xs,base++[G]⟩):CtrM P f xs base r base':=by
 obtain ⟨fn,code,hfn,hbody,hent,hc,hrs,rfl⟩:=fnC_inv hf
 exact ⟨hent,hlen,fun F0 w0 w L vs hds g hl hv=>callsIn_wide.1 (callsIn_of_wp_marks (n:=3) hfn hbody trivial (bodyM hc hrs hn hlen hb' hr h g hl hv))⟩
theorem specN {f:FuncId} {c:CCode} {n:Nat} {rs:List CRes} (hf:fnC P f=some (c,n,rs)) {xs:List AV} {r:AV} {news:List AObj} (hn:xs.length<=n) (hp:(news.all AObj.plain)=true) (hi:(news.all fun o=>o.innO news.length)=true) (hr:r.inn news.length=true)
 (h:∀ F0 w0,CwpE P F0 w0 n c (retM rs r news) ⟨envOf 0 xs,[]⟩):CtrN P f xs r news:=by
 obtain ⟨fn,code,hfn,hbody,hent,hc,hrs,rfl⟩:=fnC_inv hf
 refine ⟨hent,hp,hi,hr,fun w F vs hgl hl ht=>?_⟩
 refine callsIn_wide.1 (callsIn_of_wp_marks (n:=3) hfn hbody trivial ?_)
 have g0:Good ⟨fun b=>F b/\b<w.heap.size,(· < w.heap.size),[]⟩ w w ⟨fun b=>F b/\b<w.heap.size,fun _=>none⟩ [] :=
  ⟨fun id o h=>by simp at h,fun _ _=>rfl,fun _ _ _ _ _ _ _ h=>by simp at h,fun _ _ _ _ h=>by simp at h,fun b hb=>⟨.inl hb,hb.2⟩,Kept.refl fun _ h=>h,hgl.stay fun b hb hl=>⟨rfl,hb,hl⟩⟩
 have hsim:Sim ⟨fun b=>F b/\b<w.heap.size,(· < w.heap.size),[]⟩ w ((⟨envOf 0 xs,[]⟩:Est).toSt fn.ntmps) { tmps:=vs++Array.replicate (fn.ntmps-vs.size) undef,defers:=[] } w :=
  sim_mk (s:=⟨envOf 0 xs,[]⟩) rfl g0 (by simp [hl];omega) (enter_slots hl hn fun i h1 h2=>.tree ((ht i h1 h2).mono fun b hb hbl=>⟨hb,hbl⟩))
 refine wpIn_mono (h ⟨fun b=>F b/\b<w.heap.size,(· < w.heap.size),[]⟩ w (keys_env hn) _ _ (Mk.refl hsim.lt) none 0 code hc (.inl rfl) _ w hsim) ?_
 rintro e a' w' ⟨F1,w1,hm,st,⟨s,hq,hk,rfl⟩,hs⟩
 have fin:(∃ y,resAllE s rs=some y/\WkE 1 ⟨[(0,y)],s.objs⟩ ⟨[(0,r)],news⟩)->LeavesInM Fence.wide 3 P fn a'.tmps (fun e w'=>∃ v L',e=Ending.returned v/\Good ⟨F,(· < w.heap.size),[]⟩ w w' L' news/\VR w' L' news r v) a'.defers .returning w':=by
  rintro ⟨y,hy,hwk⟩
  refine leavesM (F0:=⟨fun b=>F b/\b<w.heap.size,(· < w.heap.size),[]⟩) (fun b (hb:F b/\b<w.heap.size)=>hb.2) hm hs fun W hsW=>?_
  obtain ⟨hd,L',g',hs1,ht'⟩:=hsW
  obtain ⟨v,hv,hvr⟩:=results_ok (P:=P) hrs g' hs1 ht' (by rw [resAllE_eq hk];exact hy)
  obtain ⟨L3,g3,hv3⟩:=wk_one hwk g' hvr
  exact ⟨v,hv,v,L3,rfl,⟨g3.obj,g3.out,g3.inj,g3.own,fun b hb=>⟨(g3.old b hb).1.imp (fun h=>h.1) fun h=>h,(g3.old b hb).2⟩,g3.ext,g3.gl⟩,hv3⟩
 cases e with
 | normal=>exact fin hq
 | ret=>exact fin hq
 | _=>exact hq.elim
end Dak
namespace Dak
open Go Go.RowKit
variable [Globs]
variable {P : Program} {F0 : FD} {w0 w : World} {L : Lay} {objs : List AObj}
theorem Good.turn1 {W:World} {l:Nat} {o:Obj} (g:Good F0 w0 W L objs) (hF:¬ L.F l) (hO:∀ id b o n,L.blk id=some (b,o,n)->b ≠ l) (hK:¬ F0.K l):Good F0 w0 (W.putObj l o) L objs/\Later W L objs (W.putObj l o) L objs:=by
 have hsame:∀ b,b ≠ l->(W.putObj l o).heap[b]? = W.heap[b]?:=fun b hb=>World.putObj_heap_other hb
 have hsz:(W.putObj l o).heap.size=W.heap.size:=by simp
 have hl:Later W L objs (W.putObj l o) L objs:=⟨fun b hb _=>⟨hsame b fun e=>hF (e ▸ hb),hb⟩,fun _ _ h=>h,fun _ _ _ h=>.inr ⟨h,rfl⟩⟩
 refine ⟨⟨fun id o' ho=>?_,g.out,g.inj,fun id b o n hb=>?_,fun b hb=>?_,?_,g.gl.stay hl.wk⟩,hl⟩
 ·have:=g.obj id o' ho
  cases o' with
  | void=>exact this
  | dead=>exact this
  | probe k st li bk ps=>exact this.probe_stay hl rfl
  | arr gen size elem xs =>
   unfold OR at this ⊢
   cases hbk:L.blk id with
   | none=>rw [hbk] at this;exact this
   | some q =>
    obtain ⟨b,o',n⟩:=q
    rw [hbk] at this
    obtain ⟨cur,hc,hn,hr⟩:=this
    exact ⟨cur,hc.tr (hsame b (hO _ _ _ _ hbk)),hn,hr.stay hl⟩
 ·have:=g.own _ _ _ _ hb
  exact ⟨this.1,this.2.1,by rw [hsz];exact this.2.2⟩
 ·have:=g.old b hb
  exact ⟨this.1,by rw [hsz];exact this.2⟩
 ·exact ⟨g.ext.os,g.ext.tape,g.ext.output,by rw [hsz];exact g.ext.size,fun b hb=>(hsame b fun e=>hK (e ▸ hb)).trans (g.ext.block b hb),g.ext.lt⟩
end Dak
namespace Dak
open Go Go.RowKit
variable [Globs]
def AgreeR (σ : Nat->Nat) (base:List AObj) (env:List (Nat × AV)):List (Nat × AV)->Prop
 | []=>True
 | (k,v)::r=>lk env k=v.ren σ/\v.inR base=true/\AgreeR σ base env r
theorem agreeR_lk {σ : Nat->Nat} {base:List AObj} {env:List (Nat × AV)}:∀ {env':List (Nat × AV)},AgreeR σ base env env'->∀ t,lk env' t = .junk \/ (lk env t=(lk env' t).ren σ/\(lk env' t).inR base=true)
 | [],_,t=>.inl rfl
 | (k,v)::r,h,t=>by
  simp only [lk]
  split
  ·rename_i e;subst e;exact .inr ⟨h.1,h.2.1⟩
  ·exact agreeR_lk h.2.2 t
theorem ren_junk {σ : Nat->Nat} {x:AV} (h:x.ren σ = .junk):x = .junk:=by
 cases x <;> simp_all [AV.ren,AV.ren1]
theorem WkE.rename {n:Nat} {env env':List (Nat × AV)} {objs base:List AObj} (σ : Nat->Nat) (hR:Ren σ base objs) (hi:(base.all fun o=>o.inRO base)=true) (h:AgreeR σ base env env'):WkE n ⟨env,objs⟩ ⟨env',base⟩:=by
 intro hk
 refine ⟨fun t ht=>?_,fun F0 w0 a w hs=>?_⟩
 ·rcases agreeR_lk h t with e | ⟨e,_⟩
  ·exact e
  ·have:=hk t ht
   rw [show lk env t = .junk from this] at e
   exact ren_junk e.symm
 obtain ⟨hd,L,g,hsz,ht⟩:=sim_slots hk hs
 have g':=ren_in hR g hi
 refine sim_mk (s:=⟨env',base⟩) (L:=L.back σ base) hd ⟨g'.obj,g'.out,g'.inj,fun i b o m hb=>?_,g.old,g.ext,g.gl⟩ hsz fun t hlt=>?_
 ·have hb:(if isArr base i then L.blk (σ i) else none)=some (b,o,m):=hb
  split at hb
  ·exact g.own _ _ _ _ hb
  ·cases hb
 ·rcases agreeR_lk h t with e | ⟨e,e2⟩
  ·rw [e];exact .junk _
  ·have:=ht t hlt
   simp only at this
   rw [e] at this
   exact unren_vr hR this e2
end Dak
namespace Dak
open Go Go.RowKit
variable [Globs]
variable {P : Program} {F0 : FD} {w0 w : World} {L : Lay} {objs : List AObj}
set_option maxHeartbeats 2000000 in
theorem inv_nxt {o:Oper} {x:Operand} (h:comp1 P o=some (.nxt x)):o.op = .next x false:=by
 obtain ⟨dst,op,type,pos,after,guard⟩:=o
 cases op <;> simp only [comp1] at h <;> (repeat' split at h) <;> first | (simp [Option.map_eq_some_iff,Option.bind_eq_some_iff] at h;done) | simp_all []
set_option maxHeartbeats 2000000 in
theorem inv_ent {o:Oper} {x:Operand} (h:comp1 P o=some (.ent x)):o.op = .entry x:=by
 obtain ⟨dst,op,type,pos,after,guard⟩:=o
 cases op <;> simp only [comp1] at h <;> (repeat' split at h) <;> first | (simp [Option.map_eq_some_iff,Option.bind_eq_some_iff] at h;done) | simp_all []
set_option maxHeartbeats 2000000 in
theorem inv_rng {o:Oper} {c:Nat} {x:Operand} (h:comp1 P o=some (.rng c x)):∃ t kt et,o.op = .range t x/\P.underlying t=some (.map kt et):=by
 obtain ⟨dst,op,type,pos,after,guard⟩:=o
 cases op <;> simp only [comp1] at h <;> (repeat' split at h) <;> first | (simp [Option.map_eq_some_iff,Option.bind_eq_some_iff] at h;done) | (simp_all [Option.map_eq_some_iff];done) |
  (obtain ⟨c',_,h⟩:=Option.map_eq_some_iff.1 h
   simp only [COp.rng.injEq] at h
   exact ⟨_,_,_,by rw [h.2],by assumption⟩)
set_option maxHeartbeats 2000000 in
theorem inv_mov {o:Oper} {x:Operand} (h:comp1 P o=some (.mov x)):o.op = .move x \/ o.op = .assign x:=by
 obtain ⟨dst,op,type,pos,after,guard⟩:=o
 cases op <;> simp only [comp1] at h <;> (repeat' split at h) <;> first | (simp [Option.map_eq_some_iff,Option.bind_eq_some_iff] at h;done) | simp_all []
set_option maxHeartbeats 2000000 in
theorem inv_ext {o:Oper} {x:Operand} {i:Nat} (h:comp1 P o=some (.extract x i)):o.op = .extract x i:=by
 obtain ⟨dst,op,type,pos,after,guard⟩:=o
 cases op <;> simp only [comp1] at h <;> (repeat' split at h) <;> first | (simp [Option.map_eq_some_iff,Option.bind_eq_some_iff] at h;done) | simp_all []
theorem codeSeq {code:Code} {a b:CCode} (hc:compC P code=some (.seq a b)):∃ x y,code = .seq x y/\compC P x=some a/\compC P y=some b:=by
 cases code with
 | seq x y =>
  simp only [compC,Option.bind_eq_some_iff,Option.map_eq_some_iff,CCode.seq.injEq] at hc
  obtain ⟨a',ha,b',hb,rfl,rfl⟩:=hc
  exact ⟨x,y,rfl,ha,hb⟩
 | region id ops d=>rcases compC_reg hc with ⟨_,_,h⟩ | ⟨_,_,h⟩ | ⟨_,_,_,h⟩ <;> cases h
 | _=>simp [compC,Option.bind_eq_some_iff] at hc
theorem codeBlock {code:Code} {id:Nat} {a:CCode} (hc:compC P code=some (.block id a)):∃ x,code = .block id x/\compC P x=some a:=by
 cases code with
 | block id' x =>
  simp only [compC,Option.map_eq_some_iff,CCode.block.injEq] at hc
  obtain ⟨a',ha,rfl,rfl⟩:=hc
  exact ⟨x,rfl,ha⟩
 | region id ops d=>rcases compC_reg hc with ⟨_,_,h⟩ | ⟨_,_,h⟩ | ⟨_,_,_,h⟩ <;> cases h
 | _=>simp [compC,Option.bind_eq_some_iff] at hc
theorem codeLoop {code:Code} {a:CCode} (hc:compC P code=some (.loop a)):∃ x,code = .loop x/\compC P x=some a:=by
 cases code with
 | loop x =>
  simp only [compC,Option.map_eq_some_iff,CCode.loop.injEq] at hc
  obtain ⟨a',ha,rfl⟩:=hc
  exact ⟨x,rfl,ha⟩
 | region id ops d=>rcases compC_reg hc with ⟨_,_,h⟩ | ⟨_,_,h⟩ | ⟨_,_,_,h⟩ <;> cases h
 | _=>simp [compC,Option.bind_eq_some_iff] at hc
theorem codeCond {code:Code} {c:Operand} {a b:CCode} (hc:compC P code=some (.cond c a b)):∃ x y,code = .cond c x y/\compC P x=some a/\compC P y=some b:=by
 cases code with
 | cond c' x y =>
  simp only [compC,Option.bind_eq_some_iff,Option.map_eq_some_iff,CCode.cond.injEq] at hc
  obtain ⟨a',ha,b',hb,rfl,rfl,rfl⟩:=hc
  exact ⟨x,y,rfl,ha,hb⟩
 | region id ops d=>rcases compC_reg hc with ⟨_,_,h⟩ | ⟨_,_,h⟩ | ⟨_,_,_,h⟩ <;> cases h
 | _=>simp [compC,Option.bind_eq_some_iff] at hc
theorem codeExit {code:Code} {id:Nat} (hc:compC P code=some (.exit id)):code = .exit id:=by
 cases code with
 | exit id'=>simpa [compC] using hc
 | region id ops d=>rcases compC_reg hc with ⟨_,_,h⟩ | ⟨_,_,h⟩ | ⟨_,_,_,h⟩ <;> cases h
 | _=>simp [compC,Option.bind_eq_some_iff] at hc
theorem codeSkip {code:Code} (hc:compC P code=some .skip) {F:Fence} {n:Nat} {Q:Exit->Act->World->Prop} {a:Act} {w:World} (h:Q .normal a w):code.wpIn F n P Q a w:=by
 cases code with
 | skip=>exact wpIn_skip h
 | label l=>exact wpIn_label h
 | region id ops d=>rcases compC_reg hc with ⟨_,_,h⟩ | ⟨_,_,h⟩ | ⟨_,_,_,h⟩ <;> cases h
 | _=>simp [compC,Option.bind_eq_some_iff] at hc
def OpIs (P:Program) (ops:Array Oper) (i:Nat) (d:Nat) (c:COp):Prop:=∃ o,ops[i]? = some o/\o.guard=none/\o.dst=some d/\comp1 P o=some c
theorem codeRegion {code:Code} {cs:List COper} (hc:compC P code=some (.region cs)):∃ id ops,code = .region id ops false/\ops.toList.mapM (compO P ops)=some cs:=by
 cases code with
 | region id ops d =>
  cases d with
  | false =>
   simp only [compC,Option.map_eq_some_iff,CCode.region.injEq] at hc
   obtain ⟨cs',hcs,rfl⟩:=hc
   exact ⟨id,ops,rfl,hcs⟩
  | true=>rcases compC_reg hc with ⟨h,_⟩ | ⟨_,_,h⟩ | ⟨_,_,_,h⟩ <;> cases h
 | _=>simp [compC,Option.bind_eq_some_iff] at hc
theorem opIs {ops:Array Oper} {cs:List COper} (h:ops.toList.mapM (compO P ops)=some cs) {i d:Nat} {c:COp} (hi:cs[i]? = some ⟨some d,none,c⟩) (hb:c ≠ .bad):OpIs P ops i d c:=by
 obtain ⟨hl,hget⟩:=mapM_get _ _ _ h
 have hil:i<ops.toList.length:=by
  have:=(List.getElem?_eq_some_iff.1 hi).1
  omega
 obtain ⟨c',hc',hci⟩:=hget i ops.toList[i] (List.getElem?_eq_getElem hil)
 rw [hi] at hci
 obtain rfl:=Option.some.inj hci
 have hoi:ops[i]? = some ops.toList[i]:=by rw [<-Array.getElem?_toList];exact List.getElem?_eq_getElem hil
 generalize ops.toList[i]=o at hc' hoi
 simp only [compO,Option.bind_eq_some_iff] at hc'
 obtain ⟨c1,hc1,hc2⟩:=hc'
 cases hg:o.guard with
 | none =>
  rw [hg] at hc2
  simp only [Option.some.injEq,COper.mk.injEq] at hc2
  obtain ⟨h1,_,rfl⟩:=hc2
  exact ⟨o,hoi,hg,h1,(compB_cases hc1).resolve_right hb⟩
 | some q =>
  obtain ⟨j,want⟩:=q
  rw [hg] at hc2
  simp only [Option.map_eq_some_iff,COper.mk.injEq] at hc2
  obtain ⟨_,_,_,h,_⟩:=hc2
  cases h
theorem opsSize {ops:Array Oper} {cs:List COper} (h:ops.toList.mapM (compO P ops)=some cs):ops.size=cs.length:=by
 obtain ⟨hl,_⟩:=mapM_get _ _ _ h
 simpa using hl
def puts (a:Act) (d:Nat) (v:Value):Act:={ a with tmps:=a.tmps.setIfInBounds d v }
theorem wpOne {ops:Array Oper} {i d:Nat} {l:List Nat} {a:Act} {w w':World} {v:Value} {Q:Exit->Act->World->Prop} {o:Oper} (ho:ops[i]? = some o) (hg:o.guard=none) (hd:o.dst=some d)
 (hr:(execOp a.eval o).run P w = .ok (.value v) w') (h:wpOps P ops Q l (puts a d v) w'):wpOps P ops Q (i::l) a w:=by
 simp only [wpOps,ho]
 rw [if_pos (by simp [Region.wanted,hg])]
 refine .inl ?_
 unfold Oper.wp
 rw [hr,Oper.upon_value,hd]
 exact h
theorem wpMov {ops:Array Oper} {i d:Nat} {x:Operand} {l:List Nat} {a:Act} {w:World} {v:Value} {Q:Exit->Act->World->Prop} (ho:OpIs P ops i d (.mov x)) (hv:a.eval x=v) (h:wpOps P ops Q l (puts a d v) w):wpOps P ops Q (i::l) a w:=by
 obtain ⟨o,h1,h2,h3,h4⟩:=ho
 refine wpOne h1 h2 h3 ?_ h
 rw [<-hv]
 rcases inv_mov h4 with e | e <;> simp [execOp,e]
theorem wpExt {ops:Array Oper} {i d j:Nat} {x:Operand} {l:List Nat} {a:Act} {w:World} {vs:Array Value} {v:Value} {Q:Exit->Act->World->Prop} (ho:OpIs P ops i d (.extract x j)) (hv:a.eval x = .tuple vs) (hj:vs[j]? = some v) (h:wpOps P ops Q l (puts a d v) w):wpOps P ops Q (i::l) a w:=by
 obtain ⟨o,h1,h2,h3,h4⟩:=ho
 have e:=inv_ext h4
 refine wpOne h1 h2 h3 ?_ h
 obtain ⟨hl,rfl⟩:=Array.getElem?_eq_some_iff.1 hj
 simp [execOp,e,hv,Instr.extract,hl]
theorem wpReg {r:Option Nat} {n:Nat} {ops:Array Oper} {cs:List COper} {id:Nat} {a:Act} {w:World} {Q:Exit->Act->World->Prop} {K:Act->World->Prop} (h:ops.toList.mapM (compO P ops)=some cs) (hw:wpOps P ops (fun e a w=>e = .normal/\K a w) (List.range cs.length) a w) (hK:∀ a w,K a w->Q .normal a w) :
 (Code.region id ops false).wpIn (Wf r) n P Q a w:=by
 rw [<-opsSize h] at hw
 refine wpIn_mono (wpIn_region (ops_in (calm_of h) (by rintro ⟨_,_,h,_⟩;cases h) _ _ _ hw)) ?_
 rintro e a w ⟨rfl,hk⟩
 exact hK a w hk
def mapLoop (body:CCode):CCode :=
 .seq (.region [⟨some 23,none,.mov (.tmp 1)⟩,⟨some 24,none,.rng 0 (.tmp 23)⟩])
  (.block 2 (.loop (.seq (.region [⟨some 25,none,.nxt (.tmp 24)⟩,⟨some 26,none,.extract (.tmp 25) 0⟩])
   (.seq (.cond (.tmp 26) .skip (.exit 2))
    (.block 3 (.seq (.region [⟨some 27,none,.ent (.tmp 24)⟩,⟨some 28,none,.extract (.tmp 27) 0⟩,⟨some 29,none,.extract (.tmp 27) 1⟩,⟨some 12,none,.mov (.tmp 28)⟩,⟨some 13,none,.mov (.tmp 29)⟩]) body))))))
def Flat (e:List (Nat × AV)):Prop:=∀ t,t<55->(lk e t).isT=true \/ lk e t = .junk
theorem puts_size {a:Act} {d:Nat} {v:Value}:(puts a d v).tmps.size=a.tmps.size:=by simp [puts]
theorem puts_get {a:Act} {d t:Nat} {v:Value}:(puts a d v).tmps.getD t undef=if d=t/\t<a.tmps.size then v else a.tmps.getD t undef:=by
 simp only [puts,Array.getD_eq_getD_getElem?,Array.getElem?_setIfInBounds]
 by_cases h:d=t
 ·subst h
  by_cases h2:d<a.tmps.size <;> simp [h2]
 ·simp [h]
theorem range_get' {α : Type}:∀ (l pre:List α),(List.range' pre.length l.length).filterMap (fun i=>(pre++l)[i]?)=l
 | [],pre=>by simp
 | a::l,pre=>by
  rw [List.length_cons,List.range'_succ,List.filterMap_cons]
  have h1:(pre++a::l)[pre.length]? = some a:=by simp
  rw [h1]
  have:=range_get' l (pre++[a])
  simp only [List.length_append,List.length_cons,List.length_nil,List.append_assoc,List.cons_append,List.nil_append] at this
  rw [this]
theorem range_get {α : Type} (l:List α):(List.range l.length).filterMap (fun i=>l[i]?)=l:=by
 have:=range_get' l []
 simpa [List.range_eq_range'] using this
theorem nodup_le:∀ (n:Nat) (is:List Nat),is.Nodup->(∀ i ∈ is,i<n)->is.length<=n
 | 0,is,_,h=>by
  cases is with
  | nil=>simp
  | cons a l=>have:=h a (by simp);omega
 | n+1,is,hn,h=>by
  by_cases hm:n ∈ is
  ·have h1:=nodup_le n (is.erase n) (hn.erase n) fun i hi=>by
    have h2:=(List.Nodup.mem_erase_iff hn).1 hi
    have:=h i h2.2
    omega
   rw [List.length_erase_of_mem hm] at h1
   omega
  ·have:=nodup_le n is hn fun i hi=>by
    have h1:=h i hi
    have:i ≠ n:=fun e=>hm (e ▸ hi)
    omega
   omega
theorem nodup_inj {l:List Nat} (h:l.Nodup) {i j:Nat} (hi:i<l.length) (hj:j<l.length) (e:l[i]=l[j]):i=j:=by
 have hp:=List.pairwise_iff_getElem.1 h
 rcases Nat.lt_trichotomy i j with h1 | h1 | h1
 ·exact absurd e (hp i j hi hj h1)
 ·exact h1
 ·exact absurd e.symm (hp j i hj hi h1)
theorem ev_same {a:Act} {d:Nat} {v:Value} (h:d<a.tmps.size):(puts a d v).eval (.tmp d)=v:=by
 show (puts a d v).tmps.getD d undef=v
 rw [puts_get,if_pos ⟨rfl,h⟩]
theorem ev_ne {a:Act} {d t:Nat} {v:Value} (h:d ≠ t):(puts a d v).eval (.tmp t)=a.eval (.tmp t):=by
 show (puts a d v).tmps.getD t undef=a.tmps.getD t undef
 rw [puts_get,if_neg fun e=>h e.1]
theorem slots_put {W:World} {L:Lay} {objs:List AObj} {e:List (Nat × AV)} {a:Act} {d:Nat} {x:AV} {v:Value} (hz:a.tmps.size=55) (h:∀ t,t<55->VR W L objs (lk e t) (a.tmps.getD t undef)) (hx:VR W L objs x v) :
 ∀ t,t<55->VR W L objs (lk ((d,x)::e) t) ((puts a d v).tmps.getD t undef):=by
 intro t ht
 rw [puts_get]
 simp only [lk]
 by_cases hd:d=t
 ·subst hd
  simp only [hz,ht,and_self,if_true];exact hx
 ·simp only [hd,false_and,if_false]
  exact h t ht
theorem keys_cons {e:List (Nat × AV)} {d:Nat} {x:AV} (h:KeysOk 55 e) (hd:d<55):KeysOk 55 ((d,x)::e):=by
 intro t ht
 simp only [lk]
 rw [if_neg (by omega)]
 exact h t ht
theorem flat_cons {e:List (Nat × AV)} {d:Nat} {x:AV} (h:Flat e) (hf:x.isT=true \/ x = .junk):Flat ((d,x)::e):=by
 intro t ht
 simp only [lk]
 split
 ·exact hf
 ·exact h t ht
structure MS (P:Program) (objs:List AObj) (id:Nat) (es:Array MapEntry) (clock m l:Nat) (F1:FD) (w1:World) (is:List Nat) (env:List (Nat × AV)) (a:Act) (w:World) (F2:FD) (w2:World) (L:Lay):Prop where
 mks:Mk F1 w1 F2 w2
 good:Good F2 w2 w L objs
 ds:a.defers=F2.ds
 size:a.tmps.size=55
 keys:KeysOk 55 env
 slots:∀ t,t<55->VR w L objs (lk env t) (a.tmps.getD t undef)
 flat:Flat env
 lF:¬ L.F l
 lO:∀ id b o n,L.blk id=some (b,o,n)->b ≠ l
 lK:¬ F2.K l
 mO:L.blk id=some (m,0,1)
 hm:w.heap[m]? = some (.map es clock)
 hl:∃ seen c0,w.heap[l]? = some (.mapIter (some m) clock seen c0)/\clock<=c0/\seen.toList=is.filterMap fun i=>(es[i]?).map (·.born)
 nodup:is.Nodup
 lt:∀ i ∈ is,i<es.size
section
variable {id : Nat} {es : Array MapEntry} {clock m l : Nat} {F1 : FD} {w1 : World} {is : List Nat} {env env' : List (Nat × AV)} {a a' : Act} {w w' : World} {F2 : FD} {w2 : World} {L : Lay}
theorem MS.put (h:MS P objs id es clock m l F1 w1 is env a w F2 w2 L) {d:Nat} {x:AV} {v:Value} (hd:d<55) (hx:VR w L objs x v) (hf:x.isT=true \/ x = .junk):MS P objs id es clock m l F1 w1 is ((d,x)::env) (puts a d v) w F2 w2 L :=
 { h with ds:=h.ds,size:=puts_size.trans h.size,keys:=keys_cons h.keys hd,slots:=slots_put h.size h.slots hx,flat:=flat_cons h.flat hf }
theorem MS.turn (h:MS P objs id es clock m l F1 w1 is env a w F2 w2 L) {w':World} (hw:w'=w \/ w'=w.drew) {e:MapEntry} {i:Nat} (hi:es[i]? = some e) {seen:Array Nat} (hseen:seen.toList=is.filterMap fun i=>(es[i]?).map (·.born)) (hni:i ∉ is) :
 MS P objs id es clock m l F1 w1 (is++[i]) env a (Go.ChangeMaps.setBlock w' l (.mapIter (some m) clock (seen.push e.born) clock)) F2 w2 L:=by
 have hx:Ext w w':=by
  rcases hw with rfl | rfl
  ·exact Ext.rfl' _
  ·exact Ext.drewN w 1
 have hsz:w'.heap=w.heap:=by rcases hw with rfl | rfl <;> rfl
 have g':=h.good.ext' hx
 have hl':=Later.ext L objs hx
 obtain ⟨g2,l2⟩:=g'.turn1 (o:=.mapIter (some m) clock (seen.push e.born) clock) h.lF h.lO h.lK
 have e0:Go.ChangeMaps.setBlock w' l (.mapIter (some m) clock (seen.push e.born) clock)=w'.putObj l (.mapIter (some m) clock (seen.push e.born) clock):=rfl
 rw [e0]
 have hml:m ≠ l:=h.lO _ _ _ _ h.mO
 obtain ⟨s0,c0,hl0,_,_⟩:=h.hl
 have hlt:l<w'.heap.size:=by rw [hsz];exact (Array.getElem?_eq_some_iff.1 hl0).1
 refine { h with good:=g2,slots:=fun t ht=>((h.slots t ht).stay hl').stay l2,hm:=(World.putObj_heap_other hml).trans (by rw [hsz];exact h.hm),hl:=⟨_,_,World.putObj_heap_same hlt,Nat.le_refl _,?_⟩,nodup:=?_,lt:=?_ }
 ·simp [hseen,hi,List.filterMap_append]
 ·refine List.nodup_append.2 ⟨h.nodup,by simp,fun x hx y hy=>?_⟩
  obtain rfl:=List.mem_singleton.1 hy
  exact fun e=>hni (e ▸ hx)
 ·intro j hj
  rcases List.mem_append.1 hj with hj | hj
  ·exact h.lt j hj
  ·obtain rfl:=List.mem_singleton.1 hj
   exact (Array.getElem?_eq_some_iff.1 hi).1
theorem MS.sim (h:MS P objs id es clock m l F1 w1 is env a w F2 w2 L):Sim ⟨L.F,fun b=>b<w.heap.size,F2.ds⟩ w ((⟨env,[]⟩:Est).toSt 55) a w:=by
 refine sim_mk (F0:=⟨L.F,fun b=>b<w.heap.size,F2.ds⟩) (w0:=w) (w:=w) (s:=⟨env,[]⟩) (L:=⟨L.F,fun _=>none⟩) h.ds ⟨(fun _ _ ho=>by simp at ho),(fun _ _=>rfl),(fun _ _ _ _ _ _ _ hb=>by cases hb),(fun _ _ _ _ hb=>by cases hb),fun b hb=>⟨.inl hb,(h.good.old b hb).2⟩,Kept.refl fun _ hb=>hb,h.good.gl⟩ h.size fun t ht=>?_
 rcases h.flat t ht with hf | hf
 ·exact VR.tree (L:=⟨L.F,fun _=>none⟩) (show TR w L.F _ _ from isT_ok (h.slots t ht) hf)
 ·show VR w _ [] (lk env t) _
  rw [hf];exact .junk _
theorem MS.back (h:MS P objs id es clock m l F1 w1 is env a w F2 w2 L) {F3:FD} {w3:World} (hm3:Mk ⟨L.F,fun b=>b<w.heap.size,F2.ds⟩ w F3 w3) (hk:KeysOk 55 env') (hs:Sim F3 w3 ((⟨env',[]⟩:Est).toSt 55) a' w') (hf:Flat env') :
 ∃ F2' w2' L',MS P objs id es clock m l F1 w1 is env' a' w' F2' w2' L':=by
 obtain ⟨hd,L3,g3,hsz,ht⟩:=sim_slots hk hs
 have gB:=g3.back hm3
 have hx:Ext w w':=gB.ext.ext
 obtain ⟨hF3,hkept,Ds,hds,hnd,hK3,hD⟩:=hm3
 have hF3':∀ b,F3.F b ↔ L.F b:=fun b=>by rw [hF3]
 have hold:∀ b,L3.F b->L.F b \/ w.heap.size<=b:=fun b hb=>by
  rcases (gB.old b hb).1 with h1 | h1
  ·exact .inl h1
  ·exact .inr (Nat.le_of_not_lt h1)
 have hk2:∀ b,F2.K b->b<w.heap.size:=fun b hb=>Nat.lt_of_lt_of_le (h.good.ext.lt b hb) h.good.ext.size
 have hDs:∀ b,b ∈ Ds->w.heap.size<=b:=fun b hb=>(hD b hb).2.2
 have hlat:Later w L objs w' ⟨fun b=>L.F b \/ L3.F b,L.blk⟩ objs:=⟨fun b hF hb=>⟨hx.block b hb,.inl hF⟩,fun _ _ h=>h,fun _ _ _ h=>.inr ⟨h,rfl⟩⟩
 have hlF:l<w.heap.size:=by obtain ⟨_,_,e,_⟩:=h.hl;exact (Array.getElem?_eq_some_iff.1 e).1
 have hblk:∀ id b o n,L.blk id=some (b,o,n)->¬ L.F b/\¬ F2.K b/\b<w.heap.size:=h.good.own
 refine ⟨⟨F2.F,fun b=>F2.K b \/ b ∈ Ds,F3.ds⟩,w3,⟨fun b=>L.F b \/ L3.F b,L.blk⟩,?_⟩
 refine { mks:=h.mks.trans ⟨rfl,⟨hkept.os.trans h.good.ext.os,hkept.tape.trans h.good.ext.tape,hkept.output.trans h.good.ext.output,Nat.le_trans h.good.ext.size hkept.size,fun b hb=>(hkept.block b (hk2 b hb)).trans (h.good.ext.block b hb),h.good.ext.lt⟩,Ds,hds,hnd,fun b=>Iff.rfl,fun D hDm=>⟨(hD D hDm).1,(fun hb=>by
  have:=hk2 D hb
  have:=hDs D hDm
  omega),Nat.le_trans h.good.ext.size (hDs D hDm)⟩⟩,good:=?_,ds:=hd,size:=hsz,keys:=hk,slots:=fun t ht'=>?_,flat:=hf,lF:=?_,lO:=h.lO,lK:=?_,mO:=h.mO,hm:=?_,hl:=?_,nodup:=h.nodup,lt:=h.lt }
 ·refine ⟨fun i o ho=>?_,h.good.out,h.good.inj,fun i b o n hb=>?_,fun b hb=>?_,?_,h.good.gl.stay hlat.wk⟩
  ·have:=h.good.obj i o ho
   cases o with
   | void=>exact this
   | dead=>exact this
   | probe k st li bk ps=>exact this.probe_stay hlat rfl
   | arr gen size elem xs =>
    unfold OR at this ⊢
    show match L.blk i with | none=>xs=[] | some (b,o,n)=>_
    cases hbk:L.blk i with
    | none=>rw [hbk] at this;exact this
    | some q =>
     obtain ⟨b,o',n⟩:=q
     rw [hbk] at this
     obtain ⟨cur,hc,hn,hr⟩:=this
     exact ⟨cur,hc.tr (hx.block b (hblk _ _ _ _ hbk).2.2),hn,hr.stay hlat⟩
  ·obtain ⟨x1,x2,x3⟩:=hblk i b o n hb
   refine ⟨fun hh=>hh.elim x1 fun h3=>?_,fun hh=>hh.elim x2 fun h3=>?_,Nat.lt_of_lt_of_le x3 hx.size⟩
   ·rcases hold b h3 with h4 | h4
    ·exact x1 h4
    ·omega
   ·have:=hDs b h3;omega
  ·have hb2:b<w'.heap.size:=by
    rcases hb with hb | hb
    ·exact Nat.lt_of_lt_of_le (h.good.old b hb).2 hx.size
    ·exact (g3.old b hb).2
   refine ⟨?_,hb2⟩
   have key:L.F b->F2.F b \/ ¬ (F2.K b \/ b ∈ Ds):=fun hb=>by
    rcases (h.good.old b hb).1 with h1 | h1
    ·exact .inl h1
    ·refine .inr fun hh=>hh.elim h1 fun h3=>?_
     have:=hDs b h3
     have:=(h.good.old b hb).2
     omega
   rcases hb with hb | hb
   ·exact key hb
   ·rcases (g3.old b hb).1 with h1 | h1
    ·exact key ((hF3' b).1 h1)
    ·refine .inr fun hh=>h1 ((hK3 b).2 ?_)
     exact hh.imp (hk2 b) fun h=>h
  ·refine ⟨g3.ext.os,g3.ext.tape,g3.ext.output,g3.ext.size,fun b hb=>g3.ext.block b ((hK3 b).2 (hb.imp (hk2 b) fun h=>h)),fun b hb=>g3.ext.lt b ((hK3 b).2 (hb.imp (hk2 b) fun h=>h))⟩
 ·rcases hf t ht' with h1 | h1
  ·exact .tree ((isT_ok (ht t ht') h1).mono fun b hb _=>.inr hb)
  ·show VR w' _ objs (lk env' t) _
   rw [h1];exact .junk _
 ·rintro (h1 | h1)
  ·exact h.lF h1
  ·rcases hold l h1 with h2 | h2
   ·exact h.lF h2
   ·omega
 ·rintro (h1 | h1)
  ·exact h.lK h1
  ·have:=hDs l h1;omega
 ·exact (hx.block m (Array.getElem?_eq_some_iff.1 h.hm).1).trans h.hm
 ·obtain ⟨seen,c0,e1,e2,e3⟩:=h.hl
  exact ⟨seen,c0,(hx.block l hlF).trans e1,e2,e3⟩
set_option maxHeartbeats 1000000 in
theorem CwpE.rangeM {body:CCode} {Q:Exit->Est->Prop} {env:List (Nat × AV)} {id g:Nat} {ks:List (MK × Value)} (h1:lk env 1 = .mref id g) (ho:objs[id]? = some (.arr g 1 (mapT+0) [.val (mapV ks)])) (hb:body.noRF=true)
 (I:Value->Value->List (MK × Value)->List (Nat × AV)->Prop) (hI:∀ v1 v2 pre e,I v1 v2 pre e->Flat e) (h0:∀ v1 v2,I v1 v2 [] ((24,.val v2)::(23,.val v1)::(1,.val v1)::env))
 (round:∀ FR WR v1 v2 pre p e,I v1 v2 pre e->p ∈ ks->pre.length<ks.length->CwpE P FR WR 55 body (fun x s=>x = .normal/\∃ e',WkE 55 s ⟨e',[]⟩/\I v1 v2 (pre++[p]) e') ⟨(13,.val p.2)::(12,.val (p.1.v 0))::(29,.junk)::(28,.junk)::(27,.junk)::(26,.junk)::(25,.junk)::e,[]⟩)
 (hpin:∀ v1 v2 pre e,I v1 v2 pre e->lk e 1 = .val v1/\lk e 24 = .val v2)
 (done:∀ v1 v2 pre e,I v1 v2 pre e->pre.Perm ks->Q .normal ⟨(1,.mref id g)::(26,.junk)::(25,.junk)::e,objs⟩) :
 CwpE P F0 w0 55 (mapLoop body) Q ⟨env,objs⟩:=by
 intro hk F1 w1 hm1 r rn code hc hro a w hs
 obtain ⟨hd,L,g0,hsz,ht⟩:=sim_slots hk hs
 obtain ⟨cA,cB,rfl,hcA,hcB⟩:=codeSeq hc
 obtain ⟨idA,opsA,rfl,hA⟩:=codeRegion hcA
 obtain ⟨cL,rfl,hcL⟩:=codeBlock hcB
 obtain ⟨cR,rfl,hcR⟩:=codeLoop hcL
 obtain ⟨cN,cC,rfl,hcN,hcC⟩:=codeSeq hcR
 obtain ⟨idN,opsN,rfl,hN⟩:=codeRegion hcN
 obtain ⟨cD,cE,rfl,hcD,hcE⟩:=codeSeq hcC
 obtain ⟨cS,cX,rfl,hcS,hcX⟩:=codeCond hcD
 obtain rfl:=codeExit hcX
 obtain ⟨cF,rfl,hcF⟩:=codeBlock hcE
 obtain ⟨cG,cBody,rfl,hcG,hcBody⟩:=codeSeq hcF
 obtain ⟨idG,opsG,rfl,hG⟩:=codeRegion hcG
 have A0:=opIs hA (i:=0) rfl (by simp)
 have A1:=opIs hA (i:=1) rfl (by simp)
 have N0:=opIs hN (i:=0) rfl (by simp)
 have N1:=opIs hN (i:=1) rfl (by simp)
 have G0:=opIs hG (i:=0) rfl (by simp)
 have G1:=opIs hG (i:=1) rfl (by simp)
 have G2:=opIs hG (i:=2) rfl (by simp)
 have G3:=opIs hG (i:=3) rfl (by simp)
 have G4:=opIs hG (i:=4) rfl (by simp)
 obtain ⟨m,o,n,hbk,hv1⟩:=(h1 ▸ ht 1 (by omega):VR w L objs (.mref id g) (a.tmps.getD 1 undef)).mref_inv (s:=1) ⟨_,_,ho⟩
 have hor:=g0.obj _ _ ho
 unfold OR at hor
 rw [hbk] at hor
 obtain ⟨cur,hcur,hn,hr1,hr2⟩:=hor
 obtain ⟨ks',hmi,rfl⟩:=hcur.map (Nat.not_lt.2 (Nat.le_add_right _ _))
 obtain ⟨rfl,rfl⟩:o=0/\n=1:=by simp at hr1 hn;omega
 obtain rfl:ks'=ks:=by
  obtain ⟨u,hu,_,hvu⟩:=(hr2 0 (by simp)).2 0 (by simp [AV.cells])
  have e1:=hvu.val_inv
  simp at hu
  rw [e1] at hu
  rw [<-unV_mapV ks',hu];exact unV_mapV _
 rw [Nat.add_sub_cancel_left] at hmi
 obtain ⟨es,clock,hhm,hes,hok,hborn,hnd⟩:=hmi
 have hlen:es.size=ks'.length:=by have:=congrArg List.length hes;simpa using this
 have hent:∀ (i:Nat) (e:MapEntry),es[i]? = some e->∃ p,ks'[i]? = some p/\e.key=p.1.v 0/\e.val=p.2:=fun i e he=>by
  have h2:(es.toList.map (fun e=>(e.key,e.val)))[i]? = some (e.key,e.val):=by simp [he]
  rw [hes,List.getElem?_map,Option.map_eq_some_iff] at h2
  obtain ⟨p,hp,hpe⟩:=h2
  simp only [Prod.mk.injEq] at hpe
  exact ⟨p,hp,hpe.1.symm,hpe.2.symm⟩
 obtain ⟨l,hl⟩:∃ l,w.heap.size=l:=⟨_,rfl⟩
 refine wpIn_seq (wpReg hA (K:=fun a' w'=>a'=puts (puts a 23 (.map (some m))) 24 (.pointer (some ⟨l,0,none⟩))/\w'=w.alloc (.mapIter (some m) clock #[] clock)) ?_ ?_)
 ·refine wpMov A0 hv1 ?_
  obtain ⟨o,o1,o2,o3,o4⟩:=A1
  obtain ⟨t,kt,et,e,hu⟩:=inv_rng o4
  refine wpOne o1 o2 o3 (v:=.pointer (some ⟨l,0,none⟩)) (w':=w.alloc (.mapIter (some m) clock #[] clock)) ?_ ⟨rfl,rfl,rfl⟩
  have hev:(puts a 23 (.map (some m))).eval (.tmp 23) = .map (some m):=by
   show (puts a 23 (.map (some m))).tmps.getD 23 undef=_
   rw [puts_get];simp [hsz]
  have:=run_range_map (P:=P) w t kt et m es clock hu hhm
  simp [execOp,e,hev,this,hl]
 rintro _ _ ⟨rfl,rfl⟩
 have hx:=Ext.alloc w (.mapIter (some m) clock #[] clock)
 have hlF:¬ L.F l:=fun h=>by have:=(g0.old l h).2;omega
 have ms0:MS P objs id es clock m l F1 w1 [] ((24,.val (.pointer (some ⟨l,0,none⟩)))::(23,.val (.map (some m)))::(1,.val (.map (some m)))::env) (puts (puts a 23 (.map (some m))) 24 (.pointer (some ⟨l,0,none⟩))) (w.alloc (.mapIter (some m) clock #[] clock)) F1 w1 L:=by
  refine { mks:=Mk.refl g0.ext.lt,good:=g0.ext' hx,ds:=hd,size:=by rw [puts_size,puts_size];exact hsz,keys:=keys_cons (keys_cons (keys_cons hk (by omega)) (by omega)) (by omega),slots:=?_,flat:=hI _ _ _ _ (h0 _ _),lF:=hlF,lO:=fun i b o n hb=>?_,lK:=?_,mO:=hbk,hm:=?_,hl:=⟨#[],clock,?_,Nat.le_refl _,rfl⟩,nodup:=List.nodup_nil,lt:=fun i hi=>by cases hi }
  ·have hs1:∀ t,t<55->VR (w.alloc (.mapIter (some m) clock #[] clock)) L objs (lk ((1,.val (.map (some m)))::env) t) (a.tmps.getD t undef):=fun t h=>by
    simp only [lk]
    split
    ·rename_i e;subst e;rw [hv1];exact .tree (.val _)
    ·exact (ht t h).stay (.ext L objs hx)
   exact slots_put (puts_size.trans hsz) (slots_put hsz hs1 (.tree (.val _))) (.tree (.val _))
  ·have:=(g0.own i b o n hb).2.2;omega
  ·intro h;have:=g0.ext.lt l h;have:=g0.ext.size;omega
  ·exact (hx.block m (Array.getElem?_eq_some_iff.1 hhm).1).trans hhm
  ·rw [<-hl];exact World.alloc_heap_new w _
 refine wpIn_block (wpIn_loop_ghost (fun k a w=>∃ is env F2 w2 L,MS P objs id es clock m l F1 w1 is env a w F2 w2 L/\I (.map (some m)) (.pointer (some ⟨l,0,none⟩)) (is.filterMap fun i=>ks'[i]?) env/\is.length+k=ks'.length) ks'.length
  ⟨[],_,_,_,_,ms0,h0 _ _,by simp⟩ ?_)
 clear ms0
 rintro k a w ⟨is,env,F2,w2,L,hM,hIs,hkn⟩
 obtain ⟨hp1,hp2⟩:=hpin _ _ _ _ hIs
 obtain ⟨seen,c0,hil,hcc,hsn⟩:=hM.hl
 have ev24:a.eval (.tmp 24) = .pointer (some ⟨l,0,none⟩):=by
  have:=hM.slots 24 (by omega)
  rw [hp2] at this
  exact this.val_inv
 obtain ⟨oN,n1,n2,n3,n4⟩:=N0
 have n5:=inv_nxt n4
 have hseenc:∀ i e,es[i]? = some e->(seen.contains e.born=true ↔ i ∈ is):=by
  intro i e he
  have hc:seen.contains e.born=true ↔ e.born ∈ seen.toList:=by simp
  rw [hc,hsn,List.mem_filterMap]
  constructor
  ·rintro ⟨j,hj,hje⟩
   obtain ⟨e',he',hb'⟩:=Option.map_eq_some_iff.1 hje
   obtain ⟨hi1,hi2⟩:=Array.getElem?_eq_some_iff.1 he
   obtain ⟨hj1,hj2⟩:=Array.getElem?_eq_some_iff.1 he'
   have:i=j:=nodup_inj hnd (i:=i) (j:=j) (by simpa using hi1) (by simpa using hj1) (by simp [hi2,hj2,hb'])
   rw [this];exact hj
  ·intro hi
   exact ⟨i,hi,by rw [he];rfl⟩
 rcases run_next_at (P:=P) w oN.type l m clock c0 seen es clock hil hM.hm hborn hcc with ⟨hz,hrun⟩ | ⟨e,hel,w',hw',hrun⟩
 ·
  refine wpIn_seq (wpReg hN (K:=fun a' w'=>a'=puts (puts a 25 (.tuple #[.bool false])) 26 (.bool false)/\w'=w) ?_ ?_)
  ·refine wpOne n1 n2 n3 (v:=.tuple #[.bool false]) (w':=w) (by simp [execOp,n5,ev24,hrun]) ?_
   refine wpExt N1 (vs:=#[.bool false]) (v:=.bool false) ?_ rfl ⟨rfl,rfl,rfl⟩
   exact ev_same (by rw [hM.size];omega)
  rintro _ _ ⟨rfl,rfl⟩
  refine wpIn_seq (wpIn_cond_false ?_ (wpIn_exit ?_))
  ·exact ev_same (by rw [puts_size,hM.size];omega)
  have hM2:=(hM.put (d:=25) (x:=.junk) (v:=.tuple #[.bool false]) (by omega) (.junk _) (.inr rfl)).put (d:=26) (x:=.junk) (v:=.bool false) (by omega) (.junk _) (.inr rfl)
  have hperm:(is.filterMap fun i=>ks'[i]?).Perm ks':=by
   have hall:∀ i,i<es.size->i ∈ is:=fun i hi=>by
    have he:es[i]? = some es[i]:=Array.getElem?_eq_getElem hi
    refine (hseenc i _ he).1 ?_
    refine Classical.byContradiction fun hcon=>?_
    have hmem:es[i] ∈ leftOf es seen:=by
     simp only [leftOf,Array.mem_filter]
     exact ⟨Array.getElem_mem hi,by simpa using hcon⟩
    have:=Array.size_pos_of_mem hmem
    omega
   have hp:is.Perm (List.range es.size):=by
    rw [List.perm_ext_iff_of_nodup hM.nodup List.nodup_range]
    intro x
    exact ⟨fun hx=>List.mem_range.2 (hM.lt x hx),fun hx=>hall x (List.mem_range.1 hx)⟩
   have h3:=hp.filterMap fun i=>ks'[i]?
   have h4:(List.range es.size).filterMap (fun i=>ks'[i]?)=ks':=by
    rw [hlen];exact range_get ks'
   rw [h4] at h3
   exact h3
  have hQ:=done _ _ _ _ hIs hperm
  refine ⟨F2,w2,hM2.mks,_,⟨_,hQ,keys_cons hM2.keys (by omega),rfl⟩,?_⟩
  refine sim_mk (L:=L) hM2.ds hM2.good hM2.size fun t h=>?_
  simp only [lk]
  split
  ·rename_i e;subst e
   have h5:=hM2.slots 1 (by omega)
   have h6:lk ((26,AV.junk)::(25,AV.junk)::env) 1=lk env 1:=by simp [lk]
   rw [h6,hp1] at h5
   rw [h5.val_inv]
   exact .mapL id g 1 m 0 1 ⟨_,_,ho⟩ hM.mO
  ·exact hM2.slots t h
 ·
  have hel':e ∈ es/\¬ seen.contains e.born=true:=by
   have:e ∈ leftOf es seen:=by simpa using hel
   simp only [leftOf,Array.mem_filter] at this
   exact ⟨this.1,by simpa using this.2⟩
  obtain ⟨i,hilt,hie⟩:=Array.mem_iff_getElem.1 hel'.1
  have he:es[i]? = some e:=by rw [Array.getElem?_eq_getElem hilt,hie]
  have hni:i ∉ is:=fun hi=>hel'.2 ((hseenc i e he).2 hi)
  obtain ⟨p,hp,hpk,hpv⟩:=hent i e he
  have hT:=hM.turn hw' he hsn hni
  have hlt2:l<w'.heap.size:=by
   have h2:w'.heap=w.heap:=by rcases hw' with rfl | rfl <;> rfl
   rw [h2];exact (Array.getElem?_eq_some_iff.1 hil).1
  have hil2:(Go.ChangeMaps.setBlock w' l (.mapIter (some m) clock (seen.push e.born) clock)).heap[l]? = some (.mapIter (some m) clock (seen.push e.born) clock):=World.putObj_heap_same hlt2
  generalize hW:Go.ChangeMaps.setBlock w' l (.mapIter (some m) clock (seen.push e.born) clock)=W at hrun hT hil2
  refine wpIn_seq (wpReg hN (K:=fun a' w'=>a'=puts (puts a 25 (.tuple #[.bool true,e.key,e.val])) 26 (.bool true)/\w'=W) ?_ ?_)
  ·refine wpOne n1 n2 n3 (v:=.tuple #[.bool true,e.key,e.val]) (w':=W) (by simp [execOp,n5,ev24,hrun]) ?_
   refine wpExt N1 (vs:=#[.bool true,e.key,e.val]) (v:=.bool true) ?_ rfl ⟨rfl,rfl,rfl⟩
   exact ev_same (by rw [hM.size];omega)
  rintro _ W ⟨rfl,rfl⟩
  have hM2:=(hT.put (d:=25) (x:=.junk) (v:=.tuple #[.bool true,e.key,e.val]) (by omega) (.junk _) (.inr rfl)).put (d:=26) (x:=.junk) (v:=.bool true) (by omega) (.junk _) (.inr rfl)
  refine wpIn_seq (wpIn_cond_true ?_ (codeSkip hcS ?_))
  ·exact ev_same (by rw [puts_size,hM.size];omega)
  refine wpIn_block (wpIn_seq (wpReg hG (K:=fun a' w'=>a'=puts (puts (puts (puts (puts (puts (puts a 25 (.tuple #[.bool true,e.key,e.val])) 26 (.bool true)) 27 (.tuple #[e.key,e.val])) 28 e.key) 29 e.val) 12 e.key) 13 e.val/\w'=W) ?_ ?_))
  ·obtain ⟨oG,q1,q2,q3,q4⟩:=G0
   have q5:=inv_ent q4
   have hent2:=run_entry_at (P:=P) W l m clock seen es clock e hil2 hT.hm (by simpa using hel'.1) hnd
   have ev24':(puts (puts a 25 (.tuple #[.bool true,e.key,e.val])) 26 (.bool true)).eval (.tmp 24) = .pointer (some ⟨l,0,none⟩):=by
    rw [ev_ne (by omega),ev_ne (by omega),ev24]
   refine wpOne q1 q2 q3 (v:=.tuple #[e.key,e.val]) (w':=W) (by simp [execOp,q5,ev24',hent2]) ?_
   refine wpExt G1 (vs:=#[e.key,e.val]) (v:=e.key) (ev_same (by rw [puts_size,puts_size,hM.size];omega)) rfl ?_
   refine wpExt G2 (vs:=#[e.key,e.val]) (v:=e.val) ((ev_ne (by omega)).trans (ev_same (by rw [puts_size,puts_size,hM.size];omega))) rfl ?_
   refine wpMov G3 (v:=e.key) ((ev_ne (by omega)).trans (ev_same (by rw [puts_size,puts_size,puts_size,hM.size];omega))) ?_
   exact wpMov G4 (v:=e.val) ((ev_ne (by omega)).trans (ev_same (by rw [puts_size,puts_size,puts_size,puts_size,hM.size];omega))) ⟨rfl,rfl,rfl⟩
  rintro _ W ⟨rfl,rfl⟩
  have hM3:=((((hM2.put (d:=27) (x:=.junk) (v:=.tuple #[e.key,e.val]) (by omega) (.junk _) (.inr rfl)).put (d:=28) (x:=.junk) (v:=e.key) (by omega) (.junk _) (.inr rfl)).put (d:=29) (x:=.junk) (v:=e.val) (by omega) (.junk _) (.inr rfl)).put (d:=12) (x:=.val (p.1.v 0)) (v:=e.key) (by omega) (by rw [hpk];exact .tree (.val _)) (.inl rfl)).put (d:=13) (x:=.val p.2) (v:=e.val) (by omega) (by rw [hpv];exact .tree (.val _)) (.inl rfl)
  have hle:=nodup_le es.size (is++[i]) hT.nodup hT.lt
  simp only [List.length_append,List.length_cons,List.length_nil] at hle
  have hfl:=List.length_filterMap_le (fun i=>ks'[i]?) is
  have hrd:=round ⟨L.F,fun b=>b<W.heap.size,F2.ds⟩ W _ _ _ p _ hIs (List.mem_of_getElem? hp) (by omega) hM3.keys _ _ (Mk.refl hM3.sim.lt) r rn _ hcBody (.inr hb) _ W hM3.sim
  refine wpIn_mono hrd ?_
  rintro x a3 w3 ⟨F3,w3',hm3,st,⟨s3,⟨rfl,e',hwk,hI'⟩,hk3,rfl⟩,hs3⟩
  obtain ⟨hk4,hw4⟩:=hwk hk3
  obtain ⟨F2',w2',L',hM4⟩:=hM3.back hm3 hk4 (hw4 _ _ _ _ hs3) (hI _ _ _ _ hI')
  exact ⟨k-1,by omega,is++[i],e',F2',w2',L',hM4,by rw [List.filterMap_append];simpa [hp] using hI',by simp;omega⟩
end
end Dak
namespace Go.Proofs.Ytdadmhahbeehhaa
open Dak
abbrev oo (d:Nat) (c:COp):COper:=⟨some d,none,c⟩
abbrev vv (d t:Nat):COper:=⟨some d,none,.mov (.tmp t)⟩
abbrev nn (c:COp):COper:=⟨none,none,c⟩
abbrev gt (d t:Nat) (c:COp):COper:=⟨some d,some (t,true),c⟩
abbrev gf (d t:Nat) (c:COp):COper:=⟨some d,some (t,false),c⟩
abbrev vt (d t s:Nat):COper:=⟨some d,some (t,true),.mov (.tmp s)⟩
abbrev vf (d t s:Nat):COper:=⟨some d,some (t,false),.mov (.tmp s)⟩
abbrev kk (n:Int):Operand:=.const (.int .i64 n)
abbrev ld1 (n:Nat):COp:=.load false 1 (.tmp n)
abbrev ld3 (n:Nat):COp:=.load true 3 (.tmp n)
abbrev fA (o n:Nat):COp:=.fieldAddr o (.tmp n)
abbrev iS (s a b:Nat):COp:=.idxS s (.tmp a) (.tmp b)
abbrev eX (a i:Nat):COp:=.extract (.tmp a) i
abbrev sS (m a b:Nat):COper:=⟨none,none,.store m (.tmp a) (.tmp b)⟩
abbrev iB (o:BinOp) (a b:Nat):COp:=.ibin o (.tmp a) (.tmp b)
abbrev iK (o:BinOp) (a:Nat) (k:Int):COp:=.ibin o (.tmp a) (kk k)
abbrev cL (f:Nat) (l:List Operand):COp:=.call (.func f) l
abbrev lN (a:Nat):COp:=.len (.tmp a)
abbrev nS:AV:=.val (.slice none 0 0)
abbrev nI:AV:=.val (.int .i64 0)
abbrev nU:AV:=.val (.int .u64 0)
abbrev aZ (e:Nat):COp:=.alloc e (.agg [nI,nS,nS])
abbrev bF:Operand:=.const (.bool false)
abbrev bT:Operand:=.const (.bool true)
abbrev sR (l:List COper) (c:CCode):CCode:=.seq (.region l) c
abbrev rR (l:List COper):CCode:=.region l
def c8:CCode :=
 (sR [oo 2 (.mov (.const (.slice none 0 0)))]
 (sR [oo 3 (.mov (.const (.slice none 0 0)))]
 (.seq (sR [oo 4 (.mov (kk 0))]
 (.block 0 (.loop
 (.seq (sR [vv 5 4,vv 6 0,oo 7 (cL 22 [T 6,kk 0,kk 21]),oo 8 (iB .lss 5 7)]
 (.cond (T 8)
 .skip
 (.exit 0)))
 (.seq (.block 1 (rR [vv 11 3,vv 12 0,vv 13 4,oo 14 (.ibin .add (kk 1) (T 13)),oo 15 (cL 22 [T 12,T 14,kk 10]),oo 16 (.bslice 3 1 [T 15]),oo 17 (.append 3 1 8 (T 11) (T 16)),vv 3 17]))
 (rR [vv 9 4,oo 10 (iK .add 9 1),vv 4 10]))))))
 (sR [vv 18 3,vv 2 18]
 .ret))))
theorem f8:fnC Try.lprog 8=some (c8,19,[(.tmp 2)]):=by kernel_rfl
def c9:CCode :=
 (sR [oo 4 (.mov (.const (.slice none 0 0)))]
 (sR [oo 5 (.mov (.const (.slice none 0 0)))]
 (.seq (sR [oo 6 (.mov (kk 0))]
 (.block 0 (.loop
 (.seq (sR [vv 10 6,vv 11 1,oo 12 (lN 11),oo 13 (iB .lss 10 12),vv 14 13,vt 15 14 0,gt 16 14 (lN 15),gt 17 14 (iK .gtr 16 0),oo 18 (.pick (T 14) (T 17) bF)]
 (.cond (T 18)
 .skip
 (.exit 0)))
 (.seq (.block 1 (sR [vv 21 1,vv 22 6,oo 23 (iS 1 21 22),oo 24 (ld1 23),vv 25 0,oo 26 (lN 25),oo 27 (cL 17 [T 24,T 26]),vv 7 27]
 (sR [oo 8 (.mov bT)]
 (.seq (sR [oo 9 (.mov (kk 0))]
 (.block 2 (.loop
 (.seq (sR [vv 28 9,vv 29 5,oo 30 (lN 29),oo 31 (iB .lss 28 30)]
 (.cond (T 31)
 .skip
 (.exit 2)))
 (.seq (.block 3 (rR [vv 34 8,vv 35 34,vt 36 35 5,vt 37 35 9,gt 38 35 (iS 1 36 37),gt 39 35 (ld1 38),vt 40 35 7,gt 41 35 (iB .neq 39 40),oo 42 (.pick (T 35) (T 41) bF),vv 8 42]))
 (rR [vv 32 9,oo 33 (iK .add 32 1),vv 9 33]))))))
 (sR [vv 43 8]
 (.cond (T 43)
 (rR [vv 44 5,vv 45 7,oo 46 (.bslice 3 1 [T 45]),oo 47 (.append 3 1 8 (T 44) (T 46)),vv 5 47])
 .skip))))))
 (rR [vv 19 6,oo 20 (iK .add 19 1),vv 6 20]))))))
 (sR [vv 48 5,vv 4 48]
 .ret))))
theorem f9:fnC Try.lprog 9=some (c9,49,[(.tmp 4)]):=by kernel_rfl
def c12:CCode :=
 (sR [oo 3 (.box 30 (T 0)),oo 6 (.mov (kk 0)),oo 7 (.mov (kk 0))]
 (sR [oo 13 (.load true 1 (T 3)),vv 14 1,vv 15 2,oo 16 (cL 24 [T 13,T 14,T 15]),vv 12 16,oo 17 (eX 12 0),oo 18 (eX 12 1),vv 8 17,vv 9 18]
 (.seq (sR [vv 19 9,oo 20 (.lnot (T 19))]
 (.cond (T 20)
 (sR [oo 6 (.mov (kk 0)),oo 7 (.mov (kk 1))]
 .ret)
 .skip))
 (sR [oo 22 (.load true 1 (T 3)),vv 23 8,oo 24 (cL 25 [T 22,T 23]),vv 21 24,oo 25 (eX 21 0),oo 26 (eX 21 1),vv 10 25,vv 11 26]
 (.seq (sR [vv 27 11,oo 28 (.lnot (T 27))]
 (.cond (T 28)
 (sR [oo 6 (.mov (kk 0)),oo 7 (.mov (kk 6))]
 .ret)
 .skip))
 (sR [vv 29 10,vv 6 29,oo 7 (.mov (kk 0))]
 .ret))))))
theorem f12:fnC Try.lprog 12=some (c12,30,[(.tmp 6),(.tmp 7)]):=by kernel_rfl
def c14:CCode :=
 (sR [oo 3 (.box 30 (T 0)),oo 6 (.mov (kk 0)),oo 7 (.mov (kk 0)),oo 8 (.mov (kk 0))]
 (sR [oo 15 (.load true 1 (T 3)),vv 16 1,vv 17 2,oo 18 (cL 24 [T 15,T 16,T 17]),vv 14 18,oo 19 (eX 14 0),oo 20 (eX 14 1),vv 9 19,vv 10 20]
 (.seq (sR [vv 21 10,oo 22 (.lnot (T 21))]
 (.cond (T 22)
 (sR [oo 6 (.mov (kk 0)),oo 7 (.mov (kk 0)),oo 8 (.mov (kk 1))]
 .ret)
 .skip))
 (sR [oo 24 (.load true 1 (T 3)),vv 25 9,oo 26 (cL 28 [T 24,T 25]),vv 23 26,oo 27 (eX 23 0),oo 28 (eX 23 1),vv 11 27,vv 12 28]
 (sR [vv 29 11,vv 30 12,oo 31 (iB .add 29 30),oo 32 (cL 29 [T 31]),vv 13 32]
 (sR [vv 33 13,vv 34 13,vv 35 11,oo 36 (iB .sub 34 35),vv 37 12,vv 38 13,oo 39 (iB .sub 37 38),oo 40 (.imax (T 36) (T 39)),vv 6 33,vv 7 40,oo 8 (.mov (kk 0))]
 .ret))))))
theorem f14:fnC Try.lprog 14=some (c14,41,[(.tmp 6),(.tmp 7),(.tmp 8)]):=by kernel_rfl
def c16:CCode :=
 (sR [oo 0 (.mov bF)]
 (sR [oo 13 (.bslice 3 1 [kk 0,kk 1,kk 2,kk 3,kk 4,kk 5,kk 6,kk 7,kk 8,kk 9]),oo 14 (.build [nS] [(0,(1,(T 13)))]),oo 1 (.alloc 30 (.agg [nS])),sS 1 1 14]
 (sR [oo 16 (.load true 1 (T 1)),oo 17 (cL 12 [T 16,(.const (.slice none 0 0)),(.const (.slice none 0 0))]),vv 15 17,oo 18 (eX 15 0),oo 19 (eX 15 1),vv 2 18,vv 3 19]
 (sR [oo 21 (.load true 1 (T 1)),oo 22 (.bslice 3 1 [kk 4]),oo 23 (.bslice 3 1 [kk 1]),oo 24 (cL 12 [T 21,T 22,T 23]),vv 20 24,oo 25 (eX 20 0),oo 26 (eX 20 1),vv 4 25,vv 5 26]
 (sR [oo 28 (.load true 1 (T 1)),oo 29 (.bslice 3 1 [kk 4]),oo 30 (.bslice 3 1 [kk 0]),oo 31 (cL 12 [T 28,T 29,T 30]),vv 27 31,oo 32 (eX 27 0),oo 33 (eX 27 1),vv 6 32,vv 7 33]
 (sR [oo 35 (.load true 1 (T 1)),oo 36 (cL 18 [T 35,kk 6,kk 4]),vv 34 36,oo 37 (eX 34 0),oo 38 (eX 34 1),vv 8 37,vv 9 38]
 (sR [oo 40 (.load true 1 (T 1)),oo 41 (.bslice 3 1 [kk 4,kk 7,kk 5,kk 6]),oo 42 (.bslice 3 1 [kk 1,kk 0,kk 1,kk 1]),oo 43 (cL 14 [T 40,T 41,T 42]),vv 39 43,oo 44 (eX 39 0),oo 45 (eX 39 1),oo 46 (eX 39 2),vv 10 44,vv 11 45,vv 12 46]
 (sR [vv 47 3,oo 48 (iK .eql 47 0),vv 49 48,vt 50 49 5,gt 51 49 (iK .eql 50 0),oo 52 (.pick (T 49) (T 51) bF),vv 53 52,vt 54 53 7,gt 55 53 (iK .eql 54 0),oo 56 (.pick (T 53) (T 55) bF),vv 57 56,vt 58 57 9,gt 59 57 (iK .eql 58 0),oo 60 (.pick (T 57) (T 59) bF),vv 61 60,vt 62 61 12,gt 63 61 (iK .eql 62 0),oo 64 (.pick (T 61) (T 63) bF),vv 65 64,vt 66 65 2,gt 67 65 (iK .eql 66 4),oo 68 (.pick (T 65) (T 67) bF),vv 69 68,vt 70 69 4,gt 71 69 (iK .eql 70 7),oo 72 (.pick (T 69) (T 71) bF),vv 73 72,vt 74 73 6,gt 75 73 (iK .eql 74 1),oo 76 (.pick (T 73) (T 75) bF),vv 77 76,vt 78 77 8,gt 79 77 (.bslice 3 1 [kk 4,kk 7,kk 5,kk 6]),gt 80 77 (cL 20 [T 78,T 79]),oo 81 (.pick (T 77) (T 80) bF),vv 82 81,vt 83 82 10,gt 84 82 (iK .eql 83 6),oo 85 (.pick (T 82) (T 84) bF),vv 86 85,vt 87 86 11,gt 88 86 (iK .eql 87 0),oo 89 (.pick (T 86) (T 88) bF),vv 0 89]
 .ret))))))))
theorem f16:fnC Try.lprog 16=some (c16,90,[(.tmp 0)]):=by kernel_rfl
def c17:CCode :=
 (sR [oo 4 (.mov (kk 0))]
 (.seq (sR [vv 5 0,oo 6 (iK .lss 5 0)]
 (.cond (T 6)
 (rR [vv 7 0,oo 8 (iK .add 7 1),oo 9 (.neg (T 8)),vv 0 9])
 .skip))
 (.seq (sR [vv 10 1,oo 11 (iK .lss 10 1)]
 (.cond (T 11)
 (sR [oo 4 (.mov (kk 0))]
 .ret)
 .skip))
 (sR [vv 12 0,vv 13 1,oo 14 (iB .rem 12 13),vv 4 14]
 .ret))))
theorem f17:fnC Try.lprog 17=some (c17,15,[(.tmp 4)]):=by kernel_rfl
def c18:CCode :=
 (sR [oo 3 (.box 30 (T 0)),oo 6 (.mov (.const (.slice none 0 0))),oo 7 (.mov (kk 0))]
 (.seq (.block 0 (sR [oo 15 (.load true 1 (T 3)),oo 16 (cL 30 [T 15]),oo 17 (.lnot (T 16)),vv 18 17,vf 19 18 1,gf 20 18 (.ibin .lss (T 19) (kk (-1))),oo 21 (.pick (T 18) bT (T 20)),vv 22 21,vf 23 22 1,gf 24 22 (iK .gtr 23 9),oo 25 (.pick (T 22) bT (T 24)),vv 26 25,vf 27 26 2,gf 28 26 (iK .lss 27 0),oo 29 (.pick (T 26) bT (T 28)),vv 14 29]
 (.cond (T 14)
 (sR [oo 6 (.mov (.const (.slice none 0 0))),oo 7 (.mov (kk 1))]
 .ret)
 (sR [vv 31 2,oo 32 (fA 0 3),oo 33 (ld1 32),oo 34 (lN 33),oo 35 (iB .gtr 31 34),vv 30 35]
 (.cond (T 30)
 (sR [oo 6 (.mov (.const (.slice none 0 0))),oo 7 (.mov (kk 6))]
 .ret)
 .skip)))))
 (.seq (.drawn [oo 36 (.mkch (kk 0)),oo 37 (.mkch (kk 0)),vv 8 36,vv 9 37] [])
 (sR [vv 38 1,vv 39 8,vv 40 9,nn (iK .leq 38 0)]
 (sR [oo 41 (.mnew 1000000000),vv 10 41]
 (sR [oo 11 (.mov (.const (.slice none 0 0)))]
 (.seq (sR [vv 42 2,oo 43 (.mov (kk 0))]
 (.block 1 (.loop
 (sR [oo 44 (iB .lss 43 42)]
 (.seq (.cond (T 44)
 .skip
 (.exit 1))
 (.seq (.block 2 (sR [oo 46 (.load true 1 (T 3)),vv 47 10,oo 48 (cL 25 [T 46,T 47]),vv 45 48,oo 49 (eX 45 0),oo 50 (eX 45 1),vv 12 49,vv 13 50]
 (sR [vv 51 8,oo 52 (fA 0 3),oo 53 (ld1 52),vv 54 12,oo 55 (iS 1 53 54),oo 56 (ld1 55),oo 60 (iB .leq 56 1)]
 (sR [vv 57 10,vv 58 12,vv 59 9,oo 60 (.pick (T 60) (kk 1) (kk 0)),nn (.mset 0 (T 57) (T 58) (T 60))]
 (rR [vv 61 11,vv 62 12,oo 63 (.bslice 3 1 [T 62]),oo 64 (.append 3 1 8 (T 61) (T 63)),vv 11 64])))))
 (rR [oo 65 (iK .add 43 1),vv 43 65])))))))
 (sR [vv 66 8,nn (.mov (T 66))]
 (sR [vv 67 9,oo 68 (.mov (kk 0))]
 (sR [vv 69 11,vv 6 69,oo 7 (.mov (kk 0))]
 .ret))))))))))
theorem f18:fnC Try.lprog 18=some (c18,70,[(.tmp 6),(.tmp 7)]):=by kernel_rfl
def c20:CCode :=
 (sR [oo 4 (.mov bF)]
 (.seq (sR [vv 6 0,oo 7 (lN 6),vv 8 1,oo 9 (lN 8),oo 10 (iB .neq 7 9)]
 (.cond (T 10)
 (sR [oo 4 (.mov bF)]
 .ret)
 .skip))
 (.seq (sR [oo 5 (.mov (kk 0))]
 (.block 0 (.loop
 (.seq (sR [vv 11 5,vv 12 0,oo 13 (lN 12),oo 14 (iB .lss 11 13)]
 (.cond (T 14)
 .skip
 (.exit 0)))
 (.seq (.block 1 (.seq (.drawn [vv 17 0,vv 18 5,oo 19 (iS 1 17 18),oo 20 (ld1 19),vv 21 1,vv 22 5,oo 23 (iS 1 21 22),oo 24 (ld1 23),oo 25 (iB .neq 20 24)] [])
 (.cond (T 25)
 (sR [oo 4 (.mov bF)]
 .ret)
 .skip)))
 (rR [vv 15 5,oo 16 (iK .add 15 1),vv 5 16]))))))
 (sR [oo 4 (.mov bT)]
 .ret))))
theorem f20:fnC Try.lprog 20=some (c20,26,[(.tmp 4)]):=by kernel_rfl
def c22:CCode :=
 (sR [oo 6 (.mov (kk 0))]
 (.seq (sR [vv 7 1,oo 8 (iK .lss 7 0),vv 9 8,vf 10 9 1,vf 11 9 0,gf 12 9 (lN 11),gf 13 9 (iB .geq 10 12),oo 14 (.pick (T 9) bT (T 13))]
 (.cond (T 14)
 (sR [oo 6 (.mov (kk 0))]
 .ret)
 .skip))
 (sR [vv 15 0,vv 16 1,oo 17 (iS 1 15 16),oo 18 (ld1 17),vv 19 2,oo 20 (cL 17 [T 18,T 19]),vv 6 20]
 .ret)))
theorem f22:fnC Try.lprog 22=some (c22,21,[(.tmp 6)]):=by kernel_rfl
def c24:CCode :=
 (sR [oo 3 (.box 30 (T 0)),oo 6 (.mov (.const (.map none))),oo 7 (.mov bF)]
 (sR [oo 13 (.mnew 1000000000),vv 8 13]
 (.seq (sR [oo 14 (.load true 1 (T 3)),oo 15 (cL 30 [T 14]),oo 16 (.lnot (T 15)),vv 17 16,vf 18 17 1,gf 19 17 (lN 18),vf 20 17 2,gf 21 17 (lN 20),gf 22 17 (iB .neq 19 21),oo 23 (.pick (T 17) bT (T 22))]
 (.cond (T 23)
 (sR [oo 6 (.mov (.const (.map none))),oo 7 (.mov bF)]
 .ret)
 .skip))
 (.seq (sR [vv 24 1,oo 25 (lN 24),oo 26 (.mov (kk 0))]
 (.block 0 (.loop
 (sR [oo 27 (iB .lss 26 25)]
 (.seq (.cond (T 27)
 .skip
 (.exit 0))
 (.seq (.block 1 (sR [vv 28 26,oo 29 (iS 1 24 26),oo 30 (ld1 29),vv 9 28,vv 10 30]
 (.seq (sR [vv 32 8,vv 33 10,oo 34 (.mget 0 true (.int .i64 0) (T 32) (T 33)),vv 31 34,oo 35 (eX 31 0),oo 36 (eX 31 1),vv 11 35,vv 12 36]
 (sR [vv 37 12,vv 38 37,vf 39 38 10,gf 40 38 (iK .lss 39 0),oo 41 (.pick (T 38) bT (T 40)),vv 42 41,vf 43 42 10,gf 44 42 (fA 0 3),gf 45 42 (ld1 44),gf 46 42 (lN 45),gf 47 42 (iB .geq 43 46),oo 48 (.pick (T 42) bT (T 47)),vv 49 48,vf 50 49 2,vf 51 49 9,gf 52 49 (iS 1 50 51),gf 53 49 (ld1 52),gf 54 49 (iK .lss 53 0),oo 55 (.pick (T 49) bT (T 54)),vv 56 55,vf 57 56 2,vf 58 56 9,gf 59 56 (iS 1 57 58),gf 60 56 (ld1 59),gf 61 56 (iK .gtr 60 1),oo 62 (.pick (T 56) bT (T 61))]
 (.cond (T 62)
 (sR [oo 6 (.mov (.const (.map none))),oo 7 (.mov bF)]
 .ret)
 .skip)))
 (rR [vv 63 8,vv 64 10,vv 65 2,vv 66 9,oo 67 (iS 1 65 66),oo 68 (ld1 67),nn (.mset 0 (T 63) (T 64) (T 68))]))))
 (rR [oo 69 (iK .add 26 1),vv 26 69])))))))
 (sR [vv 70 8,vv 6 70,oo 7 (.mov bT)]
 .ret)))))
theorem f24:fnC Try.lprog 24=some (c24,71,[(.tmp 6),(.tmp 7)]):=by kernel_rfl
def c25:CCode :=
 (sR [oo 2 (.box 30 (T 0)),oo 4 (.mov (kk 0)),oo 5 (.mov bF)]
 (sR [oo 14 (.load true 1 (T 2)),vv 15 1,oo 16 (cL 28 [T 14,T 15]),vv 13 16,oo 17 (eX 13 0),oo 18 (eX 13 1),oo 6 (.alloc 3 nI),oo 7 (.alloc 3 nI),sS 1 6 17,sS 1 7 18]
 (sR [oo 19 (.mkfunc (.func 33) [T 2,T 6,T 7]),oo 8 (.alloc 61 (.val .nilFunc)),sS 1 8 19]
 (sR [oo 9 (.mov (.const (.slice none 0 0)))]
 (.seq (sR [oo 20 (fA 0 2),oo 21 (ld1 20),oo 22 (lN 21),oo 23 (.mov (kk 0))]
 (.block 0 (.loop
 (sR [oo 24 (iB .lss 23 22)]
 (.seq (.cond (T 24)
 .skip
 (.exit 0))
 (.seq (.block 1 (sR [vv 25 23,vv 10 25]
 (sR [vv 27 1,vv 28 10,oo 29 (.mget 0 true (.int .i64 0) (T 27) (T 28)),vv 26 29,oo 30 (eX 26 0),oo 31 (eX 26 1),vv 11 30,vv 12 31]
 (sR [vv 32 12,oo 33 (.lnot (T 32))]
 (.cond (T 33)
 (rR [vv 34 9,vv 35 10,oo 36 (.bslice 3 1 [T 35]),oo 37 (.append 3 1 8 (T 34) (T 36)),vv 9 37])
 .skip)))))
 (rR [oo 38 (iK .add 23 1),vv 23 38])))))))
 (.seq (sR [vv 39 9,oo 40 (lN 39),oo 41 (iK .eql 40 0)]
 (.cond (T 41)
 (sR [oo 4 (.mov (kk 0)),oo 5 (.mov bF)]
 .ret)
 .skip))
 (sR [vv 42 9,oo 43 (.mkfunc (.func 35) [T 8,T 2]),oo 44 (cL 34 [T 42,T 43]),vv 4 44,oo 5 (.mov bT)]
 .ret)))))))
theorem f25:fnC Try.lprog 25=some (c25,45,[(.tmp 4),(.tmp 5)]):=by kernel_rfl
def c28:CCode :=
 (sR [oo 2 (.box 30 (T 0)),oo 4 (.mov (kk 0)),oo 5 (.mov (kk 0))]
 (.seq (.drawn [oo 14 (fA 0 2),oo 15 (ld1 14),oo 16 (lN 15),oo 17 (iK .add 16 1),oo 6 (.mov (kk 0)),oo 7 (.mov (kk 0)),vv 8 17] [])
 (.seq (sR [oo 18 (.mov (kk 0))]
 (.block 0 (.loop
 (sR [oo 19 (iK .lss 18 11)]
 (.seq (.cond (T 19)
 .skip
 (.exit 0))
 (.seq (.block 1 (sR [vv 20 18,vv 9 20]
 (sR [vv 21 9,oo 22 (.ibin .add (kk (-1)) (T 21)),vv 10 22,oo 11 (.mov (kk 0))]
 (.seq (sR [vv 23 1,oo 24 (.rng 0 (T 23))]
 (.block 2 (.loop
 (sR [oo 25 (.nxt (T 24)),oo 26 (eX 25 0)]
 (.seq (.cond (T 26)
 .skip
 (.exit 2))
 (.block 3 (sR [oo 27 (.ent (T 24)),oo 28 (eX 27 0),oo 29 (eX 27 1),vv 12 28,vv 13 29]
 (sR [oo 30 (fA 0 2),oo 31 (ld1 30),vv 32 12,oo 33 (iS 1 31 32),oo 34 (ld1 33),vv 35 13,vv 36 10,oo 37 (cL 37 [T 34,T 35,T 36])]
 (.cond (T 37)
 (rR [vv 38 11,oo 39 (iK .add 38 1),vv 11 39])
 .skip)))))))))
 (.block 4 (sR [vv 41 11,vv 42 8,oo 43 (iB .lss 41 42),vv 40 43]
 (.cond (T 40)
 (rR [vv 44 10,vv 45 10,vv 46 11,vv 6 44,vv 7 45,vv 8 46])
 (sR [vv 48 11,vv 49 8,oo 50 (iB .eql 48 49),vv 47 50]
 (.cond (T 47)
 (rR [vv 51 10,vv 7 51])
 .skip)))))))))
 (rR [oo 52 (iK .add 18 1),vv 18 52])))))))
 (sR [vv 53 6,vv 54 7,vv 4 53,vv 5 54]
 .ret))))
theorem f28:fnC Try.lprog 28=some (c28,55,[(.tmp 4),(.tmp 5)]):=by kernel_rfl
def c29:CCode :=
 (sR [oo 2 (.mov (kk 0))]
 (sR [vv 3 0,oo 4 (iK .add 3 18),oo 5 (iK .quo 4 2),oo 6 (iK .sub 5 9),vv 2 6]
 .ret))
theorem f29:fnC Try.lprog 29=some (c29,7,[(.tmp 2)]):=by kernel_rfl
def c30:CCode :=
 (sR [oo 1 (.box 30 (T 0)),oo 2 (.mov bF)]
 (sR [oo 3 (fA 0 1),oo 4 (ld1 3),oo 5 (lN 4),oo 6 (iK .leq 5 256),vv 7 6,gt 8 7 (fA 0 1),gt 9 7 (ld1 8),gt 10 7 (cL 38 [T 9,(.func 39)]),gt 11 7 (.lnot (T 10)),oo 12 (.pick (T 7) (T 11) bF),vv 2 12]
 .ret))
theorem f30:fnC Try.lprog 30=some (c30,13,[(.tmp 2)]):=by kernel_rfl
def c33:CCode :=
 (sR [oo 5 (.mov (kk 0))]
 (.seq (.drawn [oo 7 (fA 0 1),oo 8 (ld1 7),vv 9 0,oo 10 (iS 1 8 9),oo 11 (ld1 10),oo 12 (.ibin .mul (kk 2) (T 11)),oo 13 (ld1 2),oo 14 (ld1 3),oo 15 (iB .add 13 14),oo 16 (iK .add 15 1),oo 17 (iB .sub 12 16),vv 6 17] [])
 (sR [vv 18 6,vv 19 6,oo 20 (.neg (T 19)),oo 21 (.imax (T 18) (T 20)),vv 5 21]
 .ret)))
theorem f33:fnC Try.lprog 33=some (c33,22,[(.tmp 5)]):=by kernel_rfl
def c34:CCode :=
 (sR [oo 4 (.mov (kk 0))]
 (.seq (sR [vv 7 0,oo 8 (lN 7),oo 9 (iK .lss 8 1)]
 (.cond (T 9)
 (rR [oo 10 (.bad),nn (.bad)])
 .skip))
 (sR [vv 11 0,oo 12 (.idxS 1 (T 11) (kk 0)),oo 13 (ld1 12),vv 5 13]
 (.seq (sR [oo 6 (.mov (kk 1))]
 (.block 0 (.loop
 (.seq (sR [vv 14 6,vv 15 0,oo 16 (lN 15),oo 17 (iB .lss 14 16)]
 (.cond (T 17)
 .skip
 (.exit 0)))
 (.seq (.block 1 (sR [vv 20 1,vv 21 0,vv 22 6,oo 23 (iS 1 21 22),oo 24 (ld1 23),vv 25 5,oo 26 (.call (T 20) [T 24,T 25]),oo 27 (iK .lss 26 0)]
 (.cond (T 27)
 (rR [vv 28 0,vv 29 6,oo 30 (iS 1 28 29),oo 31 (ld1 30),vv 5 31])
 .skip)))
 (rR [vv 18 6,oo 19 (iK .add 18 1),vv 6 19]))))))
 (sR [vv 32 5,vv 4 32]
 .ret)))))
theorem f34:fnC Try.lprog 34=some (c34,33,[(.tmp 4)]):=by kernel_rfl
def c35:CCode :=
 (sR [oo 6 (.mov (kk 0))]
 (.seq (.drawn [oo 7 (ld1 2),vv 8 0,oo 10 (ld1 2),vv 11 1,oo 14 (fA 0 3),oo 15 (ld1 14),vv 16 0,oo 17 (iS 1 15 16),oo 18 (ld1 17),oo 19 (fA 0 3),oo 20 (ld1 19),vv 21 1,oo 22 (iS 1 20 21),oo 23 (ld1 22),oo 24 (iB .sub 18 23),vv 25 0,vv 26 1,oo 27 (iB .sub 25 26)] [(oo 9 (.call (T 7) [T 8]),[oo 10 (ld1 2),vv 11 1,oo 14 (fA 0 3),oo 15 (ld1 14),vv 16 0,oo 17 (iS 1 15 16),oo 18 (ld1 17),oo 19 (fA 0 3),oo 20 (ld1 19),vv 21 1,oo 22 (iS 1 20 21),oo 23 (ld1 22),oo 24 (iB .sub 18 23),vv 25 0,vv 26 1,oo 27 (iB .sub 25 26)]),(oo 12 (.call (T 10) [T 11]),[oo 14 (fA 0 3),oo 15 (ld1 14),vv 16 0,oo 17 (iS 1 15 16),oo 18 (ld1 17),oo 19 (fA 0 3),oo 20 (ld1 19),vv 21 1,oo 22 (iS 1 20 21),oo 23 (ld1 22),oo 24 (iB .sub 18 23),vv 25 0,vv 26 1,oo 27 (iB .sub 25 26)]),(oo 13 (iB .sub 9 12),[oo 14 (fA 0 3),oo 15 (ld1 14),vv 16 0,oo 17 (iS 1 15 16),oo 18 (ld1 17),oo 19 (fA 0 3),oo 20 (ld1 19),vv 21 1,oo 22 (iS 1 20 21),oo 23 (ld1 22),oo 24 (iB .sub 18 23),vv 25 0,vv 26 1,oo 27 (iB .sub 25 26)]),(oo 28 (.bslice 3 1 [T 13,T 24,T 27]),[]),(oo 29 (cL 36 [T 28]),[]),(vv 6 29,[])])
 .ret))
theorem f35:fnC Try.lprog 35=some (c35,30,[(.tmp 6)]):=by kernel_rfl
def c36:CCode :=
 (sR [oo 2 (.mov (kk 0))]
 (sR [oo 3 (.mov (kk 0))]
 (.seq (sR [vv 6 0,oo 7 (lN 6),oo 8 (.mov (kk 0))]
 (.block 0 (.loop
 (sR [oo 9 (iB .lss 8 7)]
 (.seq (.cond (T 9)
 .skip
 (.exit 0))
 (.seq (.block 1 (sR [oo 10 (iS 1 6 8),oo 11 (ld1 10),vv 5 11]
 (sR [vv 12 5,vv 13 3,oo 14 (iB .neq 12 13)]
 (.cond (T 14)
 (sR [vv 15 5,vv 2 15]
 .ret)
 .skip))))
 (rR [oo 16 (iK .add 8 1),vv 8 16])))))))
 (sR [vv 17 3,vv 2 17]
 .ret))))
theorem f36:fnC Try.lprog 36=some (c36,18,[(.tmp 2)]):=by kernel_rfl
def c37:CCode :=
 (sR [oo 6 (.mov bF)]
 (sR [vv 7 1,oo 8 (iK .eql 7 1),vv 9 0,vv 10 2,oo 11 (iB .leq 9 10),oo 12 (.bbin .neq (T 8) (T 11)),vv 6 12]
 .ret))
theorem f37:fnC Try.lprog 37=some (c37,13,[(.tmp 6)]):=by kernel_rfl
def c38:CCode :=
 (sR [oo 4 (.mov bF)]
 (sR [vv 5 0,vv 6 1,oo 7 (cL 40 [T 5,T 6]),oo 8 (iK .geq 7 0),vv 4 8]
 .ret))
theorem f38:fnC Try.lprog 38=some (c38,9,[(.tmp 4)]):=by kernel_rfl
def c39:CCode :=
 (sR [oo 2 (.mov bF)]
 (sR [vv 3 0,oo 4 (iK .lss 3 0),vv 5 4,vf 6 5 0,gf 7 5 (iK .gtr 6 9),oo 8 (.pick (T 5) bT (T 7)),vv 2 8]
 .ret))
theorem f39:fnC Try.lprog 39=some (c39,9,[(.tmp 2)]):=by kernel_rfl
def c40:CCode :=
 (sR [oo 4 (.mov (kk 0))]
 (.seq (sR [vv 6 0,oo 7 (lN 6),oo 8 (.mov (kk 0))]
 (.block 0 (.loop
 (sR [oo 9 (iB .lss 8 7)]
 (.seq (.cond (T 9)
 .skip
 (.exit 0))
 (.seq (.block 1 (sR [vv 10 8,vv 5 10]
 (sR [vv 11 1,vv 12 0,vv 13 5,oo 14 (iS 1 12 13),oo 15 (ld1 14),oo 16 (.call (T 11) [T 15])]
 (.cond (T 16)
 (sR [vv 17 5,vv 4 17]
 .ret)
 .skip))))
 (rR [oo 18 (iK .add 8 1),vv 8 18])))))))
 (sR [oo 4 (.mov (kk (-1)))]
 .ret)))
theorem f40:fnC Try.lprog 40=some (c40,19,[(.tmp 4)]):=by kernel_rfl
end Go.Proofs.Ytdadmhahbeehhaa
namespace A42
abbrev PI:=Int × Int
def lv (L:List Int) (n:Int):Int:=L.getD n.toNat 0
def badL (x:Int):Bool:=decide (x<0) || decide (9<x)
def validB (L:List Int):Bool:=decide (L.length<=256) && !(L.any badL)
def badP (L:List Int) (p:PI):Bool:=decide (p.1<0) || decide ((L.length:Int)<=p.1) || decide (p.2<0) || decide (1<p.2)
def okGo (L:List Int):List Int->List PI->Bool
 | _,[]=>true
 | done,p::r=>!(done.contains p.1) && !(badP L p) && okGo L (done++[p.1]) r
def okAns (L:List Int) (asked right:List Int):Bool:=validB L && decide (asked.length=right.length) && okGo L [] (asked.zip right)
def con (L:List Int) (lev:Int) (p:PI):Bool:=(decide (p.2=1)) != decide (lv L p.1<=lev)
def cnt (L:List Int) (ps:List PI) (lev:Int):Nat:=ps.countP (con L lev)
abbrev S3:=Int × Int × Nat
def stp (L:List Int) (ps:List PI) (s:S3) (lev:Int):S3 :=
 if cnt L ps lev<s.2.2 then (lev,lev,cnt L ps lev) else if cnt L ps lev=s.2.2 then (s.1,lev,s.2.2) else s
def levels:List Int:=[-1,0,1,2,3,4,5,6,7,8,9]
def sh3 (L:List Int) (ps:List PI):S3:=levels.foldl (stp L ps) (0,0,L.length+1)
def shown (L:List Int) (ps:List PI):PI:=((sh3 L ps).1,(sh3 L ps).2.1)
def far (L:List Int) (s:PI) (n:Int):Int:=max (2*lv L n-(s.1+s.2+1)) (-(2*lv L n-(s.1+s.2+1)))
def or3 (a b c:Int):Int:=if a ≠ 0 then a else if b ≠ 0 then b else c
def cmpM (L:List Int) (s:PI) (n m:Int):Int:=or3 (far L s n-far L s m) (lv L n-lv L m) (n-m)
def nums (k:Nat):List Int:=(List.range k).map Int.ofNat
def isIn (ps:List PI) (n:Int):Bool:=ps.any fun p=>p.1 == n
def leftL (L:List Int) (ps:List PI):List Int:=(nums L.length).filter fun n=>!(isIn ps n)
def minStep (c:Int->Int->Int) (m x:Int):Int:=if c x m<0 then x else m
def minF (c:Int->Int->Int):List Int->Int
 | []=>0
 | a::r=>r.foldl (minStep c) a
def nextM (L:List Int) (ps:List PI):Option Int:=if (leftL L ps).isEmpty then none else some (minF (cmpM L (shown L ps)) (leftL L ps))
def nxR:Option Int->PI
 | some n=>(n,0)
 | none=>(0,6)
def NextM (L asked right:List Int):PI:=if okAns L asked right=true then nxR (nextM L (asked.zip right)) else (0,1)
def floorM (n:Int):Int:=(n+18).tdiv 2-9
def LevelM (L asked right:List Int):Int × Int × Int :=
 if okAns L asked right=true then
  let s:=shown L (asked.zip right)
  (floorM (s.1+s.2),max (floorM (s.1+s.2)-s.1) (s.2-floorM (s.1+s.2)),0)
 else (0,0,1)
def truth (L:List Int) (lev:Int) (out:List Int):List PI:=out.map fun k=>(k,if lv L k<=lev then 1 else 0)
def runGo (L:List Int) (lev:Int):Nat->List Int->List Int
 | 0,out=>out
 | k+1,out=>runGo L lev k (out++[(nextM L (truth L lev out)).getD 0])
def RunM (L:List Int) (lev n:Int):List Int × Int :=
 if validB L=false \/ lev < -1 \/ 9<lev \/ n<0 then ([],1) else if (L.length:Int)<n then ([],6) else (runGo L lev n.toNat [],0)
theorem lv_idx {L:List Int} {n:Int} (h0:0<=n) (h1:n<L.length):L[n.toNat]? = some (lv L n):=by
 have:n.toNat<L.length:=by omega
 simp [lv,this]
theorem valid_iff {L:List Int}:validB L=true ↔ L.length<=256/\∀ x ∈ L,0<=x/\x<=9:=by
 simp only [validB,Bool.and_eq_true,decide_eq_true_eq,Bool.not_eq_true',List.any_eq_false]
 refine and_congr Iff.rfl ⟨fun h x hx=>?_,fun h x hx=>?_⟩
 ·have:=h x hx
  simp [badL] at this;omega
 ·have:=h x hx
  simp [badL];omega
theorem lv_bd {L:List Int} (h:validB L=true) (n:Int):0<=lv L n/\lv L n<=9:=by
 obtain ⟨_,h⟩:=valid_iff.1 h
 unfold lv
 by_cases hn:n.toNat<L.length
 ·have:=h L[n.toNat] (List.getElem_mem hn)
  simp [hn];exact this
 ·simp [List.getD_eq_getElem?_getD,List.getElem?_eq_none (Nat.le_of_not_lt hn)]
theorem badP_iff {L:List Int} {p:PI}:badP L p=false ↔ 0<=p.1/\p.1<L.length/\0<=p.2/\p.2<=1:=by
 simp [badP];omega
theorem okGo_iff {L:List Int}:∀ {done:List Int} {ps:List PI},okGo L done ps=true ↔ (∀ p ∈ ps,badP L p=false)/\(ps.map (·.1)).Nodup/\∀ p ∈ ps,p.1 ∉ done
 | done,[]=>by simp [okGo]
 | done,p::r=>by
  simp only [okGo,Bool.and_eq_true,Bool.not_eq_true',okGo_iff (done:=done++[p.1]) (ps:=r),List.forall_mem_cons,List.map_cons,List.nodup_cons]
  constructor
  ·rintro ⟨⟨h1,h2⟩,h3,h4,h5⟩
   refine ⟨⟨h2,h3⟩,⟨fun hm=>?_,h4⟩,⟨by simpa using h1,fun q hq hd=>h5 q hq (by simp [hd])⟩⟩
   obtain ⟨q,hq,hqe⟩:=List.mem_map.1 hm
   exact h5 q hq (by simp [hqe])
  ·rintro ⟨⟨h2,h3⟩,⟨h6,h4⟩,h7,h5⟩
   refine ⟨⟨by simpa using h7,h2⟩,h3,h4,fun q hq hd=>?_⟩
   simp only [List.mem_append,List.mem_singleton] at hd
   rcases hd with hd | hd
   ·exact h5 q hq hd
   ·exact h6 (List.mem_map.2 ⟨q,hq,hd⟩)
structure Ok (L:List Int) (ps:List PI):Prop where
 valid:validB L=true
 rng:∀ p ∈ ps,0<=p.1/\p.1<L.length/\0<=p.2/\p.2<=1
 nodup:(ps.map (·.1)).Nodup
theorem ok_iff {L asked right:List Int}:okAns L asked right=true ↔ asked.length=right.length/\Ok L (asked.zip right):=by
 simp only [okAns,Bool.and_eq_true,decide_eq_true_eq,okGo_iff]
 constructor
 ·rintro ⟨⟨h1,h2⟩,h3,h4,_⟩
  exact ⟨h2,h1,fun p hp=>badP_iff.1 (h3 p hp),h4⟩
 ·rintro ⟨h2,h1,h3,h4⟩
  exact ⟨⟨h1,h2⟩,fun p hp=>badP_iff.2 (h3 p hp),h4,by simp⟩
theorem nodup_le:∀ (n:Nat) (is:List Int),is.Nodup->(∀ i ∈ is,0<=i/\i<n)->is.length<=n
 | 0,is,_,h=>by
  cases is with
  | nil=>simp
  | cons a l=>have:=h a (by simp);omega
 | n+1,is,hn,h=>by
  by_cases hm:(n:Int) ∈ is
  ·have h1:=nodup_le n (is.erase (n:Int)) (hn.erase _) fun i hi=>by
    have h2:=(List.Nodup.mem_erase_iff hn).1 hi
    have:=h i h2.2
    omega
   rw [List.length_erase_of_mem hm] at h1
   omega
  ·have:=nodup_le n is hn fun i hi=>by
    have h1:=h i hi
    have:i ≠ n:=fun e=>hm (e ▸ hi)
    omega
   omega
theorem Ok.len {L:List Int} {ps:List PI} (h:Ok L ps):ps.length<=L.length:=by
 have:=nodup_le L.length (ps.map (·.1)) h.nodup fun i hi=>by
  obtain ⟨p,hp,rfl⟩:=List.mem_map.1 hi
  exact ⟨(h.rng p hp).1,(h.rng p hp).2.1⟩
 simpa using this
theorem cnt_le {L:List Int} {ps:List PI} (lev:Int):cnt L ps lev<=ps.length:=List.countP_le_length
structure ShI (L:List Int) (ps:List PI) (done:List Int) (s:S3):Prop where
 le:∀ x ∈ done,s.2.2<=cnt L ps x
 at_:done ≠ []->s.1 ∈ done/\s.2.1 ∈ done/\cnt L ps s.1=s.2.2/\cnt L ps s.2.1=s.2.2
 fst:∀ x ∈ done,cnt L ps x=s.2.2->s.1<=x/\x<=s.2.1
theorem shI_step {L:List Int} {ps:List PI} {done:List Int} {s:S3} (h:ShI L ps done s) (h0:done=[]->ps.length<s.2.2) {lev:Int} (hlt:∀ x ∈ done,x<lev):ShI L ps (done++[lev]) (stp L ps s lev):=by
 have hc:=cnt_le (L:=L) (ps:=ps) lev
 unfold stp
 by_cases h1:cnt L ps lev<s.2.2
 ·rw [if_pos h1]
  refine ⟨fun x hx=>?_,fun _=>by simp,fun x hx he=>?_⟩
  ·simp only [List.mem_append,List.mem_singleton] at hx
   rcases hx with hx | rfl
   ·exact Nat.le_of_lt (Nat.lt_of_lt_of_le h1 (h.le x hx))
   ·exact Nat.le_refl _
  ·simp only [List.mem_append,List.mem_singleton] at hx
   rcases hx with hx | rfl
   ·have:=h.le x hx
    simp only at he;omega
   ·exact ⟨Int.le_refl _,Int.le_refl _⟩
 ·rw [if_neg h1]
  have hne:done ≠ []:=fun e=>by have:=h0 e;omega
  obtain ⟨a1,a2,a3,a4⟩:=h.at_ hne
  by_cases h2:cnt L ps lev=s.2.2
  ·rw [if_pos h2]
   refine ⟨fun x hx=>?_,fun _=>by simp [a1,a3,h2],fun x hx he=>?_⟩
   ·simp only [List.mem_append,List.mem_singleton] at hx
    rcases hx with hx | rfl
    ·exact h.le x hx
    ·exact Nat.le_of_eq h2.symm
   ·simp only [List.mem_append,List.mem_singleton] at hx
    rcases hx with hx | rfl
    ·have:=h.fst x hx he
     have:=hlt x hx
     exact ⟨by omega,by show x<=lev;omega⟩
    ·have:=hlt _ a1
     exact ⟨by show s.1<=x;omega,Int.le_refl _⟩
  ·rw [if_neg h2]
   refine ⟨fun x hx=>?_,fun _=>by simp [a1,a2,a3,a4],fun x hx he=>?_⟩
   ·simp only [List.mem_append,List.mem_singleton] at hx
    rcases hx with hx | rfl
    ·exact h.le x hx
    ·omega
   ·simp only [List.mem_append,List.mem_singleton] at hx
    rcases hx with hx | rfl
    ·exact h.fst x hx he
    ·exact absurd he h2
theorem shI_go {L:List Int} {ps:List PI}:∀ (todo done:List Int) (s:S3),ShI L ps done s->(done=[]->ps.length<s.2.2)->(done++todo).Pairwise (· < ·)->ShI L ps (done++todo) (todo.foldl (stp L ps) s)
 | [],done,s,h,_,_=>by simpa using h
 | lev::todo,done,s,h,h0,hp=>by
  have:=shI_go todo (done++[lev]) (stp L ps s lev) (shI_step h h0 fun x hx=>(List.pairwise_append.1 hp).2.2 x hx lev (by simp)) (by simp) (by simpa using hp)
  simpa using this
theorem sh3_spec {L:List Int} {ps:List PI} (h:ps.length<=L.length):ShI L ps levels (sh3 L ps):=by
 have:=shI_go (L:=L) (ps:=ps) levels [] (0,0,L.length+1) ⟨by simp,by simp,by simp⟩ (fun _=>by show ps.length<L.length+1;omega) (by decide)
 rw [List.nil_append] at this
 exact this
theorem mem_levels {x:Int}:x ∈ levels ↔ -1<=x/\x<=9:=by
 simp only [levels,List.mem_cons,List.not_mem_nil,or_false];omega
theorem shown_bd {L:List Int} {ps:List PI} (h:ps.length<=L.length) : -1<=(shown L ps).1/\(shown L ps).1<=(shown L ps).2/\(shown L ps).2<=9:=by
 have hs:=sh3_spec h
 unfold shown
 generalize sh3 L ps=s at hs
 obtain ⟨a1,a2,a3,a4⟩:=hs.at_ (by decide)
 have h1:=mem_levels.1 a1
 exact ⟨h1.1,(hs.fst _ a1 a3).2,(mem_levels.1 a2).2⟩
theorem sub_len:∀ (l m:List Int),l.Nodup->(∀ x ∈ l,x ∈ m)->l.length<=m.length
 | [],m,_,_=>by simp
 | a::l,m,hn,h=>by
  have h1:=List.nodup_cons.1 hn
  have ha:=h a (by simp)
  have:=sub_len l (m.erase a) h1.2 fun x hx=>(List.mem_erase_of_ne (fun e=>h1.1 (by rw [<-e];exact hx))).2 (h x (by simp [hx]))
  rw [List.length_erase_of_mem ha] at this
  have:=List.length_pos_of_mem ha
  simp;omega
theorem nums_nodup (k:Nat):(nums k).Nodup:=by
 unfold nums
 rw [List.nodup_iff_pairwise_ne,List.pairwise_map]
 exact List.nodup_range.imp fun h e=>h (Int.ofNat.inj e)
theorem mem_nums {k:Nat} {x:Int}:x ∈ nums k ↔ 0<=x/\x<k:=by
 unfold nums
 rw [List.mem_map]
 constructor
 ·rintro ⟨n,hn,rfl⟩
  have:=List.mem_range.1 hn
  exact ⟨Int.natCast_nonneg n,Int.ofNat_lt.2 this⟩
 ·rintro ⟨h1,h2⟩
  exact ⟨x.toNat,List.mem_range.2 (by omega),by show (x.toNat:Int)=x;omega⟩
theorem isIn_iff {ps:List PI} {n:Int}:isIn ps n=true ↔ n ∈ ps.map (·.1):=by
 simp only [isIn,List.any_eq_true,List.mem_map,beq_iff_eq]
theorem mem_left {L:List Int} {ps:List PI} {x:Int}:x ∈ leftL L ps ↔ (0<=x/\x<L.length)/\isIn ps x=false:=by
 simp [leftL,mem_nums]
theorem left_ne {L:List Int} {ps:List PI} (h:ps.length<L.length):leftL L ps ≠ []:=by
 intro e
 have:=sub_len (nums L.length) (ps.map (·.1)) (nums_nodup _) fun x hx=>by
  refine Classical.byContradiction fun hc=>?_
  have:x ∈ leftL L ps:=mem_left.2 ⟨mem_nums.1 hx,by
   cases hi:isIn ps x with
   | false=>rfl
   | true=>exact absurd (isIn_iff.1 hi) hc⟩
  rw [e] at this;cases this
 simp [nums] at this
 omega
theorem foldl_min_mem (c:Int->Int->Int):∀ (r:List Int) (m:Int),r.foldl (minStep c) m=m \/ r.foldl (minStep c) m ∈ r
 | [],m=>.inl rfl
 | x::r,m=>by
  rcases foldl_min_mem c r (minStep c m x) with h | h
  ·rw [List.foldl_cons,h]
   unfold minStep
   split
   ·exact .inr (by simp)
   ·exact .inl rfl
  ·exact .inr (by rw [List.foldl_cons];simp [h])
theorem minF_in (c:Int->Int->Int) {l:List Int} (h:l ≠ []):minF c l ∈ l:=by
 cases l with
 | nil=>exact absurd rfl h
 | cons a r =>
  rcases foldl_min_mem c r a with e | e
  ·show r.foldl (minStep c) a ∈ _
   rw [e];simp
  ·exact List.mem_cons_of_mem _ e
theorem next_some {L:List Int} {ps:List PI} (h:ps.length<L.length):∃ x,nextM L ps=some x/\0<=x/\x<L.length/\isIn ps x=false:=by
 have hne:=left_ne h
 have hm:=mem_left.1 (minF_in (cmpM L (shown L ps)) hne)
 refine ⟨minF (cmpM L (shown L ps)) (leftL L ps),?_,hm.1.1,hm.1.2,hm.2⟩
 unfold nextM
 rw [if_neg (by simpa using hne)]
structure RunI (L:List Int) (out:List Int):Prop where
 valid:validB L=true
 nodup:out.Nodup
 rng:∀ x ∈ out,0<=x/\x<L.length
theorem truth_keys (L:List Int) (lev:Int) (out:List Int):(truth L lev out).map (·.1)=out:=by simp [truth,Function.comp_def]
theorem RunI.ok {L out:List Int} (h:RunI L out) (lev:Int):Ok L (truth L lev out):=by
 refine ⟨h.valid,fun p hp=>?_,by rw [truth_keys];exact h.nodup⟩
 obtain ⟨k,hk,rfl⟩:=List.mem_map.1 hp
 have:=h.rng k hk
 refine ⟨this.1,this.2,?_,?_⟩ <;> dsimp only <;> split <;> omega
theorem RunI.step {L out:List Int} (h:RunI L out) (lev:Int) (hl:out.length<L.length):∃ x,nextM L (truth L lev out)=some x/\0<=x/\x<L.length/\x ∉ out/\RunI L (out++[x]):=by
 obtain ⟨x,h1,h2,h3,h4⟩:=next_some (L:=L) (ps:=truth L lev out) (by simpa [truth] using hl)
 have h5:x ∉ out:=fun hm=>by
  have:=isIn_iff.2 (show x ∈ (truth L lev out).map (·.1) by rw [truth_keys];exact hm)
  rw [h4] at this;cases this
 refine ⟨x,h1,h2,h3,h5,h.valid,?_,fun y hy=>?_⟩
 ·exact List.nodup_append.2 ⟨h.nodup,by simp,fun a ha b hb=>by
   obtain rfl:=List.mem_singleton.1 hb
   exact fun e=>h5 (e ▸ ha)⟩
 ·rcases List.mem_append.1 hy with hy | hy
  ·exact h.rng y hy
  ·obtain rfl:=List.mem_singleton.1 hy
   exact ⟨h2,h3⟩
theorem truth_snoc (L:List Int) (lev:Int) (out:List Int) (x:Int):truth L lev (out++[x])=truth L lev out++[(x,if lv L x<=lev then 1 else 0)]:=by simp [truth]
theorem runGo_len (L:List Int) (lev:Int):∀ (k:Nat) (out:List Int),(runGo L lev k out).length=out.length+k
 | 0,out=>rfl
 | k+1,out=>by rw [runGo,runGo_len L lev k];simp;omega
theorem levels_step:∀ k,k<11->levels.take (k+1)=levels.take k++[-1+(k:Int)]:=by decide
def aroundL (n most:Int):Int:=if most<1 then 0 else (if n<0 then -(n+1) else n) % most
theorem aroundL_bd (n most:Int) (h:1<=most):0<=aroundL n most/\aroundL n most<most:=by
 unfold aroundL
 rw [if_neg (by omega)]
 exact ⟨Int.emod_nonneg _ (by omega),Int.emod_lt_of_pos _ (by omega)⟩
def atL (l:List Int) (i most:Int):Int:=if i<0 then 0 else match l[i.toNat]? with
 | some x=>aroundL x most
 | none=>0
theorem atL_bd (l:List Int) (i most:Int) (h:1<=most):0<=atL l i most/\atL l i most<most:=by
 unfold atL
 split
 ·omega
 ·split
  ·exact aroundL_bd _ _ h
  ·omega
def levK (l:List Int) (k:Nat):List Int:=(List.range k).map fun i:Nat=>atL l (1+(i:Int)) 10
def levelsM (l:List Int):List Int:=levK l (atL l 0 21).toNat
theorem levK_step (l:List Int) (k:Nat):levK l (k+1)=levK l k++[atL l (1+(k:Int)) 10]:=by
 simp [levK,List.range_succ]
theorem levK_len (l:List Int) (k:Nat):(levK l k).length=k:=by simp [levK]
theorem levels_len (l:List Int):(levelsM l).length<=20:=by
 have:=atL_bd l 0 21 (by omega)
 unfold levelsM
 rw [levK_len];omega
def someS (L:List Int) (out:List Int) (x:Int):List Int:=if out.contains (aroundL x L.length) then out else out++[aroundL x L.length]
def someM (L:List Int) (m:List Int):List Int:=if L.length=0 then [] else m.foldl (someS L) []
structure SomeI (L out:List Int):Prop where
 nodup:out.Nodup
 rng:∀ x ∈ out,0<=x/\x<L.length
theorem SomeI.len {L out:List Int} (h:SomeI L out):out.length<=L.length:=nodup_le L.length out h.nodup h.rng
theorem SomeI.step {L out:List Int} (h:SomeI L out) (hL:0<L.length) (x:Int):SomeI L (someS L out x):=by
 unfold someS
 split
 ·exact h
 ·rename_i hc
  have hb:=aroundL_bd x L.length (by omega)
  refine ⟨List.nodup_append.2 ⟨h.nodup,by simp,fun a ha b hb=>?_⟩,fun y hy=>?_⟩
  ·obtain rfl:=List.mem_singleton.1 hb
   rintro rfl
   exact hc (by simpa using ha)
  ·rcases List.mem_append.1 hy with hy | hy
   ·exact h.rng y hy
   ·obtain rfl:=List.mem_singleton.1 hy
    exact hb
theorem some_I (L m:List Int):SomeI L (someM L m):=by
 unfold someM
 split
 ·exact ⟨by simp,by simp⟩
 ·have key:∀ (m out:List Int),SomeI L out->SomeI L (m.foldl (someS L) out):=by
   intro m
   induction m with
   | nil=>intro out h;exact h
   | cons a r ih=>intro out h;exact ih _ (h.step (by omega) a)
  exact key m [] ⟨by simp,by simp⟩
end A42
namespace Go.Proofs.Ytdadmhahbeehhaa
open Go.RowKit Dak A42
attribute [go_sem_proc] Nat.reduceLT Nat.reduceEqDiff Nat.reduceAdd Nat.reduceSub Nat.reduceMul Nat.reducePow Nat.reduceLeDiff reduceCtorEq Int.reduceToNat
attribute [go_sem_proc ↓] reduceIte
theorem _root_.Dak.WkE.kp [Globs] {n:Nat} {env env':List (Nat × AV)} {objs:List AObj} (h:Agree env env':=by simp only [go_sem];try trivial):WkE n ⟨env,objs⟩ ⟨env',objs⟩:=WkE.keep h
instance:Globs:=⟨fun _=>[]⟩
def I64 (n:Int):Prop:=-9223372036854775808<=n/\n<=9223372036854775807
abbrev vi (n:Int):AV:=.val (.int .i64 n)
abbrev vb (b:Bool):AV:=.val (.bool b)
abbrev vints (l:List Int):AV:=.list 1 (l.map vi)
abbrev vbank (l:List Int):AV:=.agg [vints l]
theorem wrap_id {n:Int} (h1 : -9223372036854775808<=n) (h2:n<=9223372036854775807):IntKind.i64.wrap n=n:=by rw [IntKind.wrap_i64];omega
theorem wrap_s (k:Nat) (h:k<=9223372036854775806):IntKind.i64.wrap ((k:Int)+1)=((k+1:Nat):Int):=by rw [wrap_id (by omega) (by omega)];omega
def idxGo {α : Type} (p : α->Bool):List α->Nat->Int
 | [],_=>-1
 | x::r,k=>if p x=true then k else idxGo p r (k+1)
theorem idxGo_any {α : Type} (p : α->Bool):∀ (l:List α) (k:Nat),decide (0<=idxGo p l k)=l.any p
 | [],_=>rfl
 | x::r,k=>by
  rw [idxGo]
  cases h:p x with
  | true=>simp [h]
  | false=>rw [if_neg (by simp),idxGo_any p r (k+1)];simp [h]
theorem isT_clo {fn:Fn} {caps:List AV} (h:(caps.all AV.isT1)=true):(AV.clo fn caps).isT=true:=h
theorem isT1s {caps:List AV} (h:(caps.all AV.isT1)=true):(caps.all AV.isT)=true:=List.all_eq_true.2 fun x hx=>isT1_isT (List.all_eq_true.1 h x hx)
theorem IndexFunc40_s (g:FuncId) (caps:List AV) (hcap:(caps.all AV.isT1)=true) (p:Int->Bool) (l:List (Int)) (hl:l.length<=9223372036854775806) (hp:∀ x ∈ l,Ctr Try.lprog g (vi x::caps) (vb (p x))):Ctr Try.lprog 40 [.list 1 (l.map vi),.clo (.func g) caps] (vi (idxGo p l 0)):=by
 refine specC f40 (by simp) fun F0 w0=>?_
 unfold c40
 refine CwpE.cut (st:=⟨[(0,.list 1 (l.map vi)),(1,.clo (.func g) caps)],[]⟩) ?_ ?_
 ·simp only [go_sem]
  exact ⟨_,WkE.kp,rfl⟩
 refine CwpE.step (fun s=>idxGo p l 0 = -1/\s=⟨[],[]⟩) ?_ ?_
 rotate_left
 ·rintro s ⟨h,rfl⟩
  rw [h]
  refine CwpE.vc ?_
  simp only [go_sem]
  exact .tree _ rfl
 simp only [go_sem]
 refine loopX 0 (fun m s=>∃ k:Nat,m=l.length-k/\k<=l.length/\idxGo p l 0=idxGo p (l.drop k) k/\s=⟨[(0,.list 1 (l.map vi)),(1,.clo (.func g) caps),(7,vi l.length),(8,vi k)],[]⟩)
  (fun s=>idxGo p l 0 = -1/\s=⟨[],[]⟩) l.length
  ⟨[(0,.list 1 (l.map vi)),(1,.clo (.func g) caps),(7,vi l.length),(8,vi (0:Nat))],[]⟩ (WkE.keep (by simp only [go_sem];rfl)) ⟨0,by omega,by omega,rfl,rfl⟩ ?_ ?_
 rotate_left
 ·rintro s ⟨h,rfl⟩
  simp only [go_sem]
  exact ⟨_,.refl _ _,h,rfl⟩
 rintro m s ⟨k,rfl,hk,hi,rfl⟩
 by_cases hlt:k<l.length
 ·have g1:(k:Int)<(l.length:Int):=by omega
  have g0:(0:Int)<=(k:Int):=by omega
  have w1:IntKind.i64.wrap ((k:Int)+1)=((k+1:Nat):Int):=by rw [wrap_id (by omega) (by omega)];omega
  rw [List.drop_eq_getElem_cons hlt,idxGo] at hi
  simp only [go_sem,g1,g0,List.getElem?_map,List.getElem?_eq_getElem hlt]
  refine callCN (hp l[k] (List.getElem_mem hlt)) (snaps_self (vi l[k]::caps) (by simp only [List.all_cons,isT1s hcap,Bool.and_true];rfl) _) ?_
  cases hb:p l[k] with
  | true =>
   rw [if_pos hb] at hi
   rw [hi]
   simp only [go_sem]
   exact .tree _ rfl
  | false =>
   rw [if_neg (by rw [hb];simp)] at hi
   simp only [go_sem,w1]
   exact ⟨l.length-(k+1),⟨[(0,.list 1 (l.map vi)),(1,.clo (.func g) caps),(7,vi l.length),(8,vi (k+1:Nat))],[]⟩,by omega,WkE.kp,k+1,rfl,by omega,hi,rfl⟩
 ·have g1:¬ (k:Int)<(l.length:Int):=by omega
  rw [List.drop_eq_nil_of_le (by omega),idxGo] at hi
  simp only [go_sem,g1]
  exact ⟨⟨[],[]⟩,WkE.keep trivial,hi,rfl⟩
theorem ContainsFunc38_s (g:FuncId) (caps:List AV) (hcap:(caps.all AV.isT1)=true) (p:Int->Bool) (l:List (Int)) (hl:l.length<=9223372036854775806) (hp:∀ x ∈ l,Ctr Try.lprog g (vi x::caps) (vb (p x))):Ctr Try.lprog 38 [.list 1 (l.map vi),.clo (.func g) caps] (vb (l.any p)):=by
 refine specE f38 (by simp) fun F0 w0=>?_
 simp only [c38,go_sem,↓reduceIte,reduceCtorEq,Nat.reduceLT,Nat.reduceEqDiff]
 refine callN (IndexFunc40_s g caps hcap p l hl hp) (snaps_self [.list 1 (l.map vi),.clo (.func g) caps] (by simp only [List.all_cons,List.all_nil,Bool.and_true];exact Bool.and_eq_true_iff.2 ⟨rfl,isT_clo hcap⟩) _) ?_
 simp only [go_sem]
 rw [idxGo_any]
 exact .tree _ rfl
theorem Around_s (n most:Int) (hn:I64 n) (hm:I64 most):Ctr Try.lprog 17 [vi n,vi most] (vi (aroundL n most)):=by
 obtain ⟨h1,h2⟩:=hn
 obtain ⟨h3,h4⟩:=hm
 refine specE f17 (by simp) fun F0 w0=>?_
 by_cases a:n<0
 ·have e1:IntKind.i64.wrap (n+1)=n+1:=wrap_id (by omega) (by omega)
  have e2:IntKind.i64.wrap (0-(n+1)) = -(n+1):=by rw [wrap_id (by omega) (by omega)];omega
  by_cases b:most<1
  ·simp only [c17,go_sem,↓reduceIte,reduceCtorEq,Nat.reduceLT,Nat.reduceEqDiff,a,b,e1,e2]
   simp only [aroundL,b,if_true]
   exact .tree _ rfl
  ·have b0:¬ most=0:=by omega
   simp only [c17,go_sem,↓reduceIte,reduceCtorEq,Nat.reduceLT,Nat.reduceEqDiff,a,b,e1,e2,b0]
   have:(-(n+1)).tmod most=aroundL n most:=by
    simp only [aroundL,a,b,if_true,if_false]
    rw [Int.tmod_eq_emod_of_nonneg (by omega)]
   rw [this]
   exact .tree _ rfl
 ·by_cases b:most<1
  ·simp only [c17,go_sem,↓reduceIte,reduceCtorEq,Nat.reduceLT,Nat.reduceEqDiff,a,b]
   simp only [aroundL,b,if_true]
   exact .tree _ rfl
  ·have b0:¬ most=0:=by omega
   simp only [c17,go_sem,↓reduceIte,reduceCtorEq,Nat.reduceLT,Nat.reduceEqDiff,a,b,b0]
   have:n.tmod most=aroundL n most:=by
    simp only [aroundL,a,b,if_false]
    rw [Int.tmod_eq_emod_of_nonneg (by omega)]
   rw [this]
   exact .tree _ rfl
theorem At_s (l:List Int) (i most:Int) (hl:∀ x ∈ l,I64 x) (hm:I64 most):Ctr Try.lprog 22 [vints l,vi i,vi most] (vi (atL l i most)):=by
 refine specE f22 (by simp) fun F0 w0=>?_
 by_cases a:i<0
 ·simp only [c22,go_sem,↓reduceIte,reduceCtorEq,Nat.reduceLT,Nat.reduceEqDiff,Nat.reduceAdd,a]
  simp only [atL,a,if_true]
  exact .tree _ rfl
 ·by_cases b:(l.length:Int)<=i
  ·simp only [c22,go_sem,↓reduceIte,reduceCtorEq,Nat.reduceLT,Nat.reduceEqDiff,Nat.reduceAdd,a,b,List.length_map]
   have:l[i.toNat]? = none:=by rw [List.getElem?_eq_none];omega
   simp only [atL,a,if_false,this]
   exact .tree _ rfl
  ·have hlt:i.toNat<l.length:=by omega
   have a':0<=i:=by omega
   simp only [c22,go_sem,↓reduceIte,reduceCtorEq,Nat.reduceLT,Nat.reduceEqDiff,Nat.reduceAdd,a,b,a',List.length_map,List.getElem?_map,List.getElem?_eq_getElem hlt]
   refine callF (Around_s _ _ (hl _ (List.getElem_mem _)) hm) (.cons (.tree _ rfl) (.cons (.tree _ rfl) .nil)) rfl ?_
   have:atL l i most=aroundL l[i.toNat] most:=by simp only [atL,a,if_false,List.getElem?_eq_getElem hlt]
   rw [this]
   simp only [go_sem]
   exact .tree _ rfl
theorem takeS_eq {α : Type} {A B:List α} {k:Nat} (h:A.take k=B.take k) (ha:k<A.length) (hb:k<B.length) (he:A[k]=B[k]):A.take (k+1)=B.take (k+1):=by
 rw [List.take_succ_eq_append_getElem ha,List.take_succ_eq_append_getElem hb,h,he]
theorem SameInts_s (A B:List Int) (hA:A.length<=9221772036822775806):Ctr Try.lprog 20 [vints A,vints B] (vb (decide (A=B))):=by
 refine specE f20 (by simp) fun F0 w0=>?_
 by_cases hl:A.length=B.length
 ·have hl':(A.length:Int)=(B.length:Int):=by omega
  simp only [c20,go_sem,↓reduceIte,reduceCtorEq,Nat.reduceLT,Nat.reduceEqDiff,hl']
  refine loopE (fun m s=>∃ k:Nat,m=B.length-k/\k<=B.length/\A.take k=B.take k/\s=⟨[(0,vints A),(1,vints B),(5,vi k)],[]⟩) B.length ⟨[(0,vints A),(1,vints B),(5,vi (0:Nat))],[]⟩ (WkE.keep (by simp [go_sem,↓reduceIte,reduceCtorEq,Nat.reduceEqDiff])) ⟨0,by simp⟩ ?_
  rintro m s ⟨k,rfl,hk,ht,rfl⟩
  by_cases hlt:k<B.length
  ·have hltA:k<A.length:=by omega
   have h1:(k:Int)<(A.length:Int):=by omega
   have h0:(0:Int)<=(k:Int):=by omega
   have hw:IntKind.i64.wrap ((k:Int)+1)=((k+1:Nat):Int):=by rw [wrap_id (by omega) (by omega)];omega
   by_cases he:A[k]=B[k]
   ·simp only [go_sem,h1,h0,List.getElem?_map,List.getElem?_eq_getElem hlt,List.getElem?_eq_getElem hltA,he,hw]
    refine ⟨B.length-(k+1),⟨[(0,vints A),(1,vints B),(5,vi (k+1:Nat))],[]⟩,by omega,WkE.keep (by simp [go_sem,↓reduceIte,reduceCtorEq,Nat.reduceEqDiff]),k+1,rfl,by omega,takeS_eq ht hltA hlt he,rfl⟩
   ·simp only [go_sem,h1,h0,List.getElem?_map,List.getElem?_eq_getElem hlt,List.getElem?_eq_getElem hltA,he]
    have:decide (A=B)=false:=by rw [decide_eq_false_iff_not];rintro rfl;exact he rfl
    rw [this];exact .tree _ rfl
  ·have hkB:k=B.length:=by omega
   have h1:¬ (k:Int)<(A.length:Int):=by omega
   simp only [go_sem,h1]
   have:decide (A=B)=true:=by
    rw [decide_eq_true_eq]
    rw [hkB,List.take_length,<-hl,List.take_length] at ht
    exact ht
   rw [this];exact .tree _ rfl
 ·have hl':¬ (A.length:Int)=(B.length:Int):=by omega
  simp only [c20,go_sem,↓reduceIte,reduceCtorEq,Nat.reduceLT,Nat.reduceEqDiff,hl']
  have:decide (A=B)=false:=by rw [decide_eq_false_iff_not];rintro rfl;exact hl rfl
  rw [this];exact .tree _ rfl
theorem bad39_s (x:Int):Ctr Try.lprog 39 [vi x] (vb (badL x)):=by
 refine specE f39 (by simp) fun F0 w0=>?_
 by_cases a:x<0
 ·simp only [c39,go_sem,↓reduceIte,reduceCtorEq,Nat.reduceLT,Nat.reduceEqDiff,a]
  have:badL x=true:=by simp [badL,a]
  rw [this];exact .tree _ rfl
 ·by_cases b:9<x
  ·simp only [c39,go_sem,↓reduceIte,reduceCtorEq,Nat.reduceLT,Nat.reduceEqDiff,a,b]
   have:badL x=true:=by simp [badL,b]
   rw [this];exact .tree _ rfl
  ·simp only [c39,go_sem,↓reduceIte,reduceCtorEq,Nat.reduceLT,Nat.reduceEqDiff,a,b]
   have:badL x=false:=by simp [badL,a,b]
   rw [this];exact .tree _ rfl
theorem valid_s (L:List Int) (hL:L.length<=9223372036854775806):Ctr Try.lprog 30 [vbank L] (vb (validB L)):=by
 refine specE f30 (by simp) fun F0 w0=>?_
 by_cases a:(L.length:Int)<=256
 ·simp only [c30,go_sem,↓reduceIte,Nat.reduceLT,Nat.reduceEqDiff,List.length_map,a]
  refine callN (ContainsFunc38_s 39 [] rfl badL L hL fun x _=>bad39_s x) (snaps_self [vints L,.clo (.func 39) []] rfl _) ?_
  have a':L.length<=256:=by omega
  have:validB L = !(L.any badL):=by simp [validB,a']
  rw [this]
  simp only [go_sem]
  exact .tree _ rfl
 ·simp only [c30,go_sem,↓reduceIte,Nat.reduceLT,Nat.reduceEqDiff,List.length_map,a]
  have a':¬ L.length<=256:=by omega
  have:validB L=false:=by simp [validB,a']
  rw [this];exact .tree _ rfl
theorem contra_s (x a lev:Int):Ctr Try.lprog 37 [vi x,vi a,vi lev] (vb ((decide (a=1)) != decide (x<=lev))):=by
 refine specE f37 (by simp) fun F0 w0=>?_
 simp only [c37,go_sem,↓reduceIte,reduceCtorEq,Nat.reduceLT,Nat.reduceEqDiff,Nat.reduceAdd]
 exact .tree _ rfl
theorem floor_eq {n:Int} (h : -18<=n):floorM n=(n+18) / 2-9:=by
 unfold floorM
 rw [Int.tdiv_eq_ediv_of_nonneg (by omega)]
theorem floor_s (n:Int) (h : -18<=n) (h2:n<=1000):Ctr Try.lprog 29 [vi n] (vi (floorM n)):=by
 refine specE f29 (by simp) fun F0 w0=>?_
 have e1:IntKind.i64.wrap (n+18)=n+18:=wrap_id (by omega) (by omega)
 have hq:(n+18).tdiv 2=(n+18) / 2:=Int.tdiv_eq_ediv_of_nonneg (by omega)
 have e2:IntKind.i64.wrap ((n+18).tdiv 2)=(n+18).tdiv 2:=wrap_id (by omega) (by omega)
 have e3:IntKind.i64.wrap ((n+18).tdiv 2-9)=(n+18).tdiv 2-9:=wrap_id (by omega) (by omega)
 simp only [c29,go_sem,↓reduceIte,reduceCtorEq,Nat.reduceLT,Int.reduceEq,e1,e2,e3]
 exact .tree _ rfl
theorem or_s (a b c:Int):Ctr Try.lprog 36 [vints [a,b,c]] (vi (or3 a b c)):=by
 refine specE f36 (by simp) fun F0 w0=>?_
 simp only [c36,go_sem,↓reduceIte,reduceCtorEq,Nat.reduceLT,Nat.reduceAdd]
 refine loopE (fun m s=>(m=3/\s=⟨[(3,vi 0),(6,vints [a,b,c]),(7,vi 3),(8,vi 0)],[]⟩) \/ (m=2/\a=0/\s=⟨[(3,vi 0),(6,vints [a,b,c]),(7,vi 3),(8,vi 1)],[]⟩) \/ (m=1/\a=0/\b=0/\s=⟨[(3,vi 0),(6,vints [a,b,c]),(7,vi 3),(8,vi 2)],[]⟩) \/ (m=0/\a=0/\b=0/\c=0/\s=⟨[(3,vi 0),(6,vints [a,b,c]),(7,vi 3),(8,vi 3)],[]⟩)) 3 ⟨[(3,vi 0),(6,vints [a,b,c]),(7,vi 3),(8,vi 0)],[]⟩ (WkE.kp) (.inl ⟨rfl,rfl⟩) ?_
 rintro m s (⟨rfl,rfl⟩ | ⟨rfl,rfl,rfl⟩ | ⟨rfl,rfl,rfl,rfl⟩ | ⟨rfl,rfl,rfl,rfl,rfl⟩)
 ·by_cases h:a=0
  ·subst h
   simp only [go_sem,Int.reduceLT,Int.le_refl]
   exact ⟨2,⟨[(3,vi 0),(6,vints [0,b,c]),(7,vi 3),(8,vi 1)],[]⟩,by omega,WkE.kp,by simp⟩
  ·simp only [go_sem,Int.reduceLT,Int.le_refl,h]
   have:or3 a b c=a:=by simp [or3,h]
   rw [this];exact .tree _ rfl
 ·by_cases h:b=0
  ·subst h
   simp only [go_sem,Int.reduceLT,Int.reduceLE]
   exact ⟨1,⟨[(3,vi 0),(6,vints [0,0,c]),(7,vi 3),(8,vi 2)],[]⟩,by omega,WkE.kp,by simp⟩
  ·simp only [go_sem,Int.reduceLT,Int.reduceLE,h]
   have:or3 0 b c=b:=by simp [or3,h]
   rw [this];exact .tree _ rfl
 ·by_cases h:c=0
  ·subst h
   simp only [go_sem,Int.reduceLT,Int.reduceLE]
   exact ⟨0,⟨[(3,vi 0),(6,vints [0,0,0]),(7,vi 3),(8,vi 3)],[]⟩,by omega,WkE.kp,by simp⟩
  ·simp only [go_sem,Int.reduceLT,Int.reduceLE,h]
   exact .tree _ rfl
 ·simp only [go_sem,Int.lt_irrefl]
  exact .tree _ rfl
abbrev ksOf (ps:List PI):List (MK × Go.Value):=ps.map fun p=>(MK.i p.1,.int .i64 p.2)
abbrev mapO (ps:List PI):AObj:=.arr 1 1 1000000000 [.val (mapV (ksOf ps))]
def conK (L:List Int) (lev:Int):MK × Go.Value->Bool
 | (.i n,.int _ x)=>con L lev (n,x)
 | _=>false
theorem conK_ks (L:List Int) (lev:Int) (ps:List PI):(ksOf ps).countP (conK L lev)=cnt L ps lev:=by
 rw [List.countP_map];rfl
theorem flat_of:∀ {e:List (Nat × AV)},(e.all fun p=>p.2.isT)=true->Flat e
 | [],_=>fun t ht=>.inr rfl
 | (d,x)::e,h=>by
  simp only [List.all_cons,Bool.and_eq_true] at h
  exact flat_cons (flat_of h.2) (.inl h.1)
abbrev envS (L:List Int) (lev f l best c k:Int) (v1 v2:Go.Value):List (Nat × AV) :=
 [(1,.val v1),(24,.val v2),(2,.ptr [vints L]),(6,vi f),(7,vi l),(8,vi best),(10,vi lev),(11,vi c),(18,vi k)]
def InvS (L:List Int) (ps:List PI) (lev f l best k:Int) (v1 v2:Go.Value) (pre:List (MK × Go.Value)) (e:List (Nat × AV)):Prop :=
 Flat e/\pre.length<=ps.length/\Agree e (envS L lev f l best (pre.countP (conK L lev):Nat) k v1 v2)
theorem agree_self (L:List Int) (lev f l best c k:Int) (v1 v2:Go.Value):Agree (envS L lev f l best c k v1 v2) (envS L lev f l best c k v1 v2):=⟨rfl,rfl,rfl,rfl,rfl,rfl,rfl,rfl,rfl,trivial⟩
theorem invS_mk {L:List Int} {ps:List PI} {lev f l best k:Int} {v1 v2:Go.Value} {pre:List (MK × Go.Value)} {c:Int} (h:pre.length<=ps.length) (hc:c=(pre.countP (conK L lev):Nat)):InvS L ps lev f l best k v1 v2 pre (envS L lev f l best c k v1 v2) :=
 ⟨flat_of (by simp only [List.all_cons,List.all_nil,Bool.and_true];rfl),h,by subst hc;exact agree_self _ _ _ _ _ _ _ _ _⟩
set_option maxHeartbeats 2000000 in
theorem level_s (L:List Int) (ps:List PI) (hO:Ok L ps) (G:AObj) (lev f l best k:Int) (FR:FD) (WR:Go.World) :
 CwpE Try.lprog FR WR 55 (mapLoop (.seq (.region [oo 30 (.fieldAddr 0 (T 2)),oo 31 (.load false 1 (T 30)),vv 32 12,oo 33 (.idxS 1 (T 31) (T 32)),oo 34 (.load false 1 (T 33)),vv 35 13,vv 36 10,oo 37 (.call (.func 37) [(T 34),(T 35),(T 36)])])
 (.cond (T 37)
 (.region [vv 38 11,oo 39 (.ibin .add (T 38) (kk 1)),vv 11 39])
 .skip))) (fun e s=>e = .normal/\∃ s',WkE 55 s s'/\s'=⟨[(1,.mref 0 1),(2,.ptr [vints L]),(6,vi f),(7,vi l),(8,vi best),(10,vi lev),(11,vi (cnt L ps lev)),(18,vi k)],[mapO ps,G,.dead]⟩)
  ⟨[(1,.mref 0 1),(2,.ptr [vints L]),(6,vi f),(7,vi l),(8,vi best),(10,vi lev),(11,vi 0),(18,vi k)],[mapO ps,G,.dead]⟩:=by
  have hlen:=hO.len
  have hv:=(valid_iff.1 hO.valid).1
  refine CwpE.rangeM (id:=0) (g:=1) (ks:=ksOf ps) rfl rfl rfl (InvS L ps lev f l best k) (fun _ _ _ _ h=>h.1) (fun v1 v2=>⟨?_,by simp,?_⟩) ?_ (fun v1 v2 pre e h=>?_) ?_
  ·intro t ht
   simp only [lk]
   repeat' split
   all_goals first | exact .inl rfl | exact .inr rfl | exact absurd ‹1=t› ‹¬ 1=t›
  ·simp only [go_sem];try rfl
  ·rintro FR WR v1 v2 pre p e ⟨hf,hpl,hag⟩ hp hlt
   rw [List.length_map] at hlt
   obtain ⟨⟨n,x⟩,hq,rfl⟩:=List.mem_map.1 hp
   obtain ⟨b1,b2,b3,b4⟩:=hO.rng _ hq
   dsimp only at b1 b2 b3 b4
   have hi:(L.map vi)[n.toNat]? = some (vi (lv L n)):=by
    rw [List.getElem?_map,lv_idx b1 b2];rfl
   refine CwpE.wk (s':=⟨(13,vi x)::(12,vi n)::envS L lev f l best (pre.countP (conK L lev):Nat) k v1 v2,[]⟩) (WkE.keep ?_) ?_
   ·obtain ⟨h1,h2,h3,h4,h5,h6,h7,h8,h9,_⟩:=hag
    simp only [go_sem,h1,h2,h3,h4,h5,h6,h7,h8,h9];try trivial
   refine CwpE.vc ?_
   have hc:conK L lev (MK.i n,.int .i64 x)=((decide (x=1)) != decide (lv L n<=lev)):=rfl
   simp only [go_sem,b1,hi]
   refine callT (contra_s _ _ _) rfl ?_
   cases hb:((decide (x=1)) != decide (lv L n<=lev)) with
   | true =>
    have hcl:(pre.countP (conK L lev):Nat)<=pre.length:=List.countP_le_length
    have hw:IntKind.i64.wrap (((pre.countP (conK L lev):Nat):Int)+1)=(((pre++[(MK.i n,Go.Value.int .i64 x)]).countP (conK L lev):Nat):Int):=by
     rw [wrap_s _ (by omega),List.countP_append]
     simp [hc,hb]
    simp only [go_sem,hw]
    exact ⟨_,WkE.keep (env':=envS L lev f l best ((pre++[(MK.i n,Go.Value.int .i64 x)]).countP (conK L lev):Nat) k v1 v2) (by simp only [go_sem];try trivial),invS_mk (by simp;omega) rfl⟩
   | false =>
    have hw:(pre++[(MK.i n,Go.Value.int .i64 x)]).countP (conK L lev)=pre.countP (conK L lev):=by
     rw [List.countP_append]
     simp [hc,hb]
    simp only [go_sem]
    exact ⟨_,WkE.keep (env':=envS L lev f l best (pre.countP (conK L lev):Nat) k v1 v2) (by simp only [go_sem];try trivial),invS_mk (by simp;omega) (by rw [hw])⟩
  ·have:=h.2.2
   exact ⟨this.1,this.2.1⟩
  ·rintro v1 v2 pre e ⟨hf,hpl,hag⟩ hperm
   refine ⟨rfl,_,WkE.keep ?_,rfl⟩
   obtain ⟨h1,h2,h3,h4,h5,h6,h7,h8,h9,_⟩:=hag
   rw [hperm.countP_eq,conK_ks] at h8
   simp only [go_sem,h3,h4,h5,h6,h7,h8,h9];try trivial
theorem levels_step:∀ k,k<11->levels.take (k+1)=levels.take k++[-1+(k:Int)]:=by decide
theorem levels_all:levels.take 11=levels:=rfl
abbrev stS (L:List Int) (ps:List PI) (k:Nat):S3:=(levels.take k).foldl (stp L ps) (0,0,L.length+1)
theorem stS_step (L:List Int) (ps:List PI) {k:Nat} (h:k<11):stS L ps (k+1)=stp L ps (stS L ps k) (-1+(k:Int)):=by
 simp only [stS,levels_step k h,List.foldl_append,List.foldl_cons,List.foldl_nil]
set_option maxHeartbeats 2000000 in
theorem shown_s (L:List Int) (ps:List PI) (hO:Ok L ps):CtrM Try.lprog 28 [vbank L,.mref 0 1] [mapO ps] (.tup [vi (shown L ps).1,vi (shown L ps).2]) [mapO ps]:=by
 have hv:=(valid_iff.1 hO.valid).1
 refine specM f28 (by simp) rfl rfl rfl fun F0 w0 G hG=>?_
 unfold c28
 refine CwpE.cut (st:=⟨[(1,.mref 0 1),(2,.ptr [vints L])],[mapO ps,G,.dead]⟩) ?_ ?_
 ·simp only [go_sem]
  refine ⟨_,(WkE.freezeS 2 2 1 1 30 [vbank L] _ (.ptr [vints L]) (by omega) rfl rfl (.ref _ _ _ _ _ _ rfl rfl fun i h1 h2=>by match i,h1 with | 0,_=>exact .tree _ rfl)).trans (WkE.keep ?_),rfl⟩
  simp only [go_sem];try trivial
 have wl:IntKind.i64.wrap ((L.length:Int)+1)=((L.length+1:Nat):Int):=wrap_s _ (by omega)
 refine CwpE.cut (st:=⟨[(1,.mref 0 1),(2,.ptr [vints L]),(6,vi (stS L ps 0).1),(7,vi (stS L ps 0).2.1),(8,vi ((stS L ps 0).2.2:Nat))],[mapO ps,G,.dead]⟩) ?_ ?_
 ·simp only [go_sem,List.length_map,wl]
  exact ⟨_,WkE.kp,rfl⟩
 refine CwpE.seqJ (fun s=>s=⟨[(6,vi (shown L ps).1),(7,vi (shown L ps).2)],[mapO ps,G,.dead]⟩) ?_ ?_
 rotate_left
 ·rintro _ rfl
  refine CwpE.vc ?_
  simp only [go_sem]
  refine ⟨_,rfl,WkE.round ⟨rfl,trivial⟩ rfl ?_ rfl⟩
  simp only [List.all_cons,List.all_nil,List.length_cons,List.length_nil,hG 2 (by simp),Bool.and_true];rfl
 refine CwpE.cut (st:=⟨[(1,.mref 0 1),(2,.ptr [vints L]),(6,vi (stS L ps 0).1),(7,vi (stS L ps 0).2.1),(8,vi ((stS L ps 0).2.2:Nat)),(18,vi (0:Nat))],[mapO ps,G,.dead]⟩) ?_ ?_
 ·simp only [go_sem]
  exact ⟨_,WkE.kp,rfl⟩
 refine CwpE.block ?_
 refine loopXC 0 (fun m s=>∃ k:Nat,m=11-k/\k<=11/\s=⟨[(1,.mref 0 1),(2,.ptr [vints L]),(6,vi (stS L ps k).1),(7,vi (stS L ps k).2.1),(8,vi ((stS L ps k).2.2:Nat)),(18,vi k)],[mapO ps,G,.dead]⟩)
  (fun s=>s=⟨[(6,vi (shown L ps).1),(7,vi (shown L ps).2)],[mapO ps,G,.dead]⟩) 11 _ (.refl _ _) ⟨0,rfl,by omega,rfl⟩ ?_ ?_
 rotate_left
 ·rintro s rfl
  simp only [inBlockE,if_true]
  exact ⟨_,.refl _ _,rfl⟩
 rintro m s ⟨k,rfl,hk,rfl⟩
 by_cases hlt:k<11
 rotate_left
 ·obtain rfl:k=11:=by omega
  refine CwpE.vc ?_
  have e1:((11:Nat):Int)=11:=rfl
  have e2:stS L ps 11=sh3 L ps:=by simp only [stS,levels_all,sh3]
  have e3:(shown L ps).1=(sh3 L ps).1:=by simp only [shown]
  have e4:(shown L ps).2=(sh3 L ps).2.1:=by simp only [shown]
  rw [e2,e3,e4]
  generalize sh3 L ps=S
  simp only [go_sem,Int.reduceNeg,Int.lt_irrefl,e1]
  exact ⟨⟨[(6,vi S.1),(7,vi S.2.1)],[mapO ps,G,.dead]⟩,WkE.keep ⟨rfl,rfl,trivial⟩,rfl⟩
 have g1:(k:Int)<11:=by omega
 obtain ⟨S,hS⟩:∃ S,stS L ps k=S:=⟨_,rfl⟩
 have hst:=stS_step L ps hlt
 rw [hS] at hst ⊢
 refine CwpE.cut (st:=⟨[(1,.mref 0 1),(2,.ptr [vints L]),(6,vi S.1),(7,vi S.2.1),(8,vi (S.2.2:Nat)),(18,vi k),(19,vb true)],[mapO ps,G,.dead]⟩) ?_ ?_
 ·simp only [go_sem,g1]
  exact ⟨_,WkE.kp,rfl⟩
 refine CwpE.cut (st:=⟨[(1,.mref 0 1),(2,.ptr [vints L]),(6,vi S.1),(7,vi S.2.1),(8,vi (S.2.2:Nat)),(18,vi k)],[mapO ps,G,.dead]⟩) ?_ ?_
 ·simp only [go_sem]
  exact ⟨_,WkE.kp,rfl⟩
 refine CwpE.seqJ (fun s=>s=⟨[(1,.mref 0 1),(2,.ptr [vints L]),(6,vi (stS L ps (k+1)).1),(7,vi (stS L ps (k+1)).2.1),(8,vi ((stS L ps (k+1)).2.2:Nat)),(18,vi k)],[mapO ps,G,.dead]⟩) (CwpE.block ?_) ?_
 rotate_left
 ·rintro _ rfl
  refine CwpE.vc ?_
  have w1:=wrap_s k (by omega)
  simp only [go_sem,w1]
  exact ⟨11-(k+1),_,by omega,WkE.keep (env':=[(1,.mref 0 1),(2,.ptr [vints L]),(6,vi (stS L ps (k+1)).1),(7,vi (stS L ps (k+1)).2.1),(8,vi ((stS L ps (k+1)).2.2:Nat)),(18,vi ((k+1:Nat):Int))]) (by simp only [go_sem];try trivial),k+1,rfl,by omega,rfl⟩
 rw [hst]
 refine CwpE.cut (st:=⟨[(1,.mref 0 1),(2,.ptr [vints L]),(6,vi S.1),(7,vi S.2.1),(8,vi (S.2.2:Nat)),(9,vi k),(18,vi k)],[mapO ps,G,.dead]⟩) ?_ ?_
 ·simp only [go_sem]
  exact ⟨_,WkE.kp,rfl⟩
 have w2:IntKind.i64.wrap (-1+(k:Int)) = -1+(k:Int):=wrap_id (by omega) (by omega)
 generalize hlev : -1+(k:Int)=lev at w2
 refine CwpE.cut (st:=⟨[(1,.mref 0 1),(2,.ptr [vints L]),(6,vi S.1),(7,vi S.2.1),(8,vi (S.2.2:Nat)),(10,vi lev),(11,vi 0),(18,vi k)],[mapO ps,G,.dead]⟩) ?_ ?_
 ·simp only [go_sem,hlev,w2]
  exact ⟨_,WkE.kp,rfl⟩
 refine CwpE.seqJ (fun s=>s=⟨[(1,.mref 0 1),(2,.ptr [vints L]),(6,vi S.1),(7,vi S.2.1),(8,vi (S.2.2:Nat)),(10,vi lev),(11,vi (cnt L ps lev)),(18,vi k)],[mapO ps,G,.dead]⟩)
  ((level_s L ps hO G lev S.1 S.2.1 (S.2.2:Nat) k _ _).mono ?_) ?_
 ·rintro e s ⟨rfl,s',h,rfl⟩
  exact ⟨_,h,rfl⟩
 rintro _ rfl
 refine CwpE.vc ?_
 unfold stp
 by_cases h1:cnt L ps lev<S.2.2
 ·have i1:((cnt L ps lev:Nat):Int)<((S.2.2:Nat):Int):=by omega
  rw [if_pos h1]
  simp only [go_sem,i1]
  exact ⟨_,WkE.kp,rfl⟩
 ·have i1:¬ ((cnt L ps lev:Nat):Int)<((S.2.2:Nat):Int):=by omega
  rw [if_neg h1]
  by_cases h2:cnt L ps lev=S.2.2
  ·rw [if_pos h2]
   have i2:((cnt L ps lev:Nat):Int)=((S.2.2:Nat):Int):=by omega
   simp only [go_sem,i2,Int.lt_irrefl]
   exact ⟨_,WkE.kp,rfl⟩
  ·rw [if_neg h2]
   have i2:¬ ((cnt L ps lev:Nat):Int)=((S.2.2:Nat):Int):=by omega
   simp only [go_sem,i1,i2]
   exact ⟨_,WkE.kp,rfl⟩
theorem kfind_ks (n:Int):∀ (ps:List PI) (i:Nat),(kfind (.i n) (ksOf ps) i).isSome=isIn ps n
 | [],_=>rfl
 | p::ps,i=>by
  simp only [ksOf,List.map_cons,kfind,isIn,List.any_cons]
  by_cases h:n=p.1
  ·subst h;simp
  ·rw [if_neg (by simpa using h)]
   have:=kfind_ks n ps (i+1)
   simp only [ksOf,isIn] at this
   rw [this]
   have:(p.1 == n)=false:=by simpa using fun e=>h e.symm
   rw [this,Bool.false_or]
theorem kget_isSome (ps:List PI) (n:Int):(kget (ksOf ps) (.i n)).isSome=isIn ps n:=by
 rw [kget,Option.isSome_map,kfind_ks]
theorem kget_none {ps:List PI} {n:Int} (h:isIn ps n=false):kget (ksOf ps) (.i n)=none:=by
 have:=kget_isSome ps n
 rw [h] at this
 simpa using this
theorem kget_some {ps:List PI} {n:Int} (h:isIn ps n=true):∃ v,kget (ksOf ps) (.i n)=some v:=by
 have:=kget_isSome ps n
 rw [h] at this
 exact Option.isSome_iff_exists.1 this
theorem kset_new {ps:List PI} {n x:Int} (h:isIn ps n=false):kset (ksOf ps) (.i n) (.int .i64 x)=ksOf (ps++[(n,x)]):=by
 have h1:=kfind_ks n ps 0
 rw [h] at h1
 have h2:kfind (.i n) (ksOf ps) 0=none:=by simpa using h1
 unfold kset
 rw [h2]
 simp [ksOf]
theorem isIn_done (ps:List PI) (n:Int):(ps.map (·.1)).contains n=isIn ps n:=by
 rw [Bool.eq_iff_iff]
 simp [isIn]
abbrev rA (ok:Bool):AV:=if ok=true then .tup [.mref 0 1,vb true] else .tup [.val (.map none),vb false]
abbrev nA (ok:Bool) (ps:List PI):List AObj:=if ok=true then [mapO ps] else []
theorem ren_map (ps:List PI) (o:AObj):Ren (fun k=>if k=0 then 1 else k+1) [mapO ps] [o,mapO ps]:=by
 refine ⟨fun i j hi hj e=>?_,fun i g s e xs h=>?_⟩
 ·match i,j,hi,hj with
  | 0,0,_,_=>rfl
 ·match i,h with
  | 0,h =>
   simp only [List.getElem?_cons_zero,Option.some.injEq,AObj.arr.injEq] at h
   obtain ⟨rfl,rfl,rfl,rfl⟩:=h
   rfl
set_option maxHeartbeats 4000000 in
theorem answers_s (L asked right:List Int) (hL:L.length<=9223372036854775806) (hA:asked.length<=9223372036854775806) (hR:right.length<=9223372036854775806) :
 CtrN Try.lprog 24 [vbank L,vints asked,vints right] (rA (okAns L asked right)) (nA (okAns L asked right) (asked.zip right)):=by
 refine specN f24 (by simp) (by unfold nA;split <;> rfl) (by unfold nA;split <;> rfl) (by unfold nA rA;split <;> rfl) fun F0 w0=>?_
 unfold c24
 refine CwpE.cut (st:=⟨[(1,vints asked),(2,vints right),(3,.ptr [vints L])],[.dead]⟩) ?_ ?_
 ·simp only [go_sem]
  refine ⟨_,(WkE.freezeS 3 0 1 1 30 [vbank L] _ (.ptr [vints L]) (by omega) rfl rfl (.ref _ _ _ _ _ _ rfl rfl fun i h1 h2=>by match i,h1 with | 0,_=>exact .tree _ rfl)).trans (WkE.keep ?_),rfl⟩
  simp only [go_sem];try trivial
 refine CwpE.cut (st:=⟨[(1,vints asked),(2,vints right),(3,.ptr [vints L]),(8,.mref 0 1)],[mapO []]⟩) ?_ ?_
 ·simp only [go_sem]
  exact ⟨_,WkE.rename (env':=[(1,vints asked),(2,vints right),(3,.ptr [vints L]),(8,.mref 0 1)]) (fun k=>if k=0 then 1 else k+1) (ren_map [] .dead) rfl ⟨rfl,rfl,rfl,rfl,rfl,rfl,rfl,rfl,trivial⟩,rfl⟩
 have bad:okAns L asked right=false->∀ objs:List AObj,WkE 1 ⟨[(0,.tup [.val (.map none),vb false])],objs⟩ ⟨[(0,rA (okAns L asked right))],nA (okAns L asked right) (asked.zip right)⟩:=by
  intro h objs
  rw [h]
  exact WkE.round ⟨rfl,trivial⟩ rfl rfl rfl
 by_cases hv:validB L=true
 rotate_left
 ·have hv':validB L=false:=by simpa using hv
  have hno:okAns L asked right=false:=by simp [okAns,hv']
  refine CwpE.vc ?_
  simp only [go_sem]
  refine callT (valid_s L hL) rfl ?_
  simp only [go_sem,hv']
  exact ⟨_,rfl,bad hno _⟩
 by_cases hle:asked.length=right.length
 rotate_left
 ·have hno:okAns L asked right=false:=by simp [okAns,hle]
  have hle':¬ (asked.length:Int)=(right.length:Int):=by omega
  refine CwpE.vc ?_
  simp only [go_sem]
  refine callT (valid_s L hL) rfl ?_
  simp only [go_sem,hv,List.length_map,hle']
  exact ⟨_,rfl,bad hno _⟩
 have hle':(asked.length:Int)=(right.length:Int):=by omega
 have hok:okAns L asked right=okGo L [] (asked.zip right):=by simp [okAns,hv,hle]
 refine CwpE.cut (st:=⟨[(1,vints asked),(2,vints right),(3,.ptr [vints L]),(8,.mref 0 1)],[mapO []]⟩) ?_ ?_
 ·simp only [go_sem]
  refine callT (valid_s L hL) rfl ?_
  simp only [go_sem,hv,List.length_map,hle']
  exact ⟨_,WkE.kp,rfl⟩
 obtain ⟨ps,hps⟩:∃ ps,asked.zip right=ps:=⟨_,rfl⟩
 have hpl:ps.length=asked.length:=by rw [<-hps,List.length_zip];omega
 have hget:∀ k (h:k<asked.length) (h2:k<right.length),ps[k]? = some (asked[k],right[k]):=fun k h h2=>by
  rw [<-hps]
  exact List.getElem?_zip_eq_some.2 ⟨List.getElem?_eq_getElem h,List.getElem?_eq_getElem h2⟩
 rw [hps] at hok bad ⊢
 refine CwpE.step (fun s=>okAns L asked right=true/\s=⟨[(8,.mref 0 1)],[mapO ps]⟩) ?_ ?_
 rotate_left
 ·rintro s ⟨hy,rfl⟩
  rw [hy]
  refine CwpE.vc ?_
  simp only [go_sem]
  exact ⟨_,rfl,WkE.keep ⟨rfl,trivial⟩⟩
 simp only [go_sem]
 refine loopX 0 (fun m s=>∃ k:Nat,m=asked.length-k/\k<=asked.length/\okAns L asked right=okGo L ((ps.take k).map (·.1)) (ps.drop k)/\s=⟨[(1,vints asked),(2,vints right),(3,.ptr [vints L]),(8,.mref 0 1),(24,vints asked),(25,vi asked.length),(26,vi k)],[mapO (ps.take k)]⟩)
  (fun s=>okAns L asked right=true/\s=⟨[(8,.mref 0 1)],[mapO ps]⟩) asked.length _ (WkE.keep (env':=[(1,vints asked),(2,vints right),(3,.ptr [vints L]),(8,.mref 0 1),(24,vints asked),(25,vi asked.length),(26,vi (0:Nat))]) (by simp only [go_sem];try trivial)) ⟨0,rfl,by omega,hok,rfl⟩ ?_ ?_
 rotate_left
 ·rintro s ⟨h,rfl⟩
  simp only [go_sem]
  exact ⟨_,.refl _ _,h,rfl⟩
 rintro m s ⟨k,rfl,hk,hgo,rfl⟩
 by_cases hlt:k<asked.length
 rotate_left
 ·obtain rfl:k=asked.length:=by omega
  rw [List.drop_of_length_le (by omega)] at hgo
  rw [List.take_of_length_le (by omega)]
  simp only [go_sem,Int.lt_irrefl]
  exact ⟨_,WkE.keep (env':=[(8,.mref 0 1)]) (by simp only [go_sem];try trivial),hgo,rfl⟩
 have hltr:k<right.length:=by omega
 have hpk:=hget k hlt hltr
 have hklt:k<ps.length:=by omega
 have hpk':ps[k]=(asked[k],right[k]):=by
  rw [List.getElem?_eq_getElem hklt] at hpk;exact Option.some.inj hpk
 rw [List.drop_eq_getElem_cons hklt,hpk',okGo,isIn_done] at hgo
 have htk:ps.take (k+1)=ps.take k++[(asked[k],right[k])]:=by rw [List.take_succ_eq_append_getElem hklt,hpk']
 have g0:(0:Int)<=(k:Int):=by omega
 have g1:(k:Int)<(asked.length:Int):=by omega
 have g2:(k:Int)<(right.length:Int):=by omega
 have w1:=wrap_s k (by omega)
 generalize hqs:ps.take k=qs at hgo htk
 obtain ⟨n,hn⟩:∃ n,asked[k]=n:=⟨_,rfl⟩
 obtain ⟨x,hx⟩:∃ x,right[k]=x:=⟨_,rfl⟩
 simp only [hn,hx] at hgo htk
 by_cases h1:isIn qs n=true
 ·obtain ⟨v,hv2⟩:=kget_some h1
  have hno:okAns L asked right=false:=by rw [hgo,h1];simp
  simp only [go_sem,g0,g1,List.getElem?_map,List.getElem?_eq_getElem hlt,hn,hv2,Option.isSome_some,Option.getD_some]
  exact ⟨_,rfl,bad hno _⟩
 have h1':isIn qs n=false:=by simpa using h1
 have hkn:=kget_none h1'
 by_cases h2:badP L (n,x)=true
 ·have hno:okAns L asked right=false:=by rw [hgo,h2];simp
  by_cases a1:n<0
  ·simp only [go_sem,g0,g1,List.getElem?_map,List.getElem?_eq_getElem hlt,hn,hkn,Option.isSome_none,Option.getD_none,a1]
   exact ⟨_,rfl,bad hno _⟩
  by_cases a2:(L.length:Int)<=n
  ·simp only [go_sem,g0,g1,List.length_map,List.getElem?_map,List.getElem?_eq_getElem hlt,hn,hkn,Option.isSome_none,Option.getD_none,a1,a2]
   exact ⟨_,rfl,bad hno _⟩
  by_cases a3:x<0
  ·simp only [go_sem,g0,g1,List.length_map,List.getElem?_map,List.getElem?_eq_getElem hlt,List.getElem?_eq_getElem hltr,hn,hx,hkn,Option.isSome_none,Option.getD_none,a1,a2,a3]
   exact ⟨_,rfl,bad hno _⟩
  have a4:1<x:=by simp [badP,a1,a2,a3] at h2;omega
  simp only [go_sem,g0,g1,List.length_map,List.getElem?_map,List.getElem?_eq_getElem hlt,List.getElem?_eq_getElem hltr,hn,hx,hkn,Option.isSome_none,Option.getD_none,a1,a2,a3,a4]
  exact ⟨_,rfl,bad hno _⟩
 have h2':badP L (n,x)=false:=by simpa using h2
 obtain ⟨b1,b2,b3,b4⟩:=badP_iff.1 h2'
 dsimp only at b1 b2 b3 b4
 have a1:¬ n<0:=by omega
 have a2:¬ (L.length:Int)<=n:=by omega
 have a3:¬ x<0:=by omega
 have a4:¬ 1<x:=by omega
 have hks:=kset_new (x:=x) h1'
 rw [<-htk] at hks
 have hgo2:okAns L asked right=okGo L ((ps.take (k+1)).map (·.1)) (ps.drop (k+1)):=by
  rw [hgo,h1',h2',htk];simp
 simp only [go_sem,g0,g1,List.length_map,List.getElem?_map,List.getElem?_eq_getElem hlt,List.getElem?_eq_getElem hltr,hn,hx,hkn,Option.isSome_none,Option.getD_none,a1,a2,a3,a4,hks,w1]
 exact ⟨asked.length-(k+1),_,by omega,WkE.keep (env':=[(1,vints asked),(2,vints right),(3,.ptr [vints L]),(8,.mref 0 1),(24,vints asked),(25,vi asked.length),(26,vi ((k+1:Nat):Int))]) (by simp only [go_sem];try trivial),k+1,rfl,by omega,hgo2,rfl⟩
theorem minF_mem (c:Int->Int->Int) (l:List Int) (P:Int->Prop):∀ (r:List Int) (m:Int),P m->(∀ x ∈ r,P x)->P (r.foldl (minStep c) m)
 | [],m,h,_=>h
 | x::r,m,h,hr=>minF_mem c l P r _ (by unfold minStep;split;exact hr x (by simp);exact h) fun y hy=>hr y (by simp [hy])
theorem MinFunc_s (g:FuncId) (caps:List AV) (hcap:(caps.all AV.isT1)=true) (c:Int->Int->Int) (a:Int) (r:List Int) (hl:r.length<=1000000) (P:Int->Prop) (ha:P a) (hr:∀ x ∈ r,P x) (hp:∀ x y,P x->P y->Ctr Try.lprog g (vi x::vi y::caps) (vi (c x y))) :
 Ctr Try.lprog 34 [vints (a::r),.clo (.func g) caps] (vi (minF c (a::r))):=by
 refine specC f34 (by simp) fun F0 w0=>?_
 unfold c34
 have e0:((r.length+1:Nat):Int)=(r.length:Int)+1:=by omega
 have g3:¬ (r.length:Int)+1<1:=by omega
 refine CwpE.cut (st:=⟨[(0,vints (a::r)),(1,.clo (.func g) caps)],[]⟩) ?_ ?_
 ·simp only [go_sem]
  exact ⟨_,WkE.kp,rfl⟩
 refine CwpE.cut (st:=⟨[(0,vints (a::r)),(1,.clo (.func g) caps)],[]⟩) ?_ ?_
 ·simp only [go_sem,List.length_cons,List.length_map,e0,g3]
  exact ⟨_,WkE.kp,rfl⟩
 refine CwpE.cut (st:=⟨[(0,vints (a::r)),(1,.clo (.func g) caps),(5,vi a)],[]⟩) ?_ ?_
 ·simp only [go_sem,Int.le_refl]
  exact ⟨_,WkE.kp,rfl⟩
 refine CwpE.step (fun s=>s=⟨[(5,vi (minF c (a::r)))],[]⟩) ?_ ?_
 rotate_left
 ·rintro s rfl
  refine CwpE.vc ?_
  simp only [go_sem]
  exact .tree _ rfl
 simp only [go_sem]
 refine loopX 0 (fun m s=>∃ k:Nat,m=r.length-k/\k<=r.length/\s=⟨[(0,vints (a::r)),(1,.clo (.func g) caps),(5,vi ((r.take k).foldl (minStep c) a)),(6,vi ((k+1:Nat):Int))],[]⟩)
  (fun s=>s=⟨[(5,vi (minF c (a::r)))],[]⟩) r.length _ (WkE.keep (env':=[(0,vints (a::r)),(1,.clo (.func g) caps),(5,vi a),(6,vi 1)]) (by simp only [go_sem];try trivial)) ⟨0,rfl,by omega,rfl⟩ ?_ ?_
 rotate_left
 ·rintro s rfl
  simp only [go_sem]
  exact ⟨_,.refl _ _,rfl⟩
 rintro m s ⟨k,rfl,hk,rfl⟩
 obtain ⟨b,hb⟩:∃ b,(r.take k).foldl (minStep c) a=b:=⟨_,rfl⟩
 rw [hb]
 by_cases hlt:k<r.length
 ·have g1:((k+1:Nat):Int)<(r.length:Int)+1:=by omega
  have g0:(0:Int)<=((k+1:Nat):Int):=by omega
  have w1:=wrap_s (k+1) (by omega)
  have hi:(vi a::r.map vi)[(((k+1:Nat):Int)).toNat]? = some (vi r[k]):=by
   rw [Int.toNat_natCast,List.getElem?_cons_succ,List.getElem?_map,List.getElem?_eq_getElem hlt];rfl
  have hPb:P b:=by rw [<-hb];exact minF_mem c r P _ _ ha fun x hx=>hr x (List.mem_of_mem_take hx)
  have hst:(r.take (k+1)).foldl (minStep c) a=minStep c b r[k]:=by
   rw [List.take_succ_eq_append_getElem hlt,List.foldl_append,hb];rfl
  simp only [go_sem,List.length_cons,List.length_map,e0,g1,g0,List.getElem?_map,List.getElem?_eq_getElem hlt]
  refine callCN (args:=[vi r[k],vi b]) (cap:=caps) (hp r[k] b (hr _ (List.getElem_mem hlt)) hPb) (snaps_self (vi r[k]::vi b::caps) (by simp only [List.all_cons,isT1s hcap,Bool.and_true];rfl) _) ?_
  by_cases hc:c r[k] b<0
  ·simp only [go_sem,hc,g0,w1,List.getElem?_map,List.getElem?_eq_getElem hlt]
   exact ⟨r.length-(k+1),_,by omega,WkE.keep (env':=[(0,vints (a::r)),(1,.clo (.func g) caps),(5,vi r[k]),(6,vi ((k+1+1:Nat):Int))]) (by simp only [go_sem];try trivial),k+1,rfl,by omega,by rw [hst,minStep,if_pos hc]⟩
  ·simp only [go_sem,hc,w1]
   exact ⟨r.length-(k+1),_,by omega,WkE.keep (env':=[(0,vints (a::r)),(1,.clo (.func g) caps),(5,vi b),(6,vi ((k+1+1:Nat):Int))]) (by simp only [go_sem];try trivial),k+1,rfl,by omega,by rw [hst,minStep,if_neg hc]⟩
 ·obtain rfl:k=r.length:=by omega
  have g1:¬ ((r.length+1:Nat):Int)<(r.length:Int)+1:=by omega
  rw [List.take_length] at hb
  simp only [go_sem,List.length_cons,List.length_map,e0,Int.lt_irrefl]
  exact ⟨_,WkE.keep (env':=[(5,vi b)]) (by simp only [go_sem];try trivial),by rw [<-hb];rfl⟩
theorem far_s (L:List Int) (f l n:Int) (hv:validB L=true) (hf : -1<=f/\f<=9) (hl : -1<=l/\l<=9) (h0:0<=n) (h1:n<L.length):Ctr Try.lprog 33 [vi n,.ptr [vints L],.ptr [vi f],.ptr [vi l]] (vi (far L (f,l) n)):=by
 refine specE f33 (by simp) fun F0 w0=>?_
 have hi:(L.map vi)[n.toNat]? = some (vi (lv L n)):=by rw [List.getElem?_map,lv_idx h0 h1];rfl
 have hb:=lv_bd hv n
 have e1:IntKind.i64.wrap (2*lv L n)=2*lv L n:=wrap_id (by omega) (by omega)
 have e2:IntKind.i64.wrap (f+l)=f+l:=wrap_id (by omega) (by omega)
 have e3:IntKind.i64.wrap (f+l+1)=f+l+1:=wrap_id (by omega) (by omega)
 have e4:IntKind.i64.wrap (2*lv L n-(f+l+1))=2*lv L n-(f+l+1):=wrap_id (by omega) (by omega)
 have e5:IntKind.i64.wrap (0-(2*lv L n-(f+l+1))) = -(2*lv L n-(f+l+1)):=by rw [wrap_id (by omega) (by omega)];omega
 simp only [c33,go_sem,↓reduceIte,reduceCtorEq,Nat.reduceLT,Nat.reduceEqDiff,Nat.reduceAdd,h0,hi,e1,e2,e3,e4,e5]
 have:(if 2*lv L n-(f+l+1) < -(2*lv L n-(f+l+1)) then -(2*lv L n-(f+l+1)) else 2*lv L n-(f+l+1))=far L (f,l) n:=by
  unfold far;dsimp only;split <;> omega
 rw [this]
 exact .tree _ rfl
abbrev farC (L:List Int) (f l:Int):AV:=.ptr [.clo (.func 33) [.ptr [vints L],.ptr [vi f],.ptr [vi l]]]
theorem cmp_s (L:List Int) (f l n m:Int) (hv:validB L=true) (hf : -1<=f/\f<=9) (hl : -1<=l/\l<=9) (h0:0<=n) (h1:n<L.length) (m0:0<=m) (m1:m<L.length) :
 Ctr Try.lprog 35 [vi n,vi m,farC L f l,.ptr [vints L]] (vi (cmpM L (f,l) n m)):=by
 have hLl:=(valid_iff.1 hv).1
 refine specE f35 (by simp) fun F0 w0=>?_
 have hi:(L.map vi)[n.toNat]? = some (vi (lv L n)):=by rw [List.getElem?_map,lv_idx h0 h1];rfl
 have hj:(L.map vi)[m.toNat]? = some (vi (lv L m)):=by rw [List.getElem?_map,lv_idx m0 m1];rfl
 have hb:=lv_bd hv n
 have hb2:=lv_bd hv m
 have fb:∀ k,-100<=far L (f,l) k/\far L (f,l) k<=100:=fun k=>by
  have:=lv_bd hv k
  unfold far;dsimp only;omega
 have f1:=fb n
 have f2:=fb m
 have e1:IntKind.i64.wrap (far L (f,l) n-far L (f,l) m)=far L (f,l) n-far L (f,l) m:=wrap_id (by omega) (by omega)
 have e2:IntKind.i64.wrap (lv L n-lv L m)=lv L n-lv L m:=wrap_id (by omega) (by omega)
 have e3:IntKind.i64.wrap (n-m)=n-m:=wrap_id (by omega) (by omega)
 simp only [c35,go_sem,↓reduceIte,reduceCtorEq,Nat.reduceLT,Nat.reduceEqDiff,Nat.reduceAdd,h0,m0,hi,hj,e2,e3]
 refine callCN (args:=[vi n]) (cap:=[.ptr [vints L],.ptr [vi f],.ptr [vi l]]) (far_s L f l n hv hf hl h0 h1) (snaps_self [vi n,.ptr [vints L],.ptr [vi f],.ptr [vi l]] rfl _) ?_
 simp only [go_sem,h0,m0,hi,hj,e2,e3]
 refine callCN (args:=[vi m]) (cap:=[.ptr [vints L],.ptr [vi f],.ptr [vi l]]) (far_s L f l m hv hf hl m0 m1) (snaps_self [vi m,.ptr [vints L],.ptr [vi f],.ptr [vi l]] rfl _) ?_
 simp only [go_sem,h0,m0,hi,hj,e1,e2,e3]
 refine callT (or_s _ _ _) rfl ?_
 simp only [go_sem]
 exact .tree _ rfl
abbrev rN:Option Int->AV
 | some n=>.tup [vi n,vb true]
 | none=>.tup [vi 0,vb false]
theorem snapInts {objs:List AObj} (id n:Nat) (l:List Int) (ho:objs[id]? = some (.arr n 1 3 (l.map vi))) (hn:n=l.length):Snap objs (.own id n 0 n) (vints l) :=
 .own id n 0 n 1 3 (l.map vi) (l.map vi) ho (by simp [hn]) (by simp [hn]) (fun i h=>by simp only [Nat.zero_add,List.getElem_map];exact .tree _ rfl)
def leftK (ps:List PI) (k:Nat):List Int:=(nums k).filter fun n=>!(isIn ps n)
theorem leftK_step (ps:List PI) (k:Nat):leftK ps (k+1)=if isIn ps (k:Int)=true then leftK ps k else leftK ps k++[(k:Int)]:=by
 have e:nums (k+1)=nums k++[(k:Int)]:=by simp [nums,List.range_succ]
 unfold leftK
 rw [e,List.filter_append]
 cases h:isIn ps (k:Int) <;> simp [h]
theorem leftK_len (ps:List PI) (k:Nat):(leftK ps k).length<=k:=by
 have:=List.length_filter_le (fun n=>!(isIn ps n)) (nums k)
 simpa [nums,leftK] using this
theorem leftK_rng {ps:List PI} {k:Nat} {x:Int} (h:x ∈ leftK ps k):0<=x/\x<k:=by
 have h1:=(List.mem_filter.1 h).1
 obtain ⟨n,hn,rfl⟩:=List.mem_map.1 h1
 have:=List.mem_range.1 hn
 exact ⟨Int.natCast_nonneg n,Int.ofNat_lt.2 this⟩
set_option maxHeartbeats 4000000 in
theorem next_s (L:List Int) (ps:List PI) (hO:Ok L ps):CtrM Try.lprog 25 [vbank L,.mref 0 1] [mapO ps] (rN (nextM L ps)) [mapO ps]:=by
 have hv:=(valid_iff.1 hO.valid).1
 have hsb:=shown_bd hO.len
 have hlk:leftL L ps=leftK ps L.length:=rfl
 refine specM f25 (by simp) rfl rfl (by cases nextM L ps <;> rfl) fun F0 w0 G hG=>?_
 have out:∀ objs:List AObj,WkE 1 ⟨[(0,rN (nextM L ps))],mapO ps::G::objs⟩ ⟨[(0,rN (nextM L ps))],[mapO ps]++[G]⟩:=by
  intro objs
  refine WkE.round ⟨rfl,trivial⟩ (by cases nextM L ps <;> rfl) ?_ rfl
  simp only [List.cons_append,List.nil_append,List.all_cons,List.all_nil,List.length_cons,List.length_nil,hG 2 (by simp),Bool.and_true];rfl
 obtain ⟨f,hf⟩:∃ f,(shown L ps).1=f:=⟨_,rfl⟩
 obtain ⟨l,hl⟩:∃ l,(shown L ps).2=l:=⟨_,rfl⟩
 have hsh:shown L ps=(f,l):=by rw [<-hf,<-hl]
 rw [hf,hl] at hsb
 unfold c25
 refine CwpE.cut (st:=⟨[(1,.mref 0 1),(2,.ptr [vints L])],[mapO ps,G,.dead]⟩) ?_ ?_
 ·simp only [go_sem]
  refine ⟨_,(WkE.freezeS 2 2 1 1 30 [vbank L] _ (.ptr [vints L]) (by omega) rfl rfl (.ref _ _ _ _ _ _ rfl rfl fun i h1 h2=>by match i,h1 with | 0,_=>exact .tree _ rfl)).trans (WkE.keep ?_),rfl⟩
  simp only [go_sem];try trivial
 refine CwpE.cut (st:=⟨[(1,.mref 0 1),(2,.ptr [vints L]),(6,.ptr [vi f]),(7,.ptr [vi l])],[mapO ps,G,.dead,.dead,.dead]⟩) ?_ ?_
 ·simp only [go_sem]
  refine callM [mapO ps] [G,.dead] [mapO ps] (shown_s L ps hO) rfl rfl rfl ?_
  rw [hf,hl]
  simp only [go_sem]
  refine ⟨_,(WkE.freezeS 6 3 1 1 3 [vi f] _ (.ptr [vi f]) (by omega) rfl rfl (.ref _ _ _ _ _ _ rfl rfl fun i h1 h2=>by match i,h1 with | 0,_=>exact .tree _ rfl)).trans ((WkE.freezeS 7 4 1 1 3 [vi l] _ (.ptr [vi l]) (by omega) rfl rfl (.ref _ _ _ _ _ _ rfl rfl fun i h1 h2=>by match i,h1 with | 0,_=>exact .tree _ rfl)).trans (WkE.keep ?_)),rfl⟩
  simp only [go_sem];try trivial
 refine CwpE.cut (st:=⟨[(1,.mref 0 1),(2,.ptr [vints L]),(8,farC L f l)],[mapO ps,G,.dead,.dead,.dead,.dead]⟩) ?_ ?_
 ·simp only [go_sem]
  refine ⟨_,(WkE.freezeS 8 5 1 1 61 [.clo (.func 33) [.ptr [vints L],.ptr [vi f],.ptr [vi l]]] _ (farC L f l) (by omega) rfl rfl (.ref _ _ _ _ _ _ rfl rfl fun i h1 h2=>by match i,h1 with | 0,_=>exact .tree _ rfl)).trans (WkE.keep ?_),rfl⟩
  simp only [go_sem];try trivial
 refine CwpE.cut (st:=⟨[(1,.mref 0 1),(2,.ptr [vints L]),(8,farC L f l),(9,.own 6 0 0 0)],[mapO ps,G,.dead,.dead,.dead,.dead,.arr 0 1 3 []]⟩) ?_ ?_
 ·simp only [go_sem]
  exact ⟨_,(WkE.nil 9 1 3 (by omega) rfl).trans (WkE.kp),rfl⟩
 obtain ⟨R,hR⟩:∃ R,leftL L ps=R:=⟨_,rfl⟩
 refine CwpE.step (fun s=>s=⟨[(2,.ptr [vints L]),(8,farC L f l),(9,.own 6 R.length 0 R.length)],[mapO ps,G,.dead,.dead,.dead,.dead,.arr R.length 1 3 (R.map vi)]⟩) ?_ ?_
 ·simp only [go_sem]
  refine loopX 0 (fun m s=>∃ k:Nat,m=L.length-k/\k<=L.length/\s=⟨[(1,.mref 0 1),(2,.ptr [vints L]),(8,farC L f l),(9,.own 6 (leftK ps k).length 0 (leftK ps k).length),(22,vi L.length),(23,vi k)],[mapO ps,G,.dead,.dead,.dead,.dead,.arr (leftK ps k).length 1 3 ((leftK ps k).map vi)]⟩)
   (fun s=>s=⟨[(2,.ptr [vints L]),(8,farC L f l),(9,.own 6 R.length 0 R.length)],[mapO ps,G,.dead,.dead,.dead,.dead,.arr R.length 1 3 (R.map vi)]⟩) L.length
   ⟨[(1,.mref 0 1),(2,.ptr [vints L]),(8,farC L f l),(9,.own 6 0 0 0),(22,vi L.length),(23,vi (0:Nat))],[mapO ps,G,.dead,.dead,.dead,.dead,.arr 0 1 3 []]⟩ (WkE.kp) ⟨0,rfl,by omega,rfl⟩ ?_ ?_
  rotate_left
  ·rintro s rfl
   simp only [go_sem]
   exact ⟨_,.refl _ _,rfl⟩
  rintro m s ⟨k,rfl,hk,rfl⟩
  by_cases hlt:k<L.length
  ·have g1:(k:Int)<(L.length:Int):=by omega
   have w1:=wrap_s k (by omega)
   have hst:=leftK_step ps k
   have hll:=leftK_len ps k
   have qa:((leftK ps k).length+1)*8<=140737488355328:=by omega
   by_cases hin:isIn ps (k:Int)=true
   ·obtain ⟨v,hv2⟩:=kget_some hin
    rw [if_pos hin] at hst
    simp only [go_sem,g1,hv2,Option.isSome_some,Option.getD_some,w1]
    refine ⟨L.length-(k+1),⟨[(1,.mref 0 1),(2,.ptr [vints L]),(8,farC L f l),(9,.own 6 (leftK ps (k+1)).length 0 (leftK ps (k+1)).length),(22,vi L.length),(23,vi ((k+1:Nat):Int))],[mapO ps,G,.dead,.dead,.dead,.dead,.arr (leftK ps (k+1)).length 1 3 ((leftK ps (k+1)).map vi)]⟩,by omega,?_,k+1,rfl,by omega,rfl⟩
    rw [hst]
    exact WkE.kp
   ·have hin':isIn ps (k:Int)=false:=by simpa using hin
    have hv2:=kget_none hin'
    rw [if_neg hin] at hst
    simp only [go_sem,g1,hv2,Option.isSome_none,Option.getD_none,w1,List.length_map,qa]
    refine ⟨L.length-(k+1),⟨[(1,.mref 0 1),(2,.ptr [vints L]),(8,farC L f l),(9,.own 6 (leftK ps (k+1)).length 0 (leftK ps (k+1)).length),(22,vi L.length),(23,vi ((k+1:Nat):Int))],[mapO ps,G,.dead,.dead,.dead,.dead,.arr (leftK ps (k+1)).length 1 3 ((leftK ps (k+1)).map vi)]⟩,by omega,?_,k+1,rfl,by omega,rfl⟩
    rw [hst]
    simp only [List.length_append,List.length_cons,List.length_nil,List.map_append,List.map_cons,List.map_nil]
    exact WkE.kp
  ·obtain rfl:k=L.length:=by omega
   rw [<-hlk,hR]
   simp only [go_sem,Int.lt_irrefl]
   exact ⟨_,WkE.keep (env':=[(2,.ptr [vints L]),(8,farC L f l),(9,.own 6 R.length 0 R.length)]) (by simp only [go_sem];try trivial),rfl⟩
 rintro s rfl
 refine CwpE.vc ?_
 have hnx:nextM L ps=if R.isEmpty then none else some (minF (cmpM L (f,l)) R):=by unfold nextM;rw [hR,hsh]
 cases R with
 | nil =>
  have e1:nextM L ps=none:=by rw [hnx];rfl
  rw [e1] at out ⊢
  have hz:((0:Nat):Int)=0:=rfl
  simp only [go_sem,List.length_nil,hz]
  exact ⟨_,rfl,out _⟩
 | cons a r =>
  have e1:nextM L ps=some (minF (cmpM L (f,l)) (a::r)):=by rw [hnx];rfl
  have g0:¬ ((r.length+1:Nat):Int)=0:=by omega
  have hmem:∀ x ∈ a::r,0<=x/\x<(L.length:Int):=fun x hx=>leftK_rng (by rw [<-hlk,hR];exact hx)
  have hrl:r.length<=1000000:=by
   have:=leftK_len ps L.length
   rw [<-hlk,hR] at this
   simp at this;omega
  rw [e1] at out ⊢
  simp only [go_sem,List.length_cons,g0]
  refine callF (xs:=[vints (a::r),.clo (.func 35) [farC L f l,.ptr [vints L]]]) (MinFunc_s 35 [farC L f l,.ptr [vints L]] rfl (cmpM L (f,l)) a r hrl (fun x=>0<=x/\x<(L.length:Int)) (hmem a (by simp)) (fun x hx=>hmem x (by simp [hx])) fun x y hx hy=>cmp_s L f l x y hO.valid ⟨by omega,by omega⟩ ⟨by omega,by omega⟩ hx.1 hx.2 hy.1 hy.2)
   (.cons (snapInts 6 (r.length+1) (a::r) rfl rfl) (.cons (.tree _ rfl) .nil)) rfl ?_
  simp only [go_sem]
  exact ⟨_,rfl,out _⟩
theorem sh_no:AV.shift 1 (.tup [.val (.map none),vb false]) = .tup [.val (.map none),vb false]:=by simp [AV.shift,AV.shiftA,AV.shift1]
theorem sh_ok:AV.shift 1 (.tup [.mref 0 1,vb true]) = .tup [.mref 1 1,vb true]:=by simp [AV.shift,AV.shiftA,AV.shift1]
abbrev vpr (p:PI):AV:=.tup [vi p.1,vi p.2]
set_option maxHeartbeats 2000000 in
theorem Next_s (L asked right:List Int) (hL:L.length<=9223372036854775806) (hA:asked.length<=9223372036854775806) (hR:right.length<=9223372036854775806) :
 Ctr Try.lprog 12 [vbank L,vints asked,vints right] (vpr (NextM L asked right)):=by
 have hans:=answers_s L asked right hL hA hR
 refine specC f12 (by simp) fun F0 w0=>?_
 unfold c12
 refine CwpE.cut (st:=⟨[(1,vints asked),(2,vints right),(3,.ptr [vints L])],[.dead]⟩) ?_ ?_
 ·simp only [go_sem]
  refine ⟨_,(WkE.freezeS 3 0 1 1 30 [vbank L] _ (.ptr [vints L]) (by omega) rfl rfl (.ref _ _ _ _ _ _ rfl rfl fun i h1 h2=>by match i,h1 with | 0,_=>exact .tree _ rfl)).trans (WkE.keep ?_),rfl⟩
  simp only [go_sem];try trivial
 by_cases hok:okAns L asked right=true
 rotate_left
 ·have hno:okAns L asked right=false:=by simpa using hok
  have e1:NextM L asked right=(0,1):=by unfold NextM;rw [if_neg hok]
  rw [e1]
  have hans:CtrN Try.lprog 24 [vbank L,vints asked,vints right] (.tup [.val (.map none),vb false]) []:=by rw [hno] at hans;exact hans
  refine CwpE.vc ?_
  simp only [go_sem]
  refine callNew hans (snaps_self [vbank L,vints asked,vints right] rfl _) ?_
  simp only [go_sem,sh_no,List.length_cons,List.length_nil]
  exact .tree _ rfl
 have hans:CtrN Try.lprog 24 [vbank L,vints asked,vints right] (.tup [.mref 0 1,vb true]) [mapO (asked.zip right)]:=by rw [hok] at hans;exact hans
 have hO:=(ok_iff.1 hok).2
 have e1:NextM L asked right=nxR (nextM L (asked.zip right)):=by unfold NextM;rw [if_pos hok]
 generalize asked.zip right=ps at hans hO e1
 rw [e1]
 refine CwpE.cut (st:=⟨[(3,.ptr [vints L]),(8,.mref 0 1),(9,vb true)],[mapO ps]⟩) ?_ ?_
 ·simp only [go_sem]
  refine callNew hans (snaps_self [vbank L,vints asked,vints right] rfl _) ?_
  simp only [go_sem,sh_ok,List.length_cons,List.length_nil]
  exact ⟨_,WkE.rename (env':=[(3,.ptr [vints L]),(8,.mref 0 1),(9,vb true)]) (fun k=>if k=0 then 1 else k+1) (ren_map ps .dead) rfl ⟨rfl,rfl,rfl,rfl,rfl,rfl,trivial⟩,rfl⟩
 have hns:=next_s L ps hO
 refine CwpE.vc ?_
 cases hn:nextM L ps with
 | none =>
  rw [hn] at hns
  simp only [go_sem]
  refine callM [mapO ps] [] [mapO ps] hns rfl rfl rfl ?_
  simp only [go_sem]
  exact .tree _ rfl
 | some n =>
  rw [hn] at hns
  simp only [go_sem]
  refine callM [mapO ps] [] [mapO ps] hns rfl rfl rfl ?_
  simp only [go_sem]
  exact .tree _ rfl
abbrev vtr (p:Int × Int × Int):AV:=.tup [vi p.1,vi p.2.1,vi p.2.2]
set_option maxHeartbeats 2000000 in
theorem Level_s (L asked right:List Int) (hL:L.length<=9223372036854775806) (hA:asked.length<=9223372036854775806) (hR:right.length<=9223372036854775806) :
 Ctr Try.lprog 14 [vbank L,vints asked,vints right] (vtr (LevelM L asked right)):=by
 have hans:=answers_s L asked right hL hA hR
 refine specC f14 (by simp) fun F0 w0=>?_
 unfold c14
 refine CwpE.cut (st:=⟨[(1,vints asked),(2,vints right),(3,.ptr [vints L])],[.dead]⟩) ?_ ?_
 ·simp only [go_sem]
  refine ⟨_,(WkE.freezeS 3 0 1 1 30 [vbank L] _ (.ptr [vints L]) (by omega) rfl rfl (.ref _ _ _ _ _ _ rfl rfl fun i h1 h2=>by match i,h1 with | 0,_=>exact .tree _ rfl)).trans (WkE.keep ?_),rfl⟩
  simp only [go_sem];try trivial
 by_cases hok:okAns L asked right=true
 rotate_left
 ·have hno:okAns L asked right=false:=by simpa using hok
  have e1:LevelM L asked right=(0,0,1):=by unfold LevelM;rw [if_neg hok]
  rw [e1]
  have hans:CtrN Try.lprog 24 [vbank L,vints asked,vints right] (.tup [.val (.map none),vb false]) []:=by rw [hno] at hans;exact hans
  refine CwpE.vc ?_
  simp only [go_sem]
  refine callNew hans (snaps_self [vbank L,vints asked,vints right] rfl _) ?_
  simp only [go_sem,sh_no,List.length_cons,List.length_nil]
  exact .tree _ rfl
 have hans:CtrN Try.lprog 24 [vbank L,vints asked,vints right] (.tup [.mref 0 1,vb true]) [mapO (asked.zip right)]:=by rw [hok] at hans;exact hans
 have hO:=(ok_iff.1 hok).2
 have hb:=shown_bd hO.len
 have hss:=shown_s L _ hO
 have e1:LevelM L asked right=(floorM ((shown L (asked.zip right)).1+(shown L (asked.zip right)).2),max (floorM ((shown L (asked.zip right)).1+(shown L (asked.zip right)).2)-(shown L (asked.zip right)).1) ((shown L (asked.zip right)).2-floorM ((shown L (asked.zip right)).1+(shown L (asked.zip right)).2)),0):=by
  unfold LevelM;rw [if_pos hok]
 generalize shown L (asked.zip right)=s at hb hss e1
 generalize asked.zip right=ps at hans hO hss
 obtain ⟨f,l⟩:=s
 dsimp only at hb e1 hss
 rw [e1]
 refine CwpE.cut (st:=⟨[(3,.ptr [vints L]),(9,.mref 0 1),(10,vb true)],[mapO ps]⟩) ?_ ?_
 ·simp only [go_sem]
  refine callNew hans (snaps_self [vbank L,vints asked,vints right] rfl _) ?_
  simp only [go_sem,sh_ok,List.length_cons,List.length_nil]
  exact ⟨_,WkE.rename (env':=[(3,.ptr [vints L]),(9,.mref 0 1),(10,vb true)]) (fun k=>if k=0 then 1 else k+1) (ren_map ps .dead) rfl ⟨rfl,rfl,rfl,rfl,rfl,rfl,trivial⟩,rfl⟩
 have hfl:=floor_eq (n:=f+l) (by omega)
 have w1:IntKind.i64.wrap (f+l)=f+l:=wrap_id (by omega) (by omega)
 have w2:IntKind.i64.wrap (floorM (f+l)-f)=floorM (f+l)-f:=wrap_id (by omega) (by omega)
 have w3:IntKind.i64.wrap (l-floorM (f+l))=l-floorM (f+l):=wrap_id (by omega) (by omega)
 refine CwpE.vc ?_
 simp only [go_sem]
 refine callM [mapO ps] [] [mapO ps] hss rfl rfl rfl ?_
 simp only [go_sem,w1]
 refine callT (floor_s (f+l) (by omega) (by omega)) rfl ?_
 simp only [go_sem,w2,w3]
 have:(if floorM (f+l)-f<l-floorM (f+l) then l-floorM (f+l) else floorM (f+l)-f)=max (floorM (f+l)-f) (l-floorM (f+l)):=by split <;> omega
 rw [this]
 exact .tree _ rfl
theorem snap_tup2 {objs:List AObj} {a b x y:AV} (h1:Snap objs a x) (h2:Snap objs b y):Snap objs (.tup [a,b]) (.tup [x,y]) :=
 .tup _ _ rfl fun i h h'=>by
  match i,h with
  | 0,_=>exact h1
  | 1,_=>exact h2
set_option maxHeartbeats 4000000 in
theorem Run_s (L:List Int) (lev n:Int) (hL:L.length<=9223372036854775806) (hlev:I64 lev) (hn:I64 n) :
 Ctr Try.lprog 18 [vbank L,vi lev,vi n] (.tup [vints (RunM L lev n).1,vi (RunM L lev n).2]):=by
 refine specC f18 (by simp) fun F0 w0=>?_
 unfold c18
 refine CwpE.cut (st:=⟨[(1,vi lev),(2,vi n),(3,.ptr [vints L])],[.dead]⟩) ?_ ?_
 ·simp only [go_sem]
  refine ⟨_,(WkE.freezeS 3 0 1 1 30 [vbank L] _ (.ptr [vints L]) (by omega) rfl rfl (.ref _ _ _ _ _ _ rfl rfl fun i h1 h2=>by match i,h1 with | 0,_=>exact .tree _ rfl)).trans (WkE.keep ?_),rfl⟩
  simp only [go_sem];try trivial
 have enil:∀ x:Int,Snap [.dead] (.tup [.val (.slice none 0 0),vi x]) (.tup [vints [],vi x]):=fun x=>snap_tup2 (.nil 1) (.tree _ rfl)
 by_cases hv:validB L=true
 rotate_left
 ·have hv':validB L=false:=by simpa using hv
  have e1:RunM L lev n=([],1):=by unfold RunM;rw [if_pos (.inl hv')]
  rw [e1]
  refine CwpE.vc ?_
  simp only [go_sem]
  refine callT (valid_s L hL) rfl ?_
  simp only [go_sem,hv']
  exact enil 1
 by_cases a1:lev < -1
 ·have e1:RunM L lev n=([],1):=by unfold RunM;rw [if_pos (.inr (.inl a1))]
  rw [e1]
  refine CwpE.vc ?_
  simp only [go_sem]
  refine callT (valid_s L hL) rfl ?_
  simp only [go_sem,hv,a1]
  exact enil 1
 by_cases a2:9<lev
 ·have e1:RunM L lev n=([],1):=by unfold RunM;rw [if_pos (.inr (.inr (.inl a2)))]
  rw [e1]
  refine CwpE.vc ?_
  simp only [go_sem]
  refine callT (valid_s L hL) rfl ?_
  simp only [go_sem,hv,a1,a2]
  exact enil 1
 by_cases a3:n<0
 ·have e1:RunM L lev n=([],1):=by unfold RunM;rw [if_pos (.inr (.inr (.inr a3)))]
  rw [e1]
  refine CwpE.vc ?_
  simp only [go_sem]
  refine callT (valid_s L hL) rfl ?_
  simp only [go_sem,hv,a1,a2,a3]
  exact enil 1
 have hne:¬ (validB L=false \/ lev < -1 \/ 9<lev \/ n<0):=by simp [hv,a1,a2,a3]
 by_cases a4:(L.length:Int)<n
 ·have e1:RunM L lev n=([],6):=by unfold RunM;rw [if_neg hne,if_pos a4]
  rw [e1]
  refine CwpE.vc ?_
  simp only [go_sem]
  refine callT (valid_s L hL) rfl ?_
  simp only [go_sem,hv,a1,a2,a3,a4,List.length_map]
  exact enil 6
 have e1:RunM L lev n=(runGo L lev n.toNat [],0):=by unfold RunM;rw [if_neg hne,if_neg a4]
 rw [e1]
 have hLl:=(valid_iff.1 hv).1
 obtain ⟨N,hN⟩:∃ N:Nat,n=N:=⟨n.toNat,by omega⟩
 subst hN
 rw [Int.toNat_natCast]
 have hNL:N<=L.length:=by omega
 refine CwpE.cut (st:=⟨[(1,vi lev),(2,vi N),(3,.ptr [vints L])],[.dead]⟩) ?_ ?_
 ·simp only [go_sem]
  refine callT (valid_s L hL) rfl ?_
  simp only [go_sem,hv,a1,a2,a3,a4,List.length_map]
  exact ⟨_,WkE.kp,rfl⟩
 refine CwpE.cut (st:=⟨[(1,vi lev),(2,vi N),(3,.ptr [vints L])],[.dead]⟩) ?_ ?_
 ·simp only [go_sem]
  exact ⟨_,WkE.kp,rfl⟩
 refine CwpE.cut (st:=⟨[(1,vi lev),(2,vi N),(3,.ptr [vints L])],[.dead]⟩) ?_ ?_
 ·simp only [go_sem]
  exact ⟨_,WkE.kp,rfl⟩
 refine CwpE.cut (st:=⟨[(1,vi lev),(2,vi N),(3,.ptr [vints L]),(10,.mref 0 1)],[mapO []]⟩) ?_ ?_
 ·simp only [go_sem]
  exact ⟨_,WkE.rename (env':=[(1,vi lev),(2,vi N),(3,.ptr [vints L]),(10,.mref 0 1)]) (fun k=>if k=0 then 1 else k+1) (ren_map [] .dead) rfl ⟨rfl,rfl,rfl,rfl,rfl,rfl,rfl,rfl,trivial⟩,rfl⟩
 refine CwpE.cut (st:=⟨[(1,vi lev),(2,vi N),(3,.ptr [vints L]),(10,.mref 0 1),(11,.own 1 0 0 0)],[mapO [],.arr 0 1 3 []]⟩) ?_ ?_
 ·simp only [go_sem]
  exact ⟨_,(WkE.nil 11 1 3 (by omega) rfl).trans (WkE.kp),rfl⟩
 obtain ⟨R,hR⟩:∃ R,runGo L lev N []=R:=⟨_,rfl⟩
 rw [hR]
 have hRl:R.length=N:=by rw [<-hR,runGo_len];simp
 refine CwpE.step (fun s=>s=⟨[(11,.own 1 N 0 N)],[mapO (truth L lev R),.arr N 1 3 (R.map vi)]⟩) ?_ ?_
 rotate_left
 ·rintro s rfl
  refine CwpE.vc ?_
  simp only [go_sem]
  exact snap_tup2 (snapInts 1 N R rfl hRl.symm) (.tree _ rfl)
 simp only [go_sem]
 refine loopX 1 (fun m s=>∃ (k:Nat) (out:List Int),m=N-k/\k<=N/\out.length=k/\RunI L out/\R=runGo L lev (N-k) out/\s=⟨[(1,vi lev),(3,.ptr [vints L]),(10,.mref 0 1),(11,.own 1 k 0 k),(42,vi N),(43,vi k)],[mapO (truth L lev out),.arr k 1 3 (out.map vi)]⟩)
  (fun s=>s=⟨[(11,.own 1 N 0 N)],[mapO (truth L lev R),.arr N 1 3 (R.map vi)]⟩) N
  ⟨[(1,vi lev),(3,.ptr [vints L]),(10,.mref 0 1),(11,.own 1 0 0 0),(42,vi N),(43,vi (0:Nat))],[mapO [],.arr 0 1 3 []]⟩ (WkE.kp) ⟨0,[],rfl,by omega,rfl,⟨hv,by simp,by simp⟩,hR.symm,rfl⟩ ?_ ?_
 rotate_left
 ·rintro s rfl
  simp only [go_sem]
  exact ⟨_,.refl _ _,rfl⟩
 rintro m s ⟨k,out,rfl,hk,hol,hI,hRo,rfl⟩
 by_cases hlt:k<N
 ·have g1:(k:Int)<(N:Int):=by omega
  have w1:=wrap_s k (by omega)
  obtain ⟨x,hx,x0,x1,hxo,hI2⟩:=hI.step lev (by omega)
  have hi:(L.map vi)[x.toNat]? = some (vi (lv L x)):=by rw [List.getElem?_map,lv_idx x0 x1];rfl
  have hks:=kset_new (ps:=truth L lev out) (n:=x) (x:=if lv L x<=lev then 1 else 0) (by
   cases h:isIn (truth L lev out) x with
   | false=>rfl
   | true=>exact absurd (by have:=isIn_iff.1 h;rwa [truth_keys] at this) hxo)
  rw [<-truth_snoc] at hks
  have hRo2:R=runGo L lev (N-(k+1)) (out++[x]):=by
   rw [hRo,show N-k=(N-(k+1))+1 by omega,runGo,hx];rfl
  have hns:=next_s L (truth L lev out) (hI.ok lev)
  rw [hx] at hns
  have qa:(k+1)*8<=140737488355328:=by omega
  simp only [go_sem,g1]
  refine callM [mapO (truth L lev out)] [.arr k 1 3 (out.map vi)] [mapO (truth L lev out)] hns rfl rfl rfl ?_
  have fin:(⟨[(1,vi lev),(3,.ptr [vints L]),(10,.mref 0 1),(11,.own 1 (k+1) 0 (k+1)),(42,vi N),(43,vi ((k+1:Nat):Int))],[mapO (truth L lev (out++[x])),.arr (k+1) 1 3 ((out++[x]).map vi)]⟩:Est) =
   ⟨[(1,vi lev),(3,.ptr [vints L]),(10,.mref 0 1),(11,.own 1 (k+1) 0 (k+1)),(42,vi N),(43,vi ((k+1:Nat):Int))],[mapO (truth L lev (out++[x])),.arr (k+1) 1 3 (out.map vi++[vi x])]⟩:=by simp
  by_cases hc:lv L x<=lev
  ·rw [if_pos hc] at hks
   simp only [go_sem,x0,List.length_map,hi,hc,hks,hol,qa,w1]
   exact ⟨N-(k+1),_,by omega,WkE.kp,k+1,out++[x],rfl,by omega,by simp [hol],hI2,hRo2,fin.symm⟩
  ·rw [if_neg hc] at hks
   simp only [go_sem,x0,List.length_map,hi,hc,hks,hol,qa,w1]
   exact ⟨N-(k+1),_,by omega,WkE.kp,k+1,out++[x],rfl,by omega,by simp [hol],hI2,hRo2,fin.symm⟩
 ·obtain rfl:k=N:=by omega
  have hRo':R=out:=by rw [hRo,Nat.sub_self];rfl
  simp only [go_sem,Int.lt_irrefl]
  exact ⟨_,WkE.keep (env':=[(11,.own 1 k 0 k)]) (by simp only [go_sem];try trivial),by rw [hRo']⟩
theorem tr_len {w:Go.World} {F:Nat->Prop} {size:Nat} {xs:List AV} {v:Go.Value} (h:TR w F (.list size xs) v):xs.length<=9223372036854775807:=by
 have e:maxLen=9223372036854775807:=rfl
 cases h with
 | nolist=>simp
 | list _ _ _ _ _ _ _ _ hn hm=>omega
theorem Ctr.bound {P:Go.Program} {f:FuncId} {c:CCode × Nat × List CRes} (hf:fnC P f=some c) {xs:List AV} {r:AV} (i:Nat) (l:List Int) (hi:xs[i]? = some (vints l)) (h:l.length<=9223372036854775807->Ctr P f xs r):Ctr P f xs r:=by
 obtain ⟨c,n,rs⟩:=c
 obtain ⟨_,_,_,_,hE,_⟩:=fnC_inv hf
 refine ⟨hE,fun w F vs hg hs hv=>?_⟩
 obtain ⟨hlt,he⟩:=List.getElem?_eq_some_iff.1 hi
 have h1:=hv i hlt (by omega)
 rw [he] at h1
 have h2:=tr_len h1
 rw [List.length_map] at h2
 exact (h h2).2 w F vs hg hs hv
set_option maxHeartbeats 4000000 in
theorem Levels_s (l:List Int) (hl:∀ x ∈ l,I64 x):Ctr Try.lprog 8 [vints l] (vints (levelsM l)):=by
 have hat:=At_s l 0 21 hl ⟨by omega,by omega⟩
 have hbd:=atL_bd l 0 21 (by omega)
 refine specC f8 (by simp) fun F0 w0=>?_
 obtain ⟨N,hN⟩:∃ N:Nat,(atL l 0 21).toNat=N:=⟨_,rfl⟩
 have hN':atL l 0 21=(N:Int):=by omega
 have hlen:=levK_len l N
 have e1:levelsM l=levK l N:=by unfold levelsM;rw [hN]
 rw [e1]
 rw [hN'] at hat
 have hNb:N<=20:=by omega
 unfold c8
 refine CwpE.cut (st:=⟨[(0,vints l)],[]⟩) ?_ ?_
 ·simp only [go_sem]
  exact ⟨_,WkE.kp,rfl⟩
 refine CwpE.cut (st:=⟨[(0,vints l),(3,.own 0 0 0 0)],[.arr 0 1 3 []]⟩) ?_ ?_
 ·simp only [go_sem]
  exact ⟨_,(WkE.nil 3 1 3 (by omega) rfl).trans (WkE.kp),rfl⟩
 refine CwpE.cut (st:=⟨[(3,.own 0 N 0 N)],[.arr N 1 3 ((levK l N).map vi)]⟩) ?_ ?_
 rotate_left
 ·refine CwpE.vc ?_
  simp only [go_sem]
  exact snapInts 0 N _ rfl hlen.symm
 simp only [go_sem]
 refine loopX 0 (fun m s=>∃ k:Nat,m=N-k/\k<=N/\s=⟨[(0,vints l),(3,.own 0 k 0 k),(4,vi k)],[.arr k 1 3 ((levK l k).map vi)]⟩)
  (fun s=>s=⟨[(3,.own 0 N 0 N)],[.arr N 1 3 ((levK l N).map vi)]⟩) N
  ⟨[(0,vints l),(3,.own 0 0 0 0),(4,vi (0:Nat))],[.arr 0 1 3 []]⟩ (WkE.kp) ⟨0,rfl,by omega,rfl⟩ ?_ ?_
 rotate_left
 ·rintro s rfl
  simp only [go_sem]
  exact ⟨_,.refl _ _,rfl⟩
 rintro m s ⟨k,rfl,hk,rfl⟩
 have hlk:((levK l k).map vi).length=k:=by rw [List.length_map,levK_len]
 by_cases hlt:k<N
 rotate_left
 ·obtain rfl:k=N:=by omega
  simp only [go_sem]
  refine callT hat rfl ?_
  simp only [go_sem,Int.lt_irrefl]
  exact ⟨_,WkE.keep (env':=[(3,.own 0 k 0 k)]) (by simp only [go_sem];try trivial),rfl⟩
 have g1:(k:Int)<(N:Int):=by omega
 have w1:=wrap_s k (by omega)
 have w2:IntKind.i64.wrap (1+(k:Int))=1+(k:Int):=wrap_id (by omega) (by omega)
 have qa:(k+1)*8<=140737488355328:=by omega
 have hat2:=At_s l (1+(k:Int)) 10 hl ⟨by omega,by omega⟩
 have hs:=levK_step l k
 have hap:(levK l k).map vi++[vi (atL l (1+(k:Int)) 10)]=(levK l (k+1)).map vi:=by rw [hs];simp
 simp only [go_sem]
 refine callT hat rfl ?_
 simp only [go_sem,g1,w2]
 refine callF hat2 (.cons (.tree _ rfl) (.cons (.tree _ rfl) (.cons (.tree _ rfl) .nil))) rfl ?_
 simp only [go_sem,hlk,qa,w1]
 rw [hap]
 exact ⟨N-(k+1),_,by omega,WkE.kp,k+1,rfl,by omega,rfl⟩
def freshK (out:List Int) (n:Int) (k:Nat):Bool:=!((out.take k).contains n)
theorem freshK_step {out:List Int} {n:Int} {k:Nat} (h:k<out.length):freshK out n (k+1)=(freshK out n k && !decide (out[k]=n)):=by
 unfold freshK
 rw [List.take_succ_eq_append_getElem h,Bool.eq_iff_iff]
 simp only [Bool.and_eq_true,Bool.not_eq_true',List.contains_eq_mem,List.mem_append,List.mem_singleton,decide_eq_false_iff_not,not_or]
 constructor
 ·rintro ⟨b,c⟩;exact ⟨b,fun e=>c e.symm⟩
 ·rintro ⟨b,c⟩;exact ⟨b,fun e=>c e.symm⟩
abbrev someK (L m:List Int) (i:Nat):List Int:=(m.take i).foldl (someS L) []
theorem someK_step (L:List Int) {m:List Int} {i:Nat} (h:i<m.length):someK L m (i+1)=someS L (someK L m i) m[i]:=by
 simp only [someK,List.take_succ_eq_append_getElem h,List.foldl_append,List.foldl_cons,List.foldl_nil]
theorem someK_I (L m:List Int) (hL:0<L.length) (i:Nat):SomeI L (someK L m i):=by
 have:=some_I L (m.take i)
 unfold someM at this
 rwa [if_neg (by omega)] at this
set_option maxHeartbeats 4000000 in
theorem Some_s (L m:List Int) (hL:L.length<=1000) (hm:∀ x ∈ m,I64 x):Ctr Try.lprog 9 [vints L,vints m] (vints (someM L m)):=by
 refine Ctr.bound f9 1 m rfl fun hml=>?_
 refine specC f9 (by simp) fun F0 w0=>?_
 unfold c9
 refine CwpE.cut (st:=⟨[(0,vints L),(1,vints m)],[]⟩) ?_ ?_
 ·simp only [go_sem]
  exact ⟨_,WkE.kp,rfl⟩
 refine CwpE.cut (st:=⟨[(0,vints L),(1,vints m),(5,.own 0 0 0 0)],[.arr 0 1 3 []]⟩) ?_ ?_
 ·simp only [go_sem]
  exact ⟨_,(WkE.nil 5 1 3 (by omega) rfl).trans (WkE.kp),rfl⟩
 refine CwpE.seqJ (fun z=>z=⟨[(5,.own 0 (someM L m).length 0 (someM L m).length)],[.arr (someM L m).length 1 3 ((someM L m).map vi)]⟩) ?_ ?_
 rotate_left
 ·rintro _ rfl
  refine CwpE.vc ?_
  simp only [go_sem]
  exact snapInts 0 _ _ rfl rfl
 refine CwpE.cut (st:=⟨[(0,vints L),(1,vints m),(5,.own 0 0 0 0),(6,vi (0:Nat))],[.arr 0 1 3 []]⟩) ?_ ?_
 ·simp only [go_sem]
  exact ⟨⟨[(0,vints L),(1,vints m),(5,.own 0 0 0 0),(6,vi (0:Nat))],[.arr 0 1 3 []]⟩,WkE.kp,rfl⟩
 refine CwpE.block ?_
 by_cases hL0:L.length=0
 ·have e1:someM L m=[]:=by unfold someM;rw [if_pos hL0]
  rw [e1]
  have g2:¬ (0:Int)<(L.length:Int):=by omega
  refine loopXC 0 (fun m' s=>s=⟨[(0,vints L),(1,vints m),(5,.own 0 0 0 0),(6,vi (0:Nat))],[.arr 0 1 3 []]⟩) (fun s=>s=⟨[(5,.own 0 0 0 0)],[.arr 0 1 3 []]⟩) 0 _ (.refl _ _) rfl ?_ ?_
  ·rintro _ _ rfl
   refine CwpE.vc ?_
   by_cases g1:((0:Nat):Int)<(m.length:Int)
   ·simp only [go_sem,g1,g2,List.length_map]
    exact ⟨_,WkE.keep (env':=[(5,.own 0 0 0 0)]) (by simp only [go_sem];try trivial),rfl⟩
   ·simp only [go_sem,g1,List.length_map]
    exact ⟨_,WkE.keep (env':=[(5,.own 0 0 0 0)]) (by simp only [go_sem];try trivial),rfl⟩
  ·rintro s rfl
   simp only [go_sem]
   exact ⟨_,.refl _ _,rfl⟩
 have hLp:0<L.length:=by omega
 have g2:(0:Int)<(L.length:Int):=by omega
 have e1:someM L m=someK L m m.length:=by unfold someM;rw [if_neg hL0,someK,List.take_length]
 rw [e1]
 refine loopXC 0 (fun m' s=>∃ i:Nat,m'=m.length-i/\i<=m.length/\s=⟨[(0,vints L),(1,vints m),(5,.own 0 (someK L m i).length 0 (someK L m i).length),(6,vi i)],[.arr (someK L m i).length 1 3 ((someK L m i).map vi)]⟩)
  (fun s=>s=⟨[(5,.own 0 (someK L m m.length).length 0 (someK L m m.length).length)],[.arr (someK L m m.length).length 1 3 ((someK L m m.length).map vi)]⟩) m.length _ (.refl _ _) ⟨0,rfl,by omega,rfl⟩ ?_ ?_
 rotate_left
 ·rintro s rfl
  simp only [go_sem]
  exact ⟨_,.refl _ _,rfl⟩
 rintro m' s ⟨i,rfl,hi,rfl⟩
 have hI:=someK_I L m hLp i
 have hIl:=hI.len
 by_cases hlt:i<m.length
 rotate_left
 ·obtain rfl:i=m.length:=by omega
  generalize someK L m m.length=O
  refine CwpE.vc ?_
  simp only [go_sem,Int.lt_irrefl,List.length_map]
  exact ⟨_,WkE.keep (env':=[(5,.own 0 O.length 0 O.length)]) (by simp only [go_sem];try trivial),rfl⟩
 have g1:(i:Int)<(m.length:Int):=by omega
 have g0:(0:Int)<=(i:Int):=by omega
 have w1:=wrap_s i (by omega)
 have hst:=someK_step L hlt
 have har:=Around_s m[i] L.length (hm _ (List.getElem_mem hlt)) ⟨by omega,by omega⟩
 have hmi:(m.map vi)[i]? = some (vi m[i]):=by rw [List.getElem?_map,List.getElem?_eq_getElem hlt];rfl
 unfold someS at hst
 obtain ⟨x,hx⟩:∃ x,m[i]=x:=⟨_,rfl⟩
 rw [hx] at hst har hmi
 obtain ⟨n,hn⟩:∃ n,aroundL x L.length=n:=⟨_,rfl⟩
 rw [hn] at hst har
 obtain ⟨O2,hO2⟩:∃ O2,someK L m (i+1)=O2:=⟨_,rfl⟩
 rw [hO2] at hst
 obtain ⟨O,hO⟩:∃ O,someK L m i=O:=⟨_,rfl⟩
 rw [hO] at hst hI hIl
 rw [hO]
 have hOl:O.length<=1000:=by omega
 refine CwpE.cut (st:=⟨[(0,vints L),(1,vints m),(5,.own 0 O.length 0 O.length),(6,vi i)],[.arr O.length 1 3 (O.map vi)]⟩) ?_ ?_
 ·simp only [go_sem,g1,g2,List.length_map]
  exact ⟨_,WkE.kp,rfl⟩
 refine CwpE.seqJ (fun z=>z=⟨[(0,vints L),(1,vints m),(5,.own 0 O2.length 0 O2.length),(6,vi i)],[.arr O2.length 1 3 (O2.map vi)]⟩) (CwpE.block ?_) ?_
 rotate_left
 ·rintro _ rfl
  refine CwpE.vc ?_
  simp only [go_sem,w1]
  exact ⟨m.length-(i+1),⟨[(0,vints L),(1,vints m),(5,.own 0 O2.length 0 O2.length),(6,vi ((i+1:Nat):Int))],[.arr O2.length 1 3 (O2.map vi)]⟩,by omega,WkE.kp,i+1,rfl,by omega,by rw [hO2]⟩
 refine CwpE.cut (st:=⟨[(0,vints L),(1,vints m),(5,.own 0 O.length 0 O.length),(6,vi i),(7,vi n)],[.arr O.length 1 3 (O.map vi)]⟩) ?_ ?_
 ·simp only [go_sem,g0,hmi,List.length_map]
  refine callF har (.cons (.tree _ rfl) (.cons (.tree _ rfl) .nil)) rfl ?_
  simp only [go_sem]
  exact ⟨_,WkE.kp,rfl⟩
 refine CwpE.cut (st:=⟨[(0,vints L),(1,vints m),(5,.own 0 O.length 0 O.length),(6,vi i),(7,vi n),(8,vb (freshK O n 0))],[.arr O.length 1 3 (O.map vi)]⟩) ?_ ?_
 ·simp only [go_sem]
  exact ⟨⟨[(0,vints L),(1,vints m),(5,.own 0 O.length 0 O.length),(6,vi i),(7,vi n),(8,vb (freshK O n 0))],[.arr O.length 1 3 (O.map vi)]⟩,WkE.keep ⟨rfl,rfl,rfl,rfl,rfl,rfl,trivial⟩,rfl⟩
 refine CwpE.seqJ (fun z=>z=⟨[(0,vints L),(1,vints m),(5,.own 0 O.length 0 O.length),(6,vi i),(7,vi n),(8,vb (freshK O n O.length))],[.arr O.length 1 3 (O.map vi)]⟩) ?_ ?_
 rotate_left
 ·rintro _ rfl
  have hfr:freshK O n O.length = !(O.contains n):=by unfold freshK;rw [List.take_length]
  rw [hfr]
  refine CwpE.vc ?_
  by_cases hc:O.contains n=true
  ·rw [if_pos hc] at hst
   rw [hst]
   simp only [go_sem,hc]
   exact ⟨_,WkE.kp,rfl⟩
  ·have hc':O.contains n=false:=by simpa using hc
   rw [if_neg hc] at hst
   have qa:(O.length+1)*8<=140737488355328:=by omega
   have hap:O.map vi++[vi n]=O2.map vi:=by rw [hst];simp
   have hol:O2.length=O.length+1:=by rw [hst];simp
   rw [hol,<-hap]
   simp only [go_sem,hc',qa,List.length_map]
   exact ⟨_,WkE.kp,rfl⟩
 refine CwpE.cut (st:=⟨[(0,vints L),(1,vints m),(5,.own 0 O.length 0 O.length),(6,vi i),(7,vi n),(8,vb (freshK O n 0)),(9,vi (0:Nat))],[.arr O.length 1 3 (O.map vi)]⟩) ?_ ?_
 ·simp only [go_sem]
  exact ⟨⟨[(0,vints L),(1,vints m),(5,.own 0 O.length 0 O.length),(6,vi i),(7,vi n),(8,vb (freshK O n 0)),(9,vi (0:Nat))],[.arr O.length 1 3 (O.map vi)]⟩,WkE.keep ⟨rfl,rfl,rfl,rfl,rfl,rfl,rfl,trivial⟩,rfl⟩
 refine CwpE.block ?_
 refine loopXC 2 (fun m' s=>∃ k:Nat,m'=O.length-k/\k<=O.length/\s=⟨[(0,vints L),(1,vints m),(5,.own 0 O.length 0 O.length),(6,vi i),(7,vi n),(8,vb (freshK O n k)),(9,vi k)],[.arr O.length 1 3 (O.map vi)]⟩)
  (fun z=>z=⟨[(0,vints L),(1,vints m),(5,.own 0 O.length 0 O.length),(6,vi i),(7,vi n),(8,vb (freshK O n O.length))],[.arr O.length 1 3 (O.map vi)]⟩) O.length _ (.refl _ _) ⟨0,rfl,by omega,rfl⟩ ?_ ?_
 rotate_left
 ·rintro s rfl
  simp only [go_sem]
  exact ⟨_,.refl _ _,rfl⟩
 rintro m' s ⟨k,rfl,hk,rfl⟩
 refine CwpE.vc ?_
 by_cases hkl:k<O.length
 rotate_left
 ·obtain rfl:k=O.length:=by omega
  simp only [go_sem,Int.lt_irrefl]
  exact ⟨_,WkE.keep (env':=[(0,vints L),(1,vints m),(5,.own 0 O.length 0 O.length),(6,vi i),(7,vi n),(8,vb (freshK O n O.length))]) (by simp only [go_sem];try trivial),rfl⟩
 have k1:(k:Int)<(O.length:Int):=by omega
 have k0:(0:Int)<=(k:Int):=by omega
 have wk:=wrap_s k (by omega)
 have hs2:=freshK_step (n:=n) hkl
 have hOk:(O.map vi)[k]? = some (vi O[k]):=by rw [List.getElem?_map,List.getElem?_eq_getElem hkl];rfl
 obtain ⟨y,hy⟩:∃ y,O[k]=y:=⟨_,rfl⟩
 rw [hy] at hs2 hOk
 have fin2:∀ z,WkE 49 z ⟨[(0,vints L),(1,vints m),(5,.own 0 O.length 0 O.length),(6,vi i),(7,vi n),(8,vb (freshK O n (k+1))),(9,vi ((k+1:Nat):Int))],[.arr O.length 1 3 (O.map vi)]⟩->∃ m' s',m'<O.length-k/\WkE 49 z s'/\∃ k':Nat,m'=O.length-k'/\k'<=O.length/\s'=⟨[(0,vints L),(1,vints m),(5,.own 0 O.length 0 O.length),(6,vi i),(7,vi n),(8,vb (freshK O n k')),(9,vi k')],[.arr O.length 1 3 (O.map vi)]⟩:=fun z hz =>
  ⟨O.length-(k+1),_,by omega,hz,k+1,rfl,by omega,rfl⟩
 obtain ⟨fr2,hfr2⟩:∃ q,freshK O n (k+1)=q:=⟨_,rfl⟩
 rw [hfr2] at fin2 hs2
 obtain ⟨fr,hfr⟩:∃ q,freshK O n k=q:=⟨_,rfl⟩
 rw [hfr] at hs2 ⊢
 cases fr with
 | false =>
  have:fr2=false:=by rw [hs2];rfl
  subst this
  simp only [go_sem,k1,wk]
  exact fin2 _ (WkE.kp)
 | true =>
  by_cases c:y=n
  ·have:fr2=false:=by rw [hs2];simp [c]
   subst this
   simp only [go_sem,k0,k1,hOk,wk,c]
   exact fin2 _ (WkE.kp)
  ·have:fr2=true:=by rw [hs2];simp [c]
   subst this
   simp only [go_sem,k0,k1,hOk,wk,c]
   exact fin2 _ (WkE.kp)
abbrev lvB:List Int:=[0,1,2,3,4,5,6,7,8,9]
theorem lv1:NextM lvB [] []=(4,0):=by decide +kernel
theorem lv2:NextM lvB [4] [1]=(7,0):=by decide +kernel
theorem lv3:NextM lvB [4] [0]=(1,0):=by decide +kernel
theorem lv4:RunM lvB 6 4=([4,7,5,6],0):=by decide +kernel
theorem lv5:LevelM lvB [4,7,5,6] [1,0,1,1]=(6,0,0):=by decide +kernel
set_option maxHeartbeats 4000000 in
theorem lives_s:Ctr Try.lprog 16 [] (vb true):=by
 have h1:=Next_s lvB [] [] (by simp) (by simp) (by simp)
 have h2:=Next_s lvB [4] [1] (by simp) (by simp) (by simp)
 have h3:=Next_s lvB [4] [0] (by simp) (by simp) (by simp)
 have h4:=Run_s lvB 6 4 (by simp) ⟨by omega,by omega⟩ ⟨by omega,by omega⟩
 have h5:=Level_s lvB [4,7,5,6] [1,0,1,1] (by simp) (by simp) (by simp)
 have h6:=SameInts_s [4,7,5,6] [4,7,5,6] (by simp)
 rw [lv1] at h1
 rw [lv2] at h2
 rw [lv3] at h3
 rw [lv4] at h4
 rw [lv5] at h5
 refine specC f16 (by simp) fun F0 w0=>?_
 unfold c16
 refine CwpE.cut (st:=⟨[],[]⟩) ?_ ?_
 ·simp only [go_sem]
  exact ⟨_,WkE.kp,rfl⟩
 refine CwpE.cut (st:=⟨[(1,.ptr [vints lvB])],[.dead]⟩) ?_ ?_
 ·simp only [go_sem]
  refine ⟨_,(WkE.freezeS 1 0 1 1 30 [vbank lvB] _ (.ptr [vints lvB]) (by omega) rfl rfl (.ref _ _ _ _ _ _ rfl rfl fun i h1 h2=>by match i,h1 with | 0,_=>exact .tree _ rfl)).trans (WkE.keep ?_),rfl⟩
  simp only [go_sem];try trivial
 refine CwpE.cut (st:=⟨[(1,.ptr [vints lvB]),(2,vi 4),(3,vi 0)],[.dead]⟩) ?_ ?_
 ·simp only [go_sem]
  refine callN h1 (.cons (.tree _ rfl) (.cons (.nil 1) (.cons (.nil 1) .nil))) ?_
  simp only [go_sem]
  exact ⟨_,WkE.kp,rfl⟩
 refine CwpE.cut (st:=⟨[(1,.ptr [vints lvB]),(2,vi 4),(3,vi 0),(4,vi 7),(5,vi 0)],[.dead]⟩) ?_ ?_
 ·simp only [go_sem]
  refine callT h2 rfl ?_
  simp only [go_sem]
  exact ⟨_,WkE.kp,rfl⟩
 refine CwpE.cut (st:=⟨[(1,.ptr [vints lvB]),(2,vi 4),(3,vi 0),(4,vi 7),(5,vi 0),(6,vi 1),(7,vi 0)],[.dead]⟩) ?_ ?_
 ·simp only [go_sem]
  refine callT h3 rfl ?_
  simp only [go_sem]
  exact ⟨_,WkE.kp,rfl⟩
 refine CwpE.cut (st:=⟨[(1,.ptr [vints lvB]),(2,vi 4),(3,vi 0),(4,vi 7),(5,vi 0),(6,vi 1),(7,vi 0),(8,vints [4,7,5,6]),(9,vi 0)],[.dead]⟩) ?_ ?_
 ·simp only [go_sem]
  refine callT h4 rfl ?_
  simp only [go_sem]
  exact ⟨_,WkE.kp,rfl⟩
 refine CwpE.cut (st:=⟨[(2,vi 4),(3,vi 0),(4,vi 7),(5,vi 0),(6,vi 1),(7,vi 0),(8,vints [4,7,5,6]),(9,vi 0),(10,vi 6),(11,vi 0),(12,vi 0)],[.dead]⟩) ?_ ?_
 ·simp only [go_sem]
  refine callT h5 rfl ?_
  simp only [go_sem]
  exact ⟨_,WkE.kp,rfl⟩
 refine CwpE.vc ?_
 simp only [go_sem]
 refine callT h6 rfl ?_
 simp only [go_sem]
 exact .tree _ rfl
end Go.Proofs.Ytdadmhahbeehhaa
namespace Go.Proofs.Ytdadmhahbeehhaa
open Dak
def cn3:CCode :=
 (.seq (.region [oo 10 (.mov (.const (.bool false)))])
 (.seq (.region [vv 29 0,oo 30 (.call (.func 8) [(T 29)]),vv 11 30])
 (.seq (.region [vv 31 11,vv 32 1,oo 33 (.call (.func 9) [(T 31),(T 32)]),vv 12 33])
 (.seq (.region [vv 34 2,vv 35 12,oo 36 (.len (T 35)),oo 37 (.call (.func 10) [(T 34),(T 36)]),vv 13 37])
 (.seq (.drawn [vv 38 11,vv 39 11,vv 40 3,vv 41 4,oo 42 (.call (.func 11) [(T 39),(T 40),(T 41)]),oo 43 (.mkslice 3 1 8 (.val (.int .i64 0)) (kk 257) (kk 257)),oo 44 (.bslice 22 1 [(T 38),(T 42),(T 43),(.const (.slice none 0 0))]),vv 14 44] [])
 (.seq (.region [vv 45 12,vv 46 13,oo 47 (.bslice 22 1 [(T 45),(T 46)]),vv 48 12,vv 49 3,vv 50 4,oo 51 (.call (.func 11) [(T 48),(T 49),(T 50)]),vv 52 13,oo 53 (.bslice 22 1 [(T 51),(T 52)]),vv 54 12,vv 55 13,vv 56 3,vv 57 4,oo 58 (.call (.func 11) [(T 55),(T 56),(T 57)]),oo 59 (.bslice 22 1 [(T 54),(T 58)]),oo 60 (.bslice 22 1 [(.const (.slice none 0 0)),(.const (.slice none 0 0))]),oo 61 (.bslice 27 1 [(T 47),(T 53),(T 59),(T 60)]),vv 15 61])
 (.seq (.seq (.region [oo 16 (.mov (kk 0))])
 (.block 0 (.loop
 (.seq (.seq (.region [vv 62 16,vv 63 14,oo 64 (.len (T 63)),oo 65 (.ibin .lss (T 62) (T 64))])
 (.cond (T 65)
 .skip
 (.exit 0)))
 (.seq (.block 1 (.seq (.region [oo 17 (.mov (kk 0))])
 (.block 2 (.loop
 (.seq (.seq (.region [vv 68 17,vv 69 15,oo 70 (.len (T 69)),oo 71 (.ibin .lss (T 68) (T 70))])
 (.cond (T 71)
 .skip
 (.exit 2)))
 (.seq (.block 3 (.seq (.region [vv 74 14,vv 75 16,oo 76 (.idxS 1 (T 74) (T 75)),oo 77 (.load false 1 (T 76)),oo 78 (.build [(.val (.slice none 0 0))] [(0,(1,(T 77)))]),oo 18 (.alloc 30 (.agg [(.val (.slice none 0 0))])),nn (.store 1 (T 18) (T 78))])
 (.seq (.drawn [oo 80 (.load true 1 (T 18)),vv 81 15,vv 82 17,oo 83 (.idxS 1 (T 81) (T 82)),oo 84 (.load false 1 (T 83)),oo 85 (.idxS 1 (T 84) (kk 0)),oo 86 (.load false 1 (T 85)),vv 87 15,vv 88 17,oo 89 (.idxS 1 (T 87) (T 88)),oo 90 (.load false 1 (T 89)),oo 91 (.idxS 1 (T 90) (kk 1)),oo 92 (.load false 1 (T 91))] [(oo 93 (.call (.func 12) [(T 80),(T 86),(T 92)]),[]),(vv 79 93,[]),(oo 94 (.extract (T 79) 0),[]),(oo 95 (.extract (T 79) 1),[]),(vv 19 94,[]),(vv 20 95,[])])
 (.seq (.drawn [vv 97 14,vv 98 16,oo 99 (.idxS 1 (T 97) (T 98)),oo 100 (.load false 1 (T 99)),vv 101 15,vv 102 17,oo 103 (.idxS 1 (T 101) (T 102)),oo 104 (.load false 1 (T 103)),oo 105 (.idxS 1 (T 104) (kk 0)),oo 106 (.load false 1 (T 105)),vv 107 15,vv 108 17,oo 109 (.idxS 1 (T 107) (T 108)),oo 110 (.load false 1 (T 109)),oo 111 (.idxS 1 (T 110) (kk 1)),oo 112 (.load false 1 (T 111))] [(oo 113 (.call (.func 13) [(T 100),(T 106),(T 112)]),[]),(vv 96 113,[]),(oo 114 (.extract (T 96) 0),[]),(oo 115 (.extract (T 96) 1),[]),(vv 21 114,[]),(vv 22 115,[])])
 (.seq (.drawn [oo 117 (.load true 1 (T 18)),vv 118 15,vv 119 17,oo 120 (.idxS 1 (T 118) (T 119)),oo 121 (.load false 1 (T 120)),oo 122 (.idxS 1 (T 121) (kk 0)),oo 123 (.load false 1 (T 122)),vv 124 15,vv 125 17,oo 126 (.idxS 1 (T 124) (T 125)),oo 127 (.load false 1 (T 126)),oo 128 (.idxS 1 (T 127) (kk 1)),oo 129 (.load false 1 (T 128))] [(oo 130 (.call (.func 14) [(T 117),(T 123),(T 129)]),[]),(vv 116 130,[]),(oo 131 (.extract (T 116) 0),[]),(oo 132 (.extract (T 116) 1),[]),(oo 133 (.extract (T 116) 2),[]),(vv 23 131,[]),(vv 24 132,[]),(vv 25 133,[])])
 (.seq (.drawn [vv 135 14,vv 136 16,oo 137 (.idxS 1 (T 135) (T 136)),oo 138 (.load false 1 (T 137)),vv 139 15,vv 140 17,oo 141 (.idxS 1 (T 139) (T 140)),oo 142 (.load false 1 (T 141)),oo 143 (.idxS 1 (T 142) (kk 0)),oo 144 (.load false 1 (T 143)),vv 145 15,vv 146 17,oo 147 (.idxS 1 (T 145) (T 146)),oo 148 (.load false 1 (T 147)),oo 149 (.idxS 1 (T 148) (kk 1)),oo 150 (.load false 1 (T 149))] [(oo 151 (.call (.func 15) [(T 138),(T 144),(T 150)]),[]),(vv 134 151,[]),(oo 152 (.extract (T 134) 0),[]),(oo 153 (.extract (T 134) 1),[]),(oo 154 (.extract (T 134) 2),[]),(vv 26 152,[]),(vv 27 153,[]),(vv 28 154,[])])
 (.seq (.region [vv 155 19,vv 156 21,oo 157 (.ibin .neq (T 155) (T 156)),vv 158 157,vf 159 158 20,vf 160 158 22,gf 161 158 (.ibin .neq (T 159) (T 160)),oo 162 (.pick (T 158) (.const (.bool true)) (T 161)),vv 163 162,vf 164 163 23,vf 165 163 26,gf 166 163 (.ibin .neq (T 164) (T 165)),oo 167 (.pick (T 163) (.const (.bool true)) (T 166)),vv 168 167,vf 169 168 24,vf 170 168 27,gf 171 168 (.ibin .neq (T 169) (T 170)),oo 172 (.pick (T 168) (.const (.bool true)) (T 171)),vv 173 172,vf 174 173 25,vf 175 173 28,gf 176 173 (.ibin .neq (T 174) (T 175)),oo 177 (.pick (T 173) (.const (.bool true)) (T 176))])
 (.cond (T 177)
 (.seq (.region [oo 10 (.mov (.const (.bool false)))])
 .ret)
 .skip))))))))
 (.region [vv 72 17,oo 73 (.ibin .add (T 72) (kk 1)),vv 17 73])))))))
 (.region [vv 66 16,oo 67 (.ibin .add (T 66) (kk 1)),vv 16 67]))))))
 (.seq (.region [oo 178 (.call (.func 16) []),vv 10 178])
 .ret))))))))
theorem f3:fnC Try.lprog 3=some (cn3,179,[(.tmp 10)]):=by kernel_rfl
def c4:CCode :=
 (sR [oo 10 (.mov bF)]
 (sR [vv 26 0,oo 27 (cL 8 [T 26]),vv 11 27]
 (sR [vv 28 11,vv 29 11,vv 30 3,vv 31 4,oo 32 (cL 11 [T 29,T 30,T 31]),oo 33 (.bslice 22 1 [T 28,T 32]),vv 12 33]
 (sR [vv 34 1,oo 35 (cL 17 [T 34,kk 11]),oo 36 (iK .sub 35 1),vv 37 1,oo 38 (cL 17 [T 37,kk 15]),oo 39 (iK .sub 38 3),vv 40 1,oo 41 (.bslice 3 1 [T 36,T 39,T 40]),vv 13 41]
 (sR [vv 42 2,vv 43 11,oo 44 (lN 43),oo 45 (iK .add 44 1),oo 46 (cL 17 [T 42,T 45]),vv 47 2,oo 48 (cL 17 [T 47,kk 25]),oo 49 (iK .sub 48 1),oo 50 (.bslice 3 1 [T 46,T 49]),vv 14 50]
 (.seq (sR [oo 15 (.mov (kk 0))]
 (.block 0 (.loop
 (.seq (sR [vv 51 15,oo 52 (iK .lss 51 2)]
 (.cond (T 52)
 .skip
 (.exit 0)))
 (.seq (.block 1 (sR [oo 16 (.mov (kk 0))]
 (.block 2 (.loop
 (.seq (sR [vv 55 16,oo 56 (iK .lss 55 3)]
 (.cond (T 56)
 .skip
 (.exit 2)))
 (.seq (.block 3 (sR [oo 17 (.mov (kk 0))]
 (.block 4 (.loop
 (.seq (sR [vv 59 17,oo 60 (iK .lss 59 2)]
 (.cond (T 60)
 .skip
 (.exit 4)))
 (.seq (.block 5 (.seq (.drawn [vv 64 12,vv 65 15,oo 66 (iS 1 64 65),oo 67 (ld1 66),oo 68 (.build [nS] [(0,(1,(T 67)))]),vv 69 13,vv 70 16,oo 71 (iS 1 69 70),oo 72 (ld1 71),vv 73 14,vv 74 17,oo 75 (iS 1 73 74),oo 76 (ld1 75)] [(oo 77 (cL 18 [T 68,T 72,T 76]),[]),(vv 63 77,[]),(oo 78 (eX 63 0),[]),(oo 79 (eX 63 1),[]),(vv 18 78,[]),(vv 19 79,[])])
 (.seq (.drawn [vv 81 12,vv 82 15,oo 83 (iS 1 81 82),oo 84 (ld1 83),vv 85 13,vv 86 16,oo 87 (iS 1 85 86),oo 88 (ld1 87),vv 89 14,vv 90 17,oo 91 (iS 1 89 90),oo 92 (ld1 91)] [(oo 93 (cL 19 [T 84,T 88,T 92]),[]),(vv 80 93,[]),(oo 94 (eX 80 0),[]),(oo 95 (eX 80 1),[]),(vv 20 94,[]),(vv 21 95,[])])
 (sR [vv 96 19,vv 97 21,oo 98 (iB .neq 96 97),vv 99 98,vf 100 99 18,vf 101 99 20,gf 102 99 (cL 20 [T 100,T 101]),gf 103 99 (.lnot (T 102)),oo 104 (.pick (T 99) bT (T 103))]
 (.cond (T 104)
 (sR [oo 10 (.mov bF)]
 .ret)
 .skip)))))
 (rR [vv 61 17,oo 62 (iK .add 61 1),vv 17 62])))))))
 (rR [vv 57 16,oo 58 (iK .add 57 1),vv 16 58])))))))
 (rR [vv 53 15,oo 54 (iK .add 53 1),vv 15 54]))))))
 (sR [vv 106 11,oo 107 (.build [nS] [(0,(1,(T 106)))]),vv 108 13,oo 109 (.idxS 1 (T 108) (kk 0)),oo 110 (ld1 109),vv 111 11,oo 112 (lN 111),oo 113 (cL 18 [T 107,T 110,T 112]),vv 105 113,oo 114 (eX 105 0),oo 115 (eX 105 1),vv 22 114,vv 23 115]
 (.seq (.drawn [vv 117 11,oo 118 (.build [nS] [(0,(1,(T 117)))]),vv 119 13,oo 120 (.idxS 1 (T 119) (kk 0)),oo 121 (ld1 120),vv 122 14,oo 123 (.idxS 1 (T 122) (kk 0)),oo 124 (ld1 123)] [(oo 125 (cL 18 [T 118,T 121,T 124]),[]),(vv 116 125,[]),(oo 126 (eX 116 0),[]),(oo 127 (eX 116 1),[]),(vv 24 126,[]),(vv 25 127,[])])
 (.seq (sR [vv 128 23,oo 129 (iK .neq 128 0),vv 130 129,vf 131 130 25,gf 132 130 (iK .neq 131 0),oo 133 (.pick (T 130) bT (T 132)),vv 134 133,vf 135 134 22,gf 136 134 (lN 135),vf 137 134 11,gf 138 134 (lN 137),gf 139 134 (iB .neq 136 138),oo 140 (.pick (T 134) bT (T 139)),vv 141 140,vf 142 141 24,gf 143 141 (lN 142),vf 144 141 14,gf 145 141 (.idxS 1 (T 144) (kk 0)),gf 146 141 (ld1 145),gf 147 141 (iB .neq 143 146),oo 148 (.pick (T 141) bT (T 147)),vv 149 148,vf 150 149 11,vf 151 149 22,gf 152 149 (cL 9 [T 150,T 151]),gf 153 149 (lN 152),vf 154 149 22,gf 155 149 (lN 154),gf 156 149 (iB .neq 153 155),oo 157 (.pick (T 149) bT (T 156))]
 (.cond (T 157)
 (sR [oo 10 (.mov bF)]
 .ret)
 .skip))
 (sR [vv 158 22,vv 159 14,oo 160 (.idxS 1 (T 159) (kk 0)),oo 161 (ld1 160),oo 162 (.slice 1 (T 158) none (some (T 161))),vv 163 24,oo 164 (cL 20 [T 162,T 163]),vv 165 164,gt 166 165 (cL 16 []),oo 167 (.pick (T 165) (T 166) bF),vv 10 167]
 .ret))))))))))
theorem f4:fnC Try.lprog 4=some (c4,168,[(.tmp 10)]):=by kernel_rfl
def c5:CCode :=
 (sR [oo 8 (.mov bF)]
 (sR [vv 28 0,oo 29 (cL 8 [T 28]),oo 30 (.build [nS] [(0,(1,(T 29)))]),oo 9 (.alloc 30 (.agg [nS])),sS 1 9 30]
 (sR [oo 31 (fA 0 9),oo 32 (ld1 31),vv 33 1,oo 34 (cL 9 [T 32,T 33]),vv 10 34]
 (sR [vv 35 2,vv 36 10,oo 37 (lN 36),oo 38 (cL 10 [T 35,T 37]),vv 11 38]
 (sR [oo 39 (.bslice 3 1 []),vv 40 10,oo 41 (.append 3 1 8 (T 39) (T 40)),vv 12 41]
 (sR [oo 42 (.bslice 3 1 []),vv 43 11,oo 44 (.append 3 1 8 (T 42) (T 43)),vv 13 44]
 (.seq (sR [oo 14 (.mov (kk 0))]
 (.block 0 (.loop
 (.seq (sR [vv 45 14,oo 46 (iK .add 45 1),vv 47 3,oo 48 (lN 47),oo 49 (iB .lss 46 48),vv 50 49,vt 51 50 12,gt 52 50 (lN 51),gt 53 50 (iK .gtr 52 0),oo 54 (.pick (T 50) (T 53) bF),vv 55 54,vt 56 55 14,gt 57 55 (iK .lss 56 30),oo 58 (.pick (T 55) (T 57) bF)]
 (.cond (T 58)
 .skip
 (.exit 0)))
 (.seq (.block 1 (sR [vv 61 3,vv 62 14,oo 63 (iS 1 61 62),oo 64 (ld1 63),vv 65 12,oo 66 (lN 65),oo 67 (cL 17 [T 64,T 66]),vv 15 67]
 (sR [vv 68 3,vv 69 14,oo 70 (iK .add 69 1),oo 71 (iS 1 68 70),oo 72 (ld1 71),vv 73 12,oo 74 (lN 73),oo 75 (cL 17 [T 72,T 74]),vv 16 75]
 (sR [vv 76 12,vv 77 15,oo 78 (iS 1 76 77),oo 79 (ld1 78),vv 17 79]
 (sR [vv 80 12,vv 81 15,vv 82 12,vv 83 16,oo 84 (iS 1 82 83),oo 85 (ld1 84),oo 86 (iS 1 80 81),sS 1 86 85]
 (sR [vv 87 12,vv 88 16,vv 89 17,oo 90 (iS 1 87 88),sS 1 90 89]
 (sR [vv 91 13,vv 92 15,oo 93 (iS 1 91 92),oo 94 (ld1 93),vv 17 94]
 (sR [vv 95 13,vv 96 15,vv 97 13,vv 98 16,oo 99 (iS 1 97 98),oo 100 (ld1 99),oo 101 (iS 1 95 96),sS 1 101 100]
 (rR [vv 102 13,vv 103 16,vv 104 17,oo 105 (iS 1 102 103),sS 1 105 104])))))))))
 (rR [vv 59 14,oo 60 (iK .add 59 2),vv 14 60]))))))
 (sR [oo 107 (.load true 1 (T 9)),vv 108 10,vv 109 11,oo 110 (cL 12 [T 107,T 108,T 109]),vv 106 110,oo 111 (eX 106 0),oo 112 (eX 106 1),vv 18 111,vv 19 112]
 (sR [oo 114 (.load true 1 (T 9)),vv 115 12,vv 116 13,oo 117 (cL 12 [T 114,T 115,T 116]),vv 113 117,oo 118 (eX 113 0),oo 119 (eX 113 1),vv 20 118,vv 21 119]
 (sR [oo 121 (.load true 1 (T 9)),vv 122 10,vv 123 11,oo 124 (cL 14 [T 121,T 122,T 123]),vv 120 124,oo 125 (eX 120 0),oo 126 (eX 120 1),oo 127 (eX 120 2),vv 22 125,vv 23 126,vv 24 127]
 (sR [oo 129 (.load true 1 (T 9)),vv 130 12,vv 131 13,oo 132 (cL 14 [T 129,T 130,T 131]),vv 128 132,oo 133 (eX 128 0),oo 134 (eX 128 1),oo 135 (eX 128 2),vv 25 133,vv 26 134,vv 27 135]
 (sR [vv 136 18,vv 137 20,oo 138 (iB .eql 136 137),vv 139 138,vt 140 139 19,vt 141 139 21,gt 142 139 (iB .eql 140 141),oo 143 (.pick (T 139) (T 142) bF),vv 144 143,vt 145 144 22,vt 146 144 25,gt 147 144 (iB .eql 145 146),oo 148 (.pick (T 144) (T 147) bF),vv 149 148,vt 150 149 23,vt 151 149 26,gt 152 149 (iB .eql 150 151),oo 153 (.pick (T 149) (T 152) bF),vv 154 153,vt 155 154 24,vt 156 154 27,gt 157 154 (iB .eql 155 156),oo 158 (.pick (T 154) (T 157) bF),vv 159 158,gt 160 159 (cL 16 []),oo 161 (.pick (T 159) (T 160) bF),vv 8 161]
 .ret))))))))))))
theorem f5:fnC Try.lprog 5=some (c5,162,[(.tmp 8)]):=by kernel_rfl
def c6:CCode :=
 (sR [oo 8 (.mov bF)]
 (sR [vv 21 1,oo 22 (cL 17 [T 21,kk 11]),oo 23 (iK .sub 22 1),vv 9 23]
 (sR [vv 24 0,oo 25 (cL 8 [T 24]),oo 26 (.build [nS] [(0,(1,(T 25)))]),oo 10 (.alloc 30 (.agg [nS])),sS 1 10 26]
 (.seq (.drawn [oo 28 (.load true 1 (T 10)),vv 29 9,vv 30 2,oo 31 (fA 0 10),oo 32 (ld1 31),oo 33 (lN 32),oo 34 (iK .add 33 1)] [(oo 35 (cL 17 [T 30,T 34]),[oo 28 (.load true 1 (T 10)),vv 29 9]),(oo 36 (cL 18 [T 28,T 29,T 35]),[]),(vv 27 36,[]),(oo 37 (eX 27 0),[]),(oo 38 (eX 27 1),[]),(vv 11 37,[]),(vv 12 38,[])])
 (.seq (sR [vv 39 12,oo 40 (iK .neq 39 0),vv 41 40,gf 42 41 (fA 0 10),gf 43 41 (ld1 42),vf 44 41 11,gf 45 41 (cL 9 [T 43,T 44]),gf 46 41 (lN 45),vf 47 41 11,gf 48 41 (lN 47),gf 49 41 (iB .neq 46 48),oo 50 (.pick (T 41) bT (T 49))]
 (.cond (T 50)
 (sR [oo 8 (.mov bF)]
 .ret)
 .skip))
 (.seq (.drawn [oo 52 (.load true 1 (T 10)),vv 53 11,oo 54 (fA 0 10),oo 55 (ld1 54),vv 56 9,vv 57 11] [(oo 58 (cL 21 [T 55,T 56,T 57]),[oo 52 (.load true 1 (T 10)),vv 53 11]),(oo 59 (cL 14 [T 52,T 53,T 58]),[]),(vv 51 59,[]),(oo 60 (eX 51 0),[]),(oo 61 (eX 51 1),[]),(oo 62 (eX 51 2),[]),(vv 13 60,[]),(vv 14 61,[]),(vv 15 62,[])])
 (.seq (sR [vv 63 15,oo 64 (iK .neq 63 0),vv 65 64,vf 66 65 9,vf 67 65 13,gf 68 65 (iB .sub 66 67),vf 69 65 14,gf 70 65 (iB .gtr 68 69),oo 71 (.pick (T 65) bT (T 70)),vv 72 71,vf 73 72 13,vf 74 72 9,gf 75 72 (iB .sub 73 74),vf 76 72 14,gf 77 72 (iB .gtr 75 76),oo 78 (.pick (T 72) bT (T 77))]
 (.cond (T 78)
 (sR [oo 8 (.mov bF)]
 .ret)
 .skip))
 (sR [oo 16 (.mov (.const (.slice none 0 0)))]
 (.seq (sR [oo 17 (.mov (kk 0))]
 (.block 0 (.loop
 (.seq (sR [vv 79 17,oo 80 (iK .lss 79 10)]
 (.cond (T 80)
 .skip
 (.exit 0)))
 (.seq (.block 1 (rR [vv 83 16,vv 84 17,oo 85 (iK .mul 84 3),vv 86 3,oo 87 (cL 22 [T 86,kk 0,kk 10]),oo 88 (iB .add 85 87),oo 89 (iK .rem 88 10),oo 90 (.bslice 3 1 [T 89]),oo 91 (.append 3 1 8 (T 83) (T 90)),vv 16 91]))
 (rR [vv 81 17,oo 82 (iK .add 81 1),vv 17 82]))))))
 (.seq (sR [oo 18 (.mov (kk 1))]
 (.block 2 (.loop
 (.seq (sR [vv 92 18,vv 93 3,oo 94 (lN 93),oo 95 (iB .lss 92 94),vv 96 95,vt 97 96 18,gt 98 96 (iK .lss 97 12),oo 99 (.pick (T 96) (T 98) bF)]
 (.cond (T 99)
 .skip
 (.exit 2)))
 (.seq (.block 3 (rR [vv 102 16,vv 103 3,vv 104 18,oo 105 (iS 1 103 104),oo 106 (ld1 105),oo 107 (cL 17 [T 106,kk 10]),oo 108 (.bslice 3 1 [T 107]),oo 109 (.append 3 1 8 (T 102) (T 108)),vv 16 109]))
 (rR [vv 100 18,oo 101 (iK .add 100 1),vv 18 101]))))))
 (sR [vv 111 16,oo 112 (.build [nS] [(0,(1,(T 111)))]),vv 113 9,oo 114 (cL 18 [T 112,T 113,kk 4]),vv 110 114,oo 115 (eX 110 0),oo 116 (eX 110 1),vv 19 115,vv 20 116]
 (.seq (sR [vv 117 20,oo 118 (iK .neq 117 0),vv 119 118,vf 120 119 19,gf 121 119 (lN 120),gf 122 119 (iK .neq 121 4),oo 123 (.pick (T 119) bT (T 122)),vv 124 123,vf 125 124 16,vf 126 124 19,gf 127 124 (cL 9 [T 125,T 126]),gf 128 124 (lN 127),gf 129 124 (iK .neq 128 4),oo 130 (.pick (T 124) bT (T 129))]
 (.cond (T 130)
 (sR [oo 8 (.mov bF)]
 .ret)
 .skip))
 (sR [vv 132 16,oo 133 (.build [nS] [(0,(1,(T 132)))]),vv 134 19,vv 135 16,vv 136 9,vv 137 19,oo 138 (cL 21 [T 135,T 136,T 137]),oo 139 (cL 14 [T 133,T 134,T 138]),vv 131 139,oo 140 (eX 131 0),oo 141 (eX 131 1),oo 142 (eX 131 2),vv 13 140,vv 14 141,vv 15 142]
 (sR [vv 143 15,oo 144 (iK .eql 143 0),vv 145 144,vt 146 145 13,vt 147 145 9,gt 148 145 (iB .eql 146 147),oo 149 (.pick (T 145) (T 148) bF),vv 150 149,vt 151 150 14,gt 152 150 (iK .eql 151 0),oo 153 (.pick (T 150) (T 152) bF),vv 154 153,gt 155 154 (cL 16 []),oo 156 (.pick (T 154) (T 155) bF),vv 8 156]
 .ret))))))))))))))
theorem f6:fnC Try.lprog 6=some (c6,157,[(.tmp 8)]):=by kernel_rfl
end Go.Proofs.Ytdadmhahbeehhaa
