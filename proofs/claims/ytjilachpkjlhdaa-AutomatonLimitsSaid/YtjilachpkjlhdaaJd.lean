/- Lemmas used by all laws. -/
import Derived.Test.YtjilachpkjlhdaaJa
import Derived.Test.YtjilachpkjlhdaaJb
import Derived.Test.YtjilachpkjlhdaaJc
import Derived.Test.YtjilachpkjlhdaaProg
import Derived.RangeFuncFrom
import Derived.RangeFuncNested
set_option linter.unusedSimpArgs false
set_option linter.unusedVariables false
set_option linter.unusedSectionVars false
set_option maxRecDepth 100000
namespace Dak
open Go Go.RowKit
variable [Globs]
variable {P : Program} {F0 : FD} {w0 w : World} {L : Lay} {objs objs0 : List AObj} {nid : Nat}
def lk:List (Nat × AV)->Nat->AV
 | [],_=>.junk
 | (k,v)::r,t=>if k=t then v else lk r t
abbrev T (n:Nat):Operand:=.tmp n
structure Est where
 env:List (Nat × AV)
 objs:List AObj
def KeysOk (n:Nat) (env:List (Nat × AV)):Prop:=∀ t,n<=t->lk env t = .junk
def toT (n:Nat) (env:List (Nat × AV)):List AV:=(List.range n).map (lk env)
def Est.toSt (n:Nat) (s:Est):St:=⟨toT n s.env,s.objs⟩
def evE (env:List (Nat × AV)):Operand->AV
 | .tmp t=>lk env t
 | .const v=>ofV v
 | .func f=>.clo (.func f) []
 | .global g=>gAV g
def putE (env:List (Nat × AV)) (dst:Option Nat) (v:AV):List (Nat × AV) :=
 match dst with
 | some d=>(d,v)::env
 | none=>env
def okD (n:Nat):Option Nat->Prop
 | some d=>d<n
 | none=>True
theorem toT_getD {n:Nat} {env:List (Nat × AV)} (hk:KeysOk n env) (t:Nat):(toT n env).getD t .junk=lk env t:=by
 unfold toT
 by_cases h:t<n
 ·rw [List.getD_eq_getElem?_getD,List.getElem?_eq_getElem (by simpa using h)];simp
 ·rw [List.getD_eq_getElem?_getD,List.getElem?_eq_none (by simp;omega)]
  exact (hk t (by omega)).symm
theorem ev_toT {n:Nat} {env:List (Nat × AV)} (hk:KeysOk n env):St.ev (toT n env)=evE env:=by
 funext x
 cases x with
 | tmp t=>exact toT_getD hk t
 | _=>rfl
theorem put_toT {n:Nat} {env:List (Nat × AV)} {dst:Option Nat} (hd:okD n dst) (v:AV):St.put (toT n env) dst v=toT n (putE env dst v):=by
 cases dst with
 | none=>rfl
 | some d =>
  have hd:d<n:=hd
  refine getD_ext (by rw [put_len];simp [toT]) fun t ht=>?_
  rw [put_len] at ht
  have ht':t<n:=by simpa [toT] using ht
  rw [put_getD ht]
  have e:∀ env,(toT n env).getD t .junk=lk env t:=by
   intro env
   unfold toT
   rw [List.getD_eq_getElem?_getD,List.getElem?_eq_getElem (by simpa using ht')];simp
  rw [e,e]
  simp only [putE,lk,Option.some.injEq]
theorem keys_put {n:Nat} {env:List (Nat × AV)} (hk:KeysOk n env) {dst:Option Nat} (hd:okD n dst) (v:AV):KeysOk n (putE env dst v):=by
 cases dst with
 | none=>exact hk
 | some d =>
  have hd:d<n:=hd
  intro t ht
  simp only [putE,lk]
  rw [if_neg (fun e=>absurd hd (by rw [e];exact Nat.not_lt.2 ht))];exact hk t ht
def RstepE (P:Program) (n:Nat) (c:COper) (K:Est->Prop) (s:Est):Prop :=
 match c.op with
 | .call f args=>okD n c.dst/\∃ r objs',CallM P true s.objs (evE s.env f) (args.map (evE s.env)) r objs'/\K ⟨putE s.env c.dst r,objs'⟩
 | op=>match step1 s.objs (evE s.env) op with
  | some (r,objs)=>okD n c.dst/\K ⟨putE s.env c.dst r,objs⟩
  | none=>False
def RopsE (P:Program) (n:Nat):List COper->(Est->Prop)->Est->Prop
 | [],K,s=>K s
 | c::rest,K,s =>
  match c.guard with
  | none=>RstepE P n c (RopsE P n rest K) s
  | some (t,want)=>match gdB (lk s.env t) with
   | some b=>(b=some want->RstepE P n c (RopsE P n rest K) s)/\(b ≠ some want->okD n c.dst/\RopsE P n rest K ⟨putE s.env c.dst nov,s.objs⟩)
   | none=>False
def LiftE (n:Nat) (K:Est->Prop) (st:St):Prop:=∃ s,K s/\KeysOk n s.env/\st=s.toSt n
theorem ropsE_ok {n:Nat} {K:Est->Prop}:∀ (cs:List COper) (s:Est),KeysOk n s.env->RopsE P n cs K s->Rops P cs (LiftE n K) (s.toSt n)
 | [],s,hk,h=>⟨s,h,hk,rfl⟩
 | c::rest,s,hk,h=>by
  have step:RstepE P n c (RopsE P n rest K) s->Rstep P c (Rops P rest (LiftE n K)) (s.toSt n):=by
   intro h
   have plain:∀ op,op=c.op->(match step1 s.objs (evE s.env) op with | some (r,objs)=>okD n c.dst/\RopsE P n rest K ⟨putE s.env c.dst r,objs⟩ | none=>False) ->
    (match step1 s.objs (St.ev (toT n s.env)) op with | some (r,objs)=>Rops P rest (LiftE n K) ⟨St.put (toT n s.env) c.dst r,objs⟩ | none=>False):=by
    rintro op rfl h
    rw [ev_toT hk]
    split at h
    ·rename_i r objs' hq
     rw [put_toT h.1]
     exact ropsE_ok rest ⟨_,_⟩ (keys_put hk h.1 r) h.2
    ·exact h.elim
   unfold RstepE at h
   unfold Rstep
   split at h
   ·rename_i f args hop
    simp only [hop]
    obtain ⟨hd,r,objs',hc,hK⟩:=h
    refine ⟨r,objs',?_,?_⟩
    ·show CallM P true s.objs (St.ev (toT n s.env) f) (args.map (St.ev (toT n s.env))) r objs'
     rw [ev_toT hk];exact hc
    ·show Rops P rest (LiftE n K) ⟨St.put (toT n s.env) c.dst r,objs'⟩
     rw [put_toT hd]
     exact ropsE_ok rest ⟨_,_⟩ (keys_put hk hd r) hK
   ·rename_i op hne
    have:=plain _ rfl h
    split
    ·rename_i f args hop
     exact absurd hop (hne f args)
    ·exact this
  simp only [RopsE] at h
  simp only [Rops]
  cases hg:c.guard with
  | none=>rw [hg] at h;exact step h
  | some q =>
   obtain ⟨t,want⟩:=q
   rw [hg] at h
   simp only at h ⊢
   have e:(s.toSt n).tmps.getD t .junk=lk s.env t:=toT_getD hk t
   rw [e]
   split at h
   ·rename_i b hb
    rw [hb]
    refine ⟨fun hw=>step (h.1 hw),fun hw=>?_⟩
    obtain ⟨hd,h2⟩:=h.2 hw
    show Rops P rest (LiftE n K) ⟨St.put (toT n s.env) c.dst nov,s.objs⟩
    rw [put_toT hd]
    exact ropsE_ok rest ⟨_,_⟩ (keys_put hk hd _) h2
   ·exact h.elim
def LatesE (s:Est):List COper->Prop
 | []=>True
 | l::ls=>(match l.dst with
  | some t=>qstep s.objs (evE s.env) 0 l.op=some (lk s.env t,none)
  | none=>False)/\LatesE s ls
theorem latesE_ok {n:Nat} {s:Est} (hk:KeysOk n s.env):∀ {ls:List COper},LatesE s ls->LatesOk (s.toSt n) ls
 | [],_=>trivial
 | l::ls,h=>by
  refine ⟨?_,latesE_ok hk h.2⟩
  have h1:=h.1
  split at h1
  ·rename_i t hd
   refine ⟨t,hd,?_⟩
   show qstep s.objs (St.ev (toT n s.env)) 0 l.op=some ((toT n s.env).getD t .junk,none)
   rw [ev_toT hk,toT_getD hk];exact h1
  ·exact h1.elim
def RopsLE (P:Program) (n:Nat):List (COper × List COper)->(Est->Prop)->Est->Prop
 | [],K,s=>K s
 | (c,ls)::rest,K,s =>
  match c.guard with
  | none=>RstepE P n c (fun s=>LatesE s ls/\RopsLE P n rest K s) s
  | some (t,want)=>match gdB (lk s.env t) with
   | some b=>(b=some want->RstepE P n c (fun s=>LatesE s ls/\RopsLE P n rest K s) s) /\
    (b ≠ some want->okD n c.dst/\LatesE ⟨putE s.env c.dst nov,s.objs⟩ ls/\RopsLE P n rest K ⟨putE s.env c.dst nov,s.objs⟩)
   | none=>False
theorem rstepE_ok {n:Nat} {c:COper} {K:Est->Prop} {K':St->Prop} {s:Est} (hk:KeysOk n s.env) (hK:∀ s,KeysOk n s.env->K s->K' (s.toSt n)) (h:RstepE P n c K s):Rstep P c K' (s.toSt n):=by
 have plain:∀ op,op=c.op->(match step1 s.objs (evE s.env) op with | some (r,objs)=>okD n c.dst/\K ⟨putE s.env c.dst r,objs⟩ | none=>False) ->
  (match step1 s.objs (St.ev (toT n s.env)) op with | some (r,objs)=>K' ⟨St.put (toT n s.env) c.dst r,objs⟩ | none=>False):=by
  rintro op rfl h
  rw [ev_toT hk]
  split at h
  ·rename_i r objs' hq
   rw [put_toT h.1]
   exact hK ⟨_,_⟩ (keys_put hk h.1 r) h.2
  ·exact h.elim
 unfold RstepE at h
 unfold Rstep
 generalize c.op=op at *
 cases op with
 | call f args =>
  obtain ⟨hd,r,objs',hc,hKr⟩:=h
  refine ⟨r,objs',?_,?_⟩
  ·show CallM P true s.objs (St.ev (toT n s.env) f) (args.map (St.ev (toT n s.env))) r objs'
   rw [ev_toT hk];exact hc
  ·show K' ⟨St.put (toT n s.env) c.dst r,objs'⟩
   rw [put_toT hd]
   exact hK ⟨_,_⟩ (keys_put hk hd r) hKr
 | _=>exact plain _ rfl h
theorem ropsLE_ok {n:Nat} {K:Est->Prop}:∀ (cs:List (COper × List COper)) (s:Est),KeysOk n s.env->RopsLE P n cs K s->RopsL P cs (LiftE n K) (s.toSt n)
 | [],s,hk,h=>⟨s,h,hk,rfl⟩
 | (c,ls)::rest,s,hk,h=>by
  have next:∀ s:Est,KeysOk n s.env->LatesE s ls/\RopsLE P n rest K s->LatesOk (s.toSt n) ls/\RopsL P rest (LiftE n K) (s.toSt n):=fun s hk h=>⟨latesE_ok hk h.1,ropsLE_ok rest s hk h.2⟩
  simp only [RopsLE] at h
  simp only [RopsL]
  cases hg:c.guard with
  | none=>rw [hg] at h;exact rstepE_ok hk next h
  | some q =>
   obtain ⟨t,want⟩:=q
   rw [hg] at h
   simp only at h ⊢
   have e:(s.toSt n).tmps.getD t .junk=lk s.env t:=toT_getD hk t
   rw [e]
   split at h
   ·rename_i b hb
    rw [hb]
    refine ⟨fun hw=>rstepE_ok hk next (h.1 hw),fun hw=>?_⟩
    obtain ⟨hd,h2⟩:=h.2 hw
    show LatesOk ⟨St.put (toT n s.env) c.dst nov,s.objs⟩ ls/\RopsL P rest (LiftE n K) ⟨St.put (toT n s.env) c.dst nov,s.objs⟩
    rw [put_toT hd]
    exact next ⟨_,_⟩ (keys_put hk hd _) h2
   ·exact h.elim
def QopsE (P:Program) (n:Nat) (objs0:List AObj):List COper->(List (Nat × AV)->List AObj->Prop)->List (Nat × AV)->List AObj->Prop
 | [],K,env,cr=>K env cr
 | c::rest,K,env,cr =>
  let go:Prop:=match c.op with
   | .call f args=>okD n c.dst/\∃ r objs',CallM P false objs0 (evE env f) (args.map (evE env)) r objs'/\callX objs0 objs' cr (QopsE P n objs0 rest K (putE env c.dst r))
   | op=>match qstepK (objs0++cr) objs0 (evE env) (objs0.length+cr.length) op with
    | some (r,none)=>okD n c.dst/\QopsE P n objs0 rest K (putE env c.dst r) cr
    | some (r,some o)=>okD n c.dst/\QopsE P n objs0 rest K (putE env c.dst r) (cr++[o])
    | none=>False
  match c.guard with
  | none=>go
  | some (t,want)=>match gdB (lk env t) with
   | some b=>(b=some want->go)/\(b ≠ some want->okD n c.dst/\QopsE P n objs0 rest K (putE env c.dst nov) cr)
   | none=>False
theorem qopsE_ok {n:Nat} {K:List (Nat × AV)->List AObj->Prop}:∀ (cs:List COper) (env:List (Nat × AV)) (cr:List AObj),KeysOk n env->QopsE P n objs0 cs K env cr ->
 Qops P objs0 cs (fun tmps cr=>∃ env,KeysOk n env/\tmps=toT n env/\K env cr) (toT n env) cr
 | [],env,cr,hk,h=>⟨env,hk,rfl,h⟩
 | c::rest,env,cr,hk,h=>by
  have ih:=fun (env:List (Nat × AV)) (cr:List AObj) (hk:KeysOk n env) (h:QopsE P n objs0 rest K env cr)=>qopsE_ok (K:=K) rest env cr hk h
  have plain:∀ op,op=c.op->(match qstepK (objs0++cr) objs0 (evE env) (objs0.length+cr.length) op with
   | some (r,none)=>okD n c.dst/\QopsE P n objs0 rest K (putE env c.dst r) cr
   | some (r,some o)=>okD n c.dst/\QopsE P n objs0 rest K (putE env c.dst r) (cr++[o])
   | none=>False)->(match qstepK (objs0++cr) objs0 (St.ev (toT n env)) (objs0.length+cr.length) op with
   | some (r,none)=>Qops P objs0 rest (fun tmps cr=>∃ env,KeysOk n env/\tmps=toT n env/\K env cr) (St.put (toT n env) c.dst r) cr
   | some (r,some o)=>Qops P objs0 rest (fun tmps cr=>∃ env,KeysOk n env/\tmps=toT n env/\K env cr) (St.put (toT n env) c.dst r) (cr++[o])
   | none=>False):=by
   rintro op rfl h
   rw [ev_toT hk]
   split at h
   ·rename_i r hq
    rw [put_toT h.1];exact ih _ _ (keys_put hk h.1 r) h.2
   ·rename_i r o hq
    rw [put_toT h.1];exact ih _ _ (keys_put hk h.1 r) h.2
   ·exact h.elim
  have go:(match c.op with
   | .call f args=>okD n c.dst/\∃ r objs',CallM P false objs0 (evE env f) (args.map (evE env)) r objs'/\callX objs0 objs' cr (QopsE P n objs0 rest K (putE env c.dst r))
   | op=>match qstepK (objs0++cr) objs0 (evE env) (objs0.length+cr.length) op with
    | some (r,none)=>okD n c.dst/\QopsE P n objs0 rest K (putE env c.dst r) cr
    | some (r,some o)=>okD n c.dst/\QopsE P n objs0 rest K (putE env c.dst r) (cr++[o])
    | none=>False)->(match c.op with
   | .call f args=>∃ r no,CallQ P objs0 (objs0.length+cr.length) (St.ev (toT n env) f) (args.map (St.ev (toT n env))) r no/\Qops P objs0 rest (fun tmps cr=>∃ env,KeysOk n env/\tmps=toT n env/\K env cr) (St.put (toT n env) c.dst r) (cr++no)
   | op=>match qstepK (objs0++cr) objs0 (St.ev (toT n env)) (objs0.length+cr.length) op with
    | some (r,none)=>Qops P objs0 rest (fun tmps cr=>∃ env,KeysOk n env/\tmps=toT n env/\K env cr) (St.put (toT n env) c.dst r) cr
    | some (r,some o)=>Qops P objs0 rest (fun tmps cr=>∃ env,KeysOk n env/\tmps=toT n env/\K env cr) (St.put (toT n env) c.dst r) (cr++[o])
    | none=>False):=by
   intro h
   generalize c.op=op at *
   cases op with
   | call f args =>
    obtain ⟨hd,r,objs',hc,hX⟩:=h
    obtain ⟨no,hq,hK⟩:=hc.cq hX
    exact ⟨r,no,by rw [ev_toT hk];exact hq,by rw [put_toT hd];exact ih _ _ (keys_put hk hd r) hK⟩
   | _=>exact plain _ rfl h
  simp only [QopsE] at h
  simp only [Qops]
  cases hg:c.guard with
  | none=>rw [hg] at h;exact go h
  | some q =>
   obtain ⟨t,want⟩:=q
   rw [hg] at h
   simp only at h ⊢
   rw [toT_getD hk]
   split at h
   ·rename_i b hb
    rw [hb]
    refine ⟨fun hw=>go (h.1 hw),fun hw=>?_⟩
    obtain ⟨hd,h2⟩:=h.2 hw
    rw [put_toT hd];exact ih _ _ (keys_put hk hd _) h2
   ·exact h.elim
def LiftX (n:Nat) (Q:Exit->Est->Prop):Exit->St->Prop:=fun e st=>LiftE n (Q e) st
def CwpE (P:Program) (F0:FD) (w0:World) (n:Nat) (c:CCode) (Q:Exit->Est->Prop) (s:Est):Prop:=KeysOk n s.env->Cwp P F0 w0 c (LiftX n Q) (s.toSt n)
def thenE (K:Est->Prop) (Q:Exit->Est->Prop):Exit->Est->Prop
 | .normal,s=>K s
 | e,s=>Q e s
def inBlockE (id:Nat) (Q:Exit->Est->Prop):Exit->Est->Prop
 | .exit i,s=>if i=id then Q .normal s else Q (.exit i) s
 | e,s=>Q e s
def noGotoE (Q:Exit->Est->Prop):Exit->Est->Prop
 | .goto _,_=>False
 | e,s=>Q e s
def RGE (P:Program) (n:Nat) (c:COper) (K:Est->Prop) (s:Est):Prop :=
 match c.guard with
 | none=>RstepE P n c K s
 | some (t,want)=>match gdB (lk s.env t) with
  | some b=>(b=some want->RstepE P n c K s)/\(b ≠ some want->okD n c.dst/\K ⟨putE s.env c.dst nov,s.objs⟩)
  | none=>False
def RTE (P:Program) (n:Nat):PT->(Est->Prop)->Est->Prop
 | .done,K,s=>K s
 | .stop,_,_=>True
 | .alt c ls sub next,K,s=>RGE P n c (fun s=>LatesE s ls/\RTE P n sub K s) s/\RTE P n next K s
theorem rtE_ok {n:Nat} {K:Est->Prop}:∀ (t:PT) (s:Est),KeysOk n s.env->RTE P n t K s->RT P t (LiftE n K) (s.toSt n)
 | .done,s,hk,h=>⟨s,h,hk,rfl⟩
 | .stop,_,_,_=>trivial
 | .alt c ls sub next,s,hk,h=>by
  refine ⟨?_,rtE_ok next s hk h.2⟩
  have h:=h.1
  simp only [RGE] at h
  simp only [RG]
  cases hg:c.guard with
  | none=>rw [hg] at h;exact rstepE_ok hk (fun s hk h=>⟨latesE_ok hk h.1,rtE_ok sub s hk h.2⟩) h
  | some q =>
   obtain ⟨t,want⟩:=q
   rw [hg] at h
   simp only at h ⊢
   have e:(s.toSt n).tmps.getD t .junk=lk s.env t:=toT_getD hk t
   rw [e]
   split at h
   ·rename_i b hb
    rw [hb]
    refine ⟨fun hw=>rstepE_ok hk (fun s hk h=>⟨latesE_ok hk h.1,rtE_ok sub s hk h.2⟩) (h.1 hw),fun hw=>?_⟩
    obtain ⟨hd,h2⟩:=h.2 hw
    show LatesOk ⟨St.put (toT n s.env) c.dst nov,s.objs⟩ ls/\RT P sub (LiftE n K) ⟨St.put (toT n s.env) c.dst nov,s.objs⟩
    rw [put_toT hd]
    exact ⟨latesE_ok (s:=⟨_,_⟩) (keys_put hk hd _) h2.1,rtE_ok sub ⟨_,_⟩ (keys_put hk hd _) h2.2⟩
   ·exact h.elim
def vcE (P:Program) (F0:FD) (w0:World) (n:Nat):CCode->(Exit->Est->Prop)->Est->Prop
 | .skip,Q,s=>Q .normal s
 | .region cs,Q,s=>RopsE P n cs (Q .normal) s
 | .drawn pre post,Q,s=>QopsE P n s.objs pre (fun env cr=>RopsLE P n post (Q .normal) ⟨env,s.objs++cr⟩) s.env []
 | .cut pre post t,Q,s=>QopsE P n s.objs pre (fun env cr=>RopsLE P n post (RTE P n t (Q .normal)) ⟨env,s.objs++cr⟩) s.env []
 | .seq a b,Q,s=>vcE P F0 w0 n a (thenE (vcE P F0 w0 n b Q) Q) s
 | .cond c a b,Q,s=>match asB (evE s.env c) with
  | some t=>(t=true->vcE P F0 w0 n a Q s)/\(t=false->vcE P F0 w0 n b Q s)
  | none=>False
 | .block id b,Q,s=>vcE P F0 w0 n b (inBlockE id Q) s
 | .loop b,Q,s=>CwpE P F0 w0 n (.loop b) Q s
 | .rangeF g ps a b,Q,s=>CwpE P F0 w0 n (.rangeF g ps a b) Q s
 | .exit id,Q,s=>Q (.exit id) s
 | .scope b,Q,s=>vcE P F0 w0 n b (noGotoE Q) s
 | .ret,Q,s=>Q .ret s
theorem vcE_ok {n:Nat}:∀ (c:CCode) (Q:Exit->Est->Prop) (s:Est),KeysOk n s.env->vcE P F0 w0 n c Q s->vc P F0 w0 c (LiftX n Q) (s.toSt n):=by
 have rstep:∀ (c:COper) {K K':St->Prop} (st:St),(∀ s,K s->K' s)->Rstep P c K st->Rstep P c K' st:=by
  intro c K K' st h h2
  unfold Rstep at h2 ⊢
  split at h2
  ·obtain ⟨r,o3,h3,h4⟩:=h2;exact ⟨r,o3,h3,h _ h4⟩
  ·split at h2
   ·exact h _ h2
   ·exact h2
 have rlmono:∀ (cs:List (COper × List COper)) {K K':St->Prop} (st:St),(∀ s,K s->K' s)->RopsL P cs K st->RopsL P cs K' st:=by
  intro cs
  induction cs with
  | nil=>intro K K' st h hh;exact h _ hh
  | cons cl rest ih =>
   intro K K' st h hh
   obtain ⟨c,ls⟩:=cl
   simp only [RopsL] at hh ⊢
   split at hh
   ·exact rstep c st (fun s hs=>⟨hs.1,ih s h hs.2⟩) hh
   ·split at hh
    ·exact ⟨fun e=>rstep c st (fun s hs=>⟨hs.1,ih s h hs.2⟩) (hh.1 e),fun e=>⟨(hh.2 e).1,ih _ h (hh.2 e).2⟩⟩
    ·exact hh
 have qmono:∀ (s:Est) (cs:List COper) {K K':List AV->List AObj->Prop} (tmps:List AV) (cr:List AObj),(∀ t c,K t c->K' t c)->Qops P s.objs cs K tmps cr->Qops P s.objs cs K' tmps cr:=by
  intro s cs
  induction cs with
  | nil=>intro K K' tmps cr h hh;exact h _ _ hh
  | cons c rest ih =>
   intro K K' tmps cr h hh
   simp only [Qops] at hh ⊢
   split at hh
   ·split at hh
    ·obtain ⟨r,no,h3,h4⟩:=hh;exact ⟨r,no,h3,ih _ _ h h4⟩
    ·split at hh <;> first | exact ih _ _ h hh | exact hh
   ·split at hh
    ·refine ⟨fun e=>?_,fun e=>ih _ _ h (hh.2 e)⟩
     have hh1:=hh.1 e
     split at hh1
     ·obtain ⟨r,no,h3,h4⟩:=hh1;exact ⟨r,no,h3,ih _ _ h h4⟩
     ·split at hh1 <;> first | exact ih _ _ h hh1 | exact hh1
    ·exact hh
 intro c
 induction c with
 | skip=>intro Q s hk h;exact ⟨s,h,hk,rfl⟩
 | region cs=>intro Q s hk h;exact ropsE_ok cs s hk h
 | drawn pre post =>
  intro Q s hk h
  have h1:=qopsE_ok pre s.env [] hk h
  refine vc_mono (.drawn pre post) (Q:=LiftX n Q) _ (fun _ _ h=>h) ?_
  refine qmono s pre _ _ ?_ h1
  rintro _ cr ⟨env,hk',rfl,hR⟩
  exact ropsLE_ok post ⟨env,s.objs++cr⟩ hk' hR
 | cut pre post t =>
  intro Q s hk h
  have h1:=qopsE_ok pre s.env [] hk h
  refine vc_mono (.cut pre post t) (Q:=LiftX n Q) _ (fun _ _ h=>h) ?_
  refine qmono s pre _ _ ?_ h1
  rintro _ cr ⟨env,hk',rfl,hR⟩
  refine rlmono post _ ?_ (ropsLE_ok post ⟨env,s.objs++cr⟩ hk' hR)
  rintro st ⟨s',h',hk',rfl⟩
  exact rtE_ok t s' hk' h'
 | seq a b iha ihb =>
  intro Q s hk h
  refine vc_mono a (s.toSt n) ?_ (iha _ s hk h)
  rintro e st ⟨s',hq,hk',rfl⟩
  cases e with
  | normal=>exact ihb Q s' hk' hq
  | _=>exact ⟨s',hq,hk',rfl⟩
 | cond c a b iha ihb =>
  intro Q s hk h
  simp only [vcE] at h
  simp only [vc]
  show match asB (St.ev (toT n s.env) c) with | some t=>_ | none=>False
  rw [ev_toT hk]
  split at h
  ·exact ⟨fun e=>iha Q s hk (h.1 e),fun e=>ihb Q s hk (h.2 e)⟩
  ·exact h.elim
 | block id b ih =>
  intro Q s hk h
  refine vc_mono b (s.toSt n) ?_ (ih _ s hk h)
  rintro e st ⟨s',hq,hk',rfl⟩
  cases e with
  | exit i =>
   simp only [inBlockE] at hq
   simp only [inBlock]
   split
   ·rename_i e;rw [if_pos e] at hq;exact ⟨s',hq,hk',rfl⟩
   ·rename_i e;rw [if_neg e] at hq;exact ⟨s',hq,hk',rfl⟩
  | _=>exact ⟨s',hq,hk',rfl⟩
 | loop b=>intro Q s hk h;exact h hk
 | rangeF g ps a b ih=>intro Q s hk h;exact h hk
 | exit id=>intro Q s hk h;exact ⟨s,h,hk,rfl⟩
 | scope b ih =>
  intro Q s hk h
  refine vc_mono b (s.toSt n) ?_ (ih _ s hk h)
  rintro e st ⟨s',hq,hk',rfl⟩
  cases e with
  | goto l=>exact hq.elim
  | _=>exact ⟨s',hq,hk',rfl⟩
 | ret=>intro Q s hk h;exact ⟨s,h,hk,rfl⟩
def WkE (n:Nat) (s s':Est):Prop:=KeysOk n s.env->KeysOk n s'.env/\Wk (s.toSt n) (s'.toSt n)
theorem WkE.refl (n:Nat) (s:Est):WkE n s s:=fun h=>⟨h,.refl _⟩
theorem WkE.trans {n:Nat} {a b c:Est} (h:WkE n a b) (k:WkE n b c):WkE n a c:=fun hk=>⟨(k (h hk).1).1,(h hk).2.trans (k (h hk).1).2⟩
def RoundE (n:Nat) (I:Nat->Est->Prop) (k:Nat) (Q:Exit->Est->Prop):Exit->Est->Prop:=thenE (fun s=>∃ m s',m<k/\WkE n s s'/\I m s') Q
theorem loopE {n:Nat} {b:CCode} {Q:Exit->Est->Prop} {s:Est} (I:Nat->Est->Prop) (k:Nat) (s0:Est) (hw:WkE n s s0) (h0:I k s0) (round:∀ k s,I k s->vcE P F0 w0 n b (RoundE n I k Q) s):CwpE P F0 w0 n (.loop b) Q s:=by
 intro hk
 refine Cwp.loop (fun k st=>∃ s,I k s/\KeysOk n s.env/\st=s.toSt n) k (hw hk).2 ⟨s0,h0,(hw hk).1,rfl⟩ ?_
 rintro k st ⟨s,hI,hk,rfl⟩
 refine vc_mono b (s.toSt n) ?_ (vcE_ok b _ s hk (round k s hI))
 rintro e st ⟨s',hq,hk',rfl⟩
 cases e with
 | normal =>
  obtain ⟨m,s'',hm,hwk,hI'⟩:=hq
  exact ⟨m,_,hm,(hwk hk').2,s'',hI',(hwk hk').1,rfl⟩
 | _=>exact ⟨s',hq,hk',rfl⟩
def resE (s:Est):CRes->Option AV
 | .tmp t=>some (lk s.env t)
 | .cell a ag n=>do
  let cs <-cellsAt s.objs (lk s.env a)
  if ag then if n<=cs.length then some (AV.agg (cs.take n)) else none else cs[0]?
def resAllE (s:Est) (rs:List CRes):Option AV :=
 (rs.mapM (resE s)).map fun
  | [x]=>x
  | xs=>.tup xs
def retE (rs:List CRes) (r:AV):Exit->Est->Prop
 | .normal,s=>∃ y,resAllE s rs=some y/\Snap s.objs y r
 | .ret,s=>∃ y,resAllE s rs=some y/\Snap s.objs y r
 | _,_=>False
def envOf:Nat->List AV->List (Nat × AV)
 | _,[]=>[]
 | k,x::xs=>(k,x)::envOf (k+1) xs
theorem lk_envOf:∀ (xs:List AV) (k t:Nat),lk (envOf k xs) t=if k<=t then xs.getD (t-k) .junk else .junk
 | [],k,t=>by simp [envOf,lk]
 | x::xs,k,t=>by
  simp only [envOf,lk]
  rw [lk_envOf xs (k+1) t]
  by_cases h:k=t
  ·subst h;simp
  ·rw [if_neg h]
   by_cases h2:k<=t
   ·rw [if_pos (by omega),if_pos h2,show t-k=(t-(k+1))+1 from by omega];simp
   ·rw [if_neg (by omega),if_neg h2]
theorem specE {f:FuncId} {c:CCode} {n:Nat} {rs:List CRes} (hf:fnC P f=some (c,n,rs)) {xs:List AV} (hn:xs.length<=n) {r:AV} (h:∀ F0 w0,vcE P F0 w0 n c (retE rs r) ⟨envOf 0 xs,[]⟩):Ctr P f xs r:=by
 refine spec_of hf fun F0 w0=>?_
 have hk:KeysOk n (envOf 0 xs):=by
  intro t ht
  rw [lk_envOf,if_pos (Nat.zero_le _),List.getD_eq_getElem?_getD,List.getElem?_eq_none (by omega)];rfl
 have e:(⟨xs++List.replicate (n-xs.length) .junk,[]⟩:St)=(⟨envOf 0 xs,[]⟩:Est).toSt n:=by
  unfold Est.toSt
  congr 1
  refine getD_ext (by simp [toT];omega) fun t ht=>?_
  rw [toT_getD hk,lk_envOf,if_pos (Nat.zero_le _),Nat.sub_zero]
  rw [List.getD_eq_getElem?_getD,List.getD_eq_getElem?_getD,List.getElem?_append]
  split
  ·rfl
  ·rename_i h1
   rw [List.getElem?_replicate,List.getElem?_eq_none (by omega)]
   split <;> rfl
 rw [e]
 refine vc_mono c _ ?_ (vcE_ok c _ _ hk (h F0 w0))
 rintro e st ⟨s,hq,hk',rfl⟩
 have hr:∀ x,resA (s.toSt n) x=resE s x:=by
  intro x
  cases x with
  | tmp t=>simp only [resA,resE];rw [show (s.toSt n).tmps=toT n s.env from rfl,toT_getD hk']
  | cell a ag m=>simp only [resA,resE];rw [show (s.toSt n).tmps=toT n s.env from rfl,toT_getD hk'];rfl
 have hra:∀ rs,resAll (s.toSt n) rs=resAllE s rs:=by
  intro rs;unfold resAll resAllE;rw [show resA (s.toSt n)=resE s from funext hr]
  cases rs.mapM (resE s) with
  | none=>rfl
  | some ys=>cases ys with
   | nil=>rfl
   | cons y ys=>cases ys <;> rfl
 cases e with
 | normal=>simp only [retQ];rw [hra];exact hq
 | ret=>simp only [retQ];rw [hra];exact hq
 | _=>exact hq
end Dak
namespace Dak
open Go Go.RowKit
variable [Globs]
variable {P : Program} {F0 : FD} {w0 w : World} {L : Lay} {objs objs0 : List AObj} {nid : Nat}
def Agree (env:List (Nat × AV)):List (Nat × AV)->Prop
 | []=>True
 | (k,v)::r=>lk env k=v/\Agree env r
theorem agree_lk {env:List (Nat × AV)}:∀ (env':List (Nat × AV)),Agree env env'->∀ t,lk env' t = .junk \/ lk env' t=lk env t
 | [],_,t=>.inl rfl
 | (k,v)::r,h,t=>by
  simp only [lk]
  split
  ·rename_i e;subst e;exact .inr h.1.symm
  ·exact agree_lk r h.2 t
theorem sim_slots {n:Nat} {s:Est} {a:Act} (hk:KeysOk n s.env) (h:Sim F0 w0 (s.toSt n) a w) :
 a.defers=F0.ds/\∃ L,Good F0 w0 w L s.objs/\a.tmps.size=n/\∀ t,t<n->VR w L s.objs (lk s.env t) (a.tmps.getD t undef):=by
 obtain ⟨hd,L,g,hs,ht⟩:=h
 refine ⟨hd,L,g,by simpa [Est.toSt,toT] using hs,fun t h=>?_⟩
 have:=ht t (by simpa [Est.toSt,toT] using h)
 simpa [Est.toSt,toT] using this
theorem sim_mk {n:Nat} {s:Est} {a:Act} (hd:a.defers=F0.ds) (g:Good F0 w0 w L s.objs) (hs:a.tmps.size=n) (ht:∀ t,t<n->VR w L s.objs (lk s.env t) (a.tmps.getD t undef)):Sim F0 w0 (s.toSt n) a w :=
 ⟨hd,L,g,by simp [Est.toSt,toT,hs],fun t h=>by
  have h':t<n:=by simpa [Est.toSt,toT] using h
  simpa [Est.toSt,toT] using ht t h'⟩
theorem WkE.keep {n:Nat} {env env':List (Nat × AV)} {objs:List AObj} (h:Agree env env'):WkE n ⟨env,objs⟩ ⟨env',objs⟩:=by
 intro hk
 refine ⟨fun t ht=>?_,fun F0 w0 a w hs=>?_⟩
 ·rcases agree_lk env' h t with h1 | h1
  ·exact h1
  ·rw [h1];exact hk t ht
 ·obtain ⟨hd,L,g,hs,ht⟩:=sim_slots hk hs
  refine sim_mk (s:=⟨env',objs⟩) hd g hs fun t h'=>?_
  rcases agree_lk env' h t with h1 | h1
  ·show VR w L objs (lk env' t) _
   rw [h1];exact .junk _
  ·show VR w L objs (lk env' t) _
   rw [h1];exact ht t h'
theorem WkE.drop {n:Nat} {env:List (Nat × AV)} {objs:List AObj} (m:Nat) (he:∀ p ∈ env,p.2.inn m=true) (ho:∀ o ∈ objs.take m,o.innO m=true):WkE n ⟨env,objs⟩ ⟨env,objs.take m⟩:=by
 intro hk
 refine ⟨hk,fun F0 w0 a w hs=>?_⟩
 obtain ⟨hd,L,g,hs,ht⟩:=sim_slots hk hs
 have hle:∀ t,(lk env t).inn m=true:=by
  intro t
  have:∀ env:List (Nat × AV),(∀ p ∈ env,p.2.inn m=true)->(lk env t).inn m=true:=by
   intro env
   induction env with
   | nil=>intro _;rfl
   | cons p env ih =>
    intro h
    simp only [lk]
    split
    ·exact h p (by simp)
    ·exact ih fun q hq=>h q (by simp [hq])
  exact this env he
 exact sim_mk (s:=⟨env,objs.take m⟩) (L:=L.cut m) hd (good_drop g m ho) hs fun t h=>below_vr (L:=L) (L':=L.cut m) (fun _ h=>h) (fun id h=>if_pos h) (ht t h) (hle t)
theorem WkE.round {n:Nat} {env env':List (Nat × AV)} {objs objs':List AObj} (h:Agree env env') (he:(env'.all fun p=>p.2.inn objs'.length)=true) (ho:(objs'.all fun o=>o.innO objs'.length)=true) (hp:objs.take objs'.length=objs') :
 WkE n ⟨env,objs⟩ ⟨env',objs'⟩:=by
 refine (WkE.keep h).trans ?_
 have:=WkE.drop (n:=n) (env:=env') (objs:=objs) objs'.length (fun p hp=>List.all_eq_true.1 he p hp) (fun o ho'=>by rw [hp] at ho';exact List.all_eq_true.1 ho o ho')
 rwa [hp] at this
theorem WkE.nil {n:Nat} {env:List (Nat × AV)} {objs:List AObj} (k size:Nat) (elem:TypeId) (hkn:k<n) (h:lk env k = .val (.slice none 0 0)):WkE n ⟨env,objs⟩ ⟨(k,.own objs.length 0 0 0)::env,objs++[.arr 0 size elem []]⟩:=by
 intro hk
 refine ⟨fun t ht=>?_,fun F0 w0 a w hs=>?_⟩
 ·simp only [lk];rw [if_neg (by omega)];exact hk t ht
 ·obtain ⟨hd,L,g,hs,ht⟩:=sim_slots hk hs
  obtain ⟨gv,hlv⟩:=good_void g
  have hvd:(objs++[AObj.void])[objs.length]? = some .void:=by simp
  have hl2:Later w L (objs++[AObj.void]) w L ((objs++[AObj.void]).set objs.length (.arr 0 size elem [])):=by
   refine ⟨fun b hF hb=>⟨rfl,hF⟩,stale_set hvd,fun i g' s' hl=>.inr ⟨?_,rfl⟩⟩
   have hne:objs.length ≠ i:=by rintro rfl;obtain ⟨e',xs,h⟩:=hl;rw [hvd] at h;simp at h
   unfold live at hl ⊢
   rwa [List.getElem?_set_ne hne]
  have hl:=hlv.trans hl2
  rw [set_void] at hl
  have hg:Good F0 w0 w L (objs++[.arr 0 size elem []]):=by
   refine ⟨fun id o ho=>?_,fun id hid=>g.out id (by have hid':(objs++[AObj.arr 0 size elem []]).length<=id:=hid;rw [List.length_append] at hid';show objs.length<=id;omega),g.inj,g.own,g.old,g.ext,g.gl⟩
   by_cases hlt:id<objs.length
   ·rw [List.getElem?_append_left hlt] at ho
    have:=g.obj id o ho
    cases o with
    | void=>exact this
    | dead=>exact this
    | probe k st li bk ps=>exact this.probe_stay hl rfl
    | arr gen size elem xs =>
     unfold OR at this ⊢
     cases hbk:L.blk id with
     | none=>rw [hbk] at this;exact this
     | some q =>
      obtain ⟨b,o',n⟩:=q
      rw [hbk] at this
      obtain ⟨cur,hc,hn,hr⟩:=this
      exact ⟨cur,hc,hn,hr.stay hl⟩
   ·have hid:id=objs.length:=by
     have:=(List.getElem?_eq_some_iff.1 ho).1
     simp at this;omega
    subst hid
    simp at ho;subst ho
    unfold OR
    have hn:L.blk objs.length=none:=g.out objs.length (Nat.le_refl _)
    rw [hn]
  refine sim_mk (s:=⟨_,_⟩) hd hg hs fun t h'=>?_
  simp only [lk]
  split
  ·rename_i e;subst e
   have:=ht k h'
   simp only at this
   rw [h] at this
   rw [this.val_inv]
   exact .ownN _ _ _ _ size ⟨elem,[],by simp⟩
  ·exact (ht t h').stay hl
theorem WkE.freezeS {n:Nat} {env:List (Nat × AV)} {objs:List AObj} (k id g size:Nat) (elem:TypeId) (xs:List AV) (x y:AV) (hkn:k<n) (h:lk env k=x) (ho:objs[id]? = some (.arr g size elem xs))
 (hsn:Snap (List.replicate id .dead++[.arr g size elem xs]) x y):WkE n ⟨env,objs⟩ ⟨(k,y)::env,objs.set id .dead⟩:=by
 intro hk
 have hid:=(List.getElem?_eq_some_iff.1 ho).1
 refine ⟨fun t ht=>?_,fun F0 w0 a w hs=>?_⟩
 ·simp only [lk];rw [if_neg (by omega)];exact hk t ht
 ·obtain ⟨hd,L,gd,hs,ht⟩:=sim_slots hk hs
  let L':Lay:=⟨fun b=>L.F b \/ ∃ o n,L.blk id=some (b,o,n),fun i=>if i=id then none else L.blk i⟩
  have only:∀ (i g' s':Nat) (e':TypeId) (xs':List AV),(List.replicate id AObj.dead++[AObj.arr g size elem xs])[i]? = some (AObj.arr g' s' e' xs')->i=id/\AObj.arr g size elem xs=AObj.arr g' s' e' xs':=by
   intro i g' s' e' xs' hi
   by_cases hlt:i<id
   ·rw [List.getElem?_append_left (by simpa using hlt),List.getElem?_replicate,if_pos hlt] at hi;simp at hi
   ·have:i=id:=by have:=(List.getElem?_eq_some_iff.1 hi).1;simp at this;omega
    subst this
    rw [List.getElem?_append_right (by simp)] at hi
    simp only [List.length_replicate,Nat.sub_self,List.getElem?_cons_zero,Option.some.injEq] at hi
    exact ⟨rfl,hi⟩
  have hlater:Later w L objs w L' (objs.set id .dead):=by
   refine ⟨fun b hF hb=>⟨rfl,.inl hF⟩,fun i g' hst=>?_,fun i g' s' hl=>?_⟩
   ·by_cases e:id=i
    ·subst e;exact .inl (List.getElem?_set_self hid)
    ·unfold stale at hst ⊢;rwa [List.getElem?_set_ne e]
   ·by_cases e:id=i
    ·subst e;exact .inl (.inl (List.getElem?_set_self hid))
    ·refine .inr ⟨?_,if_neg (Ne.symm e)⟩
     unfold live at hl ⊢;rwa [List.getElem?_set_ne e]
  refine sim_mk (s:=⟨_,_⟩) (L:=L') hd ⟨fun i o ho'=>?_,fun i hi=>?_,fun i j b o n o' n' h1 h2=>?_,fun i b o n h=>?_,fun b hb=>?_,gd.ext,gd.gl.stay hlater.wk⟩ hs fun t h'=>?_
  ·by_cases e:i=id
   ·subst e
    rw [List.getElem?_set_self hid] at ho'
    simp only [Option.some.injEq] at ho';subst ho'
    exact if_pos rfl
   ·rw [List.getElem?_set_ne (Ne.symm e)] at ho'
    have:=gd.obj i o ho'
    have hbe:L'.blk i=L.blk i:=if_neg e
    cases o with
    | void=>unfold OR at this ⊢;rw [hbe];exact this
    | dead=>unfold OR at this ⊢;rw [hbe];exact this
    | probe k st li bk ps=>exact this.probe_stay hlater hbe
    | arr gen size elem xs =>
     unfold OR at this ⊢
     rw [hbe]
     cases hbk:L.blk i with
     | none=>rw [hbk] at this;exact this
     | some q =>
      obtain ⟨b,o',n⟩:=q
      rw [hbk] at this
      obtain ⟨cur,hc,hn,hr⟩:=this
      exact ⟨cur,hc,hn,hr.stay hlater⟩
  ·rw [List.length_set] at hi
   show (if i=id then none else L.blk i)=none
   split
   ·rfl
   ·exact gd.out i hi
  ·have h1':(if i=id then none else L.blk i)=some (b,o,n):=h1
   have h2':(if j=id then none else L.blk j)=some (b,o',n'):=h2
   split at h1' <;> split at h2' <;> first | exact gd.inj _ _ _ _ _ _ _ h1' h2' | cases h1' | cases h2'
  ·have h':(if i=id then none else L.blk i)=some (b,o,n):=h
   split at h'
   ·cases h'
   ·rename_i e
    have:=gd.own _ _ _ _ h'
    refine ⟨?_,this.2⟩
    rintro (hF | ⟨o2,n2,hF⟩)
    ·exact this.1 hF
    ·exact e (gd.inj _ _ _ _ _ _ _ h' hF)
  ·rcases hb with hb | ⟨o,n,hb⟩
   ·exact gd.old b hb
   ·have:=gd.own _ _ _ _ hb
    exact ⟨.inr this.2.1,this.2.2⟩
  ·simp only [lk]
   split
   ·rename_i e;subst e
    have:=ht k h'
    simp only at this
    rw [h] at this
    refine .tree (snap_ok gd ?_ (G:=L'.F) (fun b hb=>.inl hb) ?_ hsn _ this)
    ·intro i g' s' e' xs' hi
     obtain ⟨rfl,e⟩:=only i g' s' e' xs' hi
     rw [<-e];exact ho
    ·intro i g' s' e' xs' hi b o n hb
     obtain ⟨rfl,_⟩:=only i g' s' e' xs' hi
     exact .inr ⟨o,n,hb⟩
   ·exact (ht t h').stay hlater
theorem WkE.freeze {n:Nat} {env:List (Nat × AV)} {objs:List AObj} (k id g off len size:Nat) (elem:TypeId) (xs:List AV) (hkn:k<n) (h:lk env k = .own id g off len) (ho:objs[id]? = some (.arr g size elem xs))
 (hle:off+len<=xs.length) (hT:(xs.all AV.isT)=true) (he:elem<mapT:=by decide):WkE n ⟨env,objs⟩ ⟨(k,.list size ((xs.drop off).take len))::env,objs.set id .dead⟩:=by
 refine .freezeS k id g size elem xs _ _ hkn h ho ?_
 have hl:((xs.drop off).take len).length=len:=by simp;omega
 refine .own id g off len size elem xs _ (by rw [List.getElem?_append_right (by simp)];simp) hle hl (fun i hi=>?_) he
 rw [List.getElem_take,List.getElem_drop]
 exact .tree _ (List.all_eq_true.1 hT _ (List.getElem_mem _))
end Dak
namespace Dak
open Go Go.RowKit
variable [Globs]
variable {P : Program} {F0 : FD} {w0 w : World} {L : Lay} {objs objs0 : List AObj} {nid : Nat}
theorem live_set_same {id gen size:Nat} {elem:TypeId} {xs xs':List AV} (ho:objs[id]? = some (.arr gen size elem xs)):Later w L objs w L (objs.set id (.arr gen size elem xs')):=by
 have hid:=(List.getElem?_eq_some_iff.1 ho).1
 refine ⟨fun b hF hb=>⟨rfl,hF⟩,stale_next ho (Nat.le_refl _),fun i g s h=>.inr ⟨?_,rfl⟩⟩
 by_cases e:id=i
 ·subst e
  obtain ⟨e',ys,h⟩:=h
  rw [ho] at h;simp only [Option.some.injEq,AObj.arr.injEq] at h
  obtain ⟨rfl,rfl,rfl,rfl⟩:=h
  exact ⟨_,_,List.getElem?_set_self hid⟩
 ·unfold live at h ⊢;rwa [List.getElem?_set_ne e]
theorem good_recell {L':Lay} {objs':List AObj} (g:Good F0 w0 w L objs) (g':Good F0 w0 w L' objs') (hl:Later w L objs w L' objs') {id gen size el c:Nat} {elem:TypeId} {xs:List AV} {y x0 x1:AV}
 (ho:objs[id]? = some (.arr gen size elem xs)) (ho':objs'[id]? = some (.arr gen size elem xs)) (hbk:L'.blk id=L.blk id) (hy:xs[el]? = some y) (hc:y.cells[c]? = some x0) (hx:∀ u,u.oneCell'=true->VR w L objs x0 u->VR w L' objs' x1 u) (h1:∀ ds,x1 ≠ .agg ds) :
 Good F0 w0 w L' (objs'.set id (.arr gen size elem (xs.set el (recell y (y.cells.set c x1))))):=by
 have hid:=(List.getElem?_eq_some_iff.1 ho').1
 have hl2:Later w L' objs' w L' (objs'.set id (.arr gen size elem (xs.set el (recell y (y.cells.set c x1))))):=live_set_same ho'
 refine ⟨fun i o hi=>?_,fun i hi=>g'.out i (by rw [List.length_set] at hi;exact hi),g'.inj,g'.own,g'.old,g'.ext,g'.gl⟩
 by_cases e:i=id
 ·subst e
  rw [List.getElem?_set_self hid] at hi
  simp only [Option.some.injEq] at hi;subst hi
  have:=g.obj _ _ ho
  unfold OR at this ⊢
  rw [hbk]
  cases hb:L.blk i with
  | none =>
   rw [hb] at this
   simp only at this
   subst this;simp at hy
  | some q =>
   obtain ⟨b,o,n⟩:=q
   rw [hb] at this
   obtain ⟨cur,hcur,hn,hr1,hr2⟩:=this
   obtain ⟨hel,rfl⟩:=List.getElem?_eq_some_iff.1 hy
   obtain ⟨hcl,rfl⟩:=List.getElem?_eq_some_iff.1 hc
   have hna:∀ c' ∈ xs[el].cells.set c x1,∀ ds,c' ≠ .agg ds:=by
    intro c' hc' ds
    obtain ⟨k,hk,rfl⟩:=List.getElem_of_mem hc'
    rw [List.getElem_set]
    split
    ·exact h1 ds
    ·obtain ⟨u,_,ho1,hv⟩:=(hr2 el hel).2 k (by simpa using hk)
     exact one_not_agg hv ho1 ds
   have hrc:=recell_cells xs[el] _ hna
   refine ⟨cur,hcur,hn,by rw [List.length_set];exact hr1,fun j hj=>?_⟩
   rw [List.length_set] at hj
   by_cases ej:el=j
   ·subst ej
    rw [List.getElem_set_self,hrc]
    refine ⟨by rw [List.length_set];exact (hr2 el hel).1,fun k hk=>?_⟩
    rw [List.length_set] at hk
    obtain ⟨u,hu,ho1,hv⟩:=(hr2 el hel).2 k hk
    refine ⟨u,hu,ho1,?_⟩
    rw [List.getElem_set]
    split
    ·rename_i ek;subst ek;exact (hx u ho1 hv).stay hl2
    ·exact (hv.stay hl).stay hl2
   ·rw [List.getElem_set_ne ej]
    refine ⟨(hr2 j hj).1,fun k hk=>?_⟩
    obtain ⟨u,hu,ho1,hv⟩:=(hr2 j hj).2 k hk
    exact ⟨u,hu,ho1,(hv.stay hl).stay hl2⟩
 ·rw [List.getElem?_set_ne (Ne.symm e)] at hi
  have:=g'.obj i o hi
  cases o with
  | void=>exact this
  | dead=>exact this
  | probe k st li bk ps=>exact this.probe_stay hl2 rfl
  | arr gen size elem xs =>
   unfold OR at this ⊢
   cases hbk:L'.blk i with
   | none=>rw [hbk] at this;exact this
   | some q =>
    obtain ⟨b,o',n⟩:=q
    rw [hbk] at this
    obtain ⟨cur,hc,hn,hr⟩:=this
    exact ⟨cur,hc,hn,hr.stay hl2⟩
theorem good_empty (g:Good F0 w0 w L objs) (size:Nat) (elem:TypeId):Good F0 w0 w L (objs++[.arr 0 size elem []])/\Later w L objs w L (objs++[.arr 0 size elem []]):=by
 obtain ⟨gv,hlv⟩:=good_void g
 have hvd:(objs++[AObj.void])[objs.length]? = some .void:=by simp
 have hl2:Later w L (objs++[AObj.void]) w L ((objs++[AObj.void]).set objs.length (.arr 0 size elem [])):=by
  refine ⟨fun b hF hb=>⟨rfl,hF⟩,stale_set hvd,fun i g' s' hl=>.inr ⟨?_,rfl⟩⟩
  have hne:objs.length ≠ i:=by rintro rfl;obtain ⟨e',xs,h⟩:=hl;rw [hvd] at h;simp at h
  unfold live at hl ⊢
  rwa [List.getElem?_set_ne hne]
 have hl:=hlv.trans hl2
 rw [set_void] at hl
 refine ⟨⟨fun id o ho=>?_,fun id hid=>g.out id (by rw [List.length_append] at hid;omega),g.inj,g.own,g.old,g.ext,g.gl⟩,hl⟩
 by_cases hlt:id<objs.length
 ·rw [List.getElem?_append_left hlt] at ho
  have:=g.obj id o ho
  cases o with
  | void=>exact this
  | dead=>exact this
  | probe k st li bk ps=>exact this.probe_stay hl rfl
  | arr gen size elem xs =>
   unfold OR at this ⊢
   cases hbk:L.blk id with
   | none=>rw [hbk] at this;exact this
   | some q =>
    obtain ⟨b,o',n⟩:=q
    rw [hbk] at this
    obtain ⟨cur,hc,hn,hr⟩:=this
    exact ⟨cur,hc,hn,hr.stay hl⟩
 ·have hid:id=objs.length:=by
   have:=(List.getElem?_eq_some_iff.1 ho).1
   simp at this;omega
  subst hid
  simp at ho;subst ho
  unfold OR
  have hn:L.blk objs.length=none:=g.out objs.length (Nat.le_refl _)
  rw [hn]
theorem WkE.nilCell {n:Nat} {env:List (Nat × AV)} {objs:List AObj} (id gen sz el c size:Nat) (elem et:TypeId) (xs:List AV) (y:AV) (ho:objs[id]? = some (.arr gen sz et xs)) (hy:xs[el]? = some y) (hc:y.cells[c]? = some (.val (.slice none 0 0))) :
 WkE n ⟨env,objs⟩ ⟨env,objs.set id (.arr gen sz et (xs.set el (recell y (y.cells.set c (.own objs.length 0 0 0)))))++[.arr 0 size elem []]⟩:=by
 intro hk
 refine ⟨hk,fun F0 w0 a w hs=>?_⟩
 obtain ⟨hd,L,g,hs,ht⟩:=sim_slots hk hs
 obtain ⟨g',hl⟩:=good_empty g size elem
 have hid:=(List.getElem?_eq_some_iff.1 ho).1
 have ho':(objs++[AObj.arr 0 size elem []])[id]? = some (.arr gen sz et xs):=by rw [List.getElem?_append_left hid];exact ho
 have hg:=good_recell (x1:=.own objs.length 0 0 0) g g' hl ho ho' rfl hy hc (fun u _ hu=>by rw [hu.val_inv];exact .ownN _ _ _ _ size ⟨elem,[],by simp⟩) (fun ds=>by simp)
 have e:(objs++[AObj.arr 0 size elem []]).set id (.arr gen sz et (xs.set el (recell y (y.cells.set c (.own objs.length 0 0 0)))))=objs.set id (.arr gen sz et (xs.set el (recell y (y.cells.set c (.own objs.length 0 0 0)))))++[.arr 0 size elem []]:=List.set_append_left _ _ hid
 rw [e] at hg
 have hl2:Later w L (objs++[AObj.arr 0 size elem []]) w L ((objs++[AObj.arr 0 size elem []]).set id (.arr gen sz et (xs.set el (recell y (y.cells.set c (.own objs.length 0 0 0)))))):=live_set_same ho'
 rw [e] at hl2
 exact sim_mk (s:=⟨env,_⟩) hd hg hs fun t h=>(ht t h).stay (hl.trans hl2)
theorem good_dead (g:Good F0 w0 w L objs) {id gen size:Nat} {elem:TypeId} {xs:List AV} (ho:objs[id]? = some (.arr gen size elem xs)) :
 ∃ L':Lay,Good F0 w0 w L' (objs.set id .dead)/\Later w L objs w L' (objs.set id .dead)/\(∀ b,L.F b->L'.F b)/\(∀ b o n,L.blk id=some (b,o,n)->L'.F b)/\∀ i,i ≠ id->L'.blk i=L.blk i:=by
 have hid:=(List.getElem?_eq_some_iff.1 ho).1
 let L':Lay:=⟨fun b=>L.F b \/ ∃ o n,L.blk id=some (b,o,n),fun i=>if i=id then none else L.blk i⟩
 have hlater:Later w L objs w L' (objs.set id .dead):=by
  refine ⟨fun b hF hb=>⟨rfl,.inl hF⟩,fun i g' hst=>?_,fun i g' s' hl=>?_⟩
  ·by_cases e:id=i
   ·subst e;exact .inl (List.getElem?_set_self hid)
   ·unfold stale at hst ⊢;rwa [List.getElem?_set_ne e]
  ·by_cases e:id=i
   ·subst e;exact .inl (.inl (List.getElem?_set_self hid))
   ·refine .inr ⟨?_,if_neg (Ne.symm e)⟩
    unfold live at hl ⊢;rwa [List.getElem?_set_ne e]
 refine ⟨L',⟨fun i o ho'=>?_,fun i hi=>?_,fun i j b o n o' n' h1 h2=>?_,fun i b o n h=>?_,fun b hb=>?_,g.ext,g.gl.stay hlater.wk⟩,hlater,fun b h=>.inl h,fun b o n h=>.inr ⟨o,n,h⟩,fun i h=>if_neg h⟩
 ·by_cases e:i=id
  ·subst e
   rw [List.getElem?_set_self hid] at ho'
   simp only [Option.some.injEq] at ho';subst ho'
   exact if_pos rfl
  ·rw [List.getElem?_set_ne (Ne.symm e)] at ho'
   have:=g.obj i o ho'
   have hbe:L'.blk i=L.blk i:=if_neg e
   cases o with
   | void=>unfold OR at this ⊢;rw [hbe];exact this
   | dead=>unfold OR at this ⊢;rw [hbe];exact this
   | probe k st li bk ps=>exact this.probe_stay hlater hbe
   | arr gen size elem xs =>
    unfold OR at this ⊢
    rw [hbe]
    cases hbk:L.blk i with
    | none=>rw [hbk] at this;exact this
    | some q =>
     obtain ⟨b,o',n⟩:=q
     rw [hbk] at this
     obtain ⟨cur,hc,hn,hr⟩:=this
     exact ⟨cur,hc,hn,hr.stay hlater⟩
 ·rw [List.length_set] at hi
  show (if i=id then none else L.blk i)=none
  split
  ·rfl
  ·exact g.out i hi
 ·have h1':(if i=id then none else L.blk i)=some (b,o,n):=h1
  have h2':(if j=id then none else L.blk j)=some (b,o',n'):=h2
  split at h1' <;> split at h2' <;> first | exact g.inj _ _ _ _ _ _ _ h1' h2' | cases h1' | cases h2'
 ·have h':(if i=id then none else L.blk i)=some (b,o,n):=h
  split at h'
  ·cases h'
  ·rename_i e
   have:=g.own _ _ _ _ h'
   refine ⟨?_,this.2⟩
   rintro (hF | ⟨o2,n2,hF⟩)
   ·exact this.1 hF
   ·exact e (g.inj _ _ _ _ _ _ _ h' hF)
 ·rcases hb with hb | ⟨o,n,hb⟩
  ·exact g.old b hb
  ·have:=g.own _ _ _ _ hb
   exact ⟨.inr this.2.1,this.2.2⟩
theorem own_data (gd:Good F0 w0 w L objs) {id g off len size:Nat} {elem:TypeId} {xs:List AV} (ho:objs[id]? = some (.arr g size elem xs)) (hle:off+len<=xs.length) (hT:(xs.all AV.isT)=true) (hem:elem<mapT) {G:Nat->Prop} (hF:∀ b,L.F b->G b) (hG:∀ b o n,L.blk id=some (b,o,n)->G b)
 {v:Value} (h:VR w L objs (.own id g off len) v):TR w G (.list size ((xs.drop off).take len)) v:=by
 have hsn:Snap (List.replicate id .dead++[.arr g size elem xs]) (.own id g off len) (.list size ((xs.drop off).take len)):=by
  have hl:((xs.drop off).take len).length=len:=by simp;omega
  refine .own id g off len size elem xs _ (by rw [List.getElem?_append_right (by simp)];simp) hle hl (fun i hi=>?_) hem
  rw [List.getElem_take,List.getElem_drop]
  exact .tree _ (List.all_eq_true.1 hT _ (List.getElem_mem _))
 have only:∀ (i g' s':Nat) (e':TypeId) (xs':List AV),(List.replicate id AObj.dead++[AObj.arr g size elem xs])[i]? = some (AObj.arr g' s' e' xs')->i=id/\AObj.arr g size elem xs=AObj.arr g' s' e' xs':=by
  intro i g' s' e' xs' hi
  by_cases hlt:i<id
  ·rw [List.getElem?_append_left (by simpa using hlt),List.getElem?_replicate,if_pos hlt] at hi;simp at hi
  ·have:i=id:=by have:=(List.getElem?_eq_some_iff.1 hi).1;simp at this;omega
   subst this
   rw [List.getElem?_append_right (by simp)] at hi
   simp only [List.length_replicate,Nat.sub_self,List.getElem?_cons_zero,Option.some.injEq] at hi
   exact ⟨rfl,hi⟩
 refine snap_ok gd ?_ hF ?_ hsn _ h
 ·intro i g' s' e' xs' hi
  obtain ⟨rfl,e⟩:=only i g' s' e' xs' hi
  rw [<-e];exact ho
 ·intro i g' s' e' xs' hi b o n hb
  obtain ⟨rfl,_⟩:=only i g' s' e' xs' hi
  exact hG b o n hb
theorem WkE.freezeCell {n:Nat} {env:List (Nat × AV)} {objs:List AObj} (id gen sz el c id2 g2 off len size:Nat) (et elem:TypeId) (xs ys:List AV) (y:AV) (ho:objs[id]? = some (.arr gen sz et xs)) (hy:xs[el]? = some y) (hc:y.cells[c]? = some (.own id2 g2 off len))
 (ho2:objs[id2]? = some (.arr g2 size elem ys)) (hne:id ≠ id2) (hle:off+len<=ys.length) (hT:(ys.all AV.isT)=true) (hem:elem<mapT:=by decide) :
 WkE n ⟨env,objs⟩ ⟨env,(objs.set id2 .dead).set id (.arr gen sz et (xs.set el (recell y (y.cells.set c (.list size ((ys.drop off).take len))))))⟩:=by
 intro hk
 refine ⟨hk,fun F0 w0 a w hs=>?_⟩
 obtain ⟨hd,L,g,hs,ht⟩:=sim_slots hk hs
 obtain ⟨L',g',hl,h1,h2,h3⟩:=good_dead g ho2
 have ho':(objs.set id2 .dead)[id]? = some (.arr gen sz et xs):=by rw [List.getElem?_set_ne (Ne.symm hne)];exact ho
 have hg:=good_recell (x1:=.list size ((ys.drop off).take len)) g g' hl ho ho' (h3 id hne) hy hc (fun u _ hu=>.tree (own_data g ho2 hle hT hem h1 h2 hu)) (fun ds=>by simp)
 exact sim_mk (s:=⟨env,_⟩) hd hg hs fun t h=>(ht t h).stay (hl.trans (live_set_same ho'))
end Dak
namespace Dak
open Go Go.RowKit
variable [Globs]
theorem snaps_self:∀ (args:List AV),(args.all AV.isT)=true->∀ objs,Snaps objs args args
 | [],_,_=>.nil
 | x::xs,h,objs=>by
  simp only [List.all_cons,Bool.and_eq_true] at h
  exact .cons (.tree _ h.1) (snaps_self xs h.2 objs)
theorem callT {P:Program} {m:Bool} {objs:List AObj} {f:FuncId} {args:List AV} {r:AV} {K:AV->List AObj->Prop} (h:Ctr P f args r) (hT:(args.all AV.isT)=true) (k:K r objs):∃ r objs',CallM P m objs (.clo (.func f) []) args r objs'/\K r objs' :=
 ⟨r,objs,.ok (.data f [] args (args++[]) r (by rw [List.append_nil];exact snaps_self args hT _) (by rw [List.append_nil];exact h)),k⟩
theorem callN {P:Program} {m:Bool} {objs:List AObj} {f:FuncId} {args xs:List AV} {r:AV} {K:AV->List AObj->Prop} (h:Ctr P f xs r) (hs:Snaps [] args xs) (k:K r objs):∃ r objs',CallM P m objs (.clo (.func f) []) args r objs'/\K r objs' :=
 ⟨r,objs,.ok (.data f [] args xs r (by rw [List.append_nil];exact hs) h),k⟩
theorem callF {P:Program} {m:Bool} {objs:List AObj} {f:FuncId} {args xs:List AV} {r:AV} {K:AV->List AObj->Prop} (h:Ctr P f xs r) (hs:Snaps objs args xs) (hf:r.flat=true) (k:K r objs):∃ r objs',CallM P m objs (.clo (.func f) []) args r objs'/\K r objs' :=
 ⟨r,objs,.ok (.flat f [] args xs r (by rw [List.append_nil];exact hs) h hf),k⟩
theorem callCN {P:Program} {m:Bool} {objs:List AObj} {f:FuncId} {cap args xs:List AV} {r:AV} {K:AV->List AObj->Prop} (h:Ctr P f xs r) (hs:Snaps [] (args++cap) xs) (k:K r objs):∃ r objs',CallM P m objs (.clo (.func f) cap) args r objs'/\K r objs' :=
 ⟨r,objs,.ok (.data f cap args xs r hs h),k⟩
theorem callOk {P:Program} {m:Bool} {objs:List AObj} {f:AV} {args:List AV} {r:AV} {K:AV->List AObj->Prop} (h:CallOk P objs f args r) (k:K r objs):∃ r objs',CallM P m objs f args r objs'/\K r objs' :=
 ⟨r,objs,.ok h,k⟩
theorem callNew {P:Program} {objs news:List AObj} {f:FuncId} {cap args xs:List AV} {r:AV} {K:AV->List AObj->Prop} (h:CtrN P f xs r news) (hs:Snaps [] (args++cap) xs) (k:K (r.shift objs.length) (objs++news.map (AObj.shiftO objs.length))) :
 ∃ r objs',CallM P true objs (.clo (.func f) cap) args r objs'/\K r objs':=⟨_,_,.new f cap args xs objs news r hs h,k⟩
theorem nvO_ren (σ : Nat->Nat):∀ news:List AObj,nvO (news.map (AObj.renO σ))=nvO news
 | []=>rfl
 | .void::_=>rfl
 | .dead::_=>rfl
 | .arr ..::_=>rfl
 | .probe ..::_=>rfl
theorem callN1 {P:Program} {objs cr:List AObj} {o:AObj} {f:FuncId} {cap args xs:List AV} {r:AV} {K:AV->List AObj->Prop} (h:CtrN P f xs r [o]) (hs:Snaps [] (args++cap) xs) (hi:([o].all fun x=>x.inRO [o])=true) (hr:r.inR [o]=true)
 (k:K (r.ren fun _=>objs.length+cr.length) (cr++[o.renO fun _=>objs.length+cr.length])) (hv:nvO [o]=true:=by rfl) :
 ∃ r objs',CallM P false objs (.clo (.func f) cap) args r objs'/\callX objs objs' cr (K r):=⟨_,_,.one cr.length (.data f cap args xs r o hs h hi hr) (by rw [<-hv];exact nvO_ren _ [o]),.inr ⟨_,by rw [<-hv];exact nvO_ren _ [o],rfl,k⟩⟩
theorem callM {P:Program} {objs:List AObj} {f:FuncId} {cap args:List AV} {r:AV} {K:AV->List AObj->Prop} (base tail base':List AObj) (h:CtrM P f (args++cap) base r base') (ho:objs=base++tail)
 (hb:(base.all fun o=>o.innO base.length)=true) (ha:((args++cap).all fun x=>x.inn base.length)=true) (k:K r (base'++tail)):∃ r objs',CallM P true objs (.clo (.func f) cap) args r objs'/\K r objs':=by
 subst ho
 exact ⟨r,_,.mod f cap args base tail r base' h hb ha,k⟩
end Dak
namespace Dak
open Go Go.RowKit
variable [Globs]
variable {P : Program} {F0 : FD} {w0 : World}
theorem CwpE.wk {n:Nat} {c:CCode} {Q:Exit->Est->Prop} {s s':Est} (h:WkE n s s') (k:CwpE P F0 w0 n c Q s'):CwpE P F0 w0 n c Q s:=fun hk=>Cwp.wk (h hk).2 (k (h hk).1)
theorem CwpE.post {n:Nat} {c:CCode} {Q Q':Exit->Est->Prop} {s:Est} (h:CwpE P F0 w0 n c Q s) (k:∀ e s,Q e s->∃ s',WkE n s s'/\Q' e s'):CwpE P F0 w0 n c Q' s:=by
 intro hk F1 w1 m r rn code hc hro a w hs
 refine wpIn_mono (h hk F1 w1 m r rn code hc hro a w hs) ?_
 rintro e a w ⟨F2,w2,hm,_,⟨s1,hq,hk1,rfl⟩,hs1⟩
 obtain ⟨s2,hwk,hq2⟩:=k e s1 hq
 exact ⟨F2,w2,hm,s2.toSt n,⟨s2,hq2,(hwk hk1).1,rfl⟩,(hwk hk1).2 _ _ _ _ hs1⟩
def RoundX (n:Nat) (I:Nat->Est->Prop) (k:Nat) (x:Nat) (J:Est->Prop) (Q:Exit->Est->Prop):Exit->Est->Prop
 | .normal,s=>∃ m s',m<k/\WkE n s s'/\I m s'
 | .exit i,s=>if i=x then ∃ s',WkE n s s'/\J s' else Q (.exit i) s
 | e,s=>Q e s
theorem loopX {n:Nat} {b:CCode} {Q:Exit->Est->Prop} {s:Est} (x:Nat) (I:Nat->Est->Prop) (J:Est->Prop) (k:Nat) (s0:Est) (hw:WkE n s s0) (h0:I k s0) (round:∀ k s,I k s->vcE P F0 w0 n b (RoundX n I k x J Q) s) (post:∀ s,J s->Q (.exit x) s):CwpE P F0 w0 n (.loop b) Q s:=by
 refine CwpE.post (Q:=fun e s=>match e with | .exit i=>if i=x then ∃ s',WkE n s s'/\J s' else Q (.exit i) s | e=>Q e s) ?_ ?_
 ·refine loopE I k s0 hw h0 fun k s hI=>?_
  have:=round k s hI
  have e:RoundX n I k x J Q=RoundE n I k (fun e s=>match e with | .exit i=>if i=x then ∃ s',WkE n s s'/\J s' else Q (.exit i) s | e=>Q e s):=by
   funext e s;cases e <;> rfl
  rw [e] at this;exact this
 ·intro e s hq
  cases e with
  | exit i =>
   simp only at hq
   split at hq
   ·rename_i hi;subst hi
    obtain ⟨s',h1,h2⟩:=hq
    exact ⟨s',h1,post s' h2⟩
   ·exact ⟨s,.refl _ _,hq⟩
  | _=>exact ⟨s,.refl _ _,hq⟩
end Dak
namespace Dak
open Go Go.RowKit
variable [Globs]
variable {P : Program} {F0 : FD} {w0 : World} {n : Nat} {Q : Exit -> Est -> Prop} {s : Est}
theorem nrfl.{u} {α : Sort u} {a b : α} (h:a=b):a=b:=h
def condE (o:Option Bool) (p q:Prop):Prop:=match o with
 | some t=>(t=true->p)/\(t=false->q)
 | none=>False
theorem condE_congr {o o':Option Bool} {p q:Prop} (h:o=o'):condE o p q=condE o' p q:=by rw [h]
theorem condE_t {p q:Prop}:condE (some true) p q=p:=by simp [condE]
theorem condE_f {p q:Prop}:condE (some false) p q=q:=by simp [condE]
theorem vc_skip:vcE P F0 w0 n .skip Q s=Q .normal s:=nrfl rfl
theorem vc_region {cs}:vcE P F0 w0 n (.region cs) Q s=RopsE P n cs (Q .normal) s:=nrfl rfl
theorem vc_seq {a b}:vcE P F0 w0 n (.seq a b) Q s=vcE P F0 w0 n a (thenE (vcE P F0 w0 n b Q) Q) s:=nrfl rfl
theorem vc_cond {c a b}:vcE P F0 w0 n (.cond c a b) Q s=condE (asB (evE s.env c)) (vcE P F0 w0 n a Q s) (vcE P F0 w0 n b Q s):=nrfl rfl
theorem vc_block {id b}:vcE P F0 w0 n (.block id b) Q s=vcE P F0 w0 n b (inBlockE id Q) s:=nrfl rfl
theorem vc_loop {b}:vcE P F0 w0 n (.loop b) Q s=CwpE P F0 w0 n (.loop b) Q s:=nrfl rfl
theorem vc_exit {id}:vcE P F0 w0 n (.exit id) Q s=Q (.exit id) s:=nrfl rfl
theorem vc_ret:vcE P F0 w0 n .ret Q s=Q .ret s:=nrfl rfl
def guardE (o:Option (Option Bool)) (want:Bool) (A B:Prop):Prop:=match o with
 | some b=>(b=some want->A)/\(b ≠ some want->B)
 | none=>False
theorem guardE_congr {o o':Option (Option Bool)} {w:Bool} {A B:Prop} (h:o=o'):guardE o w A B=guardE o' w A B:=by rw [h]
theorem guardE_tt {A B:Prop}:guardE (some (some true)) true A B=A:=by simp [guardE]
theorem guardE_ff {A B:Prop}:guardE (some (some false)) false A B=A:=by simp [guardE]
theorem guardE_tf {A B:Prop}:guardE (some (some true)) false A B=B:=by simp [guardE]
theorem guardE_ft {A B:Prop}:guardE (some (some false)) true A B=B:=by simp [guardE]
theorem guardE_n {w:Bool} {A B:Prop}:guardE (some none) w A B=B:=by simp [guardE]
theorem gdB_b {b:Bool}:gdB (.val (.bool b))=some (some b):=by cases b <;> rfl
theorem gdB_n:gdB nov=some none:=by unfold nov;simp [gdB,undef]
def optK (o:Option (AV × List AObj)) (n:Nat) (d:Option Nat) (env:List (Nat × AV)) (K:Est->Prop):Prop:=match o with
 | some (r,objs)=>okD n d/\K ⟨putE env d r,objs⟩
 | none=>False
theorem optK_some {r:AV} {objs:List AObj} {d:Option Nat} {env:List (Nat × AV)} {K:Est->Prop}:optK (some (r,objs)) n d env K=(okD n d/\K ⟨putE env d r,objs⟩):=nrfl rfl
def qK (o:Option (AV × Option AObj)) (n:Nat) (d:Option Nat) (env:List (Nat × AV)) (cr:List AObj) (K:List (Nat × AV)->List AObj->Prop):Prop:=match o with
 | some (r,none)=>okD n d/\K (putE env d r) cr
 | some (r,some o)=>okD n d/\K (putE env d r) (cr++[o])
 | none=>False
theorem qK_none {r:AV} {d:Option Nat} {env:List (Nat × AV)} {cr:List AObj} {K:List (Nat × AV)->List AObj->Prop}:qK (some (r,none)) n d env cr K=(okD n d/\K (putE env d r) cr):=nrfl rfl
theorem qK_some {r:AV} {o:AObj} {d:Option Nat} {env:List (Nat × AV)} {cr:List AObj} {K:List (Nat × AV)->List AObj->Prop}:qK (some (r,some o)) n d env cr K=(okD n d/\K (putE env d r) (cr++[o])):=nrfl rfl
def callK (P:Program) (objs:List AObj) (f:AV) (args:List AV) (d:Option Nat) (env:List (Nat × AV)) (K:Est->Prop):Prop:=∃ r objs',CallM P true objs f args r objs'/\K ⟨putE env d r,objs'⟩
def callQ (P:Program) (objs:List AObj) (f:AV) (args:List AV) (d:Option Nat) (env:List (Nat × AV)) (cr:List AObj) (K:List (Nat × AV)->List AObj->Prop):Prop:=∃ r objs',CallM P false objs f args r objs'/\callX objs objs' cr (K (putE env d r))
theorem callX_same {objs cr:List AObj} {K:List AObj->Prop}:callX objs objs cr K=K cr:=propext ⟨fun h=>h.elim (·.2) fun ⟨os,hv,he,_⟩=>by
 have:=congrArg List.length he
 cases os with
 | nil=>cases hv
 | cons o os=>simp at this,fun h=>.inl ⟨rfl,h⟩⟩
attribute [go_sem] callX_same
def lateK (P:Program) (n:Nat) (ls:List COper) (rest:List (COper × List COper)) (K:Est->Prop) (s:Est):Prop:=LatesE s ls/\RopsLE P n rest K s
def drawnK (P:Program) (n:Nat) (post:List (COper × List COper)) (K:Est->Prop) (objs:List AObj) (env:List (Nat × AV)) (cr:List AObj):Prop:=RopsLE P n post K ⟨env,objs++cr⟩
theorem vd_drawn {pre post}:vcE P F0 w0 n (.drawn pre post) Q s=QopsE P n s.objs pre (drawnK P n post (Q .normal) s.objs) s.env []:=nrfl rfl
attribute [congr] condE_congr guardE_congr
variable {K : Est -> Prop} {rest : List COper} {d : Option Nat} {g : Option (Nat × Bool)}
theorem R_nil:RopsE P n [] K s=K s:=nrfl rfl
theorem R_cons {op:COp}:RopsE P n (⟨d,none,op⟩::rest) K s=RstepE P n ⟨d,none,op⟩ (RopsE P n rest K) s:=nrfl rfl
theorem R_guard {op:COp} {t:Nat} {w:Bool}:RopsE P n (⟨d,some (t,w),op⟩::rest) K s=guardE (gdB (lk s.env t)) w (RstepE P n ⟨d,some (t,w),op⟩ (RopsE P n rest K) s) (okD n d/\RopsE P n rest K ⟨putE s.env d nov,s.objs⟩):=nrfl rfl
theorem R_call {f:Operand} {args:List Operand}:RstepE P n ⟨d,g,.call f args⟩ K s=(okD n d/\callK P s.objs (evE s.env f) (args.map (evE s.env)) d s.env K):=nrfl rfl
theorem RL_nil:RopsLE P n [] K s=K s:=nrfl rfl
theorem RL_cons {op:COp} {ls:List COper} {rest:List (COper × List COper)}:RopsLE P n ((⟨d,none,op⟩,ls)::rest) K s=RstepE P n ⟨d,none,op⟩ (lateK P n ls rest K) s:=nrfl rfl
theorem RL_guard {op:COp} {t:Nat} {w:Bool} {ls:List COper} {rest:List (COper × List COper)}:RopsLE P n ((⟨d,some (t,w),op⟩,ls)::rest) K s=guardE (gdB (lk s.env t)) w (RstepE P n ⟨d,some (t,w),op⟩ (lateK P n ls rest K) s) (okD n d/\LatesE ⟨putE s.env d nov,s.objs⟩ ls/\RopsLE P n rest K ⟨putE s.env d nov,s.objs⟩):=nrfl rfl
variable {objs0 : List AObj} {KQ : List (Nat × AV) -> List AObj -> Prop} {env : List (Nat × AV)} {cr : List AObj}
theorem Q_nil:QopsE P n objs0 [] KQ env cr=KQ env cr:=nrfl rfl
theorem Q_call {f:Operand} {args:List Operand}:QopsE P n objs0 (⟨d,none,.call f args⟩::rest) KQ env cr=(okD n d/\callQ P objs0 (evE env f) (args.map (evE env)) d env cr (QopsE P n objs0 rest KQ)):=nrfl rfl
theorem Q_gcall {f:Operand} {args:List Operand} {t:Nat} {w:Bool}:QopsE P n objs0 (⟨d,some (t,w),.call f args⟩::rest) KQ env cr=guardE (gdB (lk env t)) w (okD n d/\callQ P objs0 (evE env f) (args.map (evE env)) d env cr (QopsE P n objs0 rest KQ)) (okD n d/\QopsE P n objs0 rest KQ (putE env d nov) cr):=nrfl rfl
theorem R_mov {x:Operand}:RstepE P n ⟨d,g,.mov x⟩ K s=optK (step1 s.objs (evE s.env) (.mov x)) n d s.env K:=nrfl rfl
theorem Q_mov {x:Operand}:QopsE P n objs0 (⟨d,none,.mov x⟩::rest) KQ env cr=(qK (qstepK (objs0++cr) objs0 (evE env) (objs0.length+cr.length) (.mov x)) n d env cr (QopsE P n objs0 rest KQ)):=nrfl rfl
theorem Q_gmov {x:Operand} {t:Nat} {w:Bool}:QopsE P n objs0 (⟨d,some (t,w),.mov x⟩::rest) KQ env cr=guardE (gdB (lk env t)) w (qK (qstepK (objs0++cr) objs0 (evE env) (objs0.length+cr.length) (.mov x)) n d env cr (QopsE P n objs0 rest KQ)) (okD n d/\QopsE P n objs0 rest KQ (putE env d nov) cr):=nrfl rfl
theorem R_pick {c a b:Operand}:RstepE P n ⟨d,g,.pick c a b⟩ K s=optK (step1 s.objs (evE s.env) (.pick c a b)) n d s.env K:=nrfl rfl
theorem Q_pick {c a b:Operand}:QopsE P n objs0 (⟨d,none,.pick c a b⟩::rest) KQ env cr=(qK (qstepK (objs0++cr) objs0 (evE env) (objs0.length+cr.length) (.pick c a b)) n d env cr (QopsE P n objs0 rest KQ)):=nrfl rfl
theorem R_alloc {elem:TypeId} {z:AV}:RstepE P n ⟨d,g,.alloc elem z⟩ K s=optK (step1 s.objs (evE s.env) (.alloc elem z)) n d s.env K:=nrfl rfl
theorem Q_alloc {elem:TypeId} {z:AV}:QopsE P n objs0 (⟨d,none,.alloc elem z⟩::rest) KQ env cr=(qK (qstepK (objs0++cr) objs0 (evE env) (objs0.length+cr.length) (.alloc elem z)) n d env cr (QopsE P n objs0 rest KQ)):=nrfl rfl
theorem R_box {elem:TypeId} {x:Operand}:RstepE P n ⟨d,g,.box elem x⟩ K s=optK (step1 s.objs (evE s.env) (.box elem x)) n d s.env K:=nrfl rfl
theorem Q_box {elem:TypeId} {x:Operand}:QopsE P n objs0 (⟨d,none,.box elem x⟩::rest) KQ env cr=(qK (qstepK (objs0++cr) objs0 (evE env) (objs0.length+cr.length) (.box elem x)) n d env cr (QopsE P n objs0 rest KQ)):=nrfl rfl
theorem R_load {agg:Bool} {m:Nat} {x:Operand}:RstepE P n ⟨d,g,.load agg m x⟩ K s=optK (step1 s.objs (evE s.env) (.load agg m x)) n d s.env K:=nrfl rfl
theorem Q_load {agg:Bool} {m:Nat} {x:Operand}:QopsE P n objs0 (⟨d,none,.load agg m x⟩::rest) KQ env cr=(qK (qstepK (objs0++cr) objs0 (evE env) (objs0.length+cr.length) (.load agg m x)) n d env cr (QopsE P n objs0 rest KQ)):=nrfl rfl
theorem Q_gload {agg:Bool} {m:Nat} {x:Operand} {t:Nat} {w:Bool}:QopsE P n objs0 (⟨d,some (t,w),.load agg m x⟩::rest) KQ env cr=guardE (gdB (lk env t)) w (qK (qstepK (objs0++cr) objs0 (evE env) (objs0.length+cr.length) (.load agg m x)) n d env cr (QopsE P n objs0 rest KQ)) (okD n d/\QopsE P n objs0 rest KQ (putE env d nov) cr):=nrfl rfl
theorem R_nilCheck {x:Operand}:RstepE P n ⟨d,g,.nilCheck x⟩ K s=optK (step1 s.objs (evE s.env) (.nilCheck x)) n d s.env K:=nrfl rfl
theorem Q_nilCheck {x:Operand}:QopsE P n objs0 (⟨d,none,.nilCheck x⟩::rest) KQ env cr=(qK (qstepK (objs0++cr) objs0 (evE env) (objs0.length+cr.length) (.nilCheck x)) n d env cr (QopsE P n objs0 rest KQ)):=nrfl rfl
theorem R_ibin {op:BinOp} {x y:Operand}:RstepE P n ⟨d,g,.ibin op x y⟩ K s=optK (step1 s.objs (evE s.env) (.ibin op x y)) n d s.env K:=nrfl rfl
theorem Q_ibin {op:BinOp} {x y:Operand}:QopsE P n objs0 (⟨d,none,.ibin op x y⟩::rest) KQ env cr=(qK (qstepK (objs0++cr) objs0 (evE env) (objs0.length+cr.length) (.ibin op x y)) n d env cr (QopsE P n objs0 rest KQ)):=nrfl rfl
theorem Q_gibin {op:BinOp} {x y:Operand} {t:Nat} {w:Bool}:QopsE P n objs0 (⟨d,some (t,w),.ibin op x y⟩::rest) KQ env cr=guardE (gdB (lk env t)) w (qK (qstepK (objs0++cr) objs0 (evE env) (objs0.length+cr.length) (.ibin op x y)) n d env cr (QopsE P n objs0 rest KQ)) (okD n d/\QopsE P n objs0 rest KQ (putE env d nov) cr):=nrfl rfl
theorem R_bbin {op:BinOp} {x y:Operand}:RstepE P n ⟨d,g,.bbin op x y⟩ K s=optK (step1 s.objs (evE s.env) (.bbin op x y)) n d s.env K:=nrfl rfl
theorem Q_bbin {op:BinOp} {x y:Operand}:QopsE P n objs0 (⟨d,none,.bbin op x y⟩::rest) KQ env cr=(qK (qstepK (objs0++cr) objs0 (evE env) (objs0.length+cr.length) (.bbin op x y)) n d env cr (QopsE P n objs0 rest KQ)):=nrfl rfl
theorem Q_gbbin {op:BinOp} {x y:Operand} {t:Nat} {w:Bool}:QopsE P n objs0 (⟨d,some (t,w),.bbin op x y⟩::rest) KQ env cr=guardE (gdB (lk env t)) w (qK (qstepK (objs0++cr) objs0 (evE env) (objs0.length+cr.length) (.bbin op x y)) n d env cr (QopsE P n objs0 rest KQ)) (okD n d/\QopsE P n objs0 rest KQ (putE env d nov) cr):=nrfl rfl
theorem Q_aeq {neg:Bool} {m:Nat} {x y:Operand}:QopsE P n objs0 (⟨d,none,.aeq neg m x y⟩::rest) KQ env cr=(qK (qstepK (objs0++cr) objs0 (evE env) (objs0.length+cr.length) (.aeq neg m x y)) n d env cr (QopsE P n objs0 rest KQ)):=nrfl rfl
theorem R_neg {x:Operand}:RstepE P n ⟨d,g,.neg x⟩ K s=optK (step1 s.objs (evE s.env) (.neg x)) n d s.env K:=nrfl rfl
theorem R_lnot {x:Operand}:RstepE P n ⟨d,g,.lnot x⟩ K s=optK (step1 s.objs (evE s.env) (.lnot x)) n d s.env K:=nrfl rfl
theorem Q_lnot {x:Operand}:QopsE P n objs0 (⟨d,none,.lnot x⟩::rest) KQ env cr=(qK (qstepK (objs0++cr) objs0 (evE env) (objs0.length+cr.length) (.lnot x)) n d env cr (QopsE P n objs0 rest KQ)):=nrfl rfl
theorem Q_glnot {x:Operand} {t:Nat} {w:Bool}:QopsE P n objs0 (⟨d,some (t,w),.lnot x⟩::rest) KQ env cr=guardE (gdB (lk env t)) w (qK (qstepK (objs0++cr) objs0 (evE env) (objs0.length+cr.length) (.lnot x)) n d env cr (QopsE P n objs0 rest KQ)) (okD n d/\QopsE P n objs0 rest KQ (putE env d nov) cr):=nrfl rfl
theorem R_conv {k:IntKind} {x:Operand}:RstepE P n ⟨d,g,.conv k x⟩ K s=optK (step1 s.objs (evE s.env) (.conv k x)) n d s.env K:=nrfl rfl
theorem Q_conv {k:IntKind} {x:Operand}:QopsE P n objs0 (⟨d,none,.conv k x⟩::rest) KQ env cr=(qK (qstepK (objs0++cr) objs0 (evE env) (objs0.length+cr.length) (.conv k x)) n d env cr (QopsE P n objs0 rest KQ)):=nrfl rfl
theorem R_fieldAddr {off:Nat} {x:Operand}:RstepE P n ⟨d,g,.fieldAddr off x⟩ K s=optK (step1 s.objs (evE s.env) (.fieldAddr off x)) n d s.env K:=nrfl rfl
theorem Q_fieldAddr {off:Nat} {x:Operand}:QopsE P n objs0 (⟨d,none,.fieldAddr off x⟩::rest) KQ env cr=(qK (qstepK (objs0++cr) objs0 (evE env) (objs0.length+cr.length) (.fieldAddr off x)) n d env cr (QopsE P n objs0 rest KQ)):=nrfl rfl
theorem Q_gfieldAddr {off:Nat} {x:Operand} {t:Nat} {w:Bool}:QopsE P n objs0 (⟨d,some (t,w),.fieldAddr off x⟩::rest) KQ env cr=guardE (gdB (lk env t)) w (qK (qstepK (objs0++cr) objs0 (evE env) (objs0.length+cr.length) (.fieldAddr off x)) n d env cr (QopsE P n objs0 rest KQ)) (okD n d/\QopsE P n objs0 rest KQ (putE env d nov) cr):=nrfl rfl
theorem R_idxS {size:Nat} {x i:Operand}:RstepE P n ⟨d,g,.idxS size x i⟩ K s=optK (step1 s.objs (evE s.env) (.idxS size x i)) n d s.env K:=nrfl rfl
theorem Q_idxS {size:Nat} {x i:Operand}:QopsE P n objs0 (⟨d,none,.idxS size x i⟩::rest) KQ env cr=(qK (qstepK (objs0++cr) objs0 (evE env) (objs0.length+cr.length) (.idxS size x i)) n d env cr (QopsE P n objs0 rest KQ)):=nrfl rfl
theorem Q_gidxS {size:Nat} {x i:Operand} {t:Nat} {w:Bool}:QopsE P n objs0 (⟨d,some (t,w),.idxS size x i⟩::rest) KQ env cr=guardE (gdB (lk env t)) w (qK (qstepK (objs0++cr) objs0 (evE env) (objs0.length+cr.length) (.idxS size x i)) n d env cr (QopsE P n objs0 rest KQ)) (okD n d/\QopsE P n objs0 rest KQ (putE env d nov) cr):=nrfl rfl
theorem R_idxA {len size:Nat} {x i:Operand}:RstepE P n ⟨d,g,.idxA len size x i⟩ K s=optK (step1 s.objs (evE s.env) (.idxA len size x i)) n d s.env K:=nrfl rfl
theorem Q_idxA {len size:Nat} {x i:Operand}:QopsE P n objs0 (⟨d,none,.idxA len size x i⟩::rest) KQ env cr=(qK (qstepK (objs0++cr) objs0 (evE env) (objs0.length+cr.length) (.idxA len size x i)) n d env cr (QopsE P n objs0 rest KQ)):=nrfl rfl
theorem Q_gidxA {len size:Nat} {x i:Operand} {t:Nat} {w:Bool}:QopsE P n objs0 (⟨d,some (t,w),.idxA len size x i⟩::rest) KQ env cr=guardE (gdB (lk env t)) w (qK (qstepK (objs0++cr) objs0 (evE env) (objs0.length+cr.length) (.idxA len size x i)) n d env cr (QopsE P n objs0 rest KQ)) (okD n d/\QopsE P n objs0 rest KQ (putE env d nov) cr):=nrfl rfl
theorem R_idxV {agg:Bool} {len size:Nat} {x i:Operand}:RstepE P n ⟨d,g,.idxV agg len size x i⟩ K s=optK (step1 s.objs (evE s.env) (.idxV agg len size x i)) n d s.env K:=nrfl rfl
theorem R_extract {x:Operand} {i:Nat}:RstepE P n ⟨d,g,.extract x i⟩ K s=optK (step1 s.objs (evE s.env) (.extract x i)) n d s.env K:=nrfl rfl
theorem Q_extract {x:Operand} {i:Nat}:QopsE P n objs0 (⟨d,none,.extract x i⟩::rest) KQ env cr=(qK (qstepK (objs0++cr) objs0 (evE env) (objs0.length+cr.length) (.extract x i)) n d env cr (QopsE P n objs0 rest KQ)):=nrfl rfl
theorem R_slice {size:Nat} {x:Operand} {lo hi:Option Operand}:RstepE P n ⟨d,g,.slice size x lo hi⟩ K s=optK (step1 s.objs (evE s.env) (.slice size x lo hi)) n d s.env K:=nrfl rfl
theorem Q_slice {size:Nat} {x:Operand} {lo hi:Option Operand}:QopsE P n objs0 (⟨d,none,.slice size x lo hi⟩::rest) KQ env cr=(qK (qstepK (objs0++cr) objs0 (evE env) (objs0.length+cr.length) (.slice size x lo hi)) n d env cr (QopsE P n objs0 rest KQ)):=nrfl rfl
theorem R_mkslice {elem:TypeId} {size bytes:Nat} {z:AV} {len cap:Operand}:RstepE P n ⟨d,g,.mkslice elem size bytes z len cap⟩ K s=optK (step1 s.objs (evE s.env) (.mkslice elem size bytes z len cap)) n d s.env K:=nrfl rfl
theorem Q_mkslice {elem:TypeId} {size bytes:Nat} {z:AV} {len cap:Operand}:QopsE P n objs0 (⟨d,none,.mkslice elem size bytes z len cap⟩::rest) KQ env cr=(qK (qstepK (objs0++cr) objs0 (evE env) (objs0.length+cr.length) (.mkslice elem size bytes z len cap)) n d env cr (QopsE P n objs0 rest KQ)):=nrfl rfl
theorem R_build {z:List AV} {parts:List (Nat × Nat × Operand)}:RstepE P n ⟨d,g,.build z parts⟩ K s=optK (step1 s.objs (evE s.env) (.build z parts)) n d s.env K:=nrfl rfl
theorem Q_build {z:List AV} {parts:List (Nat × Nat × Operand)}:QopsE P n objs0 (⟨d,none,.build z parts⟩::rest) KQ env cr=(qK (qstepK (objs0++cr) objs0 (evE env) (objs0.length+cr.length) (.build z parts)) n d env cr (QopsE P n objs0 rest KQ)):=nrfl rfl
theorem R_bslice {elem:TypeId} {size:Nat} {parts:List Operand}:RstepE P n ⟨d,g,.bslice elem size parts⟩ K s=optK (step1 s.objs (evE s.env) (.bslice elem size parts)) n d s.env K:=nrfl rfl
theorem Q_bslice {elem:TypeId} {size:Nat} {parts:List Operand}:QopsE P n objs0 (⟨d,none,.bslice elem size parts⟩::rest) KQ env cr=(qK (qstepK (objs0++cr) objs0 (evE env) (objs0.length+cr.length) (.bslice elem size parts)) n d env cr (QopsE P n objs0 rest KQ)):=nrfl rfl
theorem R_len {x:Operand}:RstepE P n ⟨d,g,.len x⟩ K s=optK (step1 s.objs (evE s.env) (.len x)) n d s.env K:=nrfl rfl
theorem Q_len {x:Operand}:QopsE P n objs0 (⟨d,none,.len x⟩::rest) KQ env cr=(qK (qstepK (objs0++cr) objs0 (evE env) (objs0.length+cr.length) (.len x)) n d env cr (QopsE P n objs0 rest KQ)):=nrfl rfl
theorem R_imin {x y:Operand}:RstepE P n ⟨d,g,.imin x y⟩ K s=optK (step1 s.objs (evE s.env) (.imin x y)) n d s.env K:=nrfl rfl
theorem Q_gimin {x y:Operand} {t:Nat} {w:Bool}:QopsE P n objs0 (⟨d,some (t,w),.imin x y⟩::rest) KQ env cr=guardE (gdB (lk env t)) w (qK (qstepK (objs0++cr) objs0 (evE env) (objs0.length+cr.length) (.imin x y)) n d env cr (QopsE P n objs0 rest KQ)) (okD n d/\QopsE P n objs0 rest KQ (putE env d nov) cr):=nrfl rfl
theorem R_imax {x y:Operand}:RstepE P n ⟨d,g,.imax x y⟩ K s=optK (step1 s.objs (evE s.env) (.imax x y)) n d s.env K:=nrfl rfl
theorem R_mkfunc {fn:Fn} {cap:List Operand}:RstepE P n ⟨d,g,.mkfunc fn cap⟩ K s=optK (step1 s.objs (evE s.env) (.mkfunc fn cap)) n d s.env K:=nrfl rfl
theorem Q_mkfunc {fn:Fn} {cap:List Operand}:QopsE P n objs0 (⟨d,none,.mkfunc fn cap⟩::rest) KQ env cr=(qK (qstepK (objs0++cr) objs0 (evE env) (objs0.length+cr.length) (.mkfunc fn cap)) n d env cr (QopsE P n objs0 rest KQ)):=nrfl rfl
theorem mkF_func (f:FuncId) (xs:List AV):mkF (.func f) xs=some (.clo (.func f) xs,none):=rfl
theorem mkF_via {t:TypeId} {p f b} (xs:List AV):mkF (.via t p f b) xs=(xs.mapM toV).map fun vs=>(.val (.func (.func f) vs.toArray #[]),none):=rfl
theorem toV_one (u:AV) : [u].mapM toV=(toV u).map fun v=>[v]:=by simp only [List.mapM_cons,List.mapM_nil];cases toV u <;> rfl
theorem toV_val (v:Value):toV (.val v)=some v:=rfl
attribute [go_sem] mkF_func mkF_via toV_one Option.map_some toV_val
theorem R_store {m:Nat} {x v:Operand}:RstepE P n ⟨d,g,.store m x v⟩ K s=optK (step1 s.objs (evE s.env) (.store m x v)) n d s.env K:=nrfl rfl
theorem R_append {elem:TypeId} {size bytes:Nat} {sl x:Operand}:RstepE P n ⟨d,g,.append elem size bytes sl x⟩ K s=optK (step1 s.objs (evE s.env) (.append elem size bytes sl x)) n d s.env K:=nrfl rfl
theorem R_isNil {sl neg:Bool} {x y:Operand}:RstepE P n ⟨d,g,.isNil sl neg x y⟩ K s=optK (step1 s.objs (evE s.env) (.isNil sl neg x y)) n d s.env K:=nrfl rfl
theorem R_copy {m:Nat} {x y:Operand}:RstepE P n ⟨d,g,.copy m x y⟩ K s=optK (step1 s.objs (evE s.env) (.copy m x y)) n d s.env K:=nrfl rfl
theorem R_appendZ {elem:TypeId} {size bytes:Nat} {z:AV} {sl x:Operand}:RstepE P n ⟨d,g,.appendZ elem size bytes z sl x⟩ K s=optK (step1 s.objs (evE s.env) (.appendZ elem size bytes z sl x)) n d s.env K:=nrfl rfl
theorem evE_t {env:List (Nat × AV)} {t:Nat}:evE env (.tmp t)=lk env t:=nrfl rfl
theorem evE_c {env:List (Nat × AV)} {v:Value}:evE env (.const v)=ofV v:=nrfl rfl
theorem evE_f {env:List (Nat × AV)} {f:FuncId}:evE env (.func f) = .clo (.func f) []:=nrfl rfl
theorem asB_b {b:Bool}:asB (.val (.bool b))=some b:=by cases b <;> rfl
theorem thenE_n {A:Est->Prop}:thenE A Q .normal s=A s:=nrfl rfl
theorem thenE_x {A:Est->Prop} {i:Nat}:thenE A Q (.exit i) s=Q (.exit i) s:=nrfl rfl
theorem thenE_r {A:Est->Prop}:thenE A Q .ret s=Q .ret s:=nrfl rfl
theorem inBlockE_n {id:Nat}:inBlockE id Q .normal s=Q .normal s:=nrfl rfl
theorem inBlockE_x {id i:Nat}:inBlockE id Q (.exit i) s=if i=id then Q .normal s else Q (.exit i) s:=nrfl rfl
theorem inBlockE_r {id:Nat}:inBlockE id Q .ret s=Q .ret s:=nrfl rfl
theorem retE_r {rs:List CRes} {r:AV}:retE rs r .ret s = ∃ y,resAllE s rs=some y/\Snap s.objs y r:=nrfl rfl
theorem RoundX_n {I:Nat->Est->Prop} {k x:Nat} {J:Est->Prop}:RoundX n I k x J Q .normal s = ∃ m s',m<k/\WkE n s s'/\I m s':=nrfl rfl
theorem RoundX_x {I:Nat->Est->Prop} {k x i:Nat} {J:Est->Prop}:RoundX n I k x J Q (.exit i) s=if i=x then ∃ s',WkE n s s'/\J s' else Q (.exit i) s:=nrfl rfl
theorem RoundX_r {I:Nat->Est->Prop} {k x:Nat} {J:Est->Prop}:RoundX n I k x J Q .ret s=Q .ret s:=nrfl rfl
theorem RoundE_n {I:Nat->Est->Prop} {k:Nat}:RoundE n I k Q .normal s = ∃ m s',m<k/\WkE n s s'/\I m s':=nrfl rfl
theorem RoundE_x {I:Nat->Est->Prop} {k i:Nat}:RoundE n I k Q (.exit i) s=Q (.exit i) s:=nrfl rfl
theorem RoundE_r {I:Nat->Est->Prop} {k:Nat}:RoundE n I k Q .ret s=Q .ret s:=nrfl rfl
theorem lk_cons {k t:Nat} {v:AV} {r:List (Nat × AV)}:lk ((k,v)::r) t=if k=t then v else lk r t:=nrfl rfl
theorem R_mnew {elem:TypeId}:RstepE P n ⟨d,g,.mnew elem⟩ K s=optK (step1 s.objs (evE s.env) (.mnew elem)) n d s.env K:=nrfl rfl
theorem R_mget {mc:Nat} {mok:Bool} {mz:Value} {x y:Operand}:RstepE P n ⟨d,g,.mget mc mok mz x y⟩ K s=optK (step1 s.objs (evE s.env) (.mget mc mok mz x y)) n d s.env K:=nrfl rfl
theorem R_mlen {mc:Nat} {x:Operand}:RstepE P n ⟨d,g,.mlen mc x⟩ K s=optK (step1 s.objs (evE s.env) (.mlen mc x)) n d s.env K:=nrfl rfl
theorem R_mset {mc:Nat} {x y z:Operand}:RstepE P n ⟨d,g,.mset mc x y z⟩ K s=optK (step1 s.objs (evE s.env) (.mset mc x y z)) n d s.env K:=nrfl rfl
theorem R_str {x:Operand}:RstepE P n ⟨d,g,.str x⟩ K s=optK (step1 s.objs (evE s.env) (.str x)) n d s.env K:=nrfl rfl
theorem keyOf_i {m:Int}:keyOf 0 (.val (.int .i64 m))=some (.i m):=by simp [keyOf]
theorem keyOf_s {b:ByteArray}:keyOf 1 (.val (.string b))=some (.s b):=by simp [keyOf]
theorem keyOf_2 {a b:Int}:keyOf 6 (.agg [.val (.int .i64 a),.val (.int .i64 b)])=some (.a [a,b]):=by simp [keyOf,asI,keyK,List.replicate_succ]
theorem keyOf_u4 {a b c d:Int}:keyOf 11 (.agg [.val (.int .u64 a),.val (.int .u64 b),.val (.int .u64 c),.val (.int .u64 d)])=some (.a [a,b,c,d]):=by simp [keyOf,asI,keyK,List.replicate_succ]
attribute [go_sem] R_mnew R_mget R_mlen R_mset R_str keyOf_i keyOf_s keyOf_2 keyOf_u4 mapOwn mapOf msetA mapT unV_mapV
def cutK (P:Program) (n:Nat) (post:List (COper × List COper)) (t:PT) (K:Est->Prop) (objs:List AObj) (env:List (Nat × AV)) (cr:List AObj):Prop:=RopsLE P n post (RTE P n t K) ⟨env,objs++cr⟩
theorem cutK_r {P:Program} {n:Nat} {post:List (COper × List COper)} {t:PT} {K:Est->Prop} {objs:List AObj} {env:List (Nat × AV)} {cr:List AObj}:cutK P n post t K objs env cr=RopsLE P n post (RTE P n t K) ⟨env,objs++cr⟩:=nrfl rfl
theorem vd_cut {pre post t}:vcE P F0 w0 n (.cut pre post t) Q s=QopsE P n s.objs pre (cutK P n post t (Q .normal) s.objs) s.env []:=nrfl rfl
theorem RT_done:RTE P n .done K s=K s:=nrfl rfl
theorem RT_stop:RTE P n .stop K s=True:=nrfl rfl
def tK (P:Program) (n:Nat) (ls:List COper) (sub:PT) (K:Est->Prop) (s:Est):Prop:=LatesE s ls/\RTE P n sub K s
theorem tK_r {ls:List COper} {sub:PT} {K:Est->Prop} {env:List (Nat × AV)} {objs:List AObj}:tK P n ls sub K ⟨env,objs⟩=(LatesE ⟨env,objs⟩ ls/\RTE P n sub K ⟨env,objs⟩):=nrfl rfl
theorem RT_alt {op:COp} {ls:List COper} {sub next:PT}:RTE P n (.alt ⟨d,none,op⟩ ls sub next) K s=(RstepE P n ⟨d,none,op⟩ (tK P n ls sub K) s/\RTE P n next K s):=nrfl rfl
theorem RT_altg {op:COp} {ls:List COper} {t:Nat} {w:Bool} {sub next:PT}:RTE P n (.alt ⟨d,some (t,w),op⟩ ls sub next) K s=(guardE (gdB (lk s.env t)) w (RstepE P n ⟨d,some (t,w),op⟩ (tK P n ls sub K) s) (okD n d/\LatesE ⟨putE s.env d nov,s.objs⟩ ls/\RTE P n sub K ⟨putE s.env d nov,s.objs⟩)/\RTE P n next K s):=nrfl rfl
attribute [go_sem] tK_r cutK_r vd_cut RT_done RT_stop RT_alt RT_altg and_true
attribute [go_sem] guardE_n gdB_b gdB_n condE_t condE_f vc_skip vc_region vd_drawn vc_seq vc_cond vc_block vc_loop vc_exit vc_ret guardE_tt guardE_ff guardE_tf guardE_ft optK_some qK_none qK_some lateK drawnK R_nil R_cons R_guard R_call RL_nil RL_cons RL_guard Q_nil Q_call Q_gcall R_mov Q_mov Q_gmov R_pick Q_pick R_alloc Q_alloc R_box Q_box R_load Q_load Q_gload R_nilCheck Q_nilCheck R_ibin Q_ibin Q_gibin R_bbin Q_bbin Q_gbbin Q_aeq R_neg R_lnot Q_lnot Q_glnot R_conv Q_conv R_fieldAddr Q_fieldAddr Q_gfieldAddr R_idxS Q_idxS Q_gidxS R_idxA Q_idxA Q_gidxA R_idxV R_extract Q_extract R_slice Q_slice R_mkslice Q_mkslice R_build Q_build R_bslice Q_bslice R_len Q_len R_imin Q_gimin R_imax R_mkfunc Q_mkfunc R_store R_append R_isNil R_copy R_appendZ LatesE evE_t evE_c evE_f putE lk_cons okD step1 qstep qstepK qop ofV COp.stores AV.kn AV.fits AV.one AV.isT AV.isT1 AV.cells asI asB_b ibinV bnd bnd1 cellsAt fillA Dak.upd storeA appendA appendY appendZA copyA srcOf recell resAllE resE envOf Nat.le_refl List.mapM_cons List.mapM_nil List.map_cons List.map_nil List.all_cons List.all_nil List.length_cons List.length_nil List.length_append List.append_nil List.nil_append List.cons_append Option.bind_some Option.bind_none Option.map_some Option.map_none Option.pure_def Option.some.injEq exists_eq_left' true_and and_true if_true if_false ite_true ite_false Bool.false_eq_true Bool.true_eq_false Bool.and_true Bool.true_and Bool.and_false Bool.false_and ne_eq not_true_eq_false not_false_eq_true forall_const false_implies true_implies implies_true Bool.not_eq_false Bool.not_eq_true List.getElem?_cons_zero List.getElem?_cons_succ List.set_cons_zero List.set_cons_succ Value.oneCell' beq_self_eq_true decide_true decide_false Nat.add_zero Nat.zero_add AV.val.injEq Value.int.injEq Value.bool.injEq Bool.not_true Bool.not_false bne_self_eq_false IntKind.bits Nat.lt_add_one Nat.zero_lt_succ Nat.one_ne_zero List.length_map List.drop_zero List.take_length List.take_succ_cons List.take_zero List.drop_succ_cons Agree List.head?_cons or_true true_or or_false false_or and_self Int.toNat_natCast List.set_nil List.replicate_zero List.drop_nil List.take_nil List.length_range List.take_of_length_le thenE_n thenE_x thenE_r inBlockE_n inBlockE_x inBlockE_r retE_r RoundX_n RoundX_x RoundX_r RoundE_n RoundE_x RoundE_r Option.bind_eq_bind
end Dak
namespace Dak
open Go Go.RowKit
variable [Globs]
variable {P : Program} {F0 : FD} {w0 : World} {n : Nat}
theorem CwpE.vc {c:CCode} {Q:Exit->Est->Prop} {s:Est} (h:vcE P F0 w0 n c Q s):CwpE P F0 w0 n c Q s:=fun hk=>vc_ok _ _ _ (vcE_ok c Q s hk h)
theorem CwpE.seq {a b:CCode} {Q:Exit->Est->Prop} {s:Est} (h:CwpE P F0 w0 n a (thenE (CwpE P F0 w0 n b Q) Q) s):CwpE P F0 w0 n (.seq a b) Q s:=by
 intro hk F1 w1 m r rn code hc hro a' w hs
 cases code with
 | seq x y =>
  simp only [compC,Option.bind_eq_some_iff,Option.map_eq_some_iff,CCode.seq.injEq] at hc
  obtain ⟨x',hx,y',hy,rfl,rfl⟩:=hc
  refine wpIn_seq (wpIn_mono (h hk F1 w1 m r rn _ hx (ro_l hro) _ w hs) ?_)
  rintro e a w ⟨F2,w2,hm,st,⟨s1,hq,hk1,rfl⟩,hs1⟩
  cases e with
  | normal=>exact wpIn_mono (hq hk1 F2 w2 (m.trans hm) r rn _ hy (ro_r hro) _ _ hs1) fun _ _ _=>LiftM.back hm
  | _=>exact ⟨F2,w2,hm,_,⟨s1,hq,hk1,rfl⟩,hs1⟩
 | region id ops d=>rcases compC_reg hc with ⟨_,_,h⟩ | ⟨_,_,h⟩ | ⟨_,_,_,h⟩ <;> cases h
 | _=>simp [compC,Option.bind_eq_some_iff] at hc
theorem CwpE.step {a b:CCode} {Q:Exit->Est->Prop} {s:Est} (J:Est->Prop) (h:vcE P F0 w0 n a (thenE (fun s=>∃ s',WkE n s s'/\J s') Q) s) (k:∀ s,J s->CwpE P F0 w0 n b Q s):CwpE P F0 w0 n (.seq a b) Q s:=by
 refine CwpE.seq ((CwpE.vc h).post ?_)
 rintro e s h
 cases e with
 | normal=>obtain ⟨s',h1,h2⟩:=h;exact ⟨s,.refl _ _,(k s' h2).wk h1⟩
 | _=>exact ⟨s,.refl _ _,h⟩
theorem specC {f:FuncId} {c:CCode} {n:Nat} {rs:List CRes} (hf:fnC P f=some (c,n,rs)) {xs:List AV} (hn:xs.length<=n) {r:AV} (h:∀ F0 w0,CwpE P F0 w0 n c (retE rs r) ⟨envOf 0 xs,[]⟩):Ctr P f xs r:=by
 refine spec_ofC hf fun F0 w0=>?_
 have hk:KeysOk n (envOf 0 xs):=by
  intro t ht
  rw [lk_envOf,if_pos (Nat.zero_le _),List.getD_eq_getElem?_getD,List.getElem?_eq_none (by omega)];rfl
 have e:(⟨xs++List.replicate (n-xs.length) .junk,[]⟩:St)=(⟨envOf 0 xs,[]⟩:Est).toSt n:=by
  unfold Est.toSt
  congr 1
  refine getD_ext (by simp [toT];omega) fun t ht=>?_
  rw [toT_getD hk,lk_envOf,if_pos (Nat.zero_le _),Nat.sub_zero]
  rw [List.getD_eq_getElem?_getD,List.getD_eq_getElem?_getD,List.getElem?_append]
  split
  ·rfl
  ·rename_i h1
   rw [List.getElem?_replicate,List.getElem?_eq_none (by omega)]
   split <;> rfl
 rw [e]
 refine (h F0 w0 hk).mono ?_
 rintro e st ⟨s,hq,hk',rfl⟩
 have hr:∀ x,resA (s.toSt n) x=resE s x:=by
  intro x
  cases x with
  | tmp t=>simp only [resA,resE];rw [show (s.toSt n).tmps=toT n s.env from rfl,toT_getD hk']
  | cell a ag m=>simp only [resA,resE];rw [show (s.toSt n).tmps=toT n s.env from rfl,toT_getD hk'];rfl
 have hra:∀ rs,resAll (s.toSt n) rs=resAllE s rs:=by
  intro rs;unfold resAll resAllE;rw [show resA (s.toSt n)=resE s from funext hr]
  cases rs.mapM (resE s) with
  | none=>rfl
  | some ys=>cases ys with
   | nil=>rfl
   | cons y ys=>cases ys <;> rfl
 cases e with
 | normal=>simp only [retQ];rw [hra];exact hq
 | ret=>simp only [retQ];rw [hra];exact hq
 | _=>exact hq
theorem CwpE.split {c:CCode} {Q:Exit->Est->Prop} {env:List (Nat × AV)} {objs:List AObj} (k:Nat) (h:lk env k = .anyB) (ht:∀ b,CwpE P F0 w0 n c Q ⟨(k,.val (.bool b))::env,objs⟩):CwpE P F0 w0 n c Q ⟨env,objs⟩:=by
 intro hk F1 w1 m r rn code hc hro a w hs
 obtain ⟨hd,L,g,hsz,hslots⟩:=sim_slots hk hs
 have hkn:k<n:=by
  rcases Nat.lt_or_ge k n with h1 | h1
  ·exact h1
  ·have:=hk k h1;simp only [h] at this;cases this
 have hv:=hslots k hkn
 simp only [h] at hv
 obtain ⟨b,hb⟩:=hv.anyB_inv
 have hk':KeysOk n ((k,.val (.bool b))::env):=fun t ht'=>by simp only [lk];rw [if_neg (by omega)];exact hk t ht'
 refine ht b hk' F1 w1 m r rn code hc hro a w (sim_mk (s:=⟨_,objs⟩) hd g hsz fun t ht'=>?_)
 simp only [lk]
 split
 ·rename_i e;subst e;rw [hb];exact .tree (.val _)
 ·exact hslots t ht'
end Dak
namespace Dak
open Go Go.RowKit
variable [Globs]
variable {P : Program} {F0 : FD} {w0 : World} {n : Nat}
theorem CwpE.block {id:Nat} {b:CCode} {Q:Exit->Est->Prop} {s:Est} (h:CwpE P F0 w0 n b (inBlockE id Q) s):CwpE P F0 w0 n (.block id b) Q s:=by
 intro hk F1 w1 m r rn code hc hro a w hs
 cases code with
 | block id' b' =>
  simp only [compC,Option.map_eq_some_iff,CCode.block.injEq] at hc
  obtain ⟨x',hx,rfl,rfl⟩:=hc
  refine wpIn_block (wpIn_mono (h hk F1 w1 m r rn _ hx hro a w hs) ?_)
  rintro e a1 w3 ⟨F2,w2,hm,st',⟨s1,hq,hk1,rfl⟩,hs'⟩
  cases e with
  | exit i =>
   simp only [Exit.inBlock,inBlockE] at hq ⊢
   split
   ·rename_i hi;rw [if_pos hi] at hq;exact ⟨F2,w2,hm,_,⟨s1,hq,hk1,rfl⟩,hs'⟩
   ·rename_i hi;rw [if_neg hi] at hq;exact ⟨F2,w2,hm,_,⟨s1,hq,hk1,rfl⟩,hs'⟩
  | _=>exact ⟨F2,w2,hm,_,⟨s1,hq,hk1,rfl⟩,hs'⟩
 | region id ops d=>rcases compC_reg hc with ⟨_,_,h⟩ | ⟨_,_,h⟩ | ⟨_,_,_,h⟩ <;> cases h
 | _=>simp [compC,Option.bind_eq_some_iff] at hc
theorem Cwp.loopC {b:CCode} {Q:Exit->St->Prop} {s s0:St} (I:Nat->St->Prop) (n:Nat) (hw:Wk s s0) (h0:I n s0) (round:∀ n s,I n s->Cwp P F0 w0 b (Round I n Q) s):Cwp P F0 w0 (.loop b) Q s:=by
 intro F1 w1 hm1 r rn code hc hro a w hs
 cases code with
 | loop b' =>
  simp only [compC,Option.map_eq_some_iff,CCode.loop.injEq] at hc
  obtain ⟨x',hx,rfl⟩:=hc
  refine wpIn_loop_ghost (fun n a w=>∃ F2 w2,Mk F1 w1 F2 w2/\∃ s,I n s/\Sim F2 w2 s a w) n ⟨F1,w1,Mk.refl hs.lt,s0,h0,hw _ _ _ _ hs⟩ ?_
  rintro n a w ⟨F2,w2,hm2,s,hI,hs⟩
  refine wpIn_mono (round n s hI F2 w2 (hm1.trans hm2) r rn _ hx hro a w hs) ?_
  rintro e a1 w3 ⟨F3,w3',hm3,st',hq,hs'⟩
  cases e with
  | normal =>
   obtain ⟨m,s'',hm,hwk,hI'⟩:=hq
   first
    | exact ⟨m,hm,F3,w3',hm2.trans hm3,s'',hI',hwk _ _ _ _ hs'⟩
    | exact ⟨⟨m,hm,F3,w3',hm2.trans hm3,s'',hI',hwk _ _ _ _ hs'⟩⟩
  | _=>exact ⟨F3,w3',hm2.trans hm3,st',hq,hs'⟩
 | region id ops d=>rcases compC_reg hc with ⟨_,_,h⟩ | ⟨_,_,h⟩ | ⟨_,_,_,h⟩ <;> cases h
 | _=>simp [compC,Option.bind_eq_some_iff] at hc
theorem loopEC {b:CCode} {Q:Exit->Est->Prop} {s:Est} (I:Nat->Est->Prop) (k:Nat) (s0:Est) (hw:WkE n s s0) (h0:I k s0) (round:∀ k s,I k s->CwpE P F0 w0 n b (RoundE n I k Q) s):CwpE P F0 w0 n (.loop b) Q s:=by
 intro hk
 refine Cwp.loopC (fun k st=>∃ s,I k s/\KeysOk n s.env/\st=s.toSt n) k (hw hk).2 ⟨s0,h0,(hw hk).1,rfl⟩ ?_
 rintro k st ⟨s,hI,hk,rfl⟩
 refine Cwp.mono (round k s hI hk) ?_
 rintro e st ⟨s',hq,hk',rfl⟩
 cases e with
 | normal =>
  obtain ⟨m,s'',hm,hwk,hI'⟩:=hq
  exact ⟨m,_,hm,(hwk hk').2,s'',hI',(hwk hk').1,rfl⟩
 | _=>exact ⟨s',hq,hk',rfl⟩
theorem loopXC {b:CCode} {Q:Exit->Est->Prop} {s:Est} (x:Nat) (I:Nat->Est->Prop) (J:Est->Prop) (k:Nat) (s0:Est) (hw:WkE n s s0) (h0:I k s0) (round:∀ k s,I k s->CwpE P F0 w0 n b (RoundX n I k x J Q) s) (post:∀ s,J s->Q (.exit x) s):CwpE P F0 w0 n (.loop b) Q s:=by
 refine CwpE.post (Q:=fun e s=>match e with | .exit i=>if i=x then ∃ s',WkE n s s'/\J s' else Q (.exit i) s | e=>Q e s) ?_ ?_
 ·refine loopEC I k s0 hw h0 fun k s hI=>?_
  have:=round k s hI
  have e:RoundX n I k x J Q=RoundE n I k (fun e s=>match e with | .exit i=>if i=x then ∃ s',WkE n s s'/\J s' else Q (.exit i) s | e=>Q e s):=by
   funext e s;cases e <;> rfl
  rw [e] at this;exact this
 ·intro e s hq
  cases e with
  | exit i =>
   simp only at hq
   split at hq
   ·rename_i hi;subst hi
    obtain ⟨s',h1,h2⟩:=hq
    exact ⟨s',h1,post s' h2⟩
   ·exact ⟨s,.refl _ _,hq⟩
  | _=>exact ⟨s,.refl _ _,hq⟩
theorem CwpE.cut {a b:CCode} {Q:Exit->Est->Prop} {s st:Est} (h:vcE P F0 w0 n a (thenE (fun s=>∃ s',WkE n s s'/\s'=st) Q) s) (k:CwpE P F0 w0 n b Q st):CwpE P F0 w0 n (.seq a b) Q s:=by
 refine CwpE.step (fun s=>s=st) h ?_
 rintro s rfl;exact k
theorem CwpE.seqJ {a b:CCode} {Q:Exit->Est->Prop} {s:Est} (J:Est->Prop) (h:CwpE P F0 w0 n a (thenE (fun s=>∃ s',WkE n s s'/\J s') Q) s) (k:∀ s,J s->CwpE P F0 w0 n b Q s):CwpE P F0 w0 n (.seq a b) Q s:=by
 refine CwpE.seq (h.post ?_)
 rintro e s h
 cases e with
 | normal=>obtain ⟨s',h1,h2⟩:=h;exact ⟨s,.refl _ _,(k s' h2).wk h1⟩
 | _=>exact ⟨s,.refl _ _,h⟩
end Dak
namespace Dak
open Go Go.RowKit
variable [Globs]
variable {P : Program} {F0 : FD} {w0 : World} {n : Nat}
theorem CwpE.cond_b {c:Operand} {a b:CCode} {Q:Exit->Est->Prop} {s:Est} (t:Bool) (hc:asB (evE s.env c)=some t) (h:CwpE P F0 w0 n (if t then a else b) Q s):CwpE P F0 w0 n (.cond c a b) Q s:=by
 intro hk F1 w1 m r rn code hcode hro a' w hs
 cases code with
 | cond c' a'' b'' =>
  simp only [compC,Option.bind_eq_some_iff,Option.map_eq_some_iff,CCode.cond.injEq] at hcode
  obtain ⟨x',hx,y',hy,rfl,rfl,rfl⟩:=hcode
  have hv:a'.eval c' = .bool t:=by
   obtain ⟨hd,L,g,hs1,ht1⟩:=hs
   refine asB_ok (ev_ok (objs:=s.objs) g.gl hs1 ht1 c') ?_
   show asB (St.ev (toT n s.env) c')=some t
   rw [ev_toT hk];exact hc
  refine wpIn_cond hv ?_
  cases t with
  | true=>exact h hk F1 w1 m r rn _ hx (ro_l hro) a' w hs
  | false=>exact h hk F1 w1 m r rn _ hy (ro_r hro) a' w hs
 | region id ops d=>rcases compC_reg hcode with ⟨_,_,h⟩ | ⟨_,_,h⟩ | ⟨_,_,_,h⟩ <;> cases h
 | _=>simp [compC,Option.bind_eq_some_iff] at hcode
theorem CwpE.cond_t {c:Operand} {a b:CCode} {Q:Exit->Est->Prop} {s:Est} (hc:asB (evE s.env c)=some true) (h:CwpE P F0 w0 n a Q s):CwpE P F0 w0 n (.cond c a b) Q s:=CwpE.cond_b true hc h
end Dak
namespace Dak
open Go Go.RowKit
variable [Globs]
variable {P : Program} {F0 : FD} {w0 : World} {n : Nat}
theorem rops_ok2 (ops:Array Oper) {K:St->Prop} (csb:List COper):∀ (l:List Oper) (csa:List COper) (k:Nat),(∀ j,l[j]? = ops[k+j]?)->l.mapM (compO P ops)=some (csa++csb)->∀ (st:St) (a:Act) (w:World),Sim F0 w0 st a w->Rops P csa (fun st1=>∃ st2,Wk st1 st2/\Rops P csb K st2) st ->
 wpOps P ops (Lift F0 w0 fun e st=>e = .normal/\K st) (List.range' k l.length) a w
 | l,[],k,hl,hm,st,a,w,hsim,h=>by
  obtain ⟨st2,hwk,h⟩:=h
  exact rops_ok ops l csb k hl hm st2 a w (hwk _ _ _ _ hsim) h
 | [],c::csa,k,hl,hm,st,a,w,hsim,h=>by simp at hm
 | o::l,c::csa,k,hl,hm,st,a,w,hsim,h=>by
  simp only [List.mapM_cons,Option.bind_eq_bind,Option.bind_eq_some_iff,Option.pure_def,Option.some.injEq,List.cons_append,List.cons.injEq] at hm
  obtain ⟨c,hc,cs',hcs,rfl,rfl⟩:=hm
  have h0:ops[k]? = some o:=by simpa using (hl 0).symm
  have hl':∀ j,l[j]? = ops[k+1+j]?:=fun j=>by have:=hl (j+1);simpa [Nat.add_assoc,Nat.add_comm 1 j] using this
  have ih:=rops_ok2 ops (K:=K) csb l csa (k+1) hl' hcs
  simp only [List.length_cons,List.range'_succ,wpOps,h0]
  simp only [compO,Option.bind_eq_some_iff] at hc
  obtain ⟨op,hop,hc⟩:=hc
  cases hg:o.guard with
  | none =>
   rw [hg] at hc
   simp only [Option.some.injEq] at hc
   subst hc
   have hw:Region.wanted o (yielded ops a.tmps)=true:=by unfold Region.wanted;rw [hg]
   rw [hw,if_pos rfl]
   simp only [Rops] at h
   exact .inl (rstep_ok (P:=P) (c:=⟨o.dst,none,op⟩) (.ofB hop) rfl hsim h fun st' a' w' hK hs=>ih st' a' w' hs hK)
  | some q =>
   obtain ⟨j,want⟩:=q
   rw [hg] at hc
   simp only [Option.map_eq_some_iff] at hc
   obtain ⟨t,htt,rfl⟩:=hc
   simp only [Rops] at h
   split at h
   ·rename_i b hb
    have hbv:boolOf (a.tmps.getD t undef)=b:=by
     obtain ⟨hd,L,g,hs,ht⟩:=hsim
     exact gdB_ok (ev_ok (objs:=st.objs) g.gl hs ht (.tmp t)) hb
    have hw:=wanted_of hg htt hbv
    by_cases e:b=some want
    ·subst e
     rw [hw];simp only [beq_self_eq_true,if_true]
     exact .inl (rstep_ok (P:=P) (c:=⟨o.dst,some (t,want),op⟩) (.ofB hop) rfl hsim (h.1 rfl) fun st' a' w' hK hs=>ih st' a' w' hs hK)
    ·rw [hw,if_neg (by simpa using e)]
     refine ih _ _ _ ?_ (h.2 e)
     obtain ⟨hd,L,g,hs,ht⟩:=hsim
     exact sim_put hd hs ht g (.refl _ _ _) _ (.tree (.val _))
   ·exact h.elim
end Dak
namespace Dak
open Go Go.RowKit
variable [Globs]
variable {P : Program} {F0 : FD} {w0 w : World} {L : Lay} {objs objs0 : List AObj} {nid : Nat}
theorem inn1_mono {m n:Nat} (h:m<=n) {x:AV} (hx:x.inn1 m=true):x.inn1 n=true:=by
 cases x <;> simp_all [AV.inn1] <;> omega
theorem innA_mono {m n:Nat} (h:m<=n) {x:AV} (hx:x.innA m=true):x.innA n=true:=by
 cases x with
 | agg cs=>exact List.all_eq_true.2 fun c hc=>inn1_mono h (List.all_eq_true.1 hx c hc)
 | _=>simp only [AV.innA] at hx ⊢;exact inn1_mono h hx
theorem inn_mono {m n:Nat} (h:m<=n) {x:AV} (hx:x.inn m=true):x.inn n=true:=by
 cases x with
 | agg cs=>exact List.all_eq_true.2 fun c hc=>inn1_mono h (List.all_eq_true.1 hx c hc)
 | tup cs=>exact List.all_eq_true.2 fun c hc=>innA_mono h (List.all_eq_true.1 hx c hc)
 | clo fn cs=>exact List.all_eq_true.2 fun c hc=>inn1_mono h (List.all_eq_true.1 hx c hc)
 | _=>simp only [AV.inn] at hx ⊢;exact inn1_mono h hx
theorem later_app (w:World) (L:Lay) (objs tail:List AObj):Later w L objs w L (objs++tail) :=
 ⟨fun b hF hb=>⟨rfl,hF⟩,fun _ _ h=>stale_app _ h,fun _ _ _ h=>.inr ⟨live_app _ h,rfl⟩⟩
abbrev probeOf (objs:List AObj) (L:Lay) (ps:List (AV × Value)):AObj:=.probe objs.length (stale objs) (live objs) L.blk ps
theorem good_probe (g:Good F0 w0 w L objs) (ps:List (AV × Value)) (hp:∀ p ∈ ps,VR w L objs p.1 p.2):Good F0 w0 w L (objs++[probeOf objs L ps]):=by
 have hl:=later_app w L objs [probeOf objs L ps]
 refine ⟨fun id o ho=>?_,fun id hid=>g.out id (by rw [List.length_append] at hid;omega),g.inj,g.own,g.old,g.ext,g.gl⟩
 by_cases hlt:id<objs.length
 ·rw [List.getElem?_append_left hlt] at ho
  have:=g.obj id o ho
  cases o with
  | void=>exact this
  | dead=>exact this
  | probe k st li bk ps=>exact this.probe_stay hl rfl
  | arr gen size elem xs =>
   unfold OR at this ⊢
   cases hbk:L.blk id with
   | none=>rw [hbk] at this;exact this
   | some q =>
    obtain ⟨b,o',n⟩:=q
    rw [hbk] at this
    obtain ⟨cur,hc,hn,hr⟩:=this
    exact ⟨cur,hc,hn,hr.stay hl⟩
 ·have hid:id=objs.length:=by
   have:=(List.getElem?_eq_some_iff.1 ho).1
   simp at this;omega
  subst hid
  simp at ho;subst ho
  exact ⟨g.out _ (Nat.le_refl _),fun i g' _ h=>stale_app _ h,fun i g' s _ h=>.inr ⟨live_app _ h,rfl⟩,fun p hp'=>(hp p hp').stay hl⟩
theorem probe_inn {ps:List (AV × Value)} (hp:∀ p ∈ ps,p.1.inn objs.length=true) (m:Nat) (hm:objs.length<=m):(probeOf objs L ps).innO m=true:=by
 simp only [AObj.innO,Bool.and_eq_true,decide_eq_true_eq]
 exact ⟨hm,List.all_eq_true.2 fun p hp'=>inn_mono hm (hp p hp')⟩
theorem fin_probe {w':World} {L3:Lay} {base base':List AObj} {r:AV} {v:Value} {ds:List Deferred} (g:Good { F0 with ds:=ds } w0 w' L3 (base'++[probeOf base L []])) (hlen:base'.length=base.length) (hb':(base'.all fun o=>o.innO base.length)=true)
 (hv:VR w' L3 (base'++[probeOf base L []]) r v) (hr:r.inn base.length=true):∃ L',Good F0 w0 w' L' base'/\Done base L base' L'/\VR w' L' base' r v:=by
 have e:(base'++[probeOf base L []]).take base.length=base':=by rw [<-hlen];exact List.take_left
 have gd:=good_drop g base.length (fun o ho=>by rw [e] at ho;exact List.all_eq_true.1 hb' o ho)
 rw [e] at gd
 have hpr:=g.obj base.length (probeOf base L []) (by rw [<-hlen];simp)
 obtain ⟨_,p1,p2,_⟩:=hpr
 refine ⟨L3.cut base.length,⟨gd.obj,gd.out,gd.inj,gd.own,gd.old,gd.ext,gd.gl⟩,⟨fun id gg h=>?_,fun id gg s h=>?_⟩,?_⟩
 ·have hlt:=stale_lt h
  have:=(take_stale hlt).2 (p1 id gg hlt h)
  rwa [e] at this
 ·have hlt:=live_lt h
  rcases p2 id gg s hlt h with h1 | ⟨h1,h2⟩
  ·have:=(take_stale hlt).2 h1
   rw [e] at this;exact .inl this
  ·have:=(take_live hlt).2 h1
   rw [e] at this
   exact .inr ⟨this,(if_pos hlt).trans h2⟩
 ·have:=below_vr (L:=L3) (L':=L3.cut base.length) (m:=base.length) (fun _ h=>h) (fun id h=>if_pos h) hv hr
  rwa [e] at this
def retM (rs:List CRes) (r:AV) (objs':List AObj):Exit->Est->Prop
 | .normal,s=>∃ y,resAllE s rs=some y/\WkE 1 ⟨[(0,y)],s.objs⟩ ⟨[(0,r)],objs'⟩
 | .ret,s=>∃ y,resAllE s rs=some y/\WkE 1 ⟨[(0,y)],s.objs⟩ ⟨[(0,r)],objs'⟩
 | _,_=>False
theorem keys_env {xs:List AV} {n:Nat} (hn:xs.length<=n):KeysOk n (envOf 0 xs):=by
 intro t ht
 rw [lk_envOf,if_pos (Nat.zero_le _),List.getD_eq_getElem?_getD,List.getElem?_eq_none (by omega)];rfl
theorem enter_slots {xs:List AV} {n:Nat} {vs:Array Value} (hl:vs.size=xs.length) (hn:xs.length<=n) (hv:∀ i (h:i<xs.length) (h2:i<vs.size),VR w L objs xs[i] vs[i]) :
 ∀ t,t<n->VR w L objs (lk (envOf 0 xs) t) ((vs++Array.replicate (n-vs.size) undef).getD t undef):=by
 intro t ht
 rw [lk_envOf,if_pos (Nat.zero_le _),Nat.sub_zero,List.getD_eq_getElem?_getD]
 by_cases hlt:t<xs.length
 ·rw [List.getElem?_eq_getElem hlt,Array.getD_eq_getD_getElem?,Array.getElem?_append_left (by omega),Array.getElem?_eq_getElem (by omega)]
  exact hv t hlt (by omega)
 ·rw [List.getElem?_eq_none (by omega)]
  exact .junk _
theorem resAllE_eq {s:Est} {n:Nat} (hk:KeysOk n s.env) (rs:List CRes):resAll (s.toSt n) rs=resAllE s rs:=by
 have hr:∀ x,resA (s.toSt n) x=resE s x:=by
  intro x
  cases x with
  | tmp t=>simp only [resA,resE];rw [show (s.toSt n).tmps=toT n s.env from rfl,toT_getD hk]
  | cell a ag m=>simp only [resA,resE];rw [show (s.toSt n).tmps=toT n s.env from rfl,toT_getD hk];rfl
 unfold resAll resAllE
 rw [show resA (s.toSt n)=resE s from funext hr]
 cases rs.mapM (resE s) with
 | none=>rfl
 | some ys=>cases ys with
  | nil=>rfl
  | cons y ys=>cases ys <;> rfl
theorem wk_one {y r:AV} {objs':List AObj} (h:WkE 1 ⟨[(0,y)],objs⟩ ⟨[(0,r)],objs'⟩) (g:Good F0 w0 w L objs) {v:Value} (hv:VR w L objs y v):∃ L',Good F0 w0 w L' objs'/\VR w L' objs' r v:=by
 have hk:KeysOk 1 [(0,y)]:=by
  intro t ht;simp only [lk];rw [if_neg (by omega)]
 obtain ⟨hk',hw⟩:=h hk
 have hs:=hw F0 w0 { tmps:=#[v],defers:=F0.ds } w (sim_mk (n:=1) (s:=⟨[(0,y)],objs⟩) rfl g rfl fun t ht=>by
  obtain rfl:t=0:=by omega
  exact hv)
 obtain ⟨_,L',g',_,ht⟩:=sim_slots hk' hs
 exact ⟨L',g',ht 0 (by omega)⟩
theorem Good.un {w':World} {L':Lay} {objs':List AObj} {k:Nat} (g:Good F0 w0 w L objs) (g':Good (inFD F0 L k) w w' L' objs'):Good F0 w0 w' L' objs':=by
 refine ⟨g'.obj,g'.out,g'.inj,fun id b o n hb=>?_,fun b hb=>⟨?_,(g'.old b hb).2⟩,?_,g'.gl⟩
 ·have h1:=g'.own _ _ _ _ hb
  exact ⟨h1.1,fun hk=>h1.2.1 (.inl hk),h1.2.2⟩
 ·rcases (g'.old b hb).1 with h1 | h1
  ·exact (g.old b h1).1
  ·exact .inr fun hk=>h1 (.inl hk)
 ·exact ⟨g'.ext.os.trans g.ext.os,g'.ext.tape.trans g.ext.tape,g'.ext.output.trans g.ext.output,Nat.le_trans g.ext.size g'.ext.size,fun b hb=>(g'.ext.block b (.inl hb)).trans (g.ext.block b hb),g.ext.lt⟩
theorem mod_all (g:Good F0 w0 w L objs):Good (inFD F0 L objs.length) w w L objs:=by
 refine ⟨g.obj,g.out,g.inj,fun id b o n hbk=>?_,fun b hF=>⟨.inl hF,(g.old b hF).2⟩,Kept.refl fun b hK=>?_,g.gl⟩
 ·have h1:=g.own id b o n hbk
  refine ⟨h1.1,?_,h1.2.2⟩
  rintro (hk | hk | ⟨id',o',n',hk,hbk'⟩)
  ·exact h1.2.1 hk
  ·exact h1.1 hk
  ·rw [g.out id' hk] at hbk';cases hbk'
 ·rcases hK with hk | hk | ⟨id',o',n',hk,hbk'⟩
  ·exact Nat.lt_of_lt_of_le (g.ext.lt b hk) g.ext.size
  ·exact (g.old b hk).2
  ·exact (g.own _ _ _ _ hbk').2.2
theorem bodyM {fn:Func} {code:Code} {c:CCode} {rs:List CRes} {xs:List AV} {base base':List AObj} {r:AV} (hc:compC P code=some c) (hrs:fn.results.toList.mapM (resC P)=some rs) (hn:xs.length<=fn.ntmps) (hlen:base'.length=base.length)
 (hb':(base'.all fun o=>o.innO base.length)=true) (hr:r.inn base.length=true)
 (h:∀ F0 w0 G,(∀ m,base.length<=m->G.innO m=true)->CwpE P F0 w0 fn.ntmps c (retM rs r (base'++[G])) ⟨envOf 0 xs,base++[G]⟩)
 {vs:Array Value} (g:Good F0 w0 w L base) (hl:vs.size=xs.length) (hv:∀ i (h:i<xs.length) (h2:i<vs.size),VR w L base xs[i] vs[i]) :
 code.wpIn (Wf none) 3 P (bodyPostM Fence.wide 3 P fn (OutM F0 w0 L base r base')) { tmps:=vs++Array.replicate (fn.ntmps-vs.size) undef,defers:=[] } w:=by
 have gp:=good_probe (mod_all g) [] (fun p h=>by cases h)
 have hsim:Sim (inFD F0 L base.length) w ((⟨envOf 0 xs,base++[probeOf base L []]⟩:Est).toSt fn.ntmps) { tmps:=vs++Array.replicate (fn.ntmps-vs.size) undef,defers:=[] } w :=
  sim_mk (s:=⟨envOf 0 xs,base++[probeOf base L []]⟩) rfl gp (by simp [hl];omega) (enter_slots hl hn fun i h1 h2=>(hv i h1 h2).stay (later_app w L base _))
 refine wpIn_mono (h (inFD F0 L base.length) w (probeOf base L []) (fun m hm=>probe_inn (fun p h=>by cases h) m hm) (keys_env hn) _ _ (Mk.refl hsim.lt) none 0 code hc (.inl rfl) _ w hsim) ?_
 rintro e a' w' ⟨F1,w1,hm,st,⟨s,hq,hk,rfl⟩,hs⟩
 have fin:(∃ y,resAllE s rs=some y/\WkE 1 ⟨[(0,y)],s.objs⟩ ⟨[(0,r)],base'++[probeOf base L []]⟩)->LeavesInM Fence.wide 3 P fn a'.tmps (OutM F0 w0 L base r base') a'.defers .returning w':=by
  rintro ⟨y,hy,hwk⟩
  refine leavesM (F0:=inFD F0 L base.length) (w0:=w) (fun b hb=>(g.old b hb).2) hm hs fun W hsW=>?_
  obtain ⟨hd,L',g',hs1,ht⟩:=hsW
  obtain ⟨v,hv,hvr⟩:=results_ok (P:=P) hrs g' hs1 ht (by rw [resAllE_eq hk];exact hy)
  obtain ⟨L3,g3,hv3⟩:=wk_one hwk g' hvr
  obtain ⟨L4,g4,hd4,hv4⟩:=fin_probe (ds:=[]) (F0:=inFD F0 L base.length) g3 hlen hb' hv3 hr
  exact ⟨v,hv,v,L4,rfl,g.un g4,hd4,hv4⟩
 cases e with
 | normal=>exact fin hq
 | ret=>exact fin hq
 | _=>exact hq.elim
theorem fnC_inv {f:FuncId} {c:CCode} {n:Nat} {rs:List CRes} (hf:fnC P f=some (c,n,rs)):∃ fn code,P.funcs[f]? = some fn/\fn.body=some code/\Enters P f=true/\compC P code=some c/\fn.results.toList.mapM (resC P)=some rs/\fn.ntmps=n:=by
 unfold fnC at hf
 split at hf
 rotate_left
 ·cases hf
 rename_i fn hfn
 split at hf
 ·cases hf
 rename_i hname
 split at hf
 rotate_left
 ·cases hf
 rename_i code hbody
 simp only [Option.bind_eq_some_iff,Option.map_eq_some_iff,Prod.mk.injEq] at hf
 obtain ⟨c',hc,rs',hrs,rfl,rfl,rfl⟩:=hf
 exact ⟨fn,code,hfn,hbody,by unfold Enters;rw [hfn];simp only [hbody,Option.isSome_some,Bool.and_true];simpa using hname,hc,hrs,rfl⟩
theorem specM {f:FuncId} {c:CCode} {n:Nat} {rs:List CRes} (hf:fnC P f=some (c,n,rs)) {xs:List AV} {base base':List AObj} {r:AV} (hn:xs.length<=n) (hlen:base'.length=base.length) (hb':(base'.all fun o=>o.innO base.length)=true)
 (hr:r.inn base.length=true) (h:∀ F0 w0 G,(∀ m,base.length<=m->G.innO m=true)->CwpE P F0 w0 n c (retM rs r (base'++[G])) ⟨envOf 0 xs,base++[G]⟩):CtrM P f xs base r base':=by
 obtain ⟨fn,code,hfn,hbody,hent,hc,hrs,rfl⟩:=fnC_inv hf
 exact ⟨hent,hlen,fun F0 w0 w L vs hds g hl hv=>callsIn_wide.1 (callsIn_of_wp_marks (n:=3) hfn hbody trivial (bodyM hc hrs hn hlen hb' hr h g hl hv))⟩
theorem specN {f:FuncId} {c:CCode} {n:Nat} {rs:List CRes} (hf:fnC P f=some (c,n,rs)) {xs:List AV} {r:AV} {news:List AObj} (hn:xs.length<=n) (hp:(news.all AObj.plain)=true) (hi:(news.all fun o=>o.innO news.length)=true) (hr:r.inn news.length=true)
 (h:∀ F0 w0,CwpE P F0 w0 n c (retM rs r news) ⟨envOf 0 xs,[]⟩):CtrN P f xs r news:=by
 obtain ⟨fn,code,hfn,hbody,hent,hc,hrs,rfl⟩:=fnC_inv hf
 refine ⟨hent,hp,hi,hr,fun w F vs hgl hl ht=>?_⟩
 refine callsIn_wide.1 (callsIn_of_wp_marks (n:=3) hfn hbody trivial ?_)
 have g0:Good ⟨fun b=>F b/\b<w.heap.size,(· < w.heap.size),[]⟩ w w ⟨fun b=>F b/\b<w.heap.size,fun _=>none⟩ [] :=
  ⟨fun id o h=>by simp at h,fun _ _=>rfl,fun _ _ _ _ _ _ _ h=>by simp at h,fun _ _ _ _ h=>by simp at h,fun b hb=>⟨.inl hb,hb.2⟩,Kept.refl fun _ h=>h,hgl.stay fun b hb hl=>⟨rfl,hb,hl⟩⟩
 have hsim:Sim ⟨fun b=>F b/\b<w.heap.size,(· < w.heap.size),[]⟩ w ((⟨envOf 0 xs,[]⟩:Est).toSt fn.ntmps) { tmps:=vs++Array.replicate (fn.ntmps-vs.size) undef,defers:=[] } w :=
  sim_mk (s:=⟨envOf 0 xs,[]⟩) rfl g0 (by simp [hl];omega) (enter_slots hl hn fun i h1 h2=>.tree ((ht i h1 h2).mono fun b hb hbl=>⟨hb,hbl⟩))
 refine wpIn_mono (h ⟨fun b=>F b/\b<w.heap.size,(· < w.heap.size),[]⟩ w (keys_env hn) _ _ (Mk.refl hsim.lt) none 0 code hc (.inl rfl) _ w hsim) ?_
 rintro e a' w' ⟨F1,w1,hm,st,⟨s,hq,hk,rfl⟩,hs⟩
 have fin:(∃ y,resAllE s rs=some y/\WkE 1 ⟨[(0,y)],s.objs⟩ ⟨[(0,r)],news⟩)->LeavesInM Fence.wide 3 P fn a'.tmps (fun e w'=>∃ v L',e=Ending.returned v/\Good ⟨F,(· < w.heap.size),[]⟩ w w' L' news/\VR w' L' news r v) a'.defers .returning w':=by
  rintro ⟨y,hy,hwk⟩
  refine leavesM (F0:=⟨fun b=>F b/\b<w.heap.size,(· < w.heap.size),[]⟩) (fun b (hb:F b/\b<w.heap.size)=>hb.2) hm hs fun W hsW=>?_
  obtain ⟨hd,L',g',hs1,ht'⟩:=hsW
  obtain ⟨v,hv,hvr⟩:=results_ok (P:=P) hrs g' hs1 ht' (by rw [resAllE_eq hk];exact hy)
  obtain ⟨L3,g3,hv3⟩:=wk_one hwk g' hvr
  exact ⟨v,hv,v,L3,rfl,⟨g3.obj,g3.out,g3.inj,g3.own,fun b hb=>⟨(g3.old b hb).1.imp (fun h=>h.1) fun h=>h,(g3.old b hb).2⟩,g3.ext,g3.gl⟩,hv3⟩
 cases e with
 | normal=>exact fin hq
 | ret=>exact fin hq
 | _=>exact hq.elim
end Dak
namespace Go.Proofs.Ytjilachpkjlhdaa
open Dak
abbrev oo (d:Nat) (c:COp):COper:=⟨some d,none,c⟩
abbrev vv (d t:Nat):COper:=⟨some d,none,.mov (.tmp t)⟩
abbrev nn (c:COp):COper:=⟨none,none,c⟩
abbrev gt (d t:Nat) (c:COp):COper:=⟨some d,some (t,true),c⟩
abbrev gf (d t:Nat) (c:COp):COper:=⟨some d,some (t,false),c⟩
abbrev vt (d t s:Nat):COper:=⟨some d,some (t,true),.mov (.tmp s)⟩
abbrev vf (d t s:Nat):COper:=⟨some d,some (t,false),.mov (.tmp s)⟩
abbrev kk (n:Int):Operand:=.const (.int .i64 n)
abbrev ld1 (n:Nat):COp:=.load false 1 (.tmp n)
abbrev ld3 (n:Nat):COp:=.load true 3 (.tmp n)
abbrev fA (o n:Nat):COp:=.fieldAddr o (.tmp n)
abbrev iS (s a b:Nat):COp:=.idxS s (.tmp a) (.tmp b)
abbrev eX (a i:Nat):COp:=.extract (.tmp a) i
abbrev sS (m a b:Nat):COper:=⟨none,none,.store m (.tmp a) (.tmp b)⟩
abbrev iB (o:BinOp) (a b:Nat):COp:=.ibin o (.tmp a) (.tmp b)
abbrev iK (o:BinOp) (a:Nat) (k:Int):COp:=.ibin o (.tmp a) (kk k)
abbrev cL (f:Nat) (l:List Operand):COp:=.call (.func f) l
abbrev lN (a:Nat):COp:=.len (.tmp a)
abbrev nS:AV:=.val (.slice none 0 0)
abbrev nI:AV:=.val (.int .i64 0)
abbrev nU:AV:=.val (.int .u64 0)
abbrev aZ (e:Nat):COp:=.alloc e (.agg [nI,nS,nS])
abbrev bF:Operand:=.const (.bool false)
abbrev bT:Operand:=.const (.bool true)
abbrev sR (l:List COper) (c:CCode):CCode:=.seq (.region l) c
abbrev rR (l:List COper):CCode:=.region l
def c3:CCode :=
 (sR [oo 12 (.mov bF)]
 (sR [vv 25 0,vv 26 1,oo 27 (cL 10 [T 25,(.const (.slice none 0 0)),T 26]),vv 24 27,oo 28 (eX 24 0),oo 29 (eX 24 1),oo 13 (aZ 26),oo 14 (aZ 26),sS 3 13 28,sS 3 14 29]
 (sR [oo 30 (ld3 13),vv 31 2,vv 32 3,vv 33 4,oo 34 (cL 11 [T 30,T 31,T 32,T 33]),oo 15 (aZ 26),sS 3 15 34]
 (.seq (.drawn [oo 35 (ld3 13),oo 36 (ld3 15),oo 37 (ld3 15),vv 38 4,vv 39 3,oo 40 (iK .quo 39 9),vv 41 2,oo 43 (.build [nI,nS,nS] [])] [(oo 42 (cL 11 [T 37,T 38,T 40,T 41]),[oo 35 (ld3 13),oo 36 (ld3 15),oo 43 (.build [nI,nS,nS] [])]),(oo 44 (.bslice 26 3 [T 35,T 36,T 42,T 43]),[]),(vv 16 44,[])])
 (sR [vv 45 5,oo 46 (cL 12 [T 45,kk 12]),vv 17 46]
 (.seq (sR [oo 18 (.mov (kk 0))]
 (.block 0 (.loop
 (.seq (sR [vv 47 18,vv 48 16,oo 49 (lN 48),oo 50 (iB .lss 47 49)]
 (.cond (T 50)
 .skip
 (.exit 0)))
 (.seq (.block 1 (sR [vv 53 16,vv 54 18,oo 55 (iS 3 53 54),oo 56 (ld3 55),oo 57 (cL 13 [T 56]),oo 19 (aZ 34),sS 3 19 57]
 (.seq (.seq (.drawn [oo 58 (ld3 19),oo 59 (cL 14 [T 58]),vv 60 16,vv 61 18,oo 62 (iS 3 60 61),oo 63 (ld3 62),oo 64 (cL 15 [T 63]),oo 65 (iB .neq 59 64),vv 66 65,gf 67 66 (ld3 19),vf 68 66 17,gf 69 66 (cL 16 [T 67,T 68]),vf 70 66 16,vf 71 66 18,gf 72 66 (iS 3 70 71),gf 73 66 (ld3 72),vf 74 66 17,gf 75 66 (cL 17 [T 73,T 74]),gf 76 66 (.bbin .neq (T 69) (T 75)),oo 77 (.pick (T 66) bT (T 76))] [])
 (.cond (T 77)
 (sR [oo 12 (.mov bF)]
 .ret)
 .skip))
 (sR [oo 79 (ld3 19),oo 80 (cL 18 [T 79]),vv 78 80,oo 81 (eX 78 0),oo 82 (eX 78 1),vv 20 81,vv 21 82]
 (sR [vv 84 16,vv 85 18,oo 86 (iS 3 84 85),oo 87 (ld3 86),oo 88 (cL 19 [T 87]),vv 83 88,oo 89 (eX 83 0),oo 90 (eX 83 1),vv 22 89,vv 23 90]
 (sR [vv 91 21,vv 92 23,oo 93 (.bbin .neq (T 91) (T 92)),vv 94 93,vf 95 94 20,vf 96 94 22,gf 97 94 (cL 20 [T 95,T 96]),gf 98 94 (.lnot (T 97)),oo 99 (.pick (T 94) bT (T 98))]
 (.cond (T 99)
 (sR [oo 12 (.mov bF)]
 .ret)
 .skip)))))))
 (rR [vv 51 18,oo 52 (iK .add 51 1),vv 18 52]))))))
 (sR [oo 100 (cL 21 []),vv 12 100]
 .ret)))))))
theorem f3:fnC Try.prog 3=some (c3,101,[(.tmp 12)]):=by kernel_rfl
def c4:CCode :=
 (sR [oo 10 (.mov bF)]
 (sR [vv 22 0,vv 23 1,oo 24 (cL 10 [T 22,(.const (.slice none 0 0)),T 23]),vv 21 24,oo 25 (eX 21 0),oo 26 (eX 21 1),oo 11 (aZ 26),oo 12 (aZ 26),sS 3 11 25,sS 3 12 26]
 (.seq (.drawn [oo 27 (ld3 11),oo 28 (ld3 11),vv 29 2,vv 30 3,vv 31 4] [(oo 32 (cL 11 [T 28,T 29,T 30,T 31]),[oo 27 (ld3 11)]),(oo 33 (.bslice 26 3 [T 27,T 32]),[]),(vv 13 33,[])])
 (.seq (sR [oo 14 (.mov (kk 0))]
 (.block 0 (.loop
 (.seq (sR [vv 34 14,oo 35 (iK .lss 34 2)]
 (.cond (T 35)
 .skip
 (.exit 0)))
 (.seq (.block 1 (sR [vv 39 13,vv 40 14,oo 41 (iS 3 39 40),oo 42 (ld3 41),oo 43 (cL 13 [T 42]),oo 44 (cL 22 [T 43]),vv 38 44,oo 45 (eX 38 0),oo 46 (eX 38 1),oo 15 (aZ 34),sS 3 15 45,vv 16 46]
 (sR [vv 48 13,vv 49 14,oo 50 (iS 3 48 49),oo 51 (ld3 50),oo 52 (cL 23 [T 51]),vv 47 52,oo 53 (eX 47 0),oo 54 (eX 47 1),oo 17 (aZ 26),sS 3 17 53,vv 18 54]
 (.seq (sR [vv 55 16,vv 56 18,oo 57 (iB .neq 55 56),vv 58 57,gf 59 58 (ld3 15),gf 60 58 (ld3 17),gf 61 58 (cL 24 [T 59,T 60]),gf 62 58 (.lnot (T 61)),oo 63 (.pick (T 58) bT (T 62))]
 (.cond (T 63)
 (sR [oo 10 (.mov bF)]
 .ret)
 .skip))
 (.seq (sR [vv 64 16,oo 65 (iK .neq 64 0)]
 (.cond (T 65)
 (.exit 1)
 .skip))
 (sR [oo 67 (ld3 15),oo 68 (cL 22 [T 67]),vv 66 68,oo 69 (eX 66 0),oo 70 (eX 66 1),oo 19 (aZ 34),sS 3 19 69,vv 20 70]
 (sR [vv 71 20,oo 72 (iK .neq 71 0),vv 73 72,gf 74 73 (ld3 19),gf 75 73 (ld3 17),gf 76 73 (cL 24 [T 74,T 75]),gf 77 73 (.lnot (T 76)),oo 78 (.pick (T 73) bT (T 77))]
 (.cond (T 78)
 (sR [oo 10 (.mov bF)]
 .ret)
 .skip))))))))
 (rR [vv 36 14,oo 37 (iK .add 36 1),vv 14 37]))))))
 (sR [oo 79 (cL 21 []),vv 10 79]
 .ret)))))
def c5:CCode :=
 (sR [oo 12 (.mov bF)]
 (sR [vv 34 0,vv 35 1,vv 36 2,oo 37 (cL 10 [T 34,T 35,T 36]),vv 33 37,oo 38 (eX 33 0),oo 39 (eX 33 1),oo 13 (aZ 26),oo 14 (aZ 26),sS 3 13 38,sS 3 14 39]
 (.seq (.drawn [oo 40 (ld3 13),oo 41 (ld3 14),oo 42 (.bslice 26 3 [T 40,T 41]),oo 43 (ld3 13),oo 44 (ld3 13),oo 45 (.bslice 26 3 [T 43,T 44]),oo 46 (ld3 13),oo 47 (ld3 13),vv 48 3,vv 49 4,vv 50 5,oo 51 (cL 11 [T 47,T 48,T 49,T 50]),oo 52 (.bslice 26 3 [T 46,T 51]),oo 53 (ld3 13),vv 54 1,oo 55 (cL 25 [T 54,kk 4]),oo 56 (.bslice 26 3 [T 53,T 55]),oo 57 (.bslice 30 1 [T 42,T 45,T 52,T 56]),vv 15 57] [])
 (.seq (sR [oo 16 (.mov (kk 0))]
 (.block 0 (.loop
 (.seq (sR [vv 58 16,vv 59 15,oo 60 (lN 59),oo 61 (iB .lss 58 60)]
 (.cond (T 61)
 .skip
 (.exit 0)))
 (.seq (.block 1 (sR [vv 64 15,vv 65 16,oo 66 (iS 1 64 65),oo 67 (ld1 66),oo 68 (.idxS 3 (T 67) (kk 0)),oo 69 (ld3 68),oo 17 (aZ 26),sS 3 17 69]
 (sR [vv 70 15,vv 71 16,oo 72 (iS 1 70 71),oo 73 (ld1 72),oo 74 (.idxS 3 (T 73) (kk 1)),oo 75 (ld3 74),oo 18 (aZ 26),sS 3 18 75]
 (.seq (.drawn [oo 77 (ld3 17),oo 79 (ld3 18)] [(oo 78 (cL 13 [T 77]),[oo 79 (ld3 18)]),(oo 80 (cL 13 [T 79]),[]),(oo 81 (cL 26 [T 78,T 80]),[]),(vv 76 81,[]),(oo 82 (eX 76 0),[]),(oo 83 (eX 76 1),[]),(oo 84 (eX 76 2),[]),(vv 19 82,[]),(vv 20 83,[]),(vv 21 84,[])])
 (sR [oo 86 (ld3 17),oo 87 (ld3 18),oo 88 (cL 27 [T 86,T 87]),vv 85 88,oo 89 (eX 85 0),oo 90 (eX 85 1),oo 91 (eX 85 2),vv 22 89,vv 23 90,vv 24 91]
 (sR [oo 93 (ld3 18),oo 94 (cL 13 [T 93]),oo 95 (cL 28 [T 94]),vv 92 95,oo 96 (eX 92 0),oo 97 (eX 92 1),oo 25 (aZ 34),sS 3 25 96,vv 26 97]
 (sR [oo 99 (ld3 18),oo 100 (cL 29 [T 99]),vv 98 100,oo 101 (eX 98 0),oo 102 (eX 98 1),oo 27 (aZ 26),sS 3 27 101,vv 28 102]
 (.seq (sR [vv 103 21,vv 104 24,oo 105 (iB .neq 103 104),vv 106 105,vf 107 106 20,vf 108 106 23,gf 109 106 (.bbin .neq (T 107) (T 108)),oo 110 (.pick (T 106) bT (T 109)),vv 111 110,vf 112 111 26,vf 113 111 28,gf 114 111 (iB .neq 112 113),oo 115 (.pick (T 111) bT (T 114)),vv 116 115,vf 117 116 19,vf 118 116 22,gf 119 116 (cL 20 [T 117,T 118]),gf 120 116 (.lnot (T 119)),oo 121 (.pick (T 116) bT (T 120)),vv 122 121,gf 123 122 (ld3 25),gf 124 122 (ld3 27),gf 125 122 (cL 24 [T 123,T 124]),gf 126 122 (.lnot (T 125)),oo 127 (.pick (T 122) bT (T 126))]
 (.cond (T 127)
 (sR [oo 12 (.mov bF)]
 .ret)
 .skip))
 (.seq (sR [vv 128 21,oo 129 (iK .neq 128 0)]
 (.cond (T 129)
 (.exit 1)
 .skip))
 (sR [oo 131 (ld3 17),oo 132 (cL 13 [T 131]),oo 133 (cL 22 [T 132]),vv 130 133,oo 134 (eX 130 0),oo 135 (eX 130 1),oo 29 (aZ 34),sS 3 29 134,vv 30 135]
 (sR [oo 137 (ld3 18),oo 138 (cL 13 [T 137]),oo 139 (cL 22 [T 138]),vv 136 139,oo 140 (eX 136 0),oo 141 (eX 136 1),oo 31 (aZ 34),sS 3 31 140,vv 32 141]
 (.seq (.drawn [vv 142 30,oo 143 (iK .neq 142 0),vv 144 143,vf 145 144 32,gf 146 144 (iK .neq 145 0),oo 147 (.pick (T 144) bT (T 146)),vv 148 147,vf 149 148 20,gf 150 148 (ld3 29),gf 151 148 (cL 31 [T 150]),gf 152 148 (ld3 31),gf 153 148 (cL 31 [T 152]),gf 154 148 (cL 30 [T 151,T 153]),gf 155 148 (.bbin .eql (T 149) (T 154)),oo 156 (.pick (T 148) bT (T 155)),vv 157 156,vf 158 157 20,vf 159 157 158,gt 160 159 (ld3 17),gt 161 159 (cL 13 [T 160]),vt 162 159 19,gt 163 159 (cL 16 [T 161,T 162]),gt 164 159 (ld3 18),gt 165 159 (cL 13 [T 164]),vt 166 159 19] [(gt 167 159 (cL 16 [T 165,T 166]),[]),(gt 168 159 (.bbin .eql (T 163) (T 167)),[]),(gf 169 157 (.pick (T 159) (T 168) bF),[]),(oo 170 (.pick (T 157) bT (T 169)),[])])
 (.cond (T 170)
 (sR [oo 12 (.mov bF)]
 .ret)
 .skip)))))))))))))
 (rR [vv 62 16,oo 63 (iK .add 62 1),vv 16 63]))))))
 (sR [oo 171 (cL 21 []),vv 12 171]
 .ret)))))
def c6:CCode :=
 (sR [oo 4 (.mov bF)]
 (sR [vv 15 0,vv 16 1,oo 17 (cL 10 [T 15,(.const (.slice none 0 0)),T 16]),vv 14 17,oo 18 (eX 14 0),oo 19 (eX 14 1),oo 5 (aZ 26),oo 6 (aZ 26),sS 3 5 18,sS 3 6 19]
 (sR [oo 21 (ld3 5),oo 22 (cL 13 [T 21]),oo 23 (cL 18 [T 22]),vv 20 23,oo 24 (eX 20 0),oo 25 (eX 20 1),vv 7 24,vv 8 25]
 (.seq (.drawn [oo 27 (ld3 5),oo 29 (fA 0 5),oo 30 (ld1 29),oo 31 (.bslice 4 1 [bF]),oo 32 (.build [nI,nS,nS] [(0,(1,(T 30))),(1,(1,(T 31)))])] [(oo 28 (cL 13 [T 27]),[oo 29 (fA 0 5),oo 30 (ld1 29),oo 31 (.bslice 4 1 [bF]),oo 32 (.build [nI,nS,nS] [(0,(1,(T 30))),(1,(1,(T 31)))])]),(oo 33 (cL 26 [T 28,T 32]),[]),(vv 26 33,[]),(oo 34 (eX 26 0),[]),(oo 35 (eX 26 1),[]),(oo 36 (eX 26 2),[]),(vv 9 34,[]),(vv 10 35,[]),(vv 11 36,[])])
 (.seq (sR [vv 37 11,oo 38 (iK .neq 37 0),vv 39 38,vf 40 39 8,vf 41 39 10,gf 42 39 (.bbin .neq (T 40) (T 41)),oo 43 (.pick (T 39) bT (T 42)),vv 44 43,vf 45 44 7,vf 46 44 9,gf 47 44 (cL 20 [T 45,T 46]),gf 48 44 (.lnot (T 47)),oo 49 (.pick (T 44) bT (T 48))]
 (.cond (T 49)
 (sR [vv 50 11,oo 51 (iK .eql 50 4),vv 52 51,gt 53 52 (cL 21 []),oo 54 (.pick (T 52) (T 53) bF),vv 4 54]
 .ret)
 .skip))
 (sR [oo 55 (fA 0 5),oo 56 (ld1 55),oo 57 (cL 32 [T 56,kk 4]),vv 12 57]
 (.seq (sR [oo 13 (.mov (kk 0))]
 (.block 0 (.loop
 (.seq (sR [vv 58 13,vv 59 12,oo 60 (lN 59),oo 61 (iB .lss 58 60),vv 62 61,vt 63 62 8,vt 64 62 63,vt 65 64 12,vt 66 64 13,gt 67 64 (iS 1 65 66),gt 68 64 (ld1 67),vt 69 64 7,gt 70 64 (cL 20 [T 68,T 69]),gt 71 62 (.pick (T 64) (T 70) bF),gt 72 62 (.lnot (T 71)),oo 73 (.pick (T 62) (T 72) bF)]
 (.cond (T 73)
 .skip
 (.exit 0)))
 (.seq (.block 1 (.seq (.drawn [oo 76 (ld3 5),vv 78 12,vv 79 13,oo 80 (iS 1 78 79),oo 81 (ld1 80)] [(oo 77 (cL 13 [T 76]),[vv 78 12,vv 79 13,oo 80 (iS 1 78 79),oo 81 (ld1 80)]),(oo 82 (cL 16 [T 77,T 81]),[])])
 (.cond (T 82)
 (sR [oo 4 (.mov bF)]
 .ret)
 .skip)))
 (rR [vv 74 13,oo 75 (iK .add 74 1),vv 13 75]))))))
 (sR [vv 83 8,oo 84 (.lnot (T 83)),vv 85 84,gf 86 85 (ld3 5),gf 87 85 (cL 13 [T 86]),vf 88 85 7,gf 89 85 (cL 16 [T 87,T 88]),oo 90 (.pick (T 85) bT (T 89)),vv 91 90,gt 92 91 (cL 21 []),oo 93 (.pick (T 91) (T 92) bF),vv 4 93]
 .ret))))))))
def c10:CCode :=
 (sR [oo 6 (aZ 26),oo 7 (aZ 26)]
 (sR [vv 9 2,oo 10 (cL 33 [T 9,kk 3]),oo 11 (.ibin .add (kk 1) (T 10)),vv 8 11]
 (sR [vv 12 0,vv 13 8,oo 14 (cL 25 [T 12,T 13]),vv 15 1,vv 16 8,oo 17 (cL 25 [T 15,T 16]),sS 3 6 14,sS 3 7 17]
 .ret)))
theorem f10:fnC Try.prog 10=some (c10,18,[(.cell 6 true 3),(.cell 7 true 3)]):=by kernel_rfl
def c11:CCode :=
 (sR [oo 4 (.box 26 (T 0)),oo 8 (aZ 26)]
 (sR [oo 12 (fA 0 4),oo 13 (ld1 12),oo 14 (.build [nI,nS,nS] [(0,(1,(T 13)))]),oo 9 (aZ 26),sS 3 9 14]
 (sR [oo 15 (fA 1 9),oo 16 (ld1 15),oo 17 (fA 1 4),oo 18 (ld1 17),oo 19 (.append 4 1 1 (T 16) (T 18)),oo 20 (fA 1 9),sS 1 20 19]
 (sR [oo 21 (fA 2 9),oo 22 (ld1 21),oo 23 (fA 2 4),oo 24 (ld1 23),oo 25 (.append 71 3 24 (T 22) (T 24)),oo 26 (fA 2 9),sS 1 26 25]
 (sR [vv 27 1,oo 28 (fA 2 9),oo 29 (ld1 28),oo 30 (lN 29),oo 31 (.imax (T 30) (kk 1)),oo 32 (cL 33 [T 27,T 31]),vv 10 32]
 (.seq (sR [vv 33 2,oo 34 (cL 33 [T 33,kk 9])]
 (.block 0 (sR [oo 42 (iK .eql 34 0),vv 41 42]
 (.cond (T 41)
 (rR [oo 43 (.bslice 3 1 [kk 0,(kk (-1)),kk 65,kk 64,kk 2]),vv 44 3,oo 45 (cL 33 [T 44,kk 5]),oo 46 (iS 1 43 45),oo 47 (ld1 46),oo 48 (fA 0 9),sS 1 48 47])
 (sR [oo 50 (iK .eql 34 1),vv 49 50]
 (.cond (T 49)
 (rR [oo 51 (fA 1 9),nn (.store 1 (T 51) (.const (.slice none 0 0)))])
 (sR [oo 53 (iK .eql 34 2),vv 52 53]
 (.cond (T 52)
 (sR [oo 54 (fA 2 9),oo 55 (ld1 54),oo 56 (lN 55),oo 57 (iK .gtr 56 0)]
 (.cond (T 57)
 (.drawn [oo 58 (fA 2 9),oo 59 (ld1 58),vv 60 10,vv 61 3] [(oo 62 (cL 33 [T 61,kk 9]),[oo 58 (fA 2 9),oo 59 (ld1 58),vv 60 10]),(oo 63 (iK .sub 62 1),[oo 58 (fA 2 9),oo 59 (ld1 58),vv 60 10]),(oo 64 (iS 3 59 60),[]),(oo 65 (fA 0 64),[]),(sS 1 65 63,[])])
 .skip))
 (sR [oo 67 (iK .eql 34 3),vv 66 67]
 (.cond (T 66)
 (sR [oo 68 (fA 2 9),oo 69 (ld1 68),oo 70 (lN 69),oo 71 (iK .gtr 70 0)]
 (.cond (T 71)
 (.drawn [oo 72 (fA 2 9),oo 73 (ld1 72),vv 74 10,vv 75 3] [(oo 76 (cL 33 [T 75,kk 9]),[oo 72 (fA 2 9),oo 73 (ld1 72),vv 74 10]),(oo 77 (iK .sub 76 1),[oo 72 (fA 2 9),oo 73 (ld1 72),vv 74 10]),(oo 78 (iS 3 73 74),[]),(oo 79 (fA 2 78),[]),(sS 1 79 77,[])])
 .skip))
 (sR [oo 81 (iK .eql 34 4),vv 80 81]
 (.cond (T 80)
 (sR [oo 82 (fA 2 9),oo 83 (ld1 82),oo 84 (lN 83),oo 85 (iK .gtr 84 0)]
 (.cond (T 85)
 (.drawn [oo 86 (fA 2 9),oo 87 (ld1 86),vv 88 10,vv 89 3] [(oo 90 (cL 33 [T 89,kk 7]),[oo 86 (fA 2 9),oo 87 (ld1 86),vv 88 10]),(oo 91 (iK .sub 90 2),[oo 86 (fA 2 9),oo 87 (ld1 86),vv 88 10]),(oo 92 (iS 3 87 88),[]),(oo 93 (fA 1 92),[]),(sS 1 93 91,[])])
 .skip))
 (sR [oo 95 (iK .eql 34 5),vv 94 95]
 (.cond (T 94)
 (.drawn [oo 96 (fA 1 9),oo 97 (ld1 96),oo 98 (.bslice 3 1 [kk 1,kk 249,kk 250,kk 256]),vv 99 3] [(oo 100 (cL 33 [T 99,kk 4]),[oo 96 (fA 1 9),oo 97 (ld1 96),oo 98 (.bslice 3 1 [kk 1,kk 249,kk 250,kk 256])]),(oo 101 (iS 1 98 100),[oo 96 (fA 1 9),oo 97 (ld1 96)]),(oo 102 (ld1 101),[oo 96 (fA 1 9),oo 97 (ld1 96)]),(oo 103 (.appendZ 4 1 1 (.val (.bool false)) (T 97) (T 102)),[]),(oo 104 (fA 1 9),[]),(sS 1 104 103,[])])
 (sR [oo 106 (iK .eql 34 6),vv 105 106]
 (.cond (T 105)
 (.block 1 (.loop
 (.seq (sR [oo 107 (fA 2 9),oo 108 (ld1 107),oo 109 (lN 108),oo 110 (iK .gtr 109 0),vv 111 110,gt 112 111 (fA 2 9),gt 113 111 (ld1 112),gt 114 111 (lN 113),gt 115 111 (iK .lss 114 4096),oo 116 (.pick (T 111) (T 115) bF)]
 (.cond (T 116)
 .skip
 (.exit 1)))
 (.block 2 (rR [oo 117 (fA 2 9),oo 118 (ld1 117),oo 119 (fA 2 9),oo 120 (ld1 119),oo 121 (.append 71 3 24 (T 118) (T 120)),oo 122 (fA 2 9),sS 1 122 121])))))
 (sR [oo 124 (iK .eql 34 7),vv 123 124]
 (.cond (T 123)
 (sR [oo 125 (fA 1 9),oo 126 (ld1 125),oo 127 (lN 126),oo 128 (iK .gtr 127 0)]
 (.cond (T 128)
 (sR [vv 129 3,oo 130 (fA 1 9),oo 131 (ld1 130),oo 132 (lN 131),oo 133 (cL 33 [T 129,T 132]),vv 11 133]
 (.drawn [oo 134 (fA 1 9),oo 135 (ld1 134),vv 136 11,oo 137 (fA 1 9),oo 138 (ld1 137),vv 139 11,oo 140 (iS 1 138 139),oo 141 (ld1 140),oo 142 (.lnot (T 141)),oo 143 (iS 1 135 136)] [(sS 1 143 142,[])]))
 .skip))
 (rR [oo 35 (fA 2 9),oo 36 (ld1 35),oo 37 (.build [nI,nI,nI] [(0,(1,(kk 0))),(1,(1,(kk (-1)))),(2,(1,(kk 0)))]),oo 38 (.bslice 71 3 [T 37]),oo 39 (.append 71 3 24 (T 36) (T 38)),oo 40 (fA 2 9),sS 1 40 39])))))))))))))))))))
 (sR [oo 144 (ld3 9),sS 3 8 144]
 .ret)))))))
theorem f11:fnC Try.prog 11=some (c11,145,[(.cell 8 true 3)]):=by kernel_rfl
def c13:CCode :=
 (sR [oo 1 (.box 26 (T 0)),oo 2 (aZ 34)]
 (sR [oo 6 (fA 0 1),oo 7 (ld1 6),oo 8 (.build [nI,nS,nS] [(0,(1,(T 7)))]),oo 3 (aZ 34),sS 3 3 8]
 (sR [oo 9 (fA 1 3),oo 10 (ld1 9),oo 11 (fA 1 1),oo 12 (ld1 11),oo 13 (.append 4 1 1 (T 10) (T 12)),oo 14 (fA 1 3),sS 1 14 13]
 (.seq (sR [oo 4 (.mov (kk 0))]
 (.block 0 (.loop
 (.seq (sR [vv 15 4,oo 16 (fA 2 1),oo 17 (ld1 16),oo 18 (lN 17),oo 19 (iB .lss 15 18)]
 (.cond (T 19)
 .skip
 (.exit 0)))
 (.seq (.block 1 (sR [oo 22 (fA 2 1),oo 23 (ld1 22),vv 24 4,oo 25 (iS 3 23 24),oo 26 (ld3 25),oo 5 (.alloc 71 (.agg [nI,nI,nI])),sS 3 5 26]
 (rR [oo 27 (fA 2 3),oo 28 (ld1 27),oo 29 (fA 0 5),oo 30 (ld1 29),oo 31 (fA 1 5),oo 32 (ld1 31),oo 33 (fA 2 5),oo 34 (ld1 33),oo 35 (.build [nI,nI,nI] [(0,(1,(T 30))),(1,(1,(T 32))),(2,(1,(T 34)))]),oo 36 (.bslice 72 3 [T 35]),oo 37 (.append 72 3 24 (T 28) (T 36)),oo 38 (fA 2 3),sS 1 38 37])))
 (rR [vv 20 4,oo 21 (iK .add 20 1),vv 4 21]))))))
 (sR [oo 39 (ld3 3),sS 3 2 39]
 .ret)))))
theorem f13:fnC Try.prog 13=some (c13,40,[(.cell 2 true 3)]):=by kernel_rfl
def c14:CCode :=
 (sR [oo 1 (.box 34 (T 0)),oo 2 (.mov (kk 0))]
 (sR [oo 4 (fA 1 1),oo 5 (ld1 4),oo 6 (lN 5),oo 3 (.alloc 3 nI),sS 1 3 6]
 (.seq (sR [oo 7 (fA 0 1),oo 8 (ld1 7),oo 9 (iK .gtr 8 64),vv 10 9,gf 11 10 (ld1 3),gf 12 10 (iK .gtr 11 256),oo 13 (.pick (T 10) bT (T 12)),vv 14 13,gf 15 14 (fA 2 1),gf 16 14 (ld1 15),gf 17 14 (lN 16),gf 18 14 (iK .gtr 17 4096),oo 19 (.pick (T 14) bT (T 18))]
 (.cond (T 19)
 (sR [oo 2 (.mov (kk 4))]
 .ret)
 .skip))
 (.seq (sR [oo 20 (fA 0 1),oo 21 (ld1 20),oo 22 (iK .lss 21 1),vv 23 22,gf 24 23 (ld1 3),gf 25 23 (iK .lss 24 1),oo 26 (.pick (T 23) bT (T 25)),vv 27 26,gf 28 27 (fA 2 1),gf 29 27 (ld1 28),gf 30 27 (.mkfunc (.func 40) [T 3,T 1]),gf 31 27 (cL 39 [T 29,T 30]),oo 32 (.pick (T 27) bT (T 31))]
 (.cond (T 32)
 (sR [oo 2 (.mov (kk 1))]
 .ret)
 .skip))
 (sR [oo 2 (.mov (kk 0))]
 .ret)))))
theorem f14:fnC Try.prog 14=some (c14,33,[(.tmp 2)]):=by kernel_rfl
def c15:CCode :=
 (sR [oo 1 (.box 26 (T 0)),oo 2 (.mov (kk 0))]
 (sR [oo 6 (fA 1 1),oo 7 (ld1 6),oo 8 (lN 7),vv 3 8]
 (.seq (sR [oo 9 (fA 0 1),oo 10 (ld1 9),oo 11 (iK .gtr 10 64),vv 12 11,vf 13 12 3,gf 14 12 (iK .gtr 13 256),oo 15 (.pick (T 12) bT (T 14)),vv 16 15,gf 17 16 (fA 2 1),gf 18 16 (ld1 17),gf 19 16 (lN 18),gf 20 16 (iK .gtr 19 4096),oo 21 (.pick (T 16) bT (T 20))]
 (.cond (T 21)
 (sR [oo 2 (.mov (kk 4))]
 .ret)
 .skip))
 (.seq (sR [oo 22 (fA 0 1),oo 23 (ld1 22),oo 24 (iK .lss 23 1),vv 25 24,vf 26 25 3,gf 27 25 (iK .lss 26 1),oo 28 (.pick (T 25) bT (T 27))]
 (.cond (T 28)
 (sR [oo 2 (.mov (kk 1))]
 .ret)
 .skip))
 (.seq (sR [oo 4 (.mov (kk 0))]
 (.block 0 (.loop
 (.seq (sR [vv 29 4,oo 30 (fA 2 1),oo 31 (ld1 30),oo 32 (lN 31),oo 33 (iB .lss 29 32)]
 (.cond (T 33)
 .skip
 (.exit 0)))
 (.seq (.block 1 (sR [oo 36 (fA 2 1),oo 37 (ld1 36),vv 38 4,oo 39 (iS 3 37 38),oo 40 (ld3 39),oo 5 (.alloc 71 (.agg [nI,nI,nI])),sS 3 5 40]
 (sR [oo 41 (fA 0 5),oo 42 (ld1 41),oo 43 (iK .lss 42 0),vv 44 43,gf 45 44 (fA 0 5),gf 46 44 (ld1 45),vf 47 44 3,gf 48 44 (iB .geq 46 47),oo 49 (.pick (T 44) bT (T 48)),vv 50 49,gf 51 50 (fA 2 5),gf 52 50 (ld1 51),gf 53 50 (iK .lss 52 0),oo 54 (.pick (T 50) bT (T 53)),vv 55 54,gf 56 55 (fA 2 5),gf 57 55 (ld1 56),vf 58 55 3,gf 59 55 (iB .geq 57 58),oo 60 (.pick (T 55) bT (T 59)),vv 61 60,gf 62 61 (fA 1 5),gf 63 61 (ld1 62),gf 64 61 (.ibin .lss (T 63) (kk (-1))),oo 65 (.pick (T 61) bT (T 64)),vv 66 65,gf 67 66 (fA 1 5),gf 68 66 (ld1 67),gf 69 66 (fA 0 1),gf 70 66 (ld1 69),gf 71 66 (iB .geq 68 70),oo 72 (.pick (T 66) bT (T 71))]
 (.cond (T 72)
 (sR [oo 2 (.mov (kk 1))]
 .ret)
 .skip))))
 (rR [vv 34 4,oo 35 (iK .add 34 1),vv 4 35]))))))
 (sR [oo 2 (.mov (kk 0))]
 .ret))))))
theorem f15:fnC Try.prog 15=some (c15,73,[(.tmp 2)]):=by kernel_rfl
def c16:CCode :=
 (sR [oo 2 (.box 34 (T 0)),oo 4 (.mov bF)]
 (.seq (sR [oo 9 (ld3 2),oo 10 (cL 14 [T 9]),oo 11 (iK .neq 10 0)]
 (.cond (T 11)
 (sR [oo 4 (.mov bF)]
 .ret)
 .skip))
 (sR [oo 12 (ld3 2),oo 13 (cL 41 [T 12]),vv 5 13]
 (sR [vv 14 5,oo 15 (.nilCheck (T 14)),oo 16 (fA 6 15),oo 17 (.load true 4 (T 16)),oo 6 (.alloc 79 (.agg [nU,nU,nU,nU])),sS 4 6 17]
 (.seq (sR [vv 18 1,oo 19 (lN 18),oo 20 (.mov (kk 0))]
 (.block 0 (.loop
 (sR [oo 21 (iB .lss 20 19)]
 (.seq (.cond (T 21)
 .skip
 (.exit 0))
 (.seq (.block 1 (sR [oo 22 (iS 1 18 20),oo 23 (ld1 22),vv 8 23]
 (.seq (sR [vv 24 8,oo 25 (iK .lss 24 0),vv 26 25,vf 27 26 8,gf 28 26 (fA 0 2),gf 29 26 (ld1 28),gf 30 26 (iB .geq 27 29),oo 31 (.pick (T 26) bT (T 30))]
 (.cond (T 31)
 (sR [oo 4 (.mov bF)]
 .ret)
 .skip))
 (rR [vv 32 5,oo 33 (.load true 4 (T 6)),vv 34 8,oo 35 (cL 42 [T 32,T 33,T 34]),sS 4 6 35]))))
 (rR [oo 36 (iK .add 20 1),vv 20 36])))))))
 (.seq (.drawn [oo 37 (.load true 4 (T 6)),vv 38 5,oo 39 (.nilCheck (T 38)),oo 40 (fA 1 39),oo 41 (.load true 4 (T 40))] [(oo 42 (cL 43 [T 37,T 41]),[]),(vv 4 42,[])])
 .ret))))))
theorem f16:fnC Try.prog 16=some (c16,43,[(.tmp 4)]):=by kernel_rfl
def c17:CCode :=
 (sR [oo 2 (.box 26 (T 0)),oo 4 (.mov bF)]
 (.seq (sR [oo 7 (ld3 2),oo 8 (cL 15 [T 7]),oo 9 (iK .neq 8 0)]
 (.cond (T 9)
 (sR [oo 4 (.mov bF)]
 .ret)
 .skip))
 (sR [oo 10 (ld3 2),oo 11 (cL 44 [T 10]),vv 5 11]
 (.seq (sR [oo 6 (.mov (kk 0))]
 (.block 0 (.loop
 (.seq (sR [vv 12 6,vv 13 1,oo 14 (lN 13),oo 15 (iB .lss 12 14)]
 (.cond (T 15)
 .skip
 (.exit 0)))
 (.seq (.block 1 (.seq (.seq (.drawn [vv 18 1,vv 19 6,oo 20 (iS 1 18 19),oo 21 (ld1 20),oo 22 (iK .lss 21 0),vv 23 22,vf 24 23 1,vf 25 23 6,gf 26 23 (iS 1 24 25),gf 27 23 (ld1 26),gf 28 23 (fA 0 2),gf 29 23 (ld1 28),gf 30 23 (iB .geq 27 29),oo 31 (.pick (T 23) bT (T 30))] [])
 (.cond (T 31)
 (sR [oo 4 (.mov bF)]
 .ret)
 .skip))
 (.drawn [oo 33 (ld3 2),vv 34 5,vv 35 1,vv 36 6,oo 37 (iS 1 35 36),oo 38 (ld1 37)] [(oo 39 (cL 45 [T 33,T 34,T 38]),[]),(vv 32 39,[]),(oo 40 (eX 32 0),[]),(oo 41 (eX 32 1),[]),(vv 5 40,[])])))
 (rR [vv 16 6,oo 17 (iK .add 16 1),vv 6 17]))))))
 (sR [oo 42 (ld3 2),vv 43 5,oo 44 (cL 46 [T 42,T 43]),vv 4 44]
 .ret)))))
theorem f17:fnC Try.prog 17=some (c17,45,[(.tmp 4)]):=by kernel_rfl
def c18:CCode :=
 (sR [oo 1 (.box 34 (T 0)),oo 2 (.mov (.const (.slice none 0 0))),oo 3 (.mov bF)]
 (.seq (sR [oo 12 (ld3 1),oo 13 (cL 14 [T 12]),oo 14 (iK .neq 13 0)]
 (.cond (T 14)
 (sR [oo 2 (.mov (.const (.slice none 0 0))),oo 3 (.mov bF)]
 .ret)
 .skip))
 (sR [oo 15 (ld3 1),oo 16 (cL 41 [T 15]),vv 4 16]
 (sR [vv 17 4,oo 18 (.nilCheck (T 17)),oo 19 (fA 6 18),oo 20 (.load true 4 (T 19)),oo 5 (.alloc 79 (.agg [nU,nU,nU,nU])),sS 4 5 20]
 (.seq (sR [vv 21 4,oo 22 (.nilCheck (T 21)),oo 23 (fA 6 22),oo 24 (.load true 4 (T 23)),oo 25 (.build [nU,nU,nU,nU,nS] [(0,(4,(T 24)))]),oo 26 (.bslice 90 5 [T 25]),vv 6 26]
 (.block 0 (.loop
 (.seq (sR [vv 27 6,oo 28 (lN 27),oo 29 (iK .gtr 28 0)]
 (.cond (T 29)
 .skip
 (.exit 0)))
 (.seq (.block 1 (.seq (.seq (.drawn [vv 32 6,oo 33 (.idxS 5 (T 32) (kk 0)),oo 34 (fA 0 33),oo 35 (.load true 4 (T 34)),vv 36 4,oo 37 (.nilCheck (T 36)),oo 38 (fA 1 37),oo 39 (.load true 4 (T 38))] [(oo 40 (cL 43 [T 35,T 39]),[])])
 (.cond (T 40)
 (sR [vv 41 6,oo 42 (.idxS 5 (T 41) (kk 0)),oo 43 (fA 4 42),oo 44 (ld1 43),vv 2 44,oo 3 (.mov bT)]
 .ret)
 .skip))
 (sR [oo 45 (fA 0 1),oo 46 (ld1 45),oo 47 (.mov (kk 0))]
 (.block 2 (.loop
 (sR [oo 48 (iB .lss 47 46)]
 (.seq (.cond (T 48)
 .skip
 (.exit 2))
 (.seq (.block 3 (sR [vv 49 47,vv 7 49]
 (sR [vv 50 4,vv 51 6,oo 52 (.idxS 5 (T 51) (kk 0)),oo 53 (fA 0 52),oo 54 (.load true 4 (T 53)),vv 55 7,oo 56 (cL 42 [T 50,T 54,T 55]),oo 8 (.alloc 79 (.agg [nU,nU,nU,nU])),sS 4 8 56]
 (sR [oo 9 (.mov bF)]
 (.seq (sR [oo 57 (.load true 4 (T 8)),oo 58 (.mov (kk 0))]
 (.block 4 (.loop
 (sR [oo 59 (iK .lss 58 4)]
 (.seq (.cond (T 59)
 .skip
 (.exit 4))
 (.seq (.block 5 (sR [vv 60 58,oo 61 (.idxV false 4 1 (T 57) (T 58)),vv 10 60,vv 11 61]
 (sR [vv 62 9,vv 63 62,vf 64 63 11,vf 65 63 10,gf 66 63 (.idxA 4 1 (T 5) (T 65)),gf 67 63 (ld1 66),gf 68 63 (iB .andNot 64 67),gf 69 63 (.ibin .neq (T 68) (.const (.int .u64 0))),oo 70 (.pick (T 63) bT (T 69)),vv 9 70]
 (rR [vv 71 10,oo 72 (.idxA 4 1 (T 5) (T 71)),oo 73 (ld1 72),vv 74 11,oo 75 (iB .or 73 74),oo 76 (.idxA 4 1 (T 5) (T 71)),sS 1 76 75]))))
 (rR [oo 77 (iK .add 58 1),vv 58 77])))))))
 (sR [vv 78 9]
 (.cond (T 78)
 (.drawn [vv 79 6,oo 80 (.load true 4 (T 8)),vv 81 6,oo 82 (.idxS 5 (T 81) (kk 0)),oo 83 (fA 4 82),oo 84 (ld1 83),oo 85 (cL 47 [T 84]),vv 86 7,oo 87 (.bslice 3 1 [T 86])] [(oo 88 (.append 3 1 8 (T 85) (T 87)),[vv 79 6,oo 80 (.load true 4 (T 8))]),(oo 89 (.build [nU,nU,nU,nU,nS] [(0,(4,(T 80))),(4,(1,(T 88)))]),[vv 79 6]),(oo 90 (.bslice 90 5 [T 89]),[vv 79 6]),(oo 91 (.append 90 5 56 (T 79) (T 90)),[]),(vv 6 91,[])])
 .skip)))))))
 (rR [oo 92 (iK .add 47 1),vv 47 92])))))))))
 (rR [vv 30 6,oo 31 (.slice 5 (T 30) (some (kk 1)) none),vv 6 31]))))))
 (sR [oo 2 (.mov (.const (.slice none 0 0))),oo 3 (.mov bF)]
 .ret))))))
theorem f18:fnC Try.prog 18=some (c18,93,[(.tmp 2),(.tmp 3)]):=by kernel_rfl
def c20:CCode :=
 (sR [oo 4 (.mov bF)]
 (.seq (sR [vv 6 0,oo 7 (lN 6),vv 8 1,oo 9 (lN 8),oo 10 (iB .neq 7 9)]
 (.cond (T 10)
 (sR [oo 4 (.mov bF)]
 .ret)
 .skip))
 (.seq (sR [oo 5 (.mov (kk 0))]
 (.block 0 (.loop
 (.seq (sR [vv 11 5,vv 12 0,oo 13 (lN 12),oo 14 (iB .lss 11 13)]
 (.cond (T 14)
 .skip
 (.exit 0)))
 (.seq (.block 1 (.seq (.drawn [vv 17 0,vv 18 5,oo 19 (iS 1 17 18),oo 20 (ld1 19),vv 21 1,vv 22 5,oo 23 (iS 1 21 22),oo 24 (ld1 23),oo 25 (iB .neq 20 24)] [])
 (.cond (T 25)
 (sR [oo 4 (.mov bF)]
 .ret)
 .skip)))
 (rR [vv 15 5,oo 16 (iK .add 15 1),vv 5 16]))))))
 (sR [oo 4 (.mov bT)]
 .ret))))
theorem f20:fnC Try.prog 20=some (c20,26,[(.tmp 4)]):=by kernel_rfl
def c21:CCode :=
 (sR [oo 0 (.mov bF)]
 (sR [oo 15 (.bslice 4 1 [bF,bF,bT]),oo 16 (.build [nI,nI,nI] [(0,(1,(kk 0))),(1,(1,(kk 0))),(2,(1,(kk 0)))]),oo 17 (.build [nI,nI,nI] [(0,(1,(kk 0))),(1,(1,(kk 1))),(2,(1,(kk 0)))]),oo 18 (.build [nI,nI,nI] [(0,(1,(kk 0))),(1,(1,(kk 1))),(2,(1,(kk 1)))]),oo 19 (.build [nI,nI,nI] [(0,(1,(kk 1))),(1,(1,(kk 0))),(2,(1,(kk 2)))]),oo 20 (.build [nI,nI,nI] [(0,(1,(kk 1))),(1,(1,(kk 1))),(2,(1,(kk 2)))]),oo 21 (.bslice 72 3 [T 16,T 17,T 18,T 19,T 20]),oo 22 (.build [nI,nS,nS] [(0,(1,(kk 2))),(1,(1,(T 15))),(2,(1,(T 21)))]),oo 1 (aZ 34),sS 3 1 22]
 (sR [oo 24 (ld3 1),oo 25 (cL 22 [T 24]),vv 23 25,oo 26 (eX 23 0),oo 27 (eX 23 1),oo 2 (aZ 34),sS 3 2 26,vv 3 27]
 (sR [oo 29 (ld3 1),oo 30 (cL 28 [T 29]),vv 28 30,oo 31 (eX 28 0),oo 32 (eX 28 1),oo 4 (aZ 34),sS 3 4 31,vv 5 32]
 (sR [oo 34 (ld3 1),oo 35 (ld3 4),oo 36 (cL 26 [T 34,T 35]),vv 33 36,oo 37 (eX 33 0),oo 38 (eX 33 1),oo 39 (eX 33 2),vv 6 37,vv 7 38,vv 8 39]
 (sR [oo 41 (ld3 1),oo 42 (cL 18 [T 41]),vv 40 42,oo 43 (eX 40 0),oo 44 (eX 40 1),vv 9 43,vv 10 44]
 (sR [oo 45 (.bslice 4 1 [bF,bF,bT,bT]),oo 46 (.build [nI,nI,nI] [(0,(1,(kk 0))),(1,(1,(kk 0))),(2,(1,(kk 0)))]),oo 47 (.build [nI,nI,nI] [(0,(1,(kk 0))),(1,(1,(kk 1))),(2,(1,(kk 1)))]),oo 48 (.build [nI,nI,nI] [(0,(1,(kk 1))),(1,(1,(kk 0))),(2,(1,(kk 2)))]),oo 49 (.build [nI,nI,nI] [(0,(1,(kk 1))),(1,(1,(kk 1))),(2,(1,(kk 3)))]),oo 50 (.build [nI,nI,nI] [(0,(1,(kk 2))),(1,(1,(kk 0))),(2,(1,(kk 0)))]),oo 51 (.build [nI,nI,nI] [(0,(1,(kk 2))),(1,(1,(kk 1))),(2,(1,(kk 1)))]),oo 52 (.build [nI,nI,nI] [(0,(1,(kk 3))),(1,(1,(kk 0))),(2,(1,(kk 2)))]),oo 53 (.build [nI,nI,nI] [(0,(1,(kk 3))),(1,(1,(kk 1))),(2,(1,(kk 3)))]),oo 54 (.bslice 71 3 [T 46,T 47,T 48,T 49,T 50,T 51,T 52,T 53]),oo 55 (.build [nI,nS,nS] [(0,(1,(kk 2))),(1,(1,(T 45))),(2,(1,(T 54)))]),oo 11 (aZ 26),sS 3 11 55]
 (sR [oo 57 (ld3 1),oo 58 (cL 35 [T 57]),vv 56 58,oo 59 (eX 56 0),oo 60 (eX 56 1),oo 12 (aZ 34),sS 3 12 59,vv 13 60]
 (.seq (sR [vv 61 3,oo 62 (iK .neq 61 0),vv 63 62,vf 64 63 5,gf 65 63 (iK .neq 64 0),oo 66 (.pick (T 63) bT (T 65)),vv 67 66,vf 68 67 8,gf 69 67 (iK .neq 68 0),oo 70 (.pick (T 67) bT (T 69)),vv 71 70,vf 72 71 13,gf 73 71 (iK .neq 72 0),oo 74 (.pick (T 71) bT (T 73)),vv 75 74,vf 76 75 7,gf 77 75 (.lnot (T 76)),oo 78 (.pick (T 75) bT (T 77)),vv 79 78,vf 80 79 10,gf 81 79 (.lnot (T 80)),oo 82 (.pick (T 79) bT (T 81)),vv 83 82,gf 84 83 (fA 1 12),gf 85 83 (ld1 84),gf 86 83 (lN 85),gf 87 83 (iK .neq 86 4),oo 88 (.pick (T 83) bT (T 87))]
 (.cond (T 88)
 (sR [oo 0 (.mov bF)]
 .ret)
 .skip))
 (sR [vv 89 6,oo 90 (.bslice 3 1 [kk 0,kk 1]),oo 91 (cL 20 [T 89,T 90]),vv 92 91,vt 93 92 9,gt 94 92 (.bslice 3 1 [kk 1,kk 0]),gt 95 92 (cL 20 [T 93,T 94]),oo 96 (.pick (T 92) (T 95) bF),vv 14 96]
 (sR [vv 97 14,vv 98 97,gt 99 98 (ld3 2),gt 100 98 (ld3 11),gt 101 98 (cL 24 [T 99,T 100]),oo 102 (.pick (T 98) (T 101) bF),vv 103 102,gt 104 103 (fA 1 12),gt 105 103 (ld1 104),gt 106 103 (.idxS 1 (T 105) (kk 0)),gt 107 103 (ld1 106),oo 108 (.pick (T 103) (T 107) bF),vv 109 108,gt 110 109 (fA 1 12),gt 111 109 (ld1 110),gt 112 109 (.idxS 1 (T 111) (kk 1)),gt 113 109 (ld1 112),oo 114 (.pick (T 109) (T 113) bF),vv 115 114,gt 116 115 (fA 1 12),gt 117 115 (ld1 116),gt 118 115 (.idxS 1 (T 117) (kk 2)),gt 119 115 (ld1 118),gt 120 115 (.lnot (T 119)),oo 121 (.pick (T 115) (T 120) bF),vv 122 121,gt 123 122 (ld3 1),gt 124 122 (.bslice 3 1 [kk 0,kk 1,kk 0]),gt 125 122 (cL 16 [T 123,T 124]),oo 126 (.pick (T 122) (T 125) bF),vv 127 126,gt 128 127 (ld3 1),gt 129 127 (.bslice 3 1 [kk 1,kk 0,kk 0]),gt 130 127 (cL 16 [T 128,T 129]),gt 131 127 (.lnot (T 130)),oo 132 (.pick (T 127) (T 131) bF),vv 0 132]
 .ret)))))))))))
theorem f21:fnC Try.prog 21=some (c21,133,[(.tmp 0)]):=by kernel_rfl
def c22:CCode :=
 (sR [oo 1 (.box 34 (T 0)),oo 2 (aZ 34),oo 3 (.mov (kk 0))]
 (.seq (sR [oo 8 (ld3 1),oo 9 (cL 14 [T 8]),vv 4 9]
 (sR [vv 10 4,oo 11 (iK .neq 10 0)]
 (.cond (T 11)
 (sR [oo 12 (.build [nI,nS,nS] []),vv 13 4,sS 3 2 12,vv 3 13]
 .ret)
 .skip)))
 (sR [oo 14 (ld3 1),oo 15 (cL 41 [T 14]),oo 5 (.alloc 75 (.val (.pointer none))),sS 1 5 15]
 (.seq (.drawn [oo 17 (ld1 5),oo 18 (.nilCheck (T 17)),oo 19 (fA 6 18),oo 20 (.load true 4 (T 19)),oo 21 (fA 0 1),oo 22 (ld1 21),oo 23 (ld1 5),oo 24 (.nilCheck (T 23)),oo 25 (fA 1 24),oo 26 (.load true 4 (T 25)),oo 27 (.mkfunc (.via 0 #[] 43 false) [T 26]),oo 28 (.mkfunc (.func 49) [T 5]),oo 29 (cL 48 [T 20,T 22,T 27,T 28]),vv 16 29,oo 30 (eX 16 0),oo 31 (eX 16 1),oo 6 (aZ 97)] [(sS 3 6 30,[]),(vv 7 31,[])])
 (.seq (sR [vv 32 7,oo 33 (iK .neq 32 0)]
 (.cond (T 33)
 (sR [oo 34 (.build [nI,nS,nS] []),vv 35 7,sS 3 2 34,vv 3 35]
 .ret)
 .skip))
 (sR [oo 36 (ld3 6),oo 37 (cL 50 [T 36]),oo 38 (eX 37 0),oo 39 (eX 37 1),sS 3 2 38,vv 3 39]
 .ret))))))
theorem f22:fnC Try.prog 22=some (c22,40,[(.cell 2 true 3),(.tmp 3)]):=by kernel_rfl
def c23:CCode :=
 (sR [oo 1 (.box 26 (T 0)),oo 2 (aZ 26),oo 3 (.mov (kk 0))]
 (sR [oo 7 (ld3 1),oo 8 (cL 15 [T 7]),vv 4 8]
 (.seq (sR [vv 9 4,oo 10 (iK .neq 9 0)]
 (.cond (T 10)
 (sR [oo 11 (.build [nI,nS,nS] []),vv 12 4,sS 3 2 11,vv 3 12]
 .ret)
 .skip))
 (sR [oo 14 (ld3 1),oo 15 (cL 51 [T 14]),vv 13 15,oo 16 (eX 13 0),oo 17 (eX 13 1),oo 5 (aZ 26),sS 3 5 16,vv 6 17]
 (.seq (sR [vv 18 6,oo 19 (iK .neq 18 0)]
 (.cond (T 19)
 (sR [oo 20 (.build [nI,nS,nS] []),vv 21 6,sS 3 2 20,vv 3 21]
 .ret)
 .skip))
 (sR [oo 22 (ld3 5),oo 23 (cL 53 [T 22]),oo 24 (cL 52 [T 23]),oo 25 (eX 24 0),oo 26 (eX 24 1),sS 3 2 25,vv 3 26]
 .ret))))))
theorem f23:fnC Try.prog 23=some (c23,27,[(.cell 2 true 3),(.tmp 3)]):=by kernel_rfl
def c24:CCode :=
 (sR [oo 2 (.box 34 (T 0)),oo 3 (.box 26 (T 1)),oo 4 (.mov bF)]
 (.seq (.drawn [oo 5 (ld3 2),oo 7 (ld3 3)] [(oo 6 (cL 31 [T 5]),[oo 7 (ld3 3)]),(oo 8 (cL 30 [T 6,T 7]),[]),(vv 4 8,[])])
 .ret))
theorem f24:fnC Try.prog 24=some (c24,9,[(.tmp 4)]):=by kernel_rfl
def c25:CCode :=
 (sR [oo 4 (aZ 26)]
 (sR [vv 12 0,oo 13 (cL 54 [T 12,kk 0,kk 6]),oo 14 (.ibin .add (kk 1) (T 13)),vv 5 14]
 (sR [vv 15 1,vv 16 5,oo 17 (.mkslice 4 1 1 (.val (.bool false)) (T 16) (T 16)),oo 18 (.build [nI,nS,nS] [(0,(1,(T 15))),(1,(1,(T 17)))]),oo 6 (aZ 26),sS 3 6 18]
 (sR [vv 19 0,oo 20 (cL 54 [T 19,kk 1,kk 64]),vv 7 20]
 (.seq (sR [oo 8 (.mov (kk 0))]
 (.block 0 (.loop
 (.seq (sR [vv 21 8,vv 22 5,oo 23 (iB .lss 21 22)]
 (.cond (T 23)
 .skip
 (.exit 0)))
 (.seq (.block 1 (rR [oo 26 (fA 1 6),oo 27 (ld1 26),vv 28 8,vv 29 7,vv 30 8,oo 31 (.conv .u64 (T 30)),oo 32 (iB .shr 29 31),oo 33 (iK .rem 32 2),oo 34 (iK .eql 33 1),oo 35 (iS 1 27 28),sS 1 35 34]))
 (rR [vv 24 8,oo 25 (iK .add 24 1),vv 8 25]))))))
 (.seq (sR [oo 9 (.mov (kk 2))]
 (.block 2 (.loop
 (.seq (sR [vv 36 9,vv 37 0,oo 38 (lN 37),oo 39 (iB .lss 36 38),vv 40 39,vt 41 40 9,gt 42 40 (iK .lss 41 20),oo 43 (.pick (T 40) (T 42) bF)]
 (.cond (T 43)
 .skip
 (.exit 2)))
 (.seq (.block 3 (sR [vv 46 0,vv 47 9,oo 48 (cL 54 [T 46,T 47,kk 1048576]),vv 10 48]
 (sR [vv 49 10,oo 50 (iK .quo 49 36),vv 51 1,oo 52 (.ibin .mul (kk 4) (T 51)),oo 53 (iK .add 52 1),oo 54 (iB .rem 50 53),oo 55 (iK .quo 54 4),vv 11 55]
 (.seq (sR [vv 56 11,vv 57 1,oo 58 (iB .eql 56 57)]
 (.cond (T 58)
 (rR [oo 11 (.mov (kk (-1)))])
 .skip))
 (.drawn [oo 59 (fA 2 6),oo 60 (ld1 59),vv 61 10,oo 62 (iK .rem 61 6),vv 63 5,oo 64 (iB .rem 62 63),vv 65 11,vv 66 10,oo 67 (iK .quo 66 6),oo 68 (iK .rem 67 6),vv 69 5,oo 70 (iB .rem 68 69),oo 71 (.build [nI,nI,nI] [(0,(1,(T 64))),(1,(1,(T 65))),(2,(1,(T 70)))]),oo 72 (.bslice 71 3 [T 71])] [(oo 73 (.append 71 3 24 (T 60) (T 72)),[]),(oo 74 (fA 2 6),[]),(sS 1 74 73,[])])))))
 (rR [vv 44 9,oo 45 (iK .add 44 1),vv 9 45]))))))
 (sR [oo 75 (ld3 6),sS 3 4 75]
 .ret)))))))
theorem f25:fnC Try.prog 25=some (c25,76,[(.cell 4 true 3)]):=by kernel_rfl
def c26:CCode :=
 (sR [oo 2 (.box 34 (T 0)),oo 3 (.box 34 (T 1)),oo 4 (.mov (.const (.slice none 0 0))),oo 5 (.mov bF),oo 6 (.mov (kk 0))]
 (sR [oo 18 (ld3 2),oo 19 (ld3 3),oo 20 (cL 55 [T 18,T 19]),vv 17 20,oo 21 (eX 17 0),oo 22 (eX 17 1),oo 23 (eX 17 2),oo 7 (aZ 97),oo 8 (aZ 97),sS 3 7 21,sS 3 8 22,vv 9 23]
 (.seq (sR [vv 24 9,oo 25 (iK .neq 24 0)]
 (.cond (T 25)
 (sR [vv 26 9,oo 4 (.mov (.const (.slice none 0 0))),oo 5 (.mov bF),vv 6 26]
 .ret)
 .skip))
 (sR [oo 10 (.mov (.func 56))]
 (sR [oo 11 (.mov (.func 57))]
 (sR [oo 27 (.mnew 1000000006),oo 28 (.build [nI,nI] []),nn (.mset 6 (T 27) (T 28) bT),vv 29 27,vv 12 29]
 (.seq (sR [oo 30 (.build [nI,nI,nS] []),oo 31 (.bslice 112 3 [T 30]),vv 13 31]
 (.block 0 (.loop
 (.seq (sR [vv 32 13,oo 33 (lN 32),oo 34 (iK .gtr 33 0)]
 (.cond (T 34)
 .skip
 (.exit 0)))
 (.seq (.block 1 (sR [vv 37 13,oo 38 (.idxS 3 (T 37) (kk 0)),oo 39 (fA 0 38),oo 40 (.load true 2 (T 39)),oo 14 (.alloc 109 (.agg [nI,nI])),sS 2 14 40]
 (.seq (.seq (.drawn [vv 41 10,oo 42 (ld3 7),oo 43 (.idxA 2 1 (T 14) (kk 0)),oo 44 (ld1 43),vv 46 10,oo 47 (ld3 8),oo 48 (.idxA 2 1 (T 14) (kk 1)),oo 49 (ld1 48)] [(oo 45 (.call (T 41) [T 42,T 44]),[vv 46 10,oo 47 (ld3 8),oo 48 (.idxA 2 1 (T 14) (kk 1)),oo 49 (ld1 48)]),(oo 50 (.call (T 46) [T 47,T 49]),[]),(oo 51 (.bbin .neq (T 45) (T 50)),[])])
 (.cond (T 51)
 (sR [vv 52 13,oo 53 (.idxS 3 (T 52) (kk 0)),oo 54 (fA 2 53),oo 55 (ld1 54),vv 4 55,oo 5 (.mov bT),oo 6 (.mov (kk 0))]
 .ret)
 .skip))
 (sR [oo 56 (fA 0 2),oo 57 (ld1 56),oo 58 (.mov (kk 0))]
 (.block 2 (.loop
 (sR [oo 59 (iB .lss 58 57)]
 (.seq (.cond (T 59)
 .skip
 (.exit 2))
 (.seq (.block 3 (sR [vv 60 58,vv 15 60]
 (.seq (.drawn [vv 61 11,oo 62 (ld3 7),oo 63 (.idxA 2 1 (T 14) (kk 0)),oo 64 (ld1 63),vv 65 15,oo 66 (.call (T 61) [T 62,T 64,T 65]),vv 67 11,oo 68 (ld3 8),oo 69 (.idxA 2 1 (T 14) (kk 1)),oo 70 (ld1 69),vv 71 15,oo 72 (.call (T 67) [T 68,T 70,T 71]),oo 73 (.build [nI,nI] [(0,(1,(T 66))),(1,(1,(T 72)))]),oo 16 (.alloc 109 (.agg [nI,nI]))] [(sS 2 16 73,[])])
 (sR [vv 74 12,oo 75 (.load true 2 (T 16)),oo 76 (.mget 6 false (.bool false) (T 74) (T 75)),oo 77 (.lnot (T 76))]
 (.cond (T 77)
 (sR [vv 78 12,oo 79 (.load true 2 (T 16)),nn (.mset 6 (T 78) (T 79) bT)]
 (.drawn [vv 80 13,oo 81 (.load true 2 (T 16)),vv 82 13,oo 83 (.idxS 3 (T 82) (kk 0)),oo 84 (fA 2 83),oo 85 (ld1 84),oo 86 (cL 47 [T 85]),vv 87 15,oo 88 (.bslice 3 1 [T 87])] [(oo 89 (.append 3 1 8 (T 86) (T 88)),[vv 80 13,oo 81 (.load true 2 (T 16))]),(oo 90 (.build [nI,nI,nS] [(0,(2,(T 81))),(2,(1,(T 89)))]),[vv 80 13]),(oo 91 (.bslice 112 3 [T 90]),[vv 80 13]),(oo 92 (.append 112 3 40 (T 80) (T 91)),[]),(vv 13 92,[])]))
 .skip)))))
 (rR [oo 93 (iK .add 58 1),vv 58 93]))))))))))
 (rR [vv 35 13,oo 36 (.slice 3 (T 35) (some (kk 1)) none),vv 13 36]))))))
 (sR [oo 4 (.mov (.const (.slice none 0 0))),oo 5 (.mov bF),oo 6 (.mov (kk 0))]
 .ret))))))))
theorem f26:fnC Try.prog 26=some (c26,94,[(.tmp 4),(.tmp 5),(.tmp 6)]):=by kernel_rfl
def c28:CCode :=
 (sR [oo 1 (.box 34 (T 0)),oo 2 (aZ 34),oo 3 (.mov (kk 0))]
 (sR [oo 11 (ld3 1),oo 12 (cL 22 [T 11]),vv 10 12,oo 13 (eX 10 0),oo 14 (eX 10 1),oo 4 (aZ 34),sS 3 4 13,vv 5 14]
 (.seq (sR [vv 15 5,oo 16 (iK .neq 15 0)]
 (.cond (T 16)
 (sR [oo 17 (.build [nI,nS,nS] []),vv 18 5,sS 3 2 17,vv 3 18]
 .ret)
 .skip))
 (sR [oo 6 (.alloc 79 (.agg [nU,nU,nU,nU]))]
 (.seq (sR [oo 19 (fA 1 4),oo 20 (ld1 19),oo 21 (lN 20),oo 22 (.mov (kk 0))]
 (.block 0 (.loop
 (sR [oo 23 (iB .lss 22 21)]
 (.seq (.cond (T 23)
 .skip
 (.exit 0))
 (.seq (.block 1 (sR [vv 24 22,oo 25 (iS 1 20 22),oo 26 (ld1 25),vv 7 24,vv 8 26]
 (sR [vv 27 8]
 (.cond (T 27)
 (rR [vv 28 7,oo 29 (cL 60 [T 6,T 28])])
 .skip))))
 (rR [oo 30 (iK .add 22 1),vv 22 30])))))))
 (sR [oo 32 (.load true 4 (T 6)),oo 33 (fA 0 1),oo 34 (ld1 33),oo 35 (.mkfunc (.func 63) [T 4]),oo 36 (cL 48 [T 32,T 34,(.func 61),T 35]),vv 31 36,oo 37 (eX 31 0),oo 38 (eX 31 1),oo 9 (aZ 97),sS 3 9 37,vv 5 38]
 (.seq (sR [vv 39 5,oo 40 (iK .neq 39 0)]
 (.cond (T 40)
 (sR [oo 41 (.build [nI,nS,nS] []),vv 42 5,sS 3 2 41,vv 3 42]
 .ret)
 .skip))
 (sR [oo 43 (ld3 9),oo 44 (cL 50 [T 43]),oo 45 (eX 44 0),oo 46 (eX 44 1),sS 3 2 45,vv 3 46]
 .ret))))))))
theorem f28:fnC Try.prog 28=some (c28,47,[(.cell 2 true 3),(.tmp 3)]):=by kernel_rfl
def c30:CCode :=
 (sR [oo 2 (.box 26 (T 0)),oo 3 (.box 26 (T 1)),oo 4 (.mov bF)]
 (.seq (sR [oo 7 (fA 0 2),oo 8 (ld1 7),oo 9 (fA 0 3),oo 10 (ld1 9),oo 11 (iB .neq 8 10),vv 12 11,gf 13 12 (fA 1 2),gf 14 12 (ld1 13),gf 15 12 (lN 14),gf 16 12 (fA 1 3),gf 17 12 (ld1 16),gf 18 12 (lN 17),gf 19 12 (iB .neq 15 18),oo 20 (.pick (T 12) bT (T 19)),vv 21 20,gf 22 21 (fA 2 2),gf 23 21 (ld1 22),gf 24 21 (lN 23),gf 25 21 (fA 2 3),gf 26 21 (ld1 25),gf 27 21 (lN 26),gf 28 21 (iB .neq 24 27),oo 29 (.pick (T 21) bT (T 28))]
 (.cond (T 29)
 (sR [oo 4 (.mov bF)]
 .ret)
 .skip))
 (.seq (sR [oo 5 (.mov (kk 0))]
 (.block 0 (.loop
 (.seq (sR [vv 30 5,oo 31 (fA 1 2),oo 32 (ld1 31),oo 33 (lN 32),oo 34 (iB .lss 30 33)]
 (.cond (T 34)
 .skip
 (.exit 0)))
 (.seq (.block 1 (.seq (.drawn [oo 37 (fA 1 2),oo 38 (ld1 37),vv 39 5,oo 40 (iS 1 38 39),oo 41 (ld1 40),oo 42 (fA 1 3),oo 43 (ld1 42),vv 44 5,oo 45 (iS 1 43 44),oo 46 (ld1 45),oo 47 (.bbin .neq (T 41) (T 46))] [])
 (.cond (T 47)
 (sR [oo 4 (.mov bF)]
 .ret)
 .skip)))
 (rR [vv 35 5,oo 36 (iK .add 35 1),vv 5 36]))))))
 (.seq (sR [oo 6 (.mov (kk 0))]
 (.block 2 (.loop
 (.seq (sR [vv 48 6,oo 49 (fA 2 2),oo 50 (ld1 49),oo 51 (lN 50),oo 52 (iB .lss 48 51)]
 (.cond (T 52)
 .skip
 (.exit 2)))
 (.seq (.block 3 (.seq (.drawn [oo 55 (fA 2 2),oo 56 (ld1 55),vv 57 6,oo 58 (iS 3 56 57),oo 59 (ld3 58),oo 60 (fA 2 3),oo 61 (ld1 60),vv 62 6,oo 63 (iS 3 61 62),oo 64 (ld3 63),oo 65 (.aeq true 3 (T 59) (T 64))] [])
 (.cond (T 65)
 (sR [oo 4 (.mov bF)]
 .ret)
 .skip)))
 (rR [vv 53 6,oo 54 (iK .add 53 1),vv 6 54]))))))
 (sR [oo 4 (.mov bT)]
 .ret)))))
theorem f30:fnC Try.prog 30=some (c30,66,[(.tmp 4)]):=by kernel_rfl
def c31:CCode :=
 (sR [oo 1 (.box 34 (T 0)),oo 2 (aZ 26)]
 (sR [oo 6 (fA 0 1),oo 7 (ld1 6),oo 8 (.build [nI,nS,nS] [(0,(1,(T 7)))]),oo 3 (aZ 26),sS 3 3 8]
 (sR [oo 9 (fA 1 3),oo 10 (ld1 9),oo 11 (fA 1 1),oo 12 (ld1 11),oo 13 (.append 4 1 1 (T 10) (T 12)),oo 14 (fA 1 3),sS 1 14 13]
 (.seq (sR [oo 4 (.mov (kk 0))]
 (.block 0 (.loop
 (.seq (sR [vv 15 4,oo 16 (fA 2 1),oo 17 (ld1 16),oo 18 (lN 17),oo 19 (iB .lss 15 18)]
 (.cond (T 19)
 .skip
 (.exit 0)))
 (.seq (.block 1 (sR [oo 22 (fA 2 1),oo 23 (ld1 22),vv 24 4,oo 25 (iS 3 23 24),oo 26 (ld3 25),oo 5 (.alloc 72 (.agg [nI,nI,nI])),sS 3 5 26]
 (rR [oo 27 (fA 2 3),oo 28 (ld1 27),oo 29 (fA 0 5),oo 30 (ld1 29),oo 31 (fA 1 5),oo 32 (ld1 31),oo 33 (fA 2 5),oo 34 (ld1 33),oo 35 (.build [nI,nI,nI] [(0,(1,(T 30))),(1,(1,(T 32))),(2,(1,(T 34)))]),oo 36 (.bslice 71 3 [T 35]),oo 37 (.append 71 3 24 (T 28) (T 36)),oo 38 (fA 2 3),sS 1 38 37])))
 (rR [vv 20 4,oo 21 (iK .add 20 1),vv 4 21]))))))
 (sR [oo 39 (ld3 3),sS 3 2 39]
 .ret)))))
theorem f31:fnC Try.prog 31=some (c31,40,[(.cell 2 true 3)]):=by kernel_rfl
def c33:CCode :=
 (sR [oo 4 (.mov (kk 0))]
 (.seq (sR [vv 5 0,oo 6 (iK .lss 5 0)]
 (.cond (T 6)
 (rR [vv 7 0,oo 8 (iK .add 7 1),oo 9 (.neg (T 8)),vv 0 9])
 .skip))
 (.seq (sR [vv 10 1,oo 11 (iK .lss 10 1)]
 (.cond (T 11)
 (sR [oo 4 (.mov (kk 0))]
 .ret)
 .skip))
 (sR [vv 12 0,vv 13 1,oo 14 (iB .rem 12 13),vv 4 14]
 .ret))))
theorem f33:fnC Try.prog 33=some (c33,15,[(.tmp 4)]):=by kernel_rfl
def c35:CCode :=
 (sR [oo 1 (.box 34 (T 0)),oo 2 (aZ 34),oo 3 (.mov (kk 0))]
 (sR [oo 13 (ld3 1),oo 14 (cL 22 [T 13]),vv 12 14,oo 15 (eX 12 0),oo 16 (eX 12 1),oo 4 (aZ 34),sS 3 4 15,vv 5 16]
 (.seq (sR [vv 17 5,oo 18 (iK .neq 17 0)]
 (.cond (T 18)
 (sR [oo 19 (.build [nI,nS,nS] []),vv 20 5,sS 3 2 19,vv 3 20]
 .ret)
 .skip))
 (sR [oo 21 (ld3 4),oo 22 (cL 65 [T 21]),oo 6 (aZ 97),sS 3 6 22]
 (sR [oo 23 (fA 2 6),oo 24 (ld1 23),oo 25 (lN 24),vv 7 25]
 (.seq (.drawn [oo 26 (fA 2 6),oo 27 (ld1 26),vv 28 7,oo 29 (.bslice 3 1 [T 28]),oo 30 (fA 0 1),oo 31 (ld1 30)] [(oo 32 (cL 66 [T 29,T 31]),[oo 26 (fA 2 6),oo 27 (ld1 26)]),(oo 33 (.bslice 22 1 [T 32]),[oo 26 (fA 2 6),oo 27 (ld1 26)]),(oo 34 (.append 22 1 24 (T 27) (T 33)),[]),(oo 35 (fA 2 6),[]),(sS 1 35 34,[])])
 (sR [oo 36 (fA 1 6),oo 37 (ld1 36),oo 38 (cL 67 [T 37]),oo 39 (.bslice 4 1 [bF]),oo 40 (.append 4 1 1 (T 38) (T 39)),oo 41 (fA 1 6),sS 1 41 40]
 (.seq (sR [oo 42 (fA 2 6),oo 43 (ld1 42),oo 44 (lN 43),oo 45 (.mov (kk 0))]
 (.block 0 (.loop
 (sR [oo 46 (iB .lss 45 44)]
 (.seq (.cond (T 46)
 .skip
 (.exit 0))
 (.seq (.block 1 (sR [vv 47 45,oo 48 (iS 1 43 45),oo 49 (ld1 48),vv 8 47,vv 9 49]
 (.seq (.drawn [oo 50 (fA 1 6),oo 51 (ld1 50),vv 52 8,oo 53 (fA 1 6),oo 54 (ld1 53),vv 55 8,oo 56 (iS 1 54 55),oo 57 (ld1 56),oo 58 (.lnot (T 57)),oo 59 (iS 1 51 52)] [(sS 1 59 58,[])])
 (sR [vv 60 9,oo 61 (lN 60),oo 62 (.mov (kk 0))]
 (.block 2 (.loop
 (sR [oo 63 (iB .lss 62 61)]
 (.seq (.cond (T 63)
 .skip
 (.exit 2))
 (.seq (.block 3 (sR [vv 64 62,oo 65 (iS 1 60 62),oo 66 (ld1 65),vv 10 64,vv 11 66]
 (sR [vv 67 11,oo 68 (iK .lss 67 0)]
 (.cond (T 68)
 (rR [vv 69 9,vv 70 10,vv 71 7,oo 72 (iS 1 69 70),sS 1 72 71])
 .skip))))
 (rR [oo 73 (iK .add 62 1),vv 62 73]))))))))))
 (rR [oo 74 (iK .add 45 1),vv 45 74])))))))
 (sR [oo 75 (ld3 6),oo 76 (cL 50 [T 75]),oo 77 (eX 76 0),oo 78 (eX 76 1),sS 3 2 77,vv 3 78]
 .ret)))))))))
theorem f35:fnC Try.prog 35=some (c35,79,[(.cell 2 true 3),(.tmp 3)]):=by kernel_rfl
def c36:CCode :=
 (sR [oo 2 (.box 34 (T 0)),oo 3 (.box 34 (T 1)),oo 4 (aZ 34),oo 5 (.mov (kk 0))]
 (sR [oo 11 (ld3 2),oo 12 (ld3 3),oo 13 (cL 55 [T 11,T 12]),vv 10 13,oo 14 (eX 10 0),oo 15 (eX 10 1),oo 16 (eX 10 2),oo 6 (aZ 97),oo 7 (aZ 97),sS 3 6 14,sS 3 7 15,vv 8 16]
 (.seq (sR [vv 17 8,oo 18 (iK .neq 17 0)]
 (.cond (T 18)
 (sR [oo 19 (.build [nI,nS,nS] []),vv 20 8,sS 3 4 19,vv 5 20]
 .ret)
 .skip))
 (sR [oo 22 (.build [nI,nI] []),oo 23 (fA 0 2),oo 24 (ld1 23),oo 25 (.mkfunc (.func 69) [T 6,T 7]),oo 26 (.mkfunc (.func 70) [T 6,T 7]),oo 27 (cL 68 [T 22,T 24,T 25,T 26]),vv 21 27,oo 28 (eX 21 0),oo 29 (eX 21 1),oo 9 (aZ 97),sS 3 9 28,vv 8 29]
 (.seq (sR [vv 30 8,oo 31 (iK .neq 30 0)]
 (.cond (T 31)
 (sR [oo 32 (.build [nI,nS,nS] []),vv 33 8,sS 3 4 32,vv 5 33]
 .ret)
 .skip))
 (sR [oo 34 (ld3 9),oo 35 (cL 50 [T 34]),oo 36 (eX 35 0),oo 37 (eX 35 1),sS 3 4 36,vv 5 37]
 .ret))))))
def c39:CCode :=
 (sR [oo 4 (.mov bF)]
 (sR [vv 5 0,vv 6 1,oo 7 (cL 72 [T 5,T 6]),oo 8 (iK .geq 7 0),vv 4 8]
 .ret))
theorem f39:fnC Try.prog 39=some (c39,9,[(.tmp 4)]):=by kernel_rfl
def c40:CCode :=
 (sR [oo 3 (.box 72 (T 0)),oo 4 (.mov bF)]
 (sR [oo 5 (fA 0 3),oo 6 (ld1 5),oo 7 (fA 2 3),oo 8 (ld1 7),oo 9 (.imin (T 6) (T 8)),oo 10 (iK .lss 9 0),vv 11 10,gf 12 11 (fA 0 3),gf 13 11 (ld1 12),gf 14 11 (fA 2 3),gf 15 11 (ld1 14),gf 16 11 (.imax (T 13) (T 15)),gf 17 11 (ld1 1),gf 18 11 (iB .geq 16 17),oo 19 (.pick (T 11) bT (T 18)),vv 20 19,gf 21 20 (fA 1 3),gf 22 20 (ld1 21),gf 23 20 (.ibin .lss (T 22) (kk (-1))),oo 24 (.pick (T 20) bT (T 23)),vv 25 24,gf 26 25 (fA 1 3),gf 27 25 (ld1 26),gf 28 25 (fA 0 2),gf 29 25 (ld1 28),gf 30 25 (iB .geq 27 29),oo 31 (.pick (T 25) bT (T 30)),vv 4 31]
 .ret))
theorem f40:fnC Try.prog 40=some (c40,32,[(.tmp 4)]):=by kernel_rfl
def c41:CCode :=
 (sR [oo 1 (.box 34 (T 0)),oo 2 (.mov (.const (.pointer none)))]
 (sR [oo 18 (fA 1 1),oo 19 (ld1 18),oo 20 (lN 19),vv 3 20]
 (sR [vv 21 3,oo 22 (.mkslice 22 1 24 nS (T 21) (T 21)),oo 4 (.alloc 61 nS),sS 1 4 22]
 (.seq (sR [oo 23 (fA 2 1),oo 24 (ld1 23),oo 25 (lN 24),oo 26 (.mov (kk 0))]
 (.block 0 (.loop
 (sR [oo 27 (iB .lss 26 25)]
 (.seq (.cond (T 27)
 .skip
 (.exit 0))
 (.seq (.block 1 (sR [oo 28 (iS 3 24 26),oo 29 (ld3 28),oo 6 (.alloc 72 (.agg [nI,nI,nI])),sS 3 6 29]
 (sR [oo 30 (fA 1 6),oo 31 (ld1 30),oo 32 (iK .lss 31 0)]
 (.cond (T 32)
 (.drawn [oo 33 (ld1 4),oo 34 (fA 0 6),oo 35 (ld1 34),oo 36 (ld1 4),oo 37 (fA 0 6),oo 38 (ld1 37),oo 39 (iS 1 36 38),oo 40 (ld1 39),oo 41 (fA 2 6),oo 42 (ld1 41),oo 43 (.bslice 3 1 [T 42])] [(oo 44 (.append 3 1 8 (T 40) (T 43)),[oo 33 (ld1 4),oo 34 (fA 0 6),oo 35 (ld1 34)]),(oo 45 (iS 1 33 35),[]),(sS 1 45 44,[])])
 .skip))))
 (rR [oo 46 (iK .add 26 1),vv 26 46])))))))
 (sR [vv 47 3,oo 48 (.mkslice 79 4 32 (.agg [nU,nU,nU,nU]) (T 47) (T 47)),oo 7 (.alloc 128 nS),sS 1 7 48]
 (.seq (sR [vv 49 3,oo 50 (.mov (kk 0))]
 (.block 2 (.loop
 (sR [oo 51 (iB .lss 50 49)]
 (.seq (.cond (T 51)
 .skip
 (.exit 2))
 (.seq (.block 3 (sR [vv 52 50,oo 8 (.alloc 3 nI),sS 1 8 52]
 (sR [oo 9 (.alloc 117 (.val .nilFunc))]
 (sR [oo 53 (.mkfunc (.func 73) [T 7,T 8,T 4,T 9]),sS 1 9 53]
 (rR [oo 54 (ld1 9),oo 55 (ld1 8),oo 56 (.call (T 54) [T 55])])))))
 (rR [oo 57 (iK .add 50 1),vv 50 57])))))))
 (.seq (.drawn [oo 58 (fA 0 1),oo 59 (ld1 58),vv 60 3,oo 61 (.mkslice 128 1 24 nS (T 60) (T 60)),oo 62 (ld1 7),oo 63 (.idxS 4 (T 62) (kk 0)),oo 64 (.load true 4 (T 63)),oo 65 (.build [nI,nU,nU,nU,nU,nS,nU,nU,nU,nU] [(0,(1,(T 59))),(5,(1,(T 61))),(6,(4,(T 64)))]),oo 66 (.box 82 (T 65)),vv 10 66] [])
 (.seq (sR [oo 67 (fA 1 1),oo 68 (ld1 67),oo 69 (lN 68),oo 70 (.mov (kk 0))]
 (.block 4 (.loop
 (sR [oo 71 (iB .lss 70 69)]
 (.seq (.cond (T 71)
 .skip
 (.exit 4))
 (.seq (.block 5 (sR [vv 72 70,oo 73 (iS 1 68 70),oo 74 (ld1 73),vv 11 72,vv 12 74]
 (.seq (.drawn [vv 75 10,oo 76 (.nilCheck (T 75)),oo 77 (fA 5 76),oo 78 (ld1 77),vv 79 11,oo 80 (fA 0 1),oo 81 (ld1 80),oo 82 (.mkslice 79 4 32 (.agg [nU,nU,nU,nU]) (T 81) (T 81)),oo 83 (iS 1 78 79)] [(sS 1 83 82,[])])
 (sR [vv 84 12]
 (.cond (T 84)
 (rR [vv 85 10,oo 86 (.nilCheck (T 85)),oo 87 (fA 1 86),vv 88 11,oo 89 (cL 60 [T 87,T 88])])
 .skip)))))
 (rR [oo 90 (iK .add 70 1),vv 70 90])))))))
 (.seq (sR [oo 91 (fA 2 1),oo 92 (ld1 91),oo 93 (lN 92),oo 94 (.mov (kk 0))]
 (.block 6 (.loop
 (sR [oo 95 (iB .lss 94 93)]
 (.seq (.cond (T 95)
 .skip
 (.exit 6))
 (.seq (.block 7 (sR [oo 96 (iS 3 92 94),oo 97 (ld3 96),oo 14 (.alloc 72 (.agg [nI,nI,nI])),sS 3 14 97]
 (sR [oo 98 (fA 1 14),oo 99 (ld1 98),oo 100 (iK .geq 99 0)]
 (.cond (T 100)
 (.seq (.drawn [vv 101 10,oo 102 (.nilCheck (T 101)),oo 103 (fA 5 102),oo 104 (ld1 103),oo 105 (fA 0 14),oo 106 (ld1 105),oo 107 (iS 1 104 106),oo 108 (ld1 107),oo 109 (fA 1 14),oo 110 (ld1 109),oo 111 (iS 4 108 110),vv 15 111] [])
 (sR [oo 112 (ld1 7),oo 113 (fA 2 14),oo 114 (ld1 113),oo 115 (iS 4 112 114),oo 116 (.load true 4 (T 115)),oo 117 (.mov (kk 0))]
 (.block 8 (.loop
 (sR [oo 118 (iK .lss 117 4)]
 (.seq (.cond (T 118)
 .skip
 (.exit 8))
 (.seq (.block 9 (sR [vv 119 117,oo 120 (.idxV false 4 1 (T 116) (T 117)),vv 16 119,vv 17 120]
 (.drawn [vv 121 15,vv 122 16,oo 123 (.nilCheck (T 121)),oo 124 (.idxA 4 1 (T 123) (T 122)),oo 125 (ld1 124),vv 126 17,oo 127 (iB .or 125 126),oo 128 (.nilCheck (T 121)),oo 129 (.idxA 4 1 (T 128) (T 122))] [(sS 1 129 127,[])])))
 (rR [oo 130 (iK .add 117 1),vv 117 130]))))))))
 .skip))))
 (rR [oo 131 (iK .add 94 1),vv 94 131])))))))
 (sR [vv 132 10,vv 2 132]
 .ret))))))))))
theorem f41:fnC Try.prog 41=some (c41,133,[(.tmp 2)]):=by kernel_rfl
def c42:CCode :=
 (sR [oo 4 (.box 79 (T 1)),oo 6 (.alloc 79 (.agg [nU,nU,nU,nU]))]
 (sR [oo 7 (.alloc 79 (.agg [nU,nU,nU,nU]))]
 (.seq (sR [vv 11 0,oo 12 (.nilCheck (T 11)),oo 13 (fA 5 12),oo 14 (ld1 13),oo 15 (lN 14),oo 16 (.mov (kk 0))]
 (.block 0 (.loop
 (sR [oo 17 (iB .lss 16 15)]
 (.seq (.cond (T 17)
 .skip
 (.exit 0))
 (.seq (.block 1 (sR [vv 18 16,vv 8 18]
 (sR [oo 19 (.load true 4 (T 4)),vv 20 8,oo 21 (cL 62 [T 19,T 20])]
 (.cond (T 21)
 (sR [vv 22 0,oo 23 (.nilCheck (T 22)),oo 24 (fA 5 23),oo 25 (ld1 24),vv 26 8,oo 27 (iS 1 25 26),oo 28 (ld1 27),vv 29 2,oo 30 (iS 4 28 29),oo 31 (.load true 4 (T 30)),oo 32 (.mov (kk 0))]
 (.block 2 (.loop
 (sR [oo 33 (iK .lss 32 4)]
 (.seq (.cond (T 33)
 .skip
 (.exit 2))
 (.seq (.block 3 (sR [vv 34 32,oo 35 (.idxV false 4 1 (T 31) (T 32)),vv 9 34,vv 10 35]
 (rR [vv 36 9,oo 37 (.idxA 4 1 (T 7) (T 36)),oo 38 (ld1 37),vv 39 10,oo 40 (iB .or 38 39),oo 41 (.idxA 4 1 (T 7) (T 36)),sS 1 41 40])))
 (rR [oo 42 (iK .add 32 1),vv 32 42])))))))
 .skip))))
 (rR [oo 43 (iK .add 16 1),vv 16 43])))))))
 (sR [oo 44 (.load true 4 (T 7)),sS 4 6 44]
 .ret))))
theorem f42:fnC Try.prog 42=some (c42,45,[(.cell 6 true 4)]):=by kernel_rfl
def c43:CCode :=
 (sR [oo 2 (.box 79 (T 0)),oo 3 (.box 79 (T 1)),oo 4 (.mov bF)]
 (.seq (sR [oo 7 (.load true 4 (T 2)),oo 8 (.mov (kk 0))]
 (.block 0 (.loop
 (sR [oo 9 (iK .lss 8 4)]
 (.seq (.cond (T 9)
 .skip
 (.exit 0))
 (.seq (.block 1 (sR [vv 10 8,oo 11 (.idxV false 4 1 (T 7) (T 8)),vv 5 10,vv 6 11]
 (sR [vv 12 6,vv 13 5,oo 14 (.idxA 4 1 (T 3) (T 13)),oo 15 (ld1 14),oo 16 (iB .and 12 15),oo 17 (.ibin .neq (T 16) (.const (.int .u64 0)))]
 (.cond (T 17)
 (sR [oo 4 (.mov bT)]
 .ret)
 .skip))))
 (rR [oo 18 (iK .add 8 1),vv 8 18])))))))
 (sR [oo 4 (.mov bF)]
 .ret)))
theorem f43:fnC Try.prog 43=some (c43,19,[(.tmp 4)]):=by kernel_rfl
def c44:CCode :=
 (sR [oo 1 (.box 26 (T 0)),oo 2 (.mov (.const (.slice none 0 0)))]
 (sR [oo 4 (fA 1 1),oo 5 (ld1 4),oo 6 (lN 5),oo 7 (.mkslice 4 1 1 (.val (.bool false)) (T 6) (T 6)),vv 3 7]
 (sR [vv 8 3,oo 9 (.idxS 1 (T 8) (kk 0)),nn (.store 1 (T 9) bT)]
 (sR [oo 10 (ld3 1),vv 11 3,oo 12 (cL 74 [T 10,T 11]),vv 2 12]
 .ret))))
theorem f44:fnC Try.prog 44=some (c44,13,[(.tmp 2)]):=by kernel_rfl
def c45:CCode :=
 (sR [oo 3 (.box 26 (T 0)),oo 6 (.mov (.const (.slice none 0 0))),oo 7 (.mov bF)]
 (sR [oo 12 (fA 1 3),oo 13 (ld1 12),oo 14 (lN 13),oo 15 (.mkslice 4 1 1 (.val (.bool false)) (T 14) (T 14)),vv 8 15]
 (sR [oo 9 (.mov bF)]
 (.seq (sR [oo 10 (.mov (kk 0))]
 (.block 0 (.loop
 (.seq (sR [vv 16 10,oo 17 (fA 2 3),oo 18 (ld1 17),oo 19 (lN 18),oo 20 (iB .lss 16 19)]
 (.cond (T 20)
 .skip
 (.exit 0)))
 (.seq (.block 1 (sR [oo 23 (fA 2 3),oo 24 (ld1 23),vv 25 10,oo 26 (iS 3 24 25),oo 27 (ld3 26),oo 11 (.alloc 71 (.agg [nI,nI,nI])),sS 3 11 27]
 (sR [oo 28 (fA 1 11),oo 29 (ld1 28),vv 30 2,oo 31 (iB .eql 29 30),vv 32 31,vt 33 32 1,gt 34 32 (fA 0 11),gt 35 32 (ld1 34),gt 36 32 (iS 1 33 35),gt 37 32 (ld1 36),oo 38 (.pick (T 32) (T 37) bF)]
 (.cond (T 38)
 (sR [vv 39 8,oo 40 (fA 2 11),oo 41 (ld1 40),oo 42 (iS 1 39 41),nn (.store 1 (T 42) bT)]
 (rR [oo 9 (.mov bT)]))
 .skip))))
 (rR [vv 21 10,oo 22 (iK .add 21 1),vv 10 22]))))))
 (sR [oo 43 (ld3 3),vv 44 8,oo 45 (cL 74 [T 43,T 44]),vv 46 9,vv 6 45,vv 7 46]
 .ret)))))
theorem f45:fnC Try.prog 45=some (c45,47,[(.tmp 6),(.tmp 7)]):=by kernel_rfl
def c46:CCode :=
 (sR [oo 2 (.box 26 (T 0)),oo 4 (.mov bF)]
 (.seq (sR [oo 5 (.mov (kk 0))]
 (.block 0 (.loop
 (.seq (sR [vv 6 5,vv 7 1,oo 8 (lN 7),oo 9 (iB .lss 6 8)]
 (.cond (T 9)
 .skip
 (.exit 0)))
 (.seq (.block 1 (sR [vv 12 1,vv 13 5,oo 14 (iS 1 12 13),oo 15 (ld1 14),vv 16 15,gt 17 16 (fA 1 2),gt 18 16 (ld1 17),vt 19 16 5,gt 20 16 (iS 1 18 19),gt 21 16 (ld1 20),oo 22 (.pick (T 16) (T 21) bF)]
 (.cond (T 22)
 (sR [oo 4 (.mov bT)]
 .ret)
 .skip)))
 (rR [vv 10 5,oo 11 (iK .add 10 1),vv 5 11]))))))
 (sR [oo 4 (.mov bF)]
 .ret)))
theorem f46:fnC Try.prog 46=some (c46,23,[(.tmp 4)]):=by kernel_rfl
def c47:CCode :=
 (sR [oo 2 (.mov (.const (.slice none 0 0)))]
 (.seq (sR [vv 3 0,oo 4 (.isNil true false (T 3) (.const (.slice none 0 0)))]
 (.cond (T 4)
 (sR [oo 2 (.mov (.const (.slice none 0 0)))]
 .ret)
 .skip))
 (sR [oo 5 (.bslice 3 1 []),vv 6 0,oo 7 (.append 3 1 8 (T 5) (T 6)),vv 2 7]
 .ret)))
theorem f47:fnC Try.prog 47=some (c47,8,[(.tmp 2)]):=by kernel_rfl
def c48:CCode :=
 (sR [oo 4 (.box 79 (T 0)),oo 8 (aZ 97),oo 9 (.mov (kk 0))]
 (sR [vv 20 1,oo 21 (.build [nI,nS,nS] [(0,(1,(T 20)))]),oo 10 (aZ 97),sS 3 10 21]
 (sR [oo 22 (.mnew 1000000011),oo 23 (.load true 4 (T 4)),nn (.mset 11 (T 22) (T 23) (kk 0)),vv 24 22,vv 11 24]
 (.seq (sR [oo 25 (.load true 4 (T 4)),oo 26 (.bslice 79 4 [T 25]),vv 12 26]
 (.block 0 (.loop
 (.seq (sR [oo 27 (fA 2 10),oo 28 (ld1 27),oo 29 (lN 28),vv 30 12,oo 31 (lN 30),oo 32 (iB .lss 29 31)]
 (.cond (T 32)
 .skip
 (.exit 0)))
 (.block 1 (sR [vv 33 12,oo 34 (fA 2 10),oo 35 (ld1 34),oo 36 (lN 35),oo 37 (iS 4 33 36),oo 38 (.load true 4 (T 37)),oo 13 (.alloc 79 (.agg [nU,nU,nU,nU])),sS 4 13 38]
 (sR [vv 39 1,oo 40 (.mkslice 3 1 8 nI (T 39) (T 39)),vv 14 40]
 (.seq (sR [vv 41 14,oo 42 (lN 41),oo 43 (.mov (kk 0))]
 (.block 2 (.loop
 (sR [oo 44 (iB .lss 43 42)]
 (.seq (.cond (T 44)
 .skip
 (.exit 2))
 (.seq (.block 3 (sR [vv 45 43,vv 15 45]
 (sR [vv 47 3,oo 48 (.load true 4 (T 13)),vv 49 15,oo 50 (.call (T 47) [T 48,T 49]),vv 46 50,oo 51 (eX 46 0),oo 52 (eX 46 1),oo 16 (.alloc 79 (.agg [nU,nU,nU,nU])),sS 4 16 51,vv 17 52]
 (.seq (sR [vv 53 17,oo 54 (.lnot (T 53))]
 (.cond (T 54)
 (sR [vv 55 14,vv 56 15,oo 57 (iS 1 55 56),nn (.store 1 (T 57) (kk (-1)))]
 (.exit 3))
 .skip))
 (sR [vv 59 11,oo 60 (.load true 4 (T 16)),oo 61 (.mget 11 true (.int .i64 0) (T 59) (T 60)),vv 58 61,oo 62 (eX 58 0),oo 63 (eX 58 1),vv 18 62,vv 19 63]
 (.seq (sR [vv 64 19,oo 65 (.lnot (T 64))]
 (.cond (T 65)
 (sR [vv 66 12,oo 67 (lN 66),vv 18 67]
 (sR [vv 68 11,oo 69 (.load true 4 (T 16)),vv 70 18,nn (.mset 11 (T 68) (T 69) (T 70))]
 (rR [vv 71 12,oo 72 (.load true 4 (T 16)),oo 73 (.bslice 79 4 [T 72]),oo 74 (.append 79 4 32 (T 71) (T 73)),vv 12 74])))
 .skip))
 (rR [vv 75 14,vv 76 15,vv 77 18,oo 78 (iS 1 75 76),sS 1 78 77])))))))
 (rR [oo 79 (iK .add 43 1),vv 43 79])))))))
 (.seq (sR [vv 80 12,oo 81 (lN 80),oo 82 (iK .gtr 81 256)]
 (.cond (T 82)
 (sR [oo 83 (.build [nI,nS,nS] []),sS 3 8 83,oo 9 (.mov (kk 4))]
 .ret)
 .skip))
 (.cut [oo 84 (fA 2 10),oo 85 (ld1 84),vv 86 14,oo 87 (.bslice 22 1 [T 86]),oo 89 (fA 1 10),oo 90 (ld1 89),vv 91 2,oo 92 (.load true 4 (T 13))] [] (.alt (oo 88 (.append 22 1 24 (T 85) (T 87))) [oo 89 (fA 1 10),oo 90 (ld1 89),vv 91 2,oo 92 (.load true 4 (T 13))] (.alt (oo 93 (.call (T 91) [T 92])) [oo 89 (fA 1 10),oo 90 (ld1 89)] (.alt (oo 94 (.bslice 4 1 [T 93])) [oo 89 (fA 1 10),oo 90 (ld1 89)] (.alt (oo 95 (.append 4 1 1 (T 90) (T 94))) [] (.alt (oo 96 (fA 2 10)) [vv 91 2,oo 92 (.load true 4 (T 13))] (.alt (sS 1 96 88) [] (.alt (oo 97 (fA 1 10)) [] (.alt (sS 1 97 95) [] .done .stop) .stop) .stop) .stop) (.alt (oo 96 (fA 2 10)) [vv 91 2,oo 92 (.load true 4 (T 13))] (.alt (oo 95 (.append 4 1 1 (T 90) (T 94))) [] (.alt (sS 1 96 88) [] (.alt (oo 97 (fA 1 10)) [] (.alt (sS 1 97 95) [] .done .stop) .stop) .stop) .stop) .stop)) (.alt (oo 96 (fA 2 10)) [vv 91 2,oo 92 (.load true 4 (T 13))] (.alt (oo 94 (.bslice 4 1 [T 93])) [oo 89 (fA 1 10),oo 90 (ld1 89)] (.alt (oo 95 (.append 4 1 1 (T 90) (T 94))) [] (.alt (sS 1 96 88) [] (.alt (oo 97 (fA 1 10)) [] (.alt (sS 1 97 95) [] .done .stop) .stop) .stop) .stop) .stop) .stop)) (.alt (oo 96 (fA 2 10)) [vv 91 2,oo 92 (.load true 4 (T 13))] (.alt (oo 93 (.call (T 91) [T 92])) [oo 89 (fA 1 10),oo 90 (ld1 89)] (.alt (oo 94 (.bslice 4 1 [T 93])) [oo 89 (fA 1 10),oo 90 (ld1 89)] (.alt (oo 95 (.append 4 1 1 (T 90) (T 94))) [] (.alt (sS 1 96 88) [] (.alt (oo 97 (fA 1 10)) [] (.alt (sS 1 97 95) [] .done .stop) .stop) .stop) .stop) .stop) .stop) .stop)) .stop)))))))))))
 (sR [oo 98 (ld3 10),sS 3 8 98,oo 9 (.mov (kk 0))]
 .ret)))))
theorem f48:fnC Try.prog 48=some (c48,99,[(.cell 8 true 3),(.tmp 9)]):=by kernel_rfl
def c49:CCode :=
 (sR [oo 3 (.box 79 (T 0)),oo 5 (.alloc 79 (.agg [nU,nU,nU,nU])),oo 6 (.mov bF)]
 (sR [oo 8 (ld1 2),oo 9 (.load true 4 (T 3)),vv 10 1,oo 11 (cL 42 [T 8,T 9,T 10]),oo 7 (.alloc 79 (.agg [nU,nU,nU,nU])),sS 4 7 11]
 (.seq (.drawn [oo 12 (.load true 4 (T 7)),oo 13 (.load true 4 (T 7)),oo 14 (.build [nU,nU,nU,nU] []),oo 15 (.aeq true 4 (T 13) (T 14))] [(sS 4 5 12,[oo 13 (.load true 4 (T 7)),oo 14 (.build [nU,nU,nU,nU] []),oo 15 (.aeq true 4 (T 13) (T 14))]),(vv 6 15,[])])
 .ret)))
theorem f49:fnC Try.prog 49=some (c49,16,[(.cell 5 true 4),(.tmp 6)]):=by kernel_rfl
def c50:CCode :=
 (sR [oo 1 (.box 97 (T 0)),oo 2 (aZ 34),oo 3 (.mov (kk 0))]
 (sR [oo 13 (ld3 1),oo 14 (cL 75 [T 13]),sS 3 1 14]
 (sR [oo 15 (ld3 1),oo 16 (cL 76 [T 15]),vv 4 16]
 (sR [oo 17 (.mnew 1000000000),vv 18 4,oo 19 (.idxS 1 (T 18) (kk 0)),oo 20 (ld1 19),nn (.mset 0 (T 17) (T 20) (kk 0)),vv 21 17,vv 5 21]
 (sR [oo 22 (fA 0 1),oo 23 (ld1 22),oo 24 (.build [nI,nS,nS] [(0,(1,(T 23)))]),oo 6 (aZ 34),sS 3 6 24]
 (.seq (sR [oo 25 (.bslice 3 1 [kk 0]),vv 7 25]
 (.block 0 (.loop
 (.seq (sR [oo 26 (fA 1 6),oo 27 (ld1 26),oo 28 (lN 27),vv 29 7,oo 30 (lN 29),oo 31 (iB .lss 28 30)]
 (.cond (T 31)
 .skip
 (.exit 0)))
 (.block 1 (sR [oo 32 (fA 1 6),oo 33 (ld1 32),oo 34 (lN 33),vv 8 34]
 (.seq (.drawn [oo 35 (fA 1 6),oo 36 (ld1 35),oo 37 (fA 1 1),oo 38 (ld1 37),vv 39 7,vv 40 8,oo 41 (iS 1 39 40),oo 42 (ld1 41),oo 43 (iS 1 38 42),oo 44 (ld1 43),oo 45 (.bslice 4 1 [T 44])] [(oo 46 (.append 4 1 1 (T 36) (T 45)),[]),(oo 47 (fA 1 6),[]),(sS 1 47 46,[])])
 (.seq (.drawn [oo 48 (fA 2 1),oo 49 (ld1 48),vv 50 7,vv 51 8,oo 52 (iS 1 50 51),oo 53 (ld1 52),oo 54 (iS 1 49 53),oo 55 (ld1 54),oo 56 (lN 55),oo 57 (.mov (kk 0))] [])
 (.block 2 (.loop
 (sR [oo 58 (iB .lss 57 56)]
 (.seq (.cond (T 58)
 .skip
 (.exit 2))
 (.seq (.block 3 (sR [vv 59 57,oo 60 (iS 1 55 57),oo 61 (ld1 60),vv 9 59,vv 10 61]
 (.seq (sR [vv 62 10,oo 63 (iK .lss 62 0),vv 64 63,vf 65 64 4,vf 66 64 10,gf 67 64 (iS 1 65 66),gf 68 64 (ld1 67),gf 69 64 (iK .lss 68 0),oo 70 (.pick (T 64) bT (T 69))]
 (.cond (T 70)
 (.exit 3)
 .skip))
 (sR [vv 72 5,vv 73 4,vv 74 10,oo 75 (iS 1 73 74),oo 76 (ld1 75),oo 77 (.mget 0 true (.int .i64 0) (T 72) (T 76)),vv 71 77,oo 78 (eX 71 0),oo 79 (eX 71 1),vv 11 78,vv 12 79]
 (.seq (sR [vv 80 12,oo 81 (.lnot (T 80))]
 (.cond (T 81)
 (sR [vv 82 7,oo 83 (lN 82),vv 11 83]
 (sR [vv 84 5,vv 85 4,vv 86 10,oo 87 (iS 1 85 86),oo 88 (ld1 87),vv 89 11,nn (.mset 0 (T 84) (T 88) (T 89))]
 (rR [vv 90 7,vv 91 10,oo 92 (.bslice 3 1 [T 91]),oo 93 (.append 3 1 8 (T 90) (T 92)),vv 7 93])))
 .skip))
 (rR [oo 94 (fA 2 6),oo 95 (ld1 94),vv 96 8,vv 97 9,vv 98 11,oo 99 (.build [nI,nI,nI] [(0,(1,(T 96))),(1,(1,(T 97))),(2,(1,(T 98)))]),oo 100 (.bslice 72 3 [T 99]),oo 101 (.append 72 3 24 (T 95) (T 100)),oo 102 (fA 2 6),sS 1 102 101]))))))
 (rR [oo 103 (iK .add 57 1),vv 57 103]))))))))))))))
 (.seq (sR [oo 104 (ld3 6),oo 105 (cL 14 [T 104]),oo 106 (iK .neq 105 0)]
 (.cond (T 106)
 (sR [oo 107 (.build [nI,nS,nS] []),sS 3 2 107,oo 3 (.mov (kk 4))]
 .ret)
 .skip))
 (sR [oo 108 (ld3 6),sS 3 2 108,oo 3 (.mov (kk 0))]
 .ret))))))))
theorem f50:fnC Try.prog 50=some (c50,109,[(.cell 2 true 3),(.tmp 3)]):=by kernel_rfl
def c51:CCode :=
 (sR [oo 1 (.box 26 (T 0)),oo 2 (aZ 26),oo 3 (.mov (kk 0))]
 (sR [oo 11 (ld3 1),oo 12 (cL 44 [T 11]),oo 13 (.bslice 23 1 [T 12]),vv 4 13]
 (sR [oo 14 (fA 0 1),oo 15 (ld1 14),oo 16 (.build [nI,nS,nS] [(0,(1,(T 15)))]),oo 5 (aZ 26),sS 3 5 16]
 (.seq (sR [oo 6 (.mov (kk 0))]
 (.block 0 (.loop
 (.seq (sR [vv 17 6,vv 18 4,oo 19 (lN 18),oo 20 (iB .lss 17 19)]
 (.cond (T 20)
 .skip
 (.exit 0)))
 (.seq (.block 1 (.seq (.drawn [oo 23 (fA 1 5),oo 24 (ld1 23),oo 25 (ld3 1),vv 26 4,vv 27 6,oo 28 (iS 1 26 27),oo 29 (ld1 28)] [(oo 30 (cL 46 [T 25,T 29]),[oo 23 (fA 1 5),oo 24 (ld1 23)]),(oo 31 (.bslice 4 1 [T 30]),[oo 23 (fA 1 5),oo 24 (ld1 23)]),(oo 32 (.append 4 1 1 (T 24) (T 31)),[]),(oo 33 (fA 1 5),[]),(sS 1 33 32,[])])
 (sR [oo 7 (.mov (kk 0))]
 (.block 2 (.loop
 (.seq (sR [vv 34 7,oo 35 (fA 0 1),oo 36 (ld1 35),oo 37 (iB .lss 34 36)]
 (.cond (T 37)
 .skip
 (.exit 2)))
 (.seq (.block 3 (.seq (.drawn [oo 41 (ld3 1),vv 42 4,vv 43 6,oo 44 (iS 1 42 43),oo 45 (ld1 44),vv 46 7] [(oo 47 (cL 45 [T 41,T 45,T 46]),[]),(vv 40 47,[]),(oo 48 (eX 40 0),[]),(oo 49 (eX 40 1),[]),(vv 8 48,[]),(vv 9 49,[])])
 (.seq (sR [vv 50 9,oo 51 (.lnot (T 50))]
 (.cond (T 51)
 (.exit 3)
 .skip))
 (sR [vv 52 4,vv 53 8,oo 54 (cL 64 [T 52,T 53]),vv 10 54]
 (.seq (sR [vv 55 10,oo 56 (iK .lss 55 0)]
 (.cond (T 56)
 (sR [vv 57 4,oo 58 (lN 57),vv 10 58]
 (rR [vv 59 4,vv 60 8,oo 61 (.bslice 23 1 [T 60]),oo 62 (.append 23 1 24 (T 59) (T 61)),vv 4 62]))
 .skip))
 (.seq (sR [vv 63 4,oo 64 (lN 63),oo 65 (iK .gtr 64 256)]
 (.cond (T 65)
 (sR [oo 66 (.build [nI,nS,nS] []),sS 3 2 66,oo 3 (.mov (kk 4))]
 .ret)
 .skip))
 (rR [oo 67 (fA 2 5),oo 68 (ld1 67),vv 69 6,vv 70 7,vv 71 10,oo 72 (.build [nI,nI,nI] [(0,(1,(T 69))),(1,(1,(T 70))),(2,(1,(T 71)))]),oo 73 (.bslice 71 3 [T 72]),oo 74 (.append 71 3 24 (T 68) (T 73)),oo 75 (fA 2 5),sS 1 75 74])))))))
 (rR [vv 38 7,oo 39 (iK .add 38 1),vv 7 39]))))))))
 (rR [vv 21 6,oo 22 (iK .add 21 1),vv 6 22]))))))
 (sR [oo 76 (ld3 5),sS 3 2 76,oo 3 (.mov (kk 0))]
 .ret)))))
theorem f51:fnC Try.prog 51=some (c51,77,[(.cell 2 true 3),(.tmp 3)]):=by kernel_rfl
def c52:CCode :=
 (sR [oo 1 (.box 26 (T 0)),oo 2 (aZ 26),oo 3 (.mov (kk 0))]
 (.seq (sR [oo 4 (ld3 1),oo 5 (cL 15 [T 4]),oo 6 (iK .neq 5 0)]
 (.cond (T 6)
 (sR [oo 7 (.build [nI,nS,nS] []),sS 3 2 7,oo 3 (.mov (kk 4))]
 .ret)
 .skip))
 (sR [oo 8 (ld3 1),sS 3 2 8,oo 3 (.mov (kk 0))]
 .ret)))
theorem f52:fnC Try.prog 52=some (c52,9,[(.cell 2 true 3),(.tmp 3)]):=by kernel_rfl
def c53:CCode :=
 (sR [oo 1 (.box 26 (T 0)),oo 2 (aZ 26)]
 (sR [oo 13 (ld3 1),oo 14 (cL 71 [T 13]),vv 3 14]
 (sR [oo 15 (ld3 1),vv 16 3,oo 17 (cL 77 [T 15,T 16]),vv 4 17]
 (sR [oo 18 (fA 0 1),oo 19 (ld1 18),oo 20 (.build [nI,nS,nS] [(0,(1,(T 19)))]),oo 5 (aZ 26),sS 3 5 20]
 (sR [oo 21 (.bslice 3 1 [kk 0]),vv 6 21]
 (.seq (sR [oo 7 (.mov (kk 0))]
 (.block 0 (.loop
 (.seq (sR [vv 22 7,vv 23 6,oo 24 (lN 23),oo 25 (iB .lss 22 24)]
 (.cond (T 25)
 .skip
 (.exit 0)))
 (.seq (.block 1 (sR [vv 28 6,vv 29 7,oo 30 (iS 1 28 29),oo 31 (ld1 30),vv 8 31]
 (.seq (.drawn [oo 32 (fA 1 5),oo 33 (ld1 32),oo 34 (fA 1 1),oo 35 (ld1 34),vv 36 8,oo 37 (iS 1 35 36),oo 38 (ld1 37),oo 39 (.bslice 4 1 [T 38])] [(oo 40 (.append 4 1 1 (T 33) (T 39)),[]),(oo 41 (fA 1 5),[]),(sS 1 41 40,[])])
 (sR [oo 9 (.mov (kk 0))]
 (.block 2 (.loop
 (.seq (sR [vv 42 9,oo 43 (fA 0 1),oo 44 (ld1 43),oo 45 (iB .lss 42 44)]
 (.cond (T 45)
 .skip
 (.exit 2)))
 (.seq (.block 3 (sR [vv 48 3,vv 49 8,oo 50 (iS 1 48 49),oo 51 (ld1 50),vv 52 9,oo 53 (iS 1 51 52),oo 54 (ld1 53),vv 10 54]
 (.seq (sR [vv 55 10,oo 56 (iK .lss 55 0),vv 57 56,vf 58 57 4,vf 59 57 10,gf 60 57 (.imax (T 59) (kk 0)),gf 61 57 (iS 1 58 60),gf 62 57 (ld1 61),gf 63 57 (iK .lss 62 0),oo 64 (.pick (T 57) bT (T 63))]
 (.cond (T 64)
 (.exit 3)
 .skip))
 (sR [oo 11 (.mov (kk (-1)))]
 (.seq (sR [oo 12 (.mov (kk 0))]
 (.block 4 (.loop
 (.seq (sR [vv 65 12,vv 66 6,oo 67 (lN 66),oo 68 (iB .lss 65 67)]
 (.cond (T 68)
 .skip
 (.exit 4)))
 (.seq (.block 5 (.seq (.drawn [vv 71 4,vv 72 6,vv 73 12,oo 74 (iS 1 72 73),oo 75 (ld1 74),oo 76 (iS 1 71 75),oo 77 (ld1 76),vv 78 4,vv 79 10,oo 80 (iS 1 78 79),oo 81 (ld1 80),oo 82 (iB .eql 77 81)] [])
 (.cond (T 82)
 (rR [vv 83 12,vv 11 83])
 .skip)))
 (rR [vv 69 12,oo 70 (iK .add 69 1),vv 12 70]))))))
 (.seq (sR [vv 84 11,oo 85 (iK .lss 84 0)]
 (.cond (T 85)
 (sR [vv 86 6,oo 87 (lN 86),vv 11 87]
 (rR [vv 88 6,vv 89 10,oo 90 (.bslice 3 1 [T 89]),oo 91 (.append 3 1 8 (T 88) (T 90)),vv 6 91]))
 .skip))
 (rR [oo 92 (fA 2 5),oo 93 (ld1 92),vv 94 7,vv 95 9,vv 96 11,oo 97 (.build [nI,nI,nI] [(0,(1,(T 94))),(1,(1,(T 95))),(2,(1,(T 96)))]),oo 98 (.bslice 71 3 [T 97]),oo 99 (.append 71 3 24 (T 93) (T 98)),oo 100 (fA 2 5),sS 1 100 99])))))))
 (rR [vv 46 9,oo 47 (iK .add 46 1),vv 9 47])))))))))
 (rR [vv 26 7,oo 27 (iK .add 26 1),vv 7 27]))))))
 (sR [oo 101 (ld3 5),sS 3 2 101]
 .ret)))))))
theorem f53:fnC Try.prog 53=some (c53,102,[(.cell 2 true 3)]):=by kernel_rfl
def c54:CCode :=
 (sR [oo 6 (.mov (kk 0))]
 (.seq (sR [vv 7 1,oo 8 (iK .lss 7 0),vv 9 8,vf 10 9 1,vf 11 9 0,gf 12 9 (lN 11),gf 13 9 (iB .geq 10 12),oo 14 (.pick (T 9) bT (T 13))]
 (.cond (T 14)
 (sR [oo 6 (.mov (kk 0))]
 .ret)
 .skip))
 (sR [vv 15 0,vv 16 1,oo 17 (iS 1 15 16),oo 18 (ld1 17),vv 19 2,oo 20 (cL 33 [T 18,T 19]),vv 6 20]
 .ret)))
theorem f54:fnC Try.prog 54=some (c54,21,[(.tmp 6)]):=by kernel_rfl
def c55:CCode :=
 (sR [oo 2 (.box 34 (T 0)),oo 3 (.box 34 (T 1)),oo 4 (aZ 97),oo 5 (aZ 97),oo 6 (.mov (kk 0))]
 (.seq (sR [oo 12 (ld3 2),oo 13 (ld3 3),oo 14 (.bslice 34 3 [T 12,T 13]),oo 15 (lN 14),oo 16 (.mov (kk 0))]
 (.block 0 (.loop
 (sR [oo 17 (iB .lss 16 15)]
 (.seq (.cond (T 17)
 .skip
 (.exit 0))
 (.seq (.block 1 (sR [oo 18 (iS 3 14 16),oo 19 (ld3 18),oo 8 (aZ 34),sS 3 8 19]
 (sR [oo 20 (ld3 8),oo 21 (cL 14 [T 20]),vv 9 21]
 (sR [vv 22 9,oo 23 (iK .neq 22 0)]
 (.cond (T 23)
 (.seq (.drawn [oo 24 (ld3 4),oo 25 (ld3 5),vv 26 9] [(sS 3 4 24,[oo 25 (ld3 5),vv 26 9]),(sS 3 5 25,[vv 26 9]),(vv 6 26,[])])
 .ret)
 .skip)))))
 (rR [oo 27 (iK .add 16 1),vv 16 27])))))))
 (.seq (sR [oo 28 (fA 0 2),oo 29 (ld1 28),oo 30 (fA 0 3),oo 31 (ld1 30),oo 32 (iB .neq 29 31)]
 (.cond (T 32)
 (.seq (.drawn [oo 33 (ld3 4),oo 34 (ld3 5)] [(sS 3 4 33,[oo 34 (ld3 5)]),(sS 3 5 34,[]),(oo 6 (.mov (kk 13)),[])])
 .ret)
 .skip))
 (sR [oo 36 (ld3 2),oo 37 (cL 22 [T 36]),vv 35 37,oo 38 (eX 35 0),oo 39 (eX 35 1),oo 10 (aZ 34),sS 3 10 38,vv 6 39]
 (.seq (sR [vv 40 6,oo 41 (iK .neq 40 0)]
 (.cond (T 41)
 (.seq (.drawn [oo 42 (ld3 4),oo 43 (ld3 5),vv 44 6] [(sS 3 4 42,[oo 43 (ld3 5),vv 44 6]),(sS 3 5 43,[vv 44 6]),(vv 6 44,[])])
 .ret)
 .skip))
 (sR [oo 46 (ld3 3),oo 47 (cL 22 [T 46]),vv 45 47,oo 48 (eX 45 0),oo 49 (eX 45 1),oo 11 (aZ 34),sS 3 11 48,vv 6 49]
 (.seq (sR [vv 50 6,oo 51 (iK .neq 50 0)]
 (.cond (T 51)
 (.seq (.drawn [oo 52 (ld3 4),oo 53 (ld3 5),vv 54 6] [(sS 3 4 52,[oo 53 (ld3 5),vv 54 6]),(sS 3 5 53,[vv 54 6]),(vv 6 54,[])])
 .ret)
 .skip))
 (.seq (.drawn [oo 55 (ld3 10),oo 57 (ld3 11)] [(oo 56 (cL 65 [T 55]),[oo 57 (ld3 11)]),(oo 58 (cL 65 [T 57]),[]),(sS 3 4 56,[]),(sS 3 5 58,[]),(oo 6 (.mov (kk 0)),[])])
 .ret))))))))
theorem f55:fnC Try.prog 55=some (c55,59,[(.cell 4 true 3),(.cell 5 true 3),(.tmp 6)]):=by kernel_rfl
def c56:CCode :=
 (sR [oo 2 (.box 97 (T 0)),oo 4 (.mov bF)]
 (sR [vv 5 1,oo 6 (iK .geq 5 0),vv 7 6,gt 8 7 (fA 1 2),gt 9 7 (ld1 8),vt 10 7 1,gt 11 7 (iS 1 9 10),gt 12 7 (ld1 11),oo 13 (.pick (T 7) (T 12) bF),vv 4 13]
 .ret))
theorem f56:fnC Try.prog 56=some (c56,14,[(.tmp 4)]):=by kernel_rfl
def c57:CCode :=
 (sR [oo 3 (.box 97 (T 0)),oo 6 (.mov (kk 0))]
 (.seq (sR [vv 7 1,oo 8 (iK .lss 7 0)]
 (.cond (T 8)
 (sR [oo 6 (.mov (kk (-1)))]
 .ret)
 .skip))
 (sR [oo 9 (fA 2 3),oo 10 (ld1 9),vv 11 1,oo 12 (iS 1 10 11),oo 13 (ld1 12),vv 14 2,oo 15 (iS 1 13 14),oo 16 (ld1 15),vv 6 16]
 .ret)))
theorem f57:fnC Try.prog 57=some (c57,17,[(.tmp 6)]):=by kernel_rfl
def c58:CCode :=
 (sR [oo 2 (.box 26 (T 0)),oo 3 (.box 26 (T 1)),oo 4 (aZ 26),oo 5 (aZ 26),oo 6 (.mov (kk 0))]
 (sR [oo 12 (ld3 2),oo 13 (cL 15 [T 12]),vv 7 13]
 (.seq (sR [vv 14 7,oo 15 (iK .neq 14 0)]
 (.cond (T 15)
 (sR [oo 16 (.build [nI,nS,nS] []),oo 17 (.build [nI,nS,nS] []),vv 18 7,sS 3 4 16,sS 3 5 17,vv 6 18]
 .ret)
 .skip))
 (sR [oo 19 (ld3 3),oo 20 (cL 15 [T 19]),vv 7 20]
 (.seq (sR [vv 21 7,oo 22 (iK .neq 21 0)]
 (.cond (T 22)
 (sR [oo 23 (.build [nI,nS,nS] []),oo 24 (.build [nI,nS,nS] []),vv 25 7,sS 3 4 23,sS 3 5 24,vv 6 25]
 .ret)
 .skip))
 (.seq (sR [oo 26 (fA 0 2),oo 27 (ld1 26),oo 28 (fA 0 3),oo 29 (ld1 28),oo 30 (iB .neq 27 29)]
 (.cond (T 30)
 (sR [oo 31 (.build [nI,nS,nS] []),oo 32 (.build [nI,nS,nS] []),sS 3 4 31,sS 3 5 32,oo 6 (.mov (kk 13))]
 .ret)
 .skip))
 (sR [oo 34 (ld3 2),oo 35 (cL 23 [T 34]),vv 33 35,oo 36 (eX 33 0),oo 37 (eX 33 1),oo 8 (aZ 26),sS 3 8 36,vv 9 37]
 (.seq (sR [vv 38 9,oo 39 (iK .neq 38 0)]
 (.cond (T 39)
 (sR [oo 40 (.build [nI,nS,nS] []),oo 41 (.build [nI,nS,nS] []),vv 42 9,sS 3 4 40,sS 3 5 41,vv 6 42]
 .ret)
 .skip))
 (sR [oo 44 (ld3 3),oo 45 (cL 23 [T 44]),vv 43 45,oo 46 (eX 43 0),oo 47 (eX 43 1),oo 10 (aZ 26),sS 3 10 46,vv 11 47]
 (.seq (sR [vv 48 11,oo 49 (iK .neq 48 0)]
 (.cond (T 49)
 (sR [oo 50 (.build [nI,nS,nS] []),oo 51 (.build [nI,nS,nS] []),vv 52 11,sS 3 4 50,sS 3 5 51,vv 6 52]
 .ret)
 .skip))
 (.seq (.drawn [oo 53 (ld3 8),oo 54 (ld3 10)] [(sS 3 4 53,[oo 54 (ld3 10)]),(sS 3 5 54,[]),(oo 6 (.mov (kk 0)),[])])
 .ret)))))))))))
theorem f58:fnC Try.prog 58=some (c58,55,[(.cell 4 true 3),(.cell 5 true 3),(.tmp 6)]):=by kernel_rfl
def c60:CCode :=
 (.drawn [vv 4 0,vv 5 1,oo 6 (iK .quo 5 64),oo 7 (.nilCheck (T 4)),oo 8 (.idxA 4 1 (T 7) (T 6)),oo 9 (ld1 8),vv 10 1,oo 11 (iK .rem 10 64),oo 12 (.ibin .shl (.const (.int .u64 1)) (T 11)),oo 13 (iB .or 9 12),oo 14 (.nilCheck (T 4)),oo 15 (.idxA 4 1 (T 14) (T 6))] [(sS 1 15 13,[])])
theorem f60:fnC Try.prog 60=some (c60,16,[]):=by kernel_rfl
def c61:CCode :=
 (sR [oo 1 (.box 79 (T 0)),oo 2 (.mov bF)]
 (sR [oo 3 (.load true 4 (T 1)),oo 4 (cL 62 [T 3,kk 0]),vv 2 4]
 .ret))
theorem f61:fnC Try.prog 61=some (c61,5,[(.tmp 2)]):=by kernel_rfl
def c62:CCode :=
 (sR [oo 2 (.box 79 (T 0)),oo 4 (.mov bF)]
 (sR [vv 5 1,oo 6 (iK .quo 5 64),oo 7 (.idxA 4 1 (T 2) (T 6)),oo 8 (ld1 7),vv 9 1,oo 10 (iK .rem 9 64),oo 11 (iB .shr 8 10),oo 12 (.ibin .and (T 11) (.const (.int .u64 1))),oo 13 (.ibin .eql (T 12) (.const (.int .u64 1))),vv 4 13]
 .ret))
theorem f62:fnC Try.prog 62=some (c62,14,[(.tmp 4)]):=by kernel_rfl
def c63:CCode :=
 (sR [oo 3 (.box 79 (T 0)),oo 5 (.alloc 79 (.agg [nU,nU,nU,nU])),oo 6 (.mov bF)]
 (sR [oo 7 (.alloc 79 (.agg [nU,nU,nU,nU]))]
 (.seq (sR [oo 10 (fA 2 2),oo 11 (ld1 10),oo 12 (lN 11),oo 13 (.mov (kk 0))]
 (.block 0 (.loop
 (sR [oo 14 (iB .lss 13 12)]
 (.seq (.cond (T 14)
 .skip
 (.exit 0))
 (.seq (.block 1 (sR [oo 15 (iS 3 11 13),oo 16 (ld3 15),oo 9 (.alloc 72 (.agg [nI,nI,nI])),sS 3 9 16]
 (sR [oo 17 (fA 1 9),oo 18 (ld1 17),vv 19 1,oo 20 (iB .eql 18 19),vv 21 20,gt 22 21 (.load true 4 (T 3)),gt 23 21 (fA 2 9),gt 24 21 (ld1 23),gt 25 21 (cL 62 [T 22,T 24]),oo 26 (.pick (T 21) (T 25) bF)]
 (.cond (T 26)
 (rR [oo 27 (fA 0 9),oo 28 (ld1 27),oo 29 (cL 60 [T 7,T 28])])
 .skip))))
 (rR [oo 30 (iK .add 13 1),vv 13 30])))))))
 (.seq (.drawn [oo 31 (.load true 4 (T 7)),oo 32 (.load true 4 (T 7)),oo 33 (.build [nU,nU,nU,nU] []),oo 34 (.aeq true 4 (T 32) (T 33))] [(sS 4 5 31,[oo 32 (.load true 4 (T 7)),oo 33 (.build [nU,nU,nU,nU] []),oo 34 (.aeq true 4 (T 32) (T 33))]),(vv 6 34,[])])
 .ret))))
theorem f63:fnC Try.prog 63=some (c63,35,[(.cell 5 true 4),(.tmp 6)]):=by kernel_rfl
def c64:CCode :=
 (sR [oo 4 (.mov (kk 0))]
 (.seq (sR [oo 5 (.mov (kk 0))]
 (.block 0 (.loop
 (.seq (sR [vv 8 5,vv 9 0,oo 10 (lN 9),oo 11 (iB .lss 8 10)]
 (.cond (T 11)
 .skip
 (.exit 0)))
 (.seq (.block 1 (sR [oo 6 (.mov bT)]
 (.seq (sR [oo 7 (.mov (kk 0))]
 (.block 2 (.loop
 (.seq (sR [vv 14 7,vv 15 1,oo 16 (lN 15),oo 17 (iB .lss 14 16),vv 18 17,vt 19 18 6,oo 20 (.pick (T 18) (T 19) bF)]
 (.cond (T 20)
 .skip
 (.exit 2)))
 (.seq (.block 3 (.drawn [vv 23 0,vv 24 5,oo 25 (iS 1 23 24),oo 26 (ld1 25),vv 27 7,oo 28 (iS 1 26 27),oo 29 (ld1 28),vv 30 1,vv 31 7,oo 32 (iS 1 30 31),oo 33 (ld1 32),oo 34 (.bbin .eql (T 29) (T 33)),vv 6 34] []))
 (rR [vv 21 7,oo 22 (iK .add 21 1),vv 7 22]))))))
 (sR [vv 35 6]
 (.cond (T 35)
 (sR [vv 36 5,vv 4 36]
 .ret)
 .skip)))))
 (rR [vv 12 5,oo 13 (iK .add 12 1),vv 5 13]))))))
 (sR [oo 4 (.mov (kk (-1)))]
 .ret)))
theorem f64:fnC Try.prog 64=some (c64,37,[(.tmp 4)]):=by kernel_rfl
def c65:CCode :=
 (sR [oo 1 (.box 34 (T 0)),oo 2 (aZ 97)]
 (.seq (.drawn [oo 7 (fA 0 1),oo 8 (ld1 7),oo 9 (fA 1 1),oo 10 (ld1 9),oo 11 (fA 1 1),oo 12 (ld1 11),oo 13 (lN 12),oo 14 (.mkslice 22 1 24 nS (T 13) (T 13)),oo 15 (.build [nI,nS,nS] [(0,(1,(T 8))),(1,(1,(T 10))),(2,(1,(T 14)))]),oo 3 (aZ 97)] [(sS 3 3 15,[])])
 (.seq (sR [oo 16 (fA 2 3),oo 17 (ld1 16),oo 18 (lN 17),oo 19 (.mov (kk 0))]
 (.block 0 (.loop
 (sR [oo 20 (iB .lss 19 18)]
 (.seq (.cond (T 20)
 .skip
 (.exit 0))
 (.seq (.block 1 (sR [vv 21 19,vv 4 21]
 (.drawn [oo 22 (fA 2 3),oo 23 (ld1 22),vv 24 4,oo 25 (.bslice 3 1 [(kk (-1))]),oo 26 (fA 0 1),oo 27 (ld1 26)] [(oo 28 (cL 66 [T 25,T 27]),[oo 22 (fA 2 3),oo 23 (ld1 22),vv 24 4]),(oo 29 (iS 1 23 24),[]),(sS 1 29 28,[])])))
 (rR [oo 30 (iK .add 19 1),vv 19 30])))))))
 (.seq (sR [oo 31 (fA 2 1),oo 32 (ld1 31),oo 33 (lN 32),oo 34 (.mov (kk 0))]
 (.block 2 (.loop
 (sR [oo 35 (iB .lss 34 33)]
 (.seq (.cond (T 35)
 .skip
 (.exit 2))
 (.seq (.block 3 (sR [oo 36 (iS 3 32 34),oo 37 (ld3 36),oo 6 (.alloc 72 (.agg [nI,nI,nI])),sS 3 6 37]
 (.drawn [oo 38 (fA 2 3),oo 39 (ld1 38),oo 40 (fA 0 6),oo 41 (ld1 40),oo 42 (iS 1 39 41),oo 43 (ld1 42),oo 44 (fA 1 6),oo 45 (ld1 44),oo 46 (fA 2 6),oo 47 (ld1 46),oo 48 (iS 1 43 45)] [(sS 1 48 47,[])])))
 (rR [oo 49 (iK .add 34 1),vv 34 49])))))))
 (sR [oo 50 (ld3 3),sS 3 2 50]
 .ret)))))
theorem f65:fnC Try.prog 65=some (c65,51,[(.cell 2 true 3)]):=by kernel_rfl
def c66:CCode :=
 (sR [oo 4 (.mov (.const (.slice none 0 0)))]
 (.seq (sR [vv 9 1,oo 10 (iK .lss 9 0)]
 (.cond (T 10)
 (rR [oo 11 (.bad),nn (.bad)])
 .skip))
 (sR [vv 13 0,oo 14 (lN 13),oo 15 (.conv .u64 (T 14)),vv 16 1,oo 17 (.conv .u64 (T 16)),oo 18 (cL 80 [T 15,T 17]),vv 12 18,oo 19 (eX 12 0),oo 20 (eX 12 1),vv 5 19,vv 6 20]
 (.seq (sR [vv 21 5,oo 22 (.ibin .gtr (T 21) (.const (.int .u64 0))),vv 23 22,vf 24 23 6,gf 25 23 (.ibin .gtr (T 24) (.const (.int .u64 9223372036854775807))),oo 26 (.pick (T 23) bT (T 25))]
 (.cond (T 26)
 (rR [oo 27 (.bad),nn (.bad)])
 .skip))
 (sR [vv 28 6,oo 29 (.conv .i64 (T 28)),oo 30 (.mkslice 3 1 8 nI (T 29) (T 29)),vv 7 30]
 (sR [vv 31 7,vv 32 0,oo 33 (.copy 1 (T 31) (T 32)),vv 8 33]
 (.seq (.block 0 (.loop
 (.seq (sR [vv 34 8,vv 35 7,oo 36 (lN 35),oo 37 (iB .lss 34 36)]
 (.cond (T 37)
 .skip
 (.exit 0)))
 (.block 1 (.drawn [vv 38 8,vv 39 7,vv 40 8,oo 41 (.slice 1 (T 39) (some (T 40)) none),vv 42 7,vv 43 8,oo 44 (.slice 1 (T 42) none (some (T 43)))] [(oo 45 (.copy 1 (T 41) (T 44)),[vv 38 8]),(oo 46 (iB .add 38 45),[]),(vv 8 46,[])])))))
 (sR [vv 47 7,vv 4 47]
 .ret))))))))
theorem f66:fnC Try.prog 66=some (c66,48,[(.tmp 4)]):=by kernel_rfl
def c67:CCode :=
 (sR [oo 2 (.mov (.const (.slice none 0 0)))]
 (.seq (sR [vv 3 0,oo 4 (.isNil true false (T 3) (.const (.slice none 0 0)))]
 (.cond (T 4)
 (sR [oo 2 (.mov (.const (.slice none 0 0)))]
 .ret)
 .skip))
 (sR [oo 5 (.bslice 4 1 []),vv 6 0,oo 7 (.append 4 1 1 (T 5) (T 6)),vv 2 7]
 .ret)))
theorem f67:fnC Try.prog 67=some (c67,8,[(.tmp 2)]):=by kernel_rfl
def c71:CCode :=
 (sR [oo 1 (.box 26 (T 0)),oo 2 (.mov (.const (.slice none 0 0)))]
 (sR [oo 7 (fA 1 1),oo 8 (ld1 7),oo 9 (lN 8),oo 10 (.mkslice 22 1 24 nS (T 9) (T 9)),vv 3 10]
 (.seq (sR [oo 4 (.mov (kk 0))]
 (.block 0 (.loop
 (.seq (sR [vv 11 4,vv 12 3,oo 13 (lN 12),oo 14 (iB .lss 11 13)]
 (.cond (T 14)
 .skip
 (.exit 0)))
 (.seq (.block 1 (sR [vv 17 3,vv 18 4,oo 19 (fA 0 1),oo 20 (ld1 19),oo 21 (.mkslice 3 1 8 nI (T 20) (T 20)),oo 22 (iS 1 17 18),sS 1 22 21]
 (sR [oo 5 (.mov (kk 0))]
 (.block 2 (.loop
 (.seq (sR [vv 23 5,oo 24 (fA 0 1),oo 25 (ld1 24),oo 26 (iB .lss 23 25)]
 (.cond (T 26)
 .skip
 (.exit 2)))
 (.seq (.block 3 (rR [vv 29 3,vv 30 4,oo 31 (iS 1 29 30),oo 32 (ld1 31),vv 33 5,oo 34 (iS 1 32 33),nn (.store 1 (T 34) (kk (-1)))]))
 (rR [vv 27 5,oo 28 (iK .add 27 1),vv 5 28]))))))))
 (rR [vv 15 4,oo 16 (iK .add 15 1),vv 4 16]))))))
 (.seq (sR [oo 6 (.mov (kk 0))]
 (.block 4 (.loop
 (.seq (sR [vv 35 6,oo 36 (fA 2 1),oo 37 (ld1 36),oo 38 (lN 37),oo 39 (iB .lss 35 38)]
 (.cond (T 39)
 .skip
 (.exit 4)))
 (.seq (.block 5 (.drawn [vv 42 3,oo 43 (fA 2 1),oo 44 (ld1 43),vv 45 6,oo 46 (iS 3 44 45),oo 47 (fA 0 46),oo 48 (ld1 47),oo 49 (iS 1 42 48),oo 50 (ld1 49),oo 51 (fA 2 1),oo 52 (ld1 51),vv 53 6,oo 54 (iS 3 52 53),oo 55 (fA 1 54),oo 56 (ld1 55),oo 57 (fA 2 1),oo 58 (ld1 57),vv 59 6,oo 60 (iS 3 58 59),oo 61 (fA 2 60),oo 62 (ld1 61),oo 63 (iS 1 50 56)] [(sS 1 63 62,[])]))
 (rR [vv 40 6,oo 41 (iK .add 40 1),vv 6 41]))))))
 (sR [vv 64 3,vv 2 64]
 .ret)))))
theorem f71:fnC Try.prog 71=some (c71,65,[(.tmp 2)]):=by kernel_rfl
def c72:CCode :=
 (sR [oo 4 (.mov (kk 0))]
 (.seq (sR [vv 6 0,oo 7 (lN 6),oo 8 (.mov (kk 0))]
 (.block 0 (.loop
 (sR [oo 9 (iB .lss 8 7)]
 (.seq (.cond (T 9)
 .skip
 (.exit 0))
 (.seq (.block 1 (sR [vv 10 8,vv 5 10]
 (sR [vv 11 1,vv 12 0,vv 13 5,oo 14 (iS 3 12 13),oo 15 (ld3 14),oo 16 (.call (T 11) [T 15])]
 (.cond (T 16)
 (sR [vv 17 5,vv 4 17]
 .ret)
 .skip))))
 (rR [oo 18 (iK .add 8 1),vv 8 18])))))))
 (sR [oo 4 (.mov (kk (-1)))]
 .ret)))
theorem f72:fnC Try.prog 72=some (c72,19,[(.tmp 4)]):=by kernel_rfl
def c73:CCode :=
 (.seq (sR [oo 8 (ld1 1),oo 9 (ld1 2),oo 10 (iS 4 8 9),oo 11 (.load true 4 (T 10)),vv 12 0,oo 13 (cL 62 [T 11,T 12])]
 (.cond (T 13)
 .ret
 .skip))
 (sR [oo 14 (ld1 1),oo 15 (ld1 2),oo 16 (iS 4 14 15),vv 17 0,oo 18 (cL 60 [T 16,T 17])]
 (sR [oo 19 (ld1 3),vv 20 0,oo 21 (iS 1 19 20),oo 22 (ld1 21),oo 23 (lN 22),oo 24 (.mov (kk 0))]
 (.block 0 (.loop
 (sR [oo 25 (iB .lss 24 23)]
 (.seq (.cond (T 25)
 .skip
 (.exit 0))
 (.seq (.block 1 (sR [oo 26 (iS 1 22 24),oo 27 (ld1 26),vv 7 27]
 (rR [oo 28 (ld1 4),vv 29 7,oo 30 (.call (T 28) [T 29])])))
 (rR [oo 31 (iK .add 24 1),vv 24 31])))))))))
theorem f73:fnC Try.prog 73=some (c73,32,[]):=by kernel_rfl
def c74:CCode :=
 (sR [oo 2 (.box 26 (T 0)),oo 4 (.mov (.const (.slice none 0 0)))]
 (sR [oo 5 (.mov (.const (.slice none 0 0)))]
 (sR [vv 9 5,vv 10 1,oo 11 (.append 4 1 1 (T 9) (T 10)),vv 5 11]
 (.seq (sR [oo 6 (.mov bT)]
 (.block 0 (.loop
 (.seq (sR [vv 12 6]
 (.cond (T 12)
 .skip
 (.exit 0)))
 (.block 1 (sR [oo 6 (.mov bF)]
 (sR [oo 7 (.mov (kk 0))]
 (.block 2 (.loop
 (.seq (sR [vv 13 7,oo 14 (fA 2 2),oo 15 (ld1 14),oo 16 (lN 15),oo 17 (iB .lss 13 16)]
 (.cond (T 17)
 .skip
 (.exit 2)))
 (.seq (.block 3 (sR [oo 20 (fA 2 2),oo 21 (ld1 20),vv 22 7,oo 23 (iS 3 21 22),oo 24 (ld3 23),oo 8 (.alloc 71 (.agg [nI,nI,nI])),sS 3 8 24]
 (sR [oo 25 (fA 1 8),oo 26 (ld1 25),oo 27 (.ibin .eql (T 26) (kk (-1))),vv 28 27,vt 29 28 5,gt 30 28 (fA 0 8),gt 31 28 (ld1 30),gt 32 28 (iS 1 29 31),gt 33 28 (ld1 32),oo 34 (.pick (T 28) (T 33) bF),vv 35 34,vt 36 35 5,gt 37 35 (fA 2 8),gt 38 35 (ld1 37),gt 39 35 (iS 1 36 38),gt 40 35 (ld1 39),gt 41 35 (.lnot (T 40)),oo 42 (.pick (T 35) (T 41) bF)]
 (.cond (T 42)
 (sR [vv 43 5,oo 44 (fA 2 8),oo 45 (ld1 44),oo 46 (iS 1 43 45),nn (.store 1 (T 46) bT)]
 (rR [oo 6 (.mov bT)]))
 .skip))))
 (rR [vv 18 7,oo 19 (iK .add 18 1),vv 7 19]))))))))))))
 (sR [vv 47 5,vv 4 47]
 .ret)))))
theorem f74:fnC Try.prog 74=some (c74,48,[(.tmp 4)]):=by kernel_rfl
end Go.Proofs.Ytjilachpkjlhdaa
